/- Walks: append of a made slice (zeros) to an own slice. -/
import Derived.Test.YtjjoicbgnchkdaaCln
namespace Go.Proofs.Ytjjoicbgnchkdaa
open Go.RowKit

theorem zeros_list (z : Value) (n : Nat) : (Builtin.zeroCells #[z] n).toList = List.replicate n z := by
  apply List.ext_getElem
  · simp [Builtin.zeroCells]
  · intro i h1 h2; simp [Builtin.zeroCells, Nat.mod_one]
theorem zeros_arr (z : Value) (n : Nat) : Builtin.zeroCells #[z] n = (List.replicate n z).toArray := Array.ext' (by rw [zeros_list])
section
variable {P : Program} (w : World)
theorem run_zeros_nil (t it ty e : TypeId) (k : IntKind) (i : TypeInfo) (z : Value) (ht : P.underlying t = some (.slice e)) (hit : P.underlying it = some (.int k)) (hi : P.info? e = some i) (hz : i.zero = some z) (hzs : z.cells = #[z]) (hs : i.size = 1) (hby : i.bytes = 8)
    (n : Nat) (h0 : 0 < n) (h63 : n ≤ 2000000) :
    (Builtin.append_ #[t, it] ty #[.slice none 0 0, .int .i64 n]).run P w =
      .ok (.slice (some ⟨w.heap.size, 0, none⟩) n (grownCap w n 0 e)) (w.drew.alloc (.cells ((List.replicate n z).toArray ++ Builtin.zeroCells z.cells (grownCap w n 0 e - n)) e)) := by
  have hn : n ≠ 0 := by omega
  have hw : IntKind.i64.wrap (n : Int) = n := IntWalk.i64_in _ (by omega)
  have h1 : ¬ ((n : Int) < 0) := by omega
  have h2 : ¬ (281474976710656 < (n : Int) * 8) := by omega
  have h63' : ¬ (9223372036854775807 < (n : Int)) := by omega
  have h48' : ¬ (281474976710656 < Builtin.nextslicecap n 0 * 8) := by rw [nextslicecap_zero h0]; omega
  simp [Builtin.append_, run_underlying ht, run_underlying hit, sizeOf, typeInfo, zeroValue, hi, hz, hzs, hs, hby, asInt, asIntOf, hw, h1, h2, hn, h63', h48', Question.forced, run_firstCells_none, newRow, grownCap, zeros_arr]
theorem run_zeros_none (t it ty e : TypeId) (k : IntKind) (i : TypeInfo) (ht : P.underlying t = some (.slice e)) (hit : P.underlying it = some (.int k)) (hi : P.info? e = some i) (hby : i.bytes = 8) :
    (Builtin.append_ #[t, it] ty #[.slice none 0 0, .int .i64 0]).run P w = .ok (.slice none 0 0) w := by
  have hw : IntKind.i64.wrap 0 = 0 := IntWalk.i64_in _ (by omega)
  simp [Builtin.append_, run_underlying ht, run_underlying hit, sizeOf, typeInfo, hi, hby, asInt, asIntOf, hw]
theorem run_zeros_room (t it ty e : TypeId) (k : IntKind) (i : TypeInfo) (z : Value) (ht : P.underlying t = some (.slice e)) (hit : P.underlying it = some (.int k)) (hi : P.info? e = some i) (hz : i.zero = some z) (hzs : z.cells = #[z]) (hs : i.size = 1) (hby : i.bytes = 8) (h1 : z.oneCell' = true)
    (g sLen sCap : Nat) (cur : Array Value) (hg : w.heap[g]? = some (.cells cur e (0, 0))) (n : Nat) (h63 : n ≤ 2000000) (hroom : sLen + n ≤ sCap) (hfit : sLen + n ≤ cur.size) :
    (Builtin.append_ #[t, it] ty #[.slice (some ⟨g, 0, none⟩) sLen sCap, .int .i64 n]).run P w =
      .ok (.slice (some ⟨g, 0, none⟩) (sLen + n) sCap) (w.setRow g (cur.toList.take sLen ++ List.replicate n z ++ cur.toList.drop (sLen + n)).toArray) := by
  have hw : IntKind.i64.wrap (n : Int) = n := IntWalk.i64_in _ (by omega)
  have h1' : ¬ ((n : Int) < 0) := by omega
  have h2 : ¬ (281474976710656 < (n : Int) * 8) := by omega
  have hst := run_storeCells_at P g sLen e (List.replicate n z) 0 cur w hg (by simpa using hfit) (fun u hu => by rw [List.eq_of_mem_replicate hu]; exact h1)
  simp only [Nat.add_zero, List.length_replicate] at hst
  by_cases hn : n = 0
  · subst hn
    have hw0 : IntKind.i64.wrap 0 = 0 := IntWalk.i64_in _ (by omega)
    have hroom' : sLen ≤ sCap := by omega
    simp only [List.replicate_zero] at hst
    simp [Builtin.append_, run_underlying ht, run_underlying hit, sizeOf, typeInfo, hi, hs, hby, asInt, asIntOf, hw0, hroom', Addr.add_lit, hst]
  · simp [Builtin.append_, run_underlying ht, run_underlying hit, sizeOf, typeInfo, zeroValue, hi, hz, hzs, hs, hby, asInt, asIntOf, hw, h1', h2, hn, hroom, Addr.add_lit, hst, zeros_arr]
theorem run_zeros_grow (t it ty e : TypeId) (k : IntKind) (i : TypeInfo) (z : Value) (ht : P.underlying t = some (.slice e)) (hit : P.underlying it = some (.int k)) (hi : P.info? e = some i) (hz : i.zero = some z) (hzs : z.cells = #[z]) (hs : i.size = 1) (hby : i.bytes = 8)
    (b : Addr) (sLen sCap : Nat) (olds : List Value) (hlo : olds.length = sLen) (holds : ∀ j v, olds[j]? = some v → w.cell? (b.add j) = some v)
    (n : Nat) (h63 : n ≤ 2000000) (hg : sCap < sLen + n) (h63' : sLen ≤ 2000000) (hfit : Builtin.nextslicecap (sLen + n) sCap * 8 ≤ 281474976710656) :
    (Builtin.append_ #[t, it] ty #[.slice (some b) sLen sCap, .int .i64 n]).run P w =
      .ok (.slice (some ⟨w.heap.size, 0, none⟩) (sLen + n) (grownCap w (sLen + n) sCap e))
        (w.drew.alloc (.cells (olds.toArray ++ (List.replicate n z).toArray ++ Builtin.zeroCells z.cells (grownCap w (sLen + n) sCap e - (sLen + n))) e)) := by
  have hw : IntKind.i64.wrap (n : Int) = n := IntWalk.i64_in _ (by omega)
  have h1' : ¬ ((n : Int) < 0) := by omega
  have h2 : ¬ (281474976710656 < (n : Int) * 8) := by omega
  have hn : ¬ (sLen + n ≤ sCap) := by omega
  have h63'' : ¬ (9223372036854775807 < ((sLen : Int) + (n : Int))) := by omega
  have h48' : ¬ (281474976710656 < Builtin.nextslicecap (sLen + n) sCap * 8) := by omega
  have hfo := run_firstCells_some (P := P) w.drew 1 sLen b sLen sCap olds (by omega) (by simpa using holds)
  by_cases hn0 : n = 0
  · subst hn0
    have hw0 : IntKind.i64.wrap 0 = 0 := IntWalk.i64_in _ (by omega)
    have hn' : ¬ (sLen ≤ sCap) := by omega
    have h63a : ¬ (9223372036854775807 < (sLen : Int)) := by omega
    have h48a : ¬ (281474976710656 < Builtin.nextslicecap sLen sCap * 8) := by simpa using h48'
    simp [Builtin.append_, run_underlying ht, run_underlying hit, sizeOf, typeInfo, zeroValue, hi, hz, hzs, hs, hby, asInt, asIntOf, hw0, hn', h63a, h48a, Question.forced, hfo, newRow, grownCap, zeros_arr]
  · simp [Builtin.append_, run_underlying ht, run_underlying hit, sizeOf, typeInfo, zeroValue, hi, hz, hzs, hs, hby, asInt, asIntOf, hw, h1', h2, hn0, hn, h63'', h48', Question.forced, hfo, newRow, grownCap, zeros_arr]
theorem run_zeros_own (base : Nat) (t it ty e : TypeId) (k : IntKind) (i : TypeInfo) (z : Value) (ht : P.underlying t = some (.slice e)) (hit : P.underlying it = some (.int k)) (hi : P.info? e = some i) (hz : i.zero = some z) (hzs : z.cells = #[z]) (hs : i.size = 1) (hby : i.bytes = 8) (h1 : z.oneCell' = true)
    (v : Value) (xs : List Value) (hown : w.ownsRow base e 1 v xs.length xs) (m : Nat) (h63 : m ≤ 1000000) (h63' : xs.length ≤ 1000000) (hbase : base ≤ w.heap.size) :
    ∃ v' w', (Builtin.append_ #[t, it] ty #[v, .int .i64 m]).run P w = .ok v' w' ∧ w'.ownsRow base e 1 v' (xs.length + m) (xs ++ List.replicate m z) ∧ w.grownBy w' v.ownBlock := by
  have hlen : (xs ++ List.replicate m z).length = (xs.length + m) * 1 := by simp
  have hml : xs.length + m ≤ maxLen := by simp only [maxLen]; omega
  have grown : ∀ (old : Nat), old < xs.length + m → ∀ (row : Option Nat),
      (w.drew.alloc (.cells (xs.toArray ++ (List.replicate m z).toArray ++ Builtin.zeroCells z.cells (grownCap w (xs.length + m) old e - (xs.length + m))) e)).ownsRow base e 1
        (.slice (some ⟨w.heap.size, 0, none⟩) (xs.length + m) (grownCap w (xs.length + m) old e)) (xs.length + m) (xs ++ List.replicate m z) ∧
      w.grownBy (w.drew.alloc (.cells (xs.toArray ++ (List.replicate m z).toArray ++ Builtin.zeroCells z.cells (grownCap w (xs.length + m) old e - (xs.length + m))) e)) row := by
    intro old ho row
    have hge := grownCap_ge w (xs.length + m) old e
    have hcm : grownCap w (xs.length + m) old e ≤ maxLen := grownCap_le_maxLen w (xs.length + m) old e hml
    refine ⟨⟨hlen, .inr ⟨w.heap.size, _, _, rfl, hbase, heap_alloc_new w.drew _, hge, hcm, ?_, ?_⟩⟩, ⟨rfl, rfl, rfl, by simp, fun _ hk _ => heap_alloc_old w.drew _ hk⟩⟩
    · rw [hzs]
      simp only [Array.size_append, List.size_toArray, size_zeroCells, List.length_replicate]
      show _ + _ * 1 = _ * 1
      omega
    · simp only [Array.toList_append, List.append_assoc]
      rw [← List.append_assoc, show (xs.length + m) * 1 = (xs ++ List.replicate m z).length by simp]
      exact List.take_left
  rcases hown.2 with ⟨rfl, hx0⟩ | ⟨g, cap, cur, rfl, hbg, hg, hnc, hcm, hcs, htake⟩
  · obtain rfl : xs = [] := List.eq_nil_of_length_eq_zero (by simpa using hx0)
    clear hx0
    by_cases hm : m = 0
    · subst hm
      exact ⟨_, _, run_zeros_none w t it ty e k i ht hit hi hby, World.ownsRow_nil w base e 1, ⟨rfl, rfl, rfl, Nat.le_refl _, fun _ _ _ => rfl⟩⟩
    · have hgr := grown 0 (by simp only [List.length_nil]; omega) (Value.ownBlock (.slice none 0 0))
      have hr := run_zeros_nil (P := P) w t it ty e k i z ht hit hi hz hzs hs hby m (by omega) (by omega)
      simp only [List.length_nil, Nat.zero_add, List.nil_append, Array.empty_append] at hgr ⊢
      exact ⟨_, _, hr, hgr.1, hgr.2⟩
  · simp only [Nat.mul_one] at hcs htake
    by_cases hroom : xs.length + m ≤ cap
    · have hr := run_zeros_room (P := P) w t it ty e k i z ht hit hi hz hzs hs hby h1 g xs.length cap cur hg m (by omega) hroom (by omega)
      refine ⟨_, _, hr, ⟨hlen, .inr ⟨g, cap, _, rfl, hbg, setRow_heap w g cur _ e _ hg, hroom, hcm, ?_, ?_⟩⟩, ⟨rfl, rfl, rfl, by simp [World.setRow], fun k _ hk => setRow_other w g k _ (fun e => hk (by simp [Value.ownBlock, e]))⟩⟩
      · simp only [List.size_toArray, List.length_append, List.length_take, List.length_drop, Array.length_toList, List.length_replicate]
        omega
      · rw [htake, show (xs.length + m) * 1 = (xs ++ List.replicate m z).length by simp]
        exact List.take_left
    · have holds : ∀ j u, xs[j]? = some u → w.cell? ((⟨g, 0, none⟩ : Addr).add j) = some u := hown.cells (g := g) rfl
      have hr := run_zeros_grow (P := P) w t it ty e k i z ht hit hi hz hzs hs hby ⟨g, 0, none⟩ xs.length cap xs rfl holds m (by omega) (by omega) (by omega) (growslice_fits (by omega) (by omega))
      have hgr := grown cap (by omega) (Value.ownBlock (.slice (some ⟨g, 0, none⟩) xs.length cap))
      exact ⟨_, _, hr, hgr.1, hgr.2⟩
/-- append of m zeros to a list of integers -/
theorem wp_zerosI {ops : Array Oper} {rest : List Oper} {o : Oper} {a : Act} {Q : Exit → Act → World → Prop} {w : World} {B : Nat} {v : Value} {xs : List Int} {m : Nat} (hown : OwnI w B v xs)
    (hgd : o.guard = none) (s x : Operand)
    (ho : o.op = .call { callee := .builtin .append, args := #[s, x], argTypes := #[38, 3] })
    (hs : a.eval s = v) (hx : a.eval x = .int .i64 m)
    (hB : B ≤ w.heap.size) (hlen : xs.length ≤ 1000000) (hlen' : m ≤ 1000000)
    (h : ∀ v' w', OwnI w' B v' (xs ++ List.replicate m 0) → Below B w w' → wpList Try.prog ops Q rest (a.put o.dst v') w') :
    wpList Try.prog ops Q (o :: rest) a w := by
  obtain ⟨i, hi, hz0, hz1', hz2⟩ := info_parts info_int
  refine wpList_plain hgd fun K hK => ?_
  obtain ⟨v', w', hr, h2, h3⟩ := run_zeros_own (P := Try.prog) w B 38 3 o.type 2 .i64 i (.int .i64 0) Try.underlying38 Try.underlying3 hi hz0 rfl hz1' hz2 rfl v (xs.map vi) hown m hlen' (by rw [List.length_map]; exact hlen) hB
  unfold Oper.wp execOp
  simp only [ho, resolve, invoke, builtin, Sem.run_bind, Sem.run_pure, Result.andThen_ok, List.map_toArray, List.map_cons, List.map_nil, hs, hx, hr]
  refine hK _ _ (h v' w' ?_ ?_)
  · have e : (xs.map vi ++ List.replicate m (.int .i64 0)) = (xs ++ List.replicate m 0).map vi := by simp [vi]
    unfold OwnI Own
    rw [← e, show (xs.map vi ++ List.replicate m (Value.int .i64 0)).length = (xs.map vi).length + m by simp]
    exact h2
  · exact ⟨h3.os, h3.tape, h3.output, h3.size, fun k hk => h3.block k (by omega) (fun e => by have := (hown.lt e.symm).1; omega)⟩
end
end Go.Proofs.Ytjjoicbgnchkdaa
