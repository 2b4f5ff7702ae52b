/- Walks: appends of integers, lists, zeros, rows and tables, with what is told of other blocks. -/
import Derived.Test.YtmbcncmmgfnlmaaGro
import Derived.Maps.AppendAt
namespace Go.Proofs.Ytmbcncmmgfnlmaa
open Go.RowKit

theorem zeros_list (z : Value) (n : Nat) : (Builtin.zeroCells #[z] n).toList = List.replicate n z := by
  apply List.ext_getElem
  · simp [Builtin.zeroCells]
  · intro i h1 h2; simp [Builtin.zeroCells, Nat.mod_one]
theorem zeros_arr (z : Value) (n : Nat) : Builtin.zeroCells #[z] n = (List.replicate n z).toArray := Array.ext' (by rw [zeros_list])
section
variable {P : Program} (w : World)
theorem run_zeros_nil (t it ty e : TypeId) (k : IntKind) (i : TypeInfo) (z : Value) (ht : P.underlying t = some (.slice e)) (hit : P.underlying it = some (.int k)) (hi : P.info? e = some i) (hz : i.zero = some z) (hzs : z.cells = #[z]) (hs : i.size = 1) (hby : i.bytes = 8)
    (n : Nat) (h0 : 0 < n) (h63 : n ≤ 2000000) :
    (Builtin.append_ #[t, it] ty #[.slice none 0 0, .int .i64 n]).run P w =
      .ok (.slice (some ⟨w.heap.size, 0, none⟩) n (grownCap w n 0 e)) (w.drew.alloc (.cells ((List.replicate n z).toArray ++ Builtin.zeroCells z.cells (grownCap w n 0 e - n)) e)) := by
  have hn : n ≠ 0 := by omega
  have hw : IntKind.i64.wrap (n : Int) = n := IntWalk.i64_in _ (by omega)
  have h1 : ¬ ((n : Int) < 0) := by omega
  have h2 : ¬ (281474976710656 < (n : Int) * 8) := by omega
  have h63' : ¬ (9223372036854775807 < (n : Int)) := by omega
  have h48' : ¬ (281474976710656 < Builtin.nextslicecap n 0 * 8) := by rw [nextslicecap_zero h0]; omega
  simp [Builtin.append_, run_underlying ht, run_underlying hit, sizeOf, typeInfo, zeroValue, hi, hz, hzs, hs, hby, asInt, asIntOf, hw, h1, h2, hn, h63', h48', Question.forced, run_firstCells_none, newRow, grownCap, zeros_arr]
theorem run_zeros_none (t it ty e : TypeId) (k : IntKind) (i : TypeInfo) (ht : P.underlying t = some (.slice e)) (hit : P.underlying it = some (.int k)) (hi : P.info? e = some i) (hby : i.bytes = 8) :
    (Builtin.append_ #[t, it] ty #[.slice none 0 0, .int .i64 0]).run P w = .ok (.slice none 0 0) w := by
  have hw : IntKind.i64.wrap 0 = 0 := IntWalk.i64_in _ (by omega)
  simp [Builtin.append_, run_underlying ht, run_underlying hit, sizeOf, typeInfo, hi, hby, asInt, asIntOf, hw]
theorem run_zeros_room (t it ty e : TypeId) (k : IntKind) (i : TypeInfo) (z : Value) (ht : P.underlying t = some (.slice e)) (hit : P.underlying it = some (.int k)) (hi : P.info? e = some i) (hz : i.zero = some z) (hzs : z.cells = #[z]) (hs : i.size = 1) (hby : i.bytes = 8) (h1 : z.oneCell' = true)
    (g sLen sCap : Nat) (cur : Array Value) (hg : w.heap[g]? = some (.cells cur e (0, 0))) (n : Nat) (h63 : n ≤ 2000000) (hroom : sLen + n ≤ sCap) (hfit : sLen + n ≤ cur.size) :
    (Builtin.append_ #[t, it] ty #[.slice (some ⟨g, 0, none⟩) sLen sCap, .int .i64 n]).run P w =
      .ok (.slice (some ⟨g, 0, none⟩) (sLen + n) sCap) (w.setRow g (cur.toList.take sLen ++ List.replicate n z ++ cur.toList.drop (sLen + n)).toArray) := by
  have hw : IntKind.i64.wrap (n : Int) = n := IntWalk.i64_in _ (by omega)
  have h1' : ¬ ((n : Int) < 0) := by omega
  have h2 : ¬ (281474976710656 < (n : Int) * 8) := by omega
  have hst := run_storeCells_at P g sLen e (List.replicate n z) 0 cur w hg (by simpa using hfit) (fun u hu => by rw [List.eq_of_mem_replicate hu]; exact h1)
  simp only [Nat.add_zero, List.length_replicate] at hst
  by_cases hn : n = 0
  · subst hn
    have hw0 : IntKind.i64.wrap 0 = 0 := IntWalk.i64_in _ (by omega)
    have hroom' : sLen ≤ sCap := by omega
    simp only [List.replicate_zero] at hst
    simp [Builtin.append_, run_underlying ht, run_underlying hit, sizeOf, typeInfo, hi, hs, hby, asInt, asIntOf, hw0, hroom', Addr.add_lit, hst]
  · simp [Builtin.append_, run_underlying ht, run_underlying hit, sizeOf, typeInfo, zeroValue, hi, hz, hzs, hs, hby, asInt, asIntOf, hw, h1', h2, hn, hroom, Addr.add_lit, hst, zeros_arr]
theorem run_zeros_grow (t it ty e : TypeId) (k : IntKind) (i : TypeInfo) (z : Value) (ht : P.underlying t = some (.slice e)) (hit : P.underlying it = some (.int k)) (hi : P.info? e = some i) (hz : i.zero = some z) (hzs : z.cells = #[z]) (hs : i.size = 1) (hby : i.bytes = 8)
    (b : Addr) (sLen sCap : Nat) (olds : List Value) (hlo : olds.length = sLen) (holds : ∀ j v, olds[j]? = some v → w.cell? (b.add j) = some v)
    (n : Nat) (h63 : n ≤ 2000000) (hg : sCap < sLen + n) (h63' : sLen ≤ 2000000) (hfit : Builtin.nextslicecap (sLen + n) sCap * 8 ≤ 281474976710656) :
    (Builtin.append_ #[t, it] ty #[.slice (some b) sLen sCap, .int .i64 n]).run P w =
      .ok (.slice (some ⟨w.heap.size, 0, none⟩) (sLen + n) (grownCap w (sLen + n) sCap e))
        (w.drew.alloc (.cells (olds.toArray ++ (List.replicate n z).toArray ++ Builtin.zeroCells z.cells (grownCap w (sLen + n) sCap e - (sLen + n))) e)) := by
  have hw : IntKind.i64.wrap (n : Int) = n := IntWalk.i64_in _ (by omega)
  have h1' : ¬ ((n : Int) < 0) := by omega
  have h2 : ¬ (281474976710656 < (n : Int) * 8) := by omega
  have hn : ¬ (sLen + n ≤ sCap) := by omega
  have h63'' : ¬ (9223372036854775807 < ((sLen : Int) + (n : Int))) := by omega
  have h48' : ¬ (281474976710656 < Builtin.nextslicecap (sLen + n) sCap * 8) := by omega
  have hfo := run_firstCells_some (P := P) w.drew 1 sLen b sLen sCap olds (by omega) (by simpa using holds)
  by_cases hn0 : n = 0
  · subst hn0
    have hw0 : IntKind.i64.wrap 0 = 0 := IntWalk.i64_in _ (by omega)
    have hn' : ¬ (sLen ≤ sCap) := by omega
    have h63a : ¬ (9223372036854775807 < (sLen : Int)) := by omega
    have h48a : ¬ (281474976710656 < Builtin.nextslicecap sLen sCap * 8) := by simpa using h48'
    simp [Builtin.append_, run_underlying ht, run_underlying hit, sizeOf, typeInfo, zeroValue, hi, hz, hzs, hs, hby, asInt, asIntOf, hw0, hn', h63a, h48a, Question.forced, hfo, newRow, grownCap, zeros_arr]
  · simp [Builtin.append_, run_underlying ht, run_underlying hit, sizeOf, typeInfo, zeroValue, hi, hz, hzs, hs, hby, asInt, asIntOf, hw, h1', h2, hn0, hn, h63'', h48', Question.forced, hfo, newRow, grownCap, zeros_arr]
theorem run_zeros_own (base : Nat) (t it ty e : TypeId) (k : IntKind) (i : TypeInfo) (z : Value) (ht : P.underlying t = some (.slice e)) (hit : P.underlying it = some (.int k)) (hi : P.info? e = some i) (hz : i.zero = some z) (hzs : z.cells = #[z]) (hs : i.size = 1) (hby : i.bytes = 8) (h1 : z.oneCell' = true)
    (v : Value) (xs : List Value) (hown : w.ownsRow base e 1 v xs.length xs) (m : Nat) (h63 : m ≤ 1000000) (h63' : xs.length ≤ 1000000) (hbase : base ≤ w.heap.size) :
    ∃ v' w', (Builtin.append_ #[t, it] ty #[v, .int .i64 m]).run P w = .ok v' w' ∧ w'.ownsRow base e 1 v' (xs.length + m) (xs ++ List.replicate m z) ∧ w.grownBy w' v.ownBlock := by
  have hlen : (xs ++ List.replicate m z).length = (xs.length + m) * 1 := by simp
  have hml : xs.length + m ≤ maxLen := by simp only [maxLen]; omega
  have grown : ∀ (old : Nat), old < xs.length + m → ∀ (row : Option Nat),
      (w.drew.alloc (.cells (xs.toArray ++ (List.replicate m z).toArray ++ Builtin.zeroCells z.cells (grownCap w (xs.length + m) old e - (xs.length + m))) e)).ownsRow base e 1
        (.slice (some ⟨w.heap.size, 0, none⟩) (xs.length + m) (grownCap w (xs.length + m) old e)) (xs.length + m) (xs ++ List.replicate m z) ∧
      w.grownBy (w.drew.alloc (.cells (xs.toArray ++ (List.replicate m z).toArray ++ Builtin.zeroCells z.cells (grownCap w (xs.length + m) old e - (xs.length + m))) e)) row := by
    intro old ho row
    have hge := grownCap_ge w (xs.length + m) old e
    have hcm : grownCap w (xs.length + m) old e ≤ maxLen := grownCap_le_maxLen w (xs.length + m) old e hml
    refine ⟨⟨hlen, .inr ⟨w.heap.size, _, _, rfl, hbase, heap_alloc_new w.drew _, hge, hcm, ?_, ?_⟩⟩, ⟨rfl, rfl, rfl, by simp, fun _ hk _ => heap_alloc_old w.drew _ hk⟩⟩
    · rw [hzs]
      simp only [Array.size_append, List.size_toArray, size_zeroCells, List.length_replicate]
      show _ + _ * 1 = _ * 1
      omega
    · simp only [Array.toList_append, List.append_assoc]
      rw [← List.append_assoc, show (xs.length + m) * 1 = (xs ++ List.replicate m z).length by simp]
      exact List.take_left
  rcases hown.2 with ⟨rfl, hx0⟩ | ⟨g, cap, cur, rfl, hbg, hg, hnc, hcm, hcs, htake⟩
  · obtain rfl : xs = [] := List.eq_nil_of_length_eq_zero (by simpa using hx0)
    clear hx0
    by_cases hm : m = 0
    · subst hm
      exact ⟨_, _, run_zeros_none w t it ty e k i ht hit hi hby, World.ownsRow_nil w base e 1, ⟨rfl, rfl, rfl, Nat.le_refl _, fun _ _ _ => rfl⟩⟩
    · have hgr := grown 0 (by simp only [List.length_nil]; omega) (Value.ownBlock (.slice none 0 0))
      have hr := run_zeros_nil (P := P) w t it ty e k i z ht hit hi hz hzs hs hby m (by omega) (by omega)
      simp only [List.length_nil, Nat.zero_add, List.nil_append, Array.empty_append] at hgr ⊢
      exact ⟨_, _, hr, hgr.1, hgr.2⟩
  · simp only [Nat.mul_one] at hcs htake
    by_cases hroom : xs.length + m ≤ cap
    · have hr := run_zeros_room (P := P) w t it ty e k i z ht hit hi hz hzs hs hby h1 g xs.length cap cur hg m (by omega) hroom (by omega)
      refine ⟨_, _, hr, ⟨hlen, .inr ⟨g, cap, _, rfl, hbg, setRow_heap w g cur _ e _ hg, hroom, hcm, ?_, ?_⟩⟩, ⟨rfl, rfl, rfl, by simp [World.setRow], fun k _ hk => setRow_other w g k _ (fun e => hk (by simp [Value.ownBlock, e]))⟩⟩
      · simp only [List.size_toArray, List.length_append, List.length_take, List.length_drop, Array.length_toList, List.length_replicate]
        omega
      · rw [htake, show (xs.length + m) * 1 = (xs ++ List.replicate m z).length by simp]
        exact List.take_left
    · have holds : ∀ j u, xs[j]? = some u → w.cell? ((⟨g, 0, none⟩ : Addr).add j) = some u := hown.cells (g := g) rfl
      have hr := run_zeros_grow (P := P) w t it ty e k i z ht hit hi hz hzs hs hby ⟨g, 0, none⟩ xs.length cap xs rfl holds m (by omega) (by omega) (by omega) (growslice_fits (by omega) (by omega))
      have hgr := grown cap (by omega) (Value.ownBlock (.slice (some ⟨g, 0, none⟩) xs.length cap))
      exact ⟨_, _, hr, hgr.1, hgr.2⟩
/-- append of m zeros to a list of integers -/
theorem wp_zerosI {ops : Array Oper} {rest : List Oper} {o : Oper} {a : Act} {Q : Exit → Act → World → Prop} {w : World} {B : Nat} {v : Value} {xs : List Int} {m : Nat} (hown : OwnI w B v xs)
    (hgd : o.guard = none) (s x : Operand)
    (ho : o.op = .call { callee := .builtin .append, args := #[s, x], argTypes := #[35, 3] })
    (hs : a.eval s = v) (hx : a.eval x = .int .i64 m)
    (hB : B ≤ w.heap.size) (hlen : xs.length ≤ 1000000) (hlen' : m ≤ 1000000)
    (h : ∀ v' w', OwnI w' B v' (xs ++ List.replicate m 0) → Below B w w' → wpList Try.prog ops Q rest (a.put o.dst v') w') :
    wpList Try.prog ops Q (o :: rest) a w := by
  obtain ⟨i, hi, hz0, hz1', hz2⟩ := info_parts info_int
  refine wpList_plain hgd fun K hK => ?_
  obtain ⟨v', w', hr, h2, h3⟩ := run_zeros_own (P := Try.prog) w B 35 3 o.type 2 .i64 i (.int .i64 0) Try.underlying35 Try.underlying3 hi hz0 rfl hz1' hz2 rfl v (xs.map vi) hown m hlen' (by rw [List.length_map]; exact hlen) hB
  unfold Oper.wp execOp
  simp only [ho, resolve, invoke, builtin, Sem.run_bind, Sem.run_pure, Result.andThen_ok, List.map_toArray, List.map_cons, List.map_nil, hs, hx, hr]
  refine hK _ _ (h v' w' ?_ ?_)
  · have e : (xs.map vi ++ List.replicate m (.int .i64 0)) = (xs ++ List.replicate m 0).map vi := by simp [vi]
    unfold OwnI Own
    rw [← e, show (xs.map vi ++ List.replicate m (Value.int .i64 0)).length = (xs.map vi).length + m by simp]
    exact h2
  · exact ⟨h3.os, h3.tape, h3.output, h3.size, fun k hk => h3.block k (by omega) (fun e => by have := (hown.lt e.symm).1; omega)⟩
end
end Go.Proofs.Ytmbcncmmgfnlmaa
namespace Go.Proofs.Ytmbcncmmgfnlmaa
open Go.RowKit
/-- append of one new row: all blocks but the list's own stay, and the list does not come to lie in them -/
theorem wp_pushM3 {ops : Array Oper} {rest : List Oper} {o : Oper} {a : Act} {Q : Exit → Act → World → Prop} {w0 w : World} {B : Nat} {v u : Value} {xss : List (List Int)} {xs : List Int} (hown : OwnM w0 B v xss) (hb : Below w0.heap.size w0 w) (hu : OwnI w w0.heap.size u xs) (hgd : o.guard = none) (s x : Operand)
    (ho : o.op = .call { callee := .builtin .append, args := #[s, x], argTypes := #[24, 24] })
    (hs : a.eval s = v) {gx : Nat} (hx : a.eval x = .slice (some ⟨gx, 0, none⟩) 1 1) (hgx : gx = w.heap.size)
    (hB : B ≤ w0.heap.size) (hlen : xss.length ≤ 1000000)
    (h : ∀ v' w', OwnM w' B v' (xss ++ [xs]) → Below B w w' → (∀ g, g < w.heap.size → v.ownBlock ≠ some g → w'.heap[g]? = w.heap[g]? ∧ v'.ownBlock ≠ some g) → wpList Try.prog ops Q rest (a.put o.dst v') w') :
    wpList Try.prog ops Q (o :: rest) a (w.alloc (.cells #[u] 35)) := by
  obtain ⟨us, h1, h2, h3, h4⟩ := hown
  obtain ⟨p, n, c, rfl⟩ := hu.slice
  subst hgx
  obtain ⟨i, hi, hz0, hz1', hz2⟩ := info_parts info_ints
  refine wpList_append_own_at _ hgd s x _ ho B 35 i (.slice none 0 0) 1 24 Try.underlying24 hi hz0 hz1' hz2 rfl (by omega) v us.length us hs (World.ownsRow.alloc (h1.keep hb) _) ⟨w.heap.size, 0, none⟩ 1 1 [.slice p n c] hx rfl ?_ ?_ ?_ ?_ ?_ ?_
  · exact cell_one_new _ _ _
  · intro u' hu'
    simp at hu'
    subst hu'
    rfl
  · unfold maxLen; omega
  · omega
  · simp; have := hb.size; omega
  · intro v' w' g1 g2 _ hat
    refine h v' w' (OwnM.push h1 h2 h3 h4 hb hB hu (Own.push g1) g2) (grown_below (h1.keep hb) (Nat.le_trans hB hb.size) g2) (fun g hg hne => ⟨?_, ?_⟩)
    · rw [g2.block g (by simp; omega) (fun e => hne e.symm)]
      exact Below.heap_alloc _ _ _ hg
    · rcases hat with e | e
      · rw [e]; exact hne
      · rw [e]; simp; omega
/-- the same as a step of a region that draws its order -/
theorem step_pushM3 {ops : Array Oper} {o : Oper} {a : Act} {K : Act → World → Prop} {Q : Exit → Act → World → Prop} {E : Prop} {w0 w : World} {B : Nat} {v u : Value} {xss : List (List Int)} {xs : List Int} (hown : OwnM w0 B v xss) (hb : Below w0.heap.size w0 w) (hu : OwnI w w0.heap.size u xs) (hgd : o.guard = none) (s x : Operand)
    (ho : o.op = .call { callee := .builtin .append, args := #[s, x], argTypes := #[24, 24] })
    (hs : a.eval s = v) {gx : Nat} (hx : a.eval x = .slice (some ⟨gx, 0, none⟩) 1 1) (hgx : gx = w.heap.size)
    (hB : B ≤ w0.heap.size) (hlen : xss.length ≤ 1000000)
    (h : ∀ v' w', OwnM w' B v' (xss ++ [xs]) → Below B w w' → (∀ g, g < w.heap.size → v.ownBlock ≠ some g → w'.heap[g]? = w.heap[g]? ∧ v'.ownBlock ≠ some g) → K (a.put o.dst v') w') :
    if Region.wanted o (yielded ops a.tmps) = true then Oper.wp Try.prog o a (w.alloc (.cells #[u] 35)) K Q else E := by
  have hw : Region.wanted o (yielded ops a.tmps) = true := by simp [Region.wanted, hgd]
  rw [if_pos hw]
  obtain ⟨us, h1, h2, h3, h4⟩ := hown
  obtain ⟨p, n, c, rfl⟩ := hu.slice
  subst hgx
  obtain ⟨i, hi, hz0, hz1', hz2⟩ := info_parts info_ints
  obtain ⟨v', w', hr, g1, g2, _, hat⟩ := run_append_own_at (P := Try.prog) (w.alloc (.cells #[.slice p n c] 35)) B 24 o.type 35 i (.slice none 0 0) 1 24 Try.underlying24 hi hz0 hz1' hz2 rfl (by omega) v us.length us (World.ownsRow.alloc (h1.keep hb) _) ⟨w.heap.size, 0, none⟩ 1 1 [.slice p n c] rfl (cell_one_new _ _ _) (fun u' hu' => by simp at hu'; subst hu'; rfl) (by unfold maxLen; omega) (by omega) (by simp; have := hb.size; omega)
  unfold Oper.wp execOp
  simp only [ho, resolve, invoke, builtin, Sem.run_bind, Sem.run_pure, Result.andThen_ok, List.map_toArray, List.map_cons, List.map_nil, hs, hx, hr]
  refine h v' w' (OwnM.push h1 h2 h3 h4 hb hB hu (Own.push g1) g2) (grown_below (h1.keep hb) (Nat.le_trans hB hb.size) g2) (fun g hg hne => ⟨?_, ?_⟩)
  · rw [g2.block g (by simp; omega) (fun e => hne e.symm)]
    exact Below.heap_alloc _ _ _ hg
  · rcases hat with e | e
    · rw [e]; exact hne
    · rw [e]; simp; omega
/-- append of a list of integers as a step -/
theorem step_appendI {ops : Array Oper} {o : Oper} {a : Act} {K : Act → World → Prop} {Q : Exit → Act → World → Prop} {E : Prop} {w : World} {B : Nat} {v : Value} {xs ys : List Int} {b off c m : Nat} (hown : OwnI w B v xs)
    (hc : ∀ i y, ys[i]? = some y → w.cell? ⟨b, off + i, none⟩ = some (.int .i64 y)) (hgd : o.guard = none) (s x : Operand)
    (ho : o.op = .call { callee := .builtin .append, args := #[s, x], argTypes := #[35, 35] })
    (hs : a.eval s = v) (hx : a.eval x = .slice (some ⟨b, off, none⟩) m c) (hm : m = ys.length)
    (hB : B ≤ w.heap.size) (hlen : xs.length ≤ 1000000) (hlen' : ys.length ≤ 1000000)
    (h : ∀ v' w', OwnI w' B v' (xs ++ ys) → Below B w w' → K (a.put o.dst v') w') :
    if Region.wanted o (yielded ops a.tmps) = true then Oper.wp Try.prog o a w K Q else E := by
  have hw : Region.wanted o (yielded ops a.tmps) = true := by simp [Region.wanted, hgd]
  rw [if_pos hw]
  subst hm
  obtain ⟨i, hi, hz0, hz1', hz2⟩ := info_parts info_int
  refine wp_append_own _ s x _ ho B 2 i (.int .i64 0) 1 8 Try.underlying35 hi hz0 hz1' hz2 rfl (by omega) v (xs.map vi).length (xs.map vi) hs hown ⟨b, off, none⟩ ys.length c (ys.map vi) hx (by simp) ?_ ?_ ?_ ?_ hB ?_
  · intro j u hj
    rw [List.getElem?_map] at hj
    cases hy : ys[j]? with
    | none => rw [hy] at hj; cases hj
    | some y =>
      rw [hy] at hj
      cases hj
      have := hc j y hy
      unfold Addr.add
      split
      · rename_i e; subst e; simpa using this
      · exact this
  · intro u hu
    obtain ⟨y, _, rfl⟩ := List.mem_map.1 hu
    rfl
  · rw [List.length_map]; unfold maxLen; omega
  · rw [List.length_map]; omega
  · intro v' w' h1 h2 _
    refine h v' w' ?_ ⟨h2.os, h2.tape, h2.output, h2.size, fun k hk => h2.block k (by omega) (fun e => by have := (hown.lt e.symm).1; omega)⟩
    have e : (xs.map vi ++ ys.map vi).length = (xs.map vi).length + ys.length := by simp
    unfold OwnI Own
    rw [List.map_append, e]
    exact h1
theorem cell_same {w w' : World} {g i : Nat} {v : Value} (h : w'.heap[g]? = w.heap[g]?) (hc : w.cell? ⟨g, i, none⟩ = some v) : w'.cell? ⟨g, i, none⟩ = some v := by
  rw [← hc]; simp only [World.cell?, h]
end Go.Proofs.Ytmbcncmmgfnlmaa
namespace Go.Proofs.Ytmbcncmmgfnlmaa
open Go.RowKit
/-- append of one integer: all blocks but the list's own stay, and the list does not come to lie in them -/
theorem wp_pushI3 {ops : Array Oper} {rest : List Oper} {o : Oper} {a : Act} {Q : Exit → Act → World → Prop} {w : World} {B : Nat} {v : Value} {y : Int} {xs : List Int} (hown : OwnI w B v xs) (hgd : o.guard = none) (s x : Operand)
    (ho : o.op = .call { callee := .builtin .append, args := #[s, x], argTypes := #[35, 35] })
    (hs : a.eval s = v) {gx : Nat} (hx : a.eval x = .slice (some ⟨gx, 0, none⟩) 1 1) (hgx : gx = w.heap.size)
    (hB : B ≤ w.heap.size) (hlen : xs.length ≤ 1000000)
    (h : ∀ v' w', OwnI w' B v' (xs ++ [y]) → Below B w w' → (∀ g, g < w.heap.size → v.ownBlock ≠ some g → w'.heap[g]? = w.heap[g]? ∧ v'.ownBlock ≠ some g) → wpList Try.prog ops Q rest (a.put o.dst v') w') :
    wpList Try.prog ops Q (o :: rest) a (w.alloc (.cells #[.int .i64 y] 2)) := by
  subst hgx
  obtain ⟨i, hi, hz0, hz1', hz2⟩ := info_parts info_int
  refine wpList_append_own_at _ hgd s x _ ho B 2 i (.int .i64 0) 1 8 Try.underlying35 hi hz0 hz1' hz2 rfl (by omega) v (xs.map vi).length (xs.map vi) hs (World.ownsRow.alloc hown _) ⟨w.heap.size, 0, none⟩ 1 1 [vi y] hx rfl ?_ ?_ ?_ ?_ ?_ ?_
  · exact cell_one_new _ _ _
  · intro u' hu'
    simp at hu'
    subst hu'
    rfl
  · rw [List.length_map]; unfold maxLen; omega
  · rw [List.length_map]; omega
  · simp; omega
  · intro v' w' g1 g2 _ hat
    refine h v' w' (by rw [OwnI, List.map_append]; exact Own.push g1) (grown_below hown hB g2) (fun g hg hne => ⟨?_, ?_⟩)
    · rw [g2.block g (by simp; omega) (fun e => hne e.symm)]
      exact Below.heap_alloc _ _ _ hg
    · rcases hat with e | e
      · rw [e]; exact hne
      · rw [e]; simp; omega
/-- a list stays where another one is written or grows -/
theorem OwnI.stay {w w' : World} {B : Nat} {v : Value} {xs : List Int} (h : OwnI w B v xs) (hk : ∀ g, v.ownBlock = some g → w'.heap[g]? = w.heap[g]?) : OwnI w' B v xs := Own.of_block h hk
end Go.Proofs.Ytmbcncmmgfnlmaa
namespace Go.Proofs.Ytmbcncmmgfnlmaa
open Go.RowKit
/-- append of m zeros as a step -/
theorem step_zerosI {ops : Array Oper} {o : Oper} {a : Act} {K : Act → World → Prop} {Q : Exit → Act → World → Prop} {E : Prop} {w : World} {B : Nat} {v : Value} {xs : List Int} {m : Nat} (hown : OwnI w B v xs)
    (hgd : o.guard = none) (s x : Operand)
    (ho : o.op = .call { callee := .builtin .append, args := #[s, x], argTypes := #[35, 3] })
    (hs : a.eval s = v) (hx : a.eval x = .int .i64 m)
    (hB : B ≤ w.heap.size) (hlen : xs.length ≤ 1000000) (hlen' : m ≤ 1000000)
    (h : ∀ v' w', OwnI w' B v' (xs ++ List.replicate m 0) → Below B w w' → K (a.put o.dst v') w') :
    if Region.wanted o (yielded ops a.tmps) = true then Oper.wp Try.prog o a w K Q else E := by
  have hw : Region.wanted o (yielded ops a.tmps) = true := by simp [Region.wanted, hgd]
  rw [if_pos hw]
  obtain ⟨i, hi, hz0, hz1', hz2⟩ := info_parts info_int
  obtain ⟨v', w', hr, h2, h3⟩ := run_zeros_own (P := Try.prog) w B 35 3 o.type 2 .i64 i (.int .i64 0) Try.underlying35 Try.underlying3 hi hz0 rfl hz1' hz2 rfl v (xs.map vi) hown m hlen' (by rw [List.length_map]; exact hlen) hB
  unfold Oper.wp execOp
  simp only [ho, resolve, invoke, builtin, Sem.run_bind, Sem.run_pure, Result.andThen_ok, List.map_toArray, List.map_cons, List.map_nil, hs, hx, hr]
  refine h v' w' ?_ ?_
  · have e : (xs.map vi ++ List.replicate m (.int .i64 0)) = (xs ++ List.replicate m 0).map vi := by simp [vi]
    unfold OwnI Own
    rw [← e, show (xs.map vi ++ List.replicate m (Value.int .i64 0)).length = (xs.map vi).length + m by simp]
    exact h2
  · exact ⟨h3.os, h3.tape, h3.output, h3.size, fun k hk => h3.block k (by omega) (fun e => by have := (hown.lt e.symm).1; omega)⟩
/-- a list that holds one list with one integer, just laid -/
theorem ownM_one (w : World) (x : Int) : OwnM ((w.alloc (.cells #[.int .i64 x] 2)).alloc (.cells #[.slice (some ⟨w.heap.size, 0, none⟩) 1 1] 35)) w.heap.size (.slice (some ⟨w.heap.size + 1, 0, none⟩) 1 1) [[x]] := by
  have h1 : OwnI (w.alloc (.cells #[.int .i64 x] 2)) w.heap.size (.slice (some ⟨w.heap.size, 0, none⟩) 1 1) [x] := Own.lit (B := w.heap.size) w 2 [vi x] (Nat.le_refl _) (by simp [maxLen])
  have h2 := Own.lit (B := w.heap.size) (w.alloc (.cells #[.int .i64 x] 2)) 35 [.slice (some ⟨w.heap.size, 0, none⟩) 1 1] (by simp) (by simp [maxLen])
  rw [World.size_alloc] at h2
  refine ⟨[.slice (some ⟨w.heap.size, 0, none⟩) 1 1], h2, rfl, fun i u xs e1 e2 => ?_, fun i j u u' e1 e2 hij => ?_⟩
  · cases i with
    | zero => simp at e1 e2; subst e1; subst e2; exact Own.alloc h1 _
    | succ i => simp at e1
  · cases i with
    | zero => cases j with
      | zero => exact absurd rfl hij
      | succ j => simp at e2
    | succ i => simp at e1
theorem OwnI.shapeN {w : World} {B n : Nat} {v : Value} {xs : List Int} (h : OwnI w B v xs) (hl : xs.length = n) (hn : 0 < n) : ∃ g c, v = .slice (some ⟨g, 0, none⟩) n c ∧ B ≤ g ∧ g < w.heap.size := by
  rcases Own.shape h with ⟨_, h2⟩ | ⟨g, cap, h1, h2, h3, _⟩
  · rw [List.map_eq_nil_iff] at h2; subst h2; simp at hl; omega
  · rw [List.length_map, hl] at h1; exact ⟨g, cap, h1, h2, h3⟩
/-! worlds ahead of a call in a region that draws its order -/
theorem bel1 (w : World) : Below w.heap.size w w.drew := (Below.refl _ _).drew
theorem bel2 (w : World) (o : Obj) : Below w.heap.size w (w.drew.alloc o) := ⟨rfl, rfl, rfl, by simp, fun k hk => Below.heap_alloc w.drew _ _ hk⟩
theorem bel3 (w : World) (o : Obj) : Below w.heap.size w (w.alloc o).drew := (below_alloc w o).drew
theorem below_call {w0 X w5 : World} (hb : Below X.heap.size X w5) (h : Below w0.heap.size w0 X) : Below w0.heap.size w0 w5 := h.trans (hb.mono h.size)
theorem own_call {w0 X w5 : World} {v : Value} {xs : List Int} (ho : OwnI w5 X.heap.size v xs) (h : Below w0.heap.size w0 X) : OwnI w5 w0.heap.size v xs := ho.mono h.size
end Go.Proofs.Ytmbcncmmgfnlmaa
namespace Go.Proofs.Ytmbcncmmgfnlmaa
open Go.RowKit
theorem grown_below2 {w w' : World} {B : Nat} {v : Value} {T : TypeId} {us : List Value} (hown : Own w T B v us) (hB : B ≤ w.heap.size) (hg : w.grownBy w' v.ownBlock) : Below B w w' :=
  ⟨hg.os, hg.tape, hg.output, hg.size, fun k hk => hg.block k (by omega) (fun e => by have := (hown.lt e.symm).1; omega)⟩
theorem OwnM.pushAll {w0 w w' : World} {B : Nat} {v v' : Value} {us us2 : List Value} {xss yss : List (List Int)} (ho : Own w0 35 B v us) (hlen : us.length = xss.length)
    (hr : ∀ (i : Nat) (u : Value) (xs : List Int), us[i]? = some u → xss[i]? = some xs → OwnI w0 B u xs) (ha : apart us) (hb : Below w0.heap.size w0 w) (hB : B ≤ w0.heap.size)
    (hlen2 : us2.length = yss.length) (hr2 : ∀ (i : Nat) (u : Value) (xs : List Int), us2[i]? = some u → yss[i]? = some xs → OwnI w w0.heap.size u xs) (ha2 : apart us2)
    (h1 : Own w' 35 B v' (us ++ us2)) (hg : w.grownBy w' v.ownBlock) : OwnM w' B v' (xss ++ yss) := by
  have old : ∀ (j : Nat) (u' : Value), us[j]? = some u' → ∀ b, u'.ownBlock = some b → b < w0.heap.size := by
    intro j u' h b hb'
    obtain ⟨xs', hx'⟩ : ∃ xs', xss[j]? = some xs' := ⟨xss[j]'(by rw [← hlen]; exact (List.getElem?_eq_some_iff.1 h).1), by simp⟩
    exact ((hr j u' xs' h hx').lt hb').2
  have new : ∀ (j : Nat) (u' : Value), us2[j]? = some u' → ∀ b, u'.ownBlock = some b → w0.heap.size ≤ b := by
    intro j u' h b hb'
    obtain ⟨xs', hx'⟩ : ∃ xs', yss[j]? = some xs' := ⟨yss[j]'(by rw [← hlen2]; exact (List.getElem?_eq_some_iff.1 h).1), by simp⟩
    exact ((hr2 j u' xs' h hx').lt hb').1
  have keepRow : ∀ {B'} {u' : Value} {xs' : List Int}, OwnI w B' u' xs' → OwnI w' B' u' xs' := by
    intro B' u' xs' hu'
    refine Own.grown hu' hg ?_
    cases hub : u'.ownBlock with
    | none => exact .inl rfl
    | some b => exact .inr (fun e => Own.other hu' (ho.keep hb) (by decide) hub e.symm)
  have cls : ∀ (j : Nat) (u' : Value), (us ++ us2)[j]? = some u' → (j < us.length ∧ us[j]? = some u') ∨ (us.length ≤ j ∧ us2[j - us.length]? = some u') := by
    intro j u' h
    rcases Nat.lt_or_ge j us.length with hj | hj
    · rw [List.getElem?_append_left hj] at h; exact .inl ⟨hj, h⟩
    · rw [List.getElem?_append_right hj] at h; exact .inr ⟨hj, h⟩
  refine ⟨us ++ us2, h1, by simp [hlen, hlen2], ?_, ?_⟩
  · intro j u' xs' h2 h3
    rcases cls j u' h2 with ⟨hj, e1⟩ | ⟨hj, e1⟩
    · rw [List.getElem?_append_left (by omega)] at h3
      exact keepRow ((hr j u' xs' e1 h3).keep hb)
    · rw [List.getElem?_append_right (by omega), ← hlen] at h3
      exact (keepRow (hr2 _ u' xs' e1 h3)).mono hB
  · intro j k u1 u2 h2 h3 hjk b hb1 hb2
    rcases cls j u1 h2 with ⟨hj, e1⟩ | ⟨hj, e1⟩ <;> rcases cls k u2 h3 with ⟨hk, e2⟩ | ⟨hk, e2⟩
    · exact ha j k u1 u2 e1 e2 hjk b hb1 hb2
    · have := old j u1 e1 b hb1; have := new _ u2 e2 b hb2; omega
    · have := old k u2 e2 b hb2; have := new _ u1 e1 b hb1; omega
    · exact ha2 _ _ u1 u2 e1 e2 (by omega) b hb1 hb2
theorem own_oneCell {w : World} {B : Nat} {u : Value} {xs : List Int} (h : OwnI w B u xs) : u.oneCell' = true := by
  obtain ⟨p, n, c, rfl⟩ := Own.slice h; rfl
/-- append of all rows of a table that was made since -/
theorem wp_appendM {ops : Array Oper} {rest : List Oper} {o : Oper} {a : Act} {Q : Exit → Act → World → Prop} {w0 w : World} {B : Nat} {v : Value} {gx n c : Nat} {xss yss : List (List Int)} (hown : OwnM w0 B v xss) (hb : Below w0.heap.size w0 w)
    (hu : OwnM w w0.heap.size (.slice (some ⟨gx, 0, none⟩) n c) yss) (hgd : o.guard = none) (s x : Operand)
    (ho : o.op = .call { callee := .builtin .append, args := #[s, x], argTypes := #[24, 24] })
    (hs : a.eval s = v) (hx : a.eval x = .slice (some ⟨gx, 0, none⟩) n c)
    (hB : B ≤ w0.heap.size) (hlen : xss.length ≤ 1000000) (hlen' : yss.length ≤ 1000000)
    (h : ∀ v' w', OwnM w' B v' (xss ++ yss) → Below B w w' → wpList Try.prog ops Q rest (a.put o.dst v') w') :
    wpList Try.prog ops Q (o :: rest) a w := by
  obtain ⟨us, h1, h2, h3, h4⟩ := hown
  obtain ⟨us2, g1, g2, g3, g4⟩ := hu
  obtain rfl : n = us2.length := g1.len
  obtain ⟨i, hi, hz0, hz1', hz2⟩ := info_parts info_ints
  refine wpList_append_own _ hgd s x _ ho B 35 i (.slice none 0 0) 1 24 Try.underlying24 hi hz0 hz1' hz2 rfl (by omega) v us.length us hs (h1.keep hb) ⟨gx, 0, none⟩ us2.length c us2 hx (by simp) ?_ ?_ ?_ ?_ (Nat.le_trans hB hb.size) ?_
  · intro j u hj
    have := Own.cell g1 hj
    unfold Addr.add
    split
    · rename_i e; subst e; simpa using this
    · simpa using this
  · intro u hu
    obtain ⟨j, hj⟩ := List.getElem?_of_mem hu
    obtain ⟨xs, hx'⟩ : ∃ xs, yss[j]? = some xs := ⟨yss[j]'(by rw [← g2]; exact (List.getElem?_eq_some_iff.1 hj).1), by simp⟩
    exact own_oneCell (g3 j u xs hj hx')
  · unfold maxLen; omega
  · omega
  · intro v' w' q1 q2 _
    refine h v' w' (OwnM.pushAll h1 h2 h3 h4 hb hB g2 g3 g4 ?_ q2) (grown_below2 (h1.keep hb) (Nat.le_trans hB hb.size) q2)
    unfold Own
    rw [List.length_append]
    exact q1
/-- the same as a step of a region that draws its order -/
theorem step_appendM {ops : Array Oper} {o : Oper} {a : Act} {K : Act → World → Prop} {Q : Exit → Act → World → Prop} {E : Prop} {w0 w : World} {B : Nat} {v : Value} {gx n c : Nat} {xss yss : List (List Int)} (hown : OwnM w0 B v xss) (hb : Below w0.heap.size w0 w)
    (hu : OwnM w w0.heap.size (.slice (some ⟨gx, 0, none⟩) n c) yss) (hgd : o.guard = none) (s x : Operand)
    (ho : o.op = .call { callee := .builtin .append, args := #[s, x], argTypes := #[24, 24] })
    (hs : a.eval s = v) (hx : a.eval x = .slice (some ⟨gx, 0, none⟩) n c)
    (hB : B ≤ w0.heap.size) (hlen : xss.length ≤ 1000000) (hlen' : yss.length ≤ 1000000)
    (h : ∀ v' w', OwnM w' B v' (xss ++ yss) → Below B w w' → K (a.put o.dst v') w') :
    if Region.wanted o (yielded ops a.tmps) = true then Oper.wp Try.prog o a w K Q else E := by
  have hw : Region.wanted o (yielded ops a.tmps) = true := by simp [Region.wanted, hgd]
  rw [if_pos hw]
  obtain ⟨us, h1, h2, h3, h4⟩ := hown
  obtain ⟨us2, g1, g2, g3, g4⟩ := hu
  obtain rfl : n = us2.length := g1.len
  obtain ⟨i, hi, hz0, hz1', hz2⟩ := info_parts info_ints
  refine wp_append_own _ s x _ ho B 35 i (.slice none 0 0) 1 24 Try.underlying24 hi hz0 hz1' hz2 rfl (by omega) v us.length us hs (h1.keep hb) ⟨gx, 0, none⟩ us2.length c us2 hx (by simp) ?_ ?_ ?_ ?_ (Nat.le_trans hB hb.size) ?_
  · intro j u hj
    have := Own.cell g1 hj
    unfold Addr.add
    split
    · rename_i e; subst e; simpa using this
    · simpa using this
  · intro u hu
    obtain ⟨j, hj⟩ := List.getElem?_of_mem hu
    obtain ⟨xs, hx'⟩ : ∃ xs, yss[j]? = some xs := ⟨yss[j]'(by rw [← g2]; exact (List.getElem?_eq_some_iff.1 hj).1), by simp⟩
    exact own_oneCell (g3 j u xs hj hx')
  · unfold maxLen; omega
  · omega
  · intro v' w' q1 q2 _
    refine h v' w' (OwnM.pushAll h1 h2 h3 h4 hb hB g2 g3 g4 ?_ q2) (grown_below2 (h1.keep hb) (Nat.le_trans hB hb.size) q2)
    unfold Own
    rw [List.length_append]
    exact q1
end Go.Proofs.Ytmbcncmmgfnlmaa
