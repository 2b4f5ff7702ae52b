/- Walks: copies of rows and of tables. -/
import Derived.Test.YtmbcncmmgfnlmaaTur
namespace Go.Proofs.Ytmbcncmmgfnlmaa
open Go.RowKit

/-- append of a list of integers that can be read -/
theorem wp_appendI {ops : Array Oper} {rest : List Oper} {o : Oper} {a : Act} {Q : Exit → Act → World → Prop} {w : World} {B : Nat} {v : Value} {xs ys : List Int} {b off c m : Nat} (hown : OwnI w B v xs)
    (hc : ∀ i y, ys[i]? = some y → w.cell? ⟨b, off + i, none⟩ = some (.int .i64 y)) (hgd : o.guard = none) (s x : Operand)
    (ho : o.op = .call { callee := .builtin .append, args := #[s, x], argTypes := #[35, 35] })
    (hs : a.eval s = v) (hx : a.eval x = .slice (some ⟨b, off, none⟩) m c) (hm : m = ys.length)
    (hB : B ≤ w.heap.size) (hlen : xs.length ≤ 1000000) (hlen' : ys.length ≤ 1000000)
    (h : ∀ v' w', OwnI w' B v' (xs ++ ys) → Below B w w' → wpList Try.prog ops Q rest (a.put o.dst v') w') :
    wpList Try.prog ops Q (o :: rest) a w := by
  subst hm
  obtain ⟨i, hi, hz0, hz1', hz2⟩ := info_parts info_int
  refine wpList_append_own _ hgd s x _ ho B 2 i (.int .i64 0) 1 8 Try.underlying35 hi hz0 hz1' hz2 rfl (by omega) v (xs.map vi).length (xs.map vi) hs hown ⟨b, off, none⟩ ys.length c (ys.map vi) hx (by simp) ?_ ?_ ?_ ?_ hB ?_
  · intro j u hj
    rw [List.getElem?_map] at hj
    cases hy : ys[j]? with
    | none => rw [hy] at hj; cases hj
    | some y =>
      rw [hy] at hj
      cases hj
      have := hc j y hy
      unfold Addr.add
      split
      · rename_i e; subst e; simpa using this
      · exact this
  · intro u hu
    obtain ⟨y, _, rfl⟩ := List.mem_map.1 hu
    rfl
  · rw [List.length_map]; unfold maxLen; omega
  · rw [List.length_map]; omega
  · intro v' w' h1 h2 _
    refine h v' w' ?_ ?_
    · have e : (xs.map vi ++ ys.map vi).length = (xs.map vi).length + ys.length := by simp
      unfold OwnI Own
      rw [List.map_append, e]
      exact h1
    · refine ⟨h2.os, h2.tape, h2.output, h2.size, fun k hk => h2.block k (by omega) (fun e => by have := (hown.lt e.symm).1; omega)⟩

theorem c_Clone (v : Value) (xs : List Int) (w : World) (hv : Ints w v xs) (hp : 0 < xs.length) (hl : xs.length ≤ 1000000) :
    Calls Try.prog 104 #[v] w (RetI xs w) := by
  obtain ⟨a, cap, rfl, _, hc⟩ := hv
  obtain ⟨b, off, rfl, _⟩ := hc 0 xs[0] (by simp)
  have HC : Hid (∀ i y, xs[i]? = some y → w.cell? ⟨b, off + i, none⟩ = some (.int .i64 y)) := Lib.hid (fun i y hy => by obtain ⟨b', off', e, h⟩ := hc i y hy; cases e; exact h)
  have HA := Lib.hid (below_alloc w (.cells #[] 2))
  have HE := Lib.hid (show OwnI (w.alloc (.cells #[] 2)) w.heap.size (.slice (some ⟨w.heap.size, 0, none⟩) 0 0) [] from own_empty w 2 w.heap.size (Nat.le_refl _))
  clear hc
  have hnil := fun (w : World) => Lib.run_eql_slice_nil (P := Try.prog) w 35 2 (some ⟨b, off, none⟩) xs.length cap 0 0 Try.underlying35
  go_enter Try.func104, Try.ntmps104
  go_wp2_with (at_builtin; refine wp_appendI HE.out (fun i y hy => bcell HA.out (HC.out i y hy)) rfl _ _ rfl rfl rfl rfl (by simp) (by simp) hl ?_; intro v' w2 ho2 hb2)
  go_ret
  exact ⟨_, rfl, ho2, HA.out.trans hb2⟩
theorem c_l01Own (v : Value) (xs : List Int) (w : World) (hv : Ints w v xs) (hp : 0 < xs.length) (hl : xs.length ≤ 1000000) :
    Calls Try.prog 115 #[v] w (RetI xs w) := by
  obtain ⟨a, cap, rfl, _, hc⟩ := hv
  obtain ⟨b, off, rfl, _⟩ := hc 0 xs[0] (by simp)
  have HC : Hid (∀ i y, xs[i]? = some y → w.cell? ⟨b, off + i, none⟩ = some (.int .i64 y)) := Lib.hid (fun i y hy => by obtain ⟨b', off', e, h⟩ := hc i y hy; cases e; exact h)
  have HA := Lib.hid (below_alloc w (.cells #[] 2))
  have HE := Lib.hid (show OwnI (w.alloc (.cells #[] 2)) w.heap.size (.slice (some ⟨w.heap.size, 0, none⟩) 0 0) [] from own_empty w 2 w.heap.size (Nat.le_refl _))
  clear hc
  go_enter Try.func115, Try.ntmps115
  go_wp2_with (at_builtin; refine wp_appendI HE.out (fun i y hy => bcell HA.out (HC.out i y hy)) rfl _ _ rfl rfl rfl rfl (by simp) (by simp) hl ?_; intro v' w2 ho2 hb2)
  go_ret
  exact ⟨_, rfl, ho2, HA.out.trans hb2⟩
theorem take_snocM {xss : List (List Int)} {k : Nat} {x : List Int} (h : xss[k]? = some x) : xss.take (k + 1) = xss.take k ++ [x] := by
  obtain ⟨hk, rfl⟩ := List.getElem?_eq_some_iff.1 h
  exact List.take_succ_eq_append_getElem hk
theorem c_l01Own2 (v : Value) (xss : List (List Int)) (w : World) (hv : IntRows w v xss) (hr : ∀ xs ∈ xss, 0 < xs.length ∧ xs.length ≤ 1000000) (h1 : xss.length ≤ 1000000) :
    Calls Try.prog 103 #[v] w (RetM xss w) := by
  obtain ⟨a, cap, rfl, hl, hc⟩ := hv
  have HC := Lib.hid hc
  have HR := Lib.hid hr
  clear hc hr
  go_enter Try.func103, Try.ntmps103
  go_wp2_with fail
  go_loopw [3, 4] (fun s i wr => ∃ (k : Nat), k ≤ xss.length ∧ i = .int .i64 k ∧ OwnM wr w.heap.size s (xss.take k) ∧ Below w.heap.size w wr) (fun _ i _ => xss.length - (intOf i).toNat)
  case atStart => exact ⟨0, Nat.zero_le _, rfl, ownM_empty _ _ (Nat.le_refl _), below_alloc _ _⟩
  case round =>
    obtain ⟨k, hk, rfl, hown, hbel⟩ := hrel
    by_cases hlt : k < xss.length
    · obtain ⟨x, hx⟩ : ∃ x, xss[k]? = some x := ⟨xss[k], by simp [hlt]⟩
      obtain ⟨b, off, q, rfl, hcell, hI⟩ := HC.out k x hx
      have hc1 := bcell hbel hcell
      have HI := Lib.hid (hI.keep hbel)
      have HRX := Lib.hid (HR.out x (List.mem_of_getElem? hx))
      have HT := Lib.hid (take_snocM hx)
      have HOW := Lib.hid hown
      have HB := Lib.hid hbel
      have hsz := hbel.size
      clear hx hcell hI hown hbel
      go_wp2_with fail
      refine (c_l01Own q x _ HI.out HRX.out.1 HRX.out.2).mono ?_
      rintro e w1 ⟨z, rfl, ho1, hb1⟩
      obtain ⟨p5, n5, c5, rfl⟩ := ho1.slice
      have HO1 := Lib.hid ho1
      have HB1 := Lib.hid hb1
      have hsz1 := hb1.size
      clear ho1 hb1 hc1
      go_wp2_with (at_builtin; refine wp_pushM HOW.out HB1.out HO1.out rfl _ _ rfl rfl rfl (by first | with_reducible rfl | simp) (by omega) (by rw [List.length_take]; omega) ?_; intro v' w3 ho3 hb3)
      go_roundw
      case rel => exact ⟨k + 1, by omega, by go_num, by rw [HT.out]; exact ho3, (HB.out.trans (HB1.out.mono hsz)).trans hb3⟩
      case measure => simp [intOf]; omega
    · obtain rfl : k = xss.length := by omega
      have HOW := Lib.hid hown
      have HB := Lib.hid hbel
      clear hown hbel
      go_wp2_with fail
      go_ret
      exact ⟨_, rfl, by have h := HOW.out; rw [List.take_length] at h; exact h, HB.out⟩
end Go.Proofs.Ytmbcncmmgfnlmaa
