/- Walks: bases of kernels by the program. -/
import Derived.Test.YtmbcncmmgfnlmaaRdx
import Derived.Test.YtmbcncmmgfnlmaaKrn
namespace Go.Proofs.Ytmbcncmmgfnlmaa
open Go.RowKit
attribute [local go_sem ↓] Go.wp_at_zero Go.wp_at_succ
open Fus (F Mx toI ofI toI_bd toI_of ofI_toI ofI_neg ofI_mul finv redR redR_d ld isFree frees fvec freeRows kerR sm)

def isNZ (x : Int) : Bool := x != 0
theorem c_kernel11 (x : Int) (w : World) :
    Calls Try.prog 96 #[.int .i64 x] w fun e w' => e = .returned (.bool (isNZ x)) ∧ w = w' := by
  go_enter Try.func96, Try.ntmps96
  go_wp2_with fail
  go_ret
  exact ⟨rfl, rfl⟩
theorem c_IndexFunc_nz (v : Value) (xs : List Int) (w : World) (hv : Ints w v xs) :
    Calls Try.prog 95 #[v, .func (.func 96) #[] #[]] w fun e w' => e = .returned (.int .i64 (idxOf (firstAt isNZ xs))) ∧ w = w' := by
  obtain ⟨a, cap, rfl, hl, hc⟩ := hv
  have HC := Lib.hid hc
  clear hc
  go_enter Try.func95, Try.ntmps95
  go_wp2_with fail
  go_loop [8] (fun i => ∃ k : Nat, k ≤ xs.length ∧ i = .int .i64 k ∧ Hid (∀ (i : Nat) x, i < k → xs[i]? = some x → isNZ x = false)) (fun i => xs.length - (intOf i).toNat)
  case atStart => exact ⟨0, Nat.zero_le _, rfl, fun i x hi => absurd hi (Nat.not_lt_zero _)⟩
  case round =>
    obtain ⟨k, hk, rfl, H⟩ := hrel
    by_cases hlt : k < xs.length
    · obtain ⟨x, hx⟩ : ∃ x, xs[k]? = some x := ⟨xs[k], by simp [hlt]⟩
      obtain ⟨b, off, rfl, hcell⟩ := HC.out k x hx
      have HX := Lib.hid hx
      clear hx
      cases hp : isNZ x
      · have HP := Lib.hid hp
        clear hp
        go_wp2_with fail
        refine (c_kernel11 x _).mono ?_
        rintro e w' ⟨rfl, rfl⟩
        rw [HP.out]
        go_wp2_with fail
        go_round
        case rel =>
          refine ⟨k + 1, by omega, by go_num, fun i y hi hy => ?_⟩
          by_cases e : i = k
          · subst e; rw [HX.out] at hy; cases hy; exact HP.out
          · exact H.out i y (by omega) hy
        case measure => simp [intOf]; omega
      · have HP := Lib.hid hp
        clear hp
        go_wp2_with fail
        refine (c_kernel11 x _).mono ?_
        rintro e w' ⟨rfl, rfl⟩
        rw [HP.out]
        go_wp2_with fail
        go_ret
        exact ⟨ret_int (by rw [firstAt_some (k := k) H.out HX.out HP.out]; rfl), rfl⟩
    · go_wp2_with fail
      go_ret
      exact ⟨ret_int (by rw [firstAt_none (fun i x hx => H.out i x (by have := (List.getElem?_eq_some_iff.1 hx).1; omega) hx)]; rfl), rfl⟩
/-- does a row begin in column k -/
def leadAt (k : Nat) (xs : List Int) : Bool := idxOf (firstAt isNZ xs) == (k : Int)
theorem c_kernel1 (v : Value) (xs : List Int) (a : Addr) (k : Nat) (w : World) (hv : Ints w v xs) (ha : w.cell? a = some (.int .i64 k)) :
    Calls Try.prog 94 #[v, .pointer (some a)] w fun e w' => e = .returned (.bool (leadAt k xs)) ∧ ∃ n, w' = w.drewN n := by
  have HQ : Hid (∀ w1 : World, w1.heap = w.heap → Calls Try.prog 95 #[v, .func (.func 96) #[] #[]] w1 fun e w' => e = .returned (.int .i64 (idxOf (firstAt isNZ xs))) ∧ w' = w1) := Lib.hid (fun w1 hw => (c_IndexFunc_nz v xs w1 (hv.ofHeap hw)).mono (fun e w' hh => ⟨hh.1, hh.2.symm⟩))
  obtain ⟨ad, cap, rfl, _, _⟩ := hv
  go_enter Try.func94, Try.ntmps94
  go_wp2_with fail
  go_quiet ((go_at_call 95; exact Calls.quiet_of_same (HQ.out _ rfl)))
  go_wp2_with fail
  go_ret
  exact ⟨rfl, _, rfl⟩
theorem c_IndexFunc_ker (v : Value) (m : List (List Int)) (a : Addr) (k : Nat) (w : World) (hv : IntRows w v m) (ha : w.cell? a = some (.int .i64 k)) :
    Calls Try.prog 105 #[v, .func (.func 94) #[] #[.pointer (some a)]] w fun e w' =>
      e = .returned (.int .i64 (idxOf (firstAt (leadAt k) m))) ∧ Drew w w' := by
  obtain ⟨ad, cap, rfl, hl, hc⟩ := hv
  have HC := Lib.hid hc
  clear hc
  go_enter Try.func105, Try.ntmps105
  go_wp2_with fail
  go_loopw [8] (fun i wr => ∃ j : Nat, j ≤ m.length ∧ i = .int .i64 j ∧ Hid (∀ (i : Nat) x, i < j → m[i]? = some x → leadAt k x = false) ∧ Drew w wr) (fun i _ => m.length - (intOf i).toNat)
  case atStart => exact ⟨0, Nat.zero_le _, rfl, fun i x hi => absurd hi (Nat.not_lt_zero _), Drew.refl _⟩
  case round =>
    obtain ⟨j, hj, rfl, H, hd⟩ := hrel
    by_cases hlt : j < m.length
    · obtain ⟨x, hx⟩ : ∃ x, m[j]? = some x := ⟨m[j], by simp [hlt]⟩
      obtain ⟨b, off, u, rfl, hcell, hI⟩ := HC.out j x hx
      have h1 := hd.cell hcell
      have h2 := hd.cell ha
      have HI := Lib.hid (hI.ofHeap hd.heap)
      have HX := Lib.hid hx
      have HD := Lib.hid hd
      clear hx hI hd hcell
      cases hp : leadAt k x
      · have HP := Lib.hid hp
        clear hp
        go_wp2_with fail
        refine (c_kernel1 u x _ k _ HI.out h2).mono ?_
        rintro e w1 ⟨rfl, nd, rfl⟩
        rw [HP.out]
        go_wp2_with fail
        go_roundw
        case rel =>
          refine ⟨j + 1, by omega, by go_num, fun i y hi hy => ?_, HD.out.more _⟩
          by_cases e : i = j
          · subst e; rw [HX.out] at hy; cases hy; exact HP.out
          · exact H.out i y (by omega) hy
        case measure => simp [intOf]; omega
      · have HP := Lib.hid hp
        clear hp
        go_wp2_with fail
        refine (c_kernel1 u x _ k _ HI.out h2).mono ?_
        rintro e w1 ⟨rfl, nd, rfl⟩
        rw [HP.out]
        go_wp2_with fail
        go_ret
        exact ⟨ret_int (by rw [firstAt_some (k := j) H.out HX.out HP.out]; rfl), HD.out.more _⟩
    · have HD := Lib.hid hd
      clear hd
      go_wp2_with fail
      go_ret
      exact ⟨ret_int (by rw [firstAt_none (fun i x hx => H.out i x (by have := (List.getElem?_eq_some_iff.1 hx).1; omega) hx)]; rfl), HD.out⟩
theorem c_ContainsFunc_ker (v : Value) (m : List (List Int)) (a : Addr) (k : Nat) (w : World) (hv : IntRows w v m) (ha : w.cell? a = some (.int .i64 k)) :
    Calls Try.prog 91 #[v, .func (.func 94) #[] #[.pointer (some a)]] w fun e w' =>
      e = .returned (.bool (m.any (leadAt k))) ∧ Drew w w' := by
  have HI := Lib.hid (idx_any (leadAt k) m)
  go_enter Try.func91, Try.ntmps91
  go_wp2_with fail
  refine (c_IndexFunc_ker v m a k _ hv ha).mono ?_
  rintro e w' ⟨rfl, hd⟩
  have HD := Lib.hid hd
  clear hd
  go_wp2_with fail
  go_ret
  exact ⟨ret_bool HI.out, HD.out⟩
theorem idxOf_least {c : Nat} (p : F → Bool) (q : Int → Bool) (hpq : ∀ a, q (toI a) = p a) (f : Nat → F) {i : Nat} (h : Fus.leastR (fun j => p (f j)) c = some i) : idxOf (firstAt q (zl c f)) = (i : Int) := by
  rcases Fus.leastR_cases (fun j => p (f j)) c with ⟨k, h1, h2, h3, h4⟩ | ⟨_, h2⟩
  · rw [h] at h4
    cases h4
    rw [firstAt_some (k := i) (y := toI (f i)) (fun j x hj hx => ?_) (zl_at f h1) (by rw [hpq]; exact h2)]
    · rfl
    · rw [zl_at f (by omega)] at hx; cases hx; rw [hpq]; exact h3 j hj
  · rw [h2] at h; cases h
/-- no row of the basis begins in a free column -/
theorem any_lead {r c d : Nat} {G : Mx} {p : Nat → Nat} (h : Fus.Red r c G d p) (k : Nat) : (tabF d c G).any (leadAt k) = !(isFree G c d k) := by
  unfold tabF vec isFree
  rw [List.any_map, List.not_all_eq_any_not, Bool.eq_iff_iff, List.any_eq_true, List.any_eq_true]
  have key : ∀ i, i < d → (leadAt k (zl c (G i)) = true ↔ (!(ld G c i != k)) = true) := fun i hi => by
    have e := (Fus.ld_red h hi)
    have := idxOf_least (fun x => x != 0) isNZ (fun a => by
      unfold isNZ
      by_cases ha : a = 0
      · rw [ha, Fus.toI_zero]; simp
      · have : toI a ≠ 0 := fun e => ha (toI_zero e)
        rw [bne_iff_ne.2 ha, bne_iff_ne.2 this]) (G i) e.2
    unfold leadAt
    rw [this, e.1]
    by_cases hk : p i = k
    · simp [hk]
    · have h1 : ¬ ((p i : Int) = (k : Int)) := by omega
      rw [beq_eq_false_iff_ne.2 h1]; simp [hk]
  constructor
  · rintro ⟨i, hi, hx⟩; exact ⟨i, hi, (key i (List.mem_range.1 hi)).1 hx⟩
  · rintro ⟨i, hi, hx⟩; exact ⟨i, hi, (key i (List.mem_range.1 hi)).2 hx⟩
theorem c_Index (v : Value) (xs : List Int) (n : Int) (w : World) (hv : Ints w v xs) :
    Calls Try.prog 98 #[v, .int .i64 n] w fun e w' => e = .returned (.int .i64 (idxOf (firstAt (fun x => n == x) xs))) ∧ w = w' := by
  obtain ⟨a, cap, rfl, hl, hc⟩ := hv
  have HC := Lib.hid hc
  clear hc
  go_enter Try.func98, Try.ntmps98
  go_wp2_with fail
  go_loop [8] (fun i => ∃ j : Nat, j ≤ xs.length ∧ i = .int .i64 j ∧ Hid (∀ (i : Nat) x, i < j → xs[i]? = some x → (n == x) = false)) (fun i => xs.length - (intOf i).toNat)
  case atStart => exact ⟨0, Nat.zero_le _, rfl, fun i x hi => absurd hi (Nat.not_lt_zero _)⟩
  case round =>
    obtain ⟨j, hj, rfl, H⟩ := hrel
    by_cases hlt : j < xs.length
    · obtain ⟨x, hx⟩ : ∃ x, xs[j]? = some x := ⟨xs[j], by simp [hlt]⟩
      obtain ⟨b, off, rfl, hcell⟩ := HC.out j x hx
      have HX := Lib.hid hx
      clear hx
      cases hp : (n == x)
      · have HP := Lib.hid hp
        go_wp2_with fail
        go_round
        case rel =>
          refine ⟨j + 1, by omega, by go_num, fun i y hi hy => ?_⟩
          by_cases e : i = j
          · subst e; rw [HX.out] at hy; cases hy; exact HP.out
          · exact H.out i y (by omega) hy
        case measure => simp [intOf]; omega
      · have HP := Lib.hid hp
        go_wp2_with fail
        go_ret
        exact ⟨ret_int (by rw [firstAt_some (k := j) H.out HX.out HP.out]; rfl), rfl⟩
    · go_wp2_with fail
      go_ret
      exact ⟨ret_int (by rw [firstAt_none (fun i x hx => H.out i x (by have := (List.getElem?_eq_some_iff.1 hx).1; omega) hx)]; rfl), rfl⟩
theorem index_one {r c d : Nat} {G : Mx} {p : Nat → Nat} (h : Fus.Red r c G d p) {i : Nat} (hi : i < d) : idxOf (firstAt (fun x => (1 : Int) == x) (zl c (G i))) = (ld G c i : Int) := by
  rw [(Fus.ld_red h hi).1]
  exact idxOf_least (fun x => x == 1) (fun x => (1 : Int) == x) (fun a => by
    by_cases ha : a = 1
    · rw [ha, Fus.toI_one]; simp
    · have : ¬ (1 : Int) = toI a := fun e => ha (Fus.toI_inj (by rw [← e, Fus.toI_one]))
      rw [beq_eq_false_iff_ne.2 this, beq_eq_false_iff_ne.2 ha]) (G i) (Fus.ld_one h hi)
end Go.Proofs.Ytmbcncmmgfnlmaa
