/- Walks: is a number in a list. -/
import Derived.Test.YtckcjlophnehmaaMrk
namespace Go.Proofs.Ytckcjlophnehmaa
open Go.RowKit

theorem c_l01Index (v : Value) (xs : List Int) (n : Int) (w : World) (hv : Ints w v xs) :
    Calls Try.prog 46 #[v, .int .i64 n] w fun e w' => e = .returned (.int .i64 (idxOf (firstAt (fun x => x == n) xs))) ∧ w = w' := by
  obtain ⟨a, cap, rfl, hl, hc⟩ := hv
  have HC := Lib.hid hc
  clear hc
  go_enter Try.func46, Try.ntmps46
  go_wp2_with fail
  go_loop [5] (fun i => ∃ j : Nat, j ≤ xs.length ∧ i = .int .i64 j ∧ Hid (∀ (i : Nat) x, i < j → xs[i]? = some x → (x == n) = false)) (fun i => xs.length - (intOf i).toNat)
  case atStart => exact ⟨0, Nat.zero_le _, rfl, fun i x hi => absurd hi (Nat.not_lt_zero _)⟩
  case round =>
    obtain ⟨j, hj, rfl, H⟩ := hrel
    by_cases hlt : j < xs.length
    · obtain ⟨x, hx⟩ : ∃ x, xs[j]? = some x := ⟨xs[j], by simp [hlt]⟩
      obtain ⟨b, off, rfl, hcell⟩ := HC.out j x hx
      have HX := Lib.hid hx
      clear hx
      cases hp : (x == n)
      · have HP := Lib.hid hp
        go_wp2_with fail
        go_round
        case rel =>
          refine ⟨j + 1, by omega, by go_num, fun i y hi hy => ?_⟩
          by_cases e : i = j
          · subst e; rw [HX.out] at hy; cases hy; exact HP.out
          · exact H.out i y (by omega) hy
        case measure => simp [intOf]; omega
      · have HP := Lib.hid hp
        go_wp2_with fail
        go_ret
        exact ⟨ret_int (by rw [firstAt_some (k := j) H.out HX.out HP.out]; rfl), rfl⟩
    · go_wp2_with fail
      go_ret
      exact ⟨ret_int (by rw [firstAt_none (fun i x hx => H.out i x (by have := (List.getElem?_eq_some_iff.1 hx).1; omega) hx)]; rfl), rfl⟩
theorem c_l01Has (v : Value) (xs : List Int) (n : Int) (w : World) (hv : Ints w v xs) :
    Calls Try.prog 27 #[v, .int .i64 n] w fun e w' => e = .returned (.bool (xs.any (fun x => x == n))) ∧ w = w' := by
  have HI := Lib.hid (idx_any (fun x => x == n) xs)
  go_enter Try.func27, Try.ntmps27
  go_wp2_with (go_at_call 46; refine (c_l01Index v xs n _ hv).mono ?_; rintro e w' ⟨rfl, rfl⟩)
  go_ret
  exact ⟨ret_bool HI.out, rfl⟩
theorem c_Index (v : Value) (xs : List Int) (n : Int) (w : World) (hv : Ints w v xs) :
    Calls Try.prog 48 #[v, .int .i64 n] w fun e w' => e = .returned (.int .i64 (idxOf (firstAt (fun x => n == x) xs))) ∧ w = w' := by
  obtain ⟨a, cap, rfl, hl, hc⟩ := hv
  have HC := Lib.hid hc
  clear hc
  go_enter Try.func48, Try.ntmps48
  go_wp2_with fail
  go_loop [8] (fun i => ∃ j : Nat, j ≤ xs.length ∧ i = .int .i64 j ∧ Hid (∀ (i : Nat) x, i < j → xs[i]? = some x → (n == x) = false)) (fun i => xs.length - (intOf i).toNat)
  case atStart => exact ⟨0, Nat.zero_le _, rfl, fun i x hi => absurd hi (Nat.not_lt_zero _)⟩
  case round =>
    obtain ⟨j, hj, rfl, H⟩ := hrel
    by_cases hlt : j < xs.length
    · obtain ⟨x, hx⟩ : ∃ x, xs[j]? = some x := ⟨xs[j], by simp [hlt]⟩
      obtain ⟨b, off, rfl, hcell⟩ := HC.out j x hx
      have HX := Lib.hid hx
      clear hx
      cases hp : (n == x)
      · have HP := Lib.hid hp
        go_wp2_with fail
        go_round
        case rel =>
          refine ⟨j + 1, by omega, by go_num, fun i y hi hy => ?_⟩
          by_cases e : i = j
          · subst e; rw [HX.out] at hy; cases hy; exact HP.out
          · exact H.out i y (by omega) hy
        case measure => simp [intOf]; omega
      · have HP := Lib.hid hp
        go_wp2_with fail
        go_ret
        exact ⟨ret_int (by rw [firstAt_some (k := j) H.out HX.out HP.out]; rfl), rfl⟩
    · go_wp2_with fail
      go_ret
      exact ⟨ret_int (by rw [firstAt_none (fun i x hx => H.out i x (by have := (List.getElem?_eq_some_iff.1 hx).1; omega) hx)]; rfl), rfl⟩
theorem c_Contains (v : Value) (xs : List Int) (n : Int) (w : World) (hv : Ints w v xs) :
    Calls Try.prog 30 #[v, .int .i64 n] w fun e w' => e = .returned (.bool (xs.any (fun x => n == x))) ∧ w = w' := by
  have HI := Lib.hid (idx_any (fun x => n == x) xs)
  go_enter Try.func30, Try.ntmps30
  go_wp2_with (go_at_call 48; refine (c_Index v xs n _ hv).mono ?_; rintro e w' ⟨rfl, rfl⟩)
  go_ret
  exact ⟨ret_bool HI.out, rfl⟩
theorem c_IndexN (v : Value) (xs : List Int) (n : Int) (w : World) (hv : Ints w v xs) :
    Calls Try.prog 49 #[v, .int .i64 n] w fun e w' => e = .returned (.int .i64 (idxOf (firstAt (fun x => n == x) xs))) ∧ w = w' := by
  obtain ⟨a, cap, rfl, hl, hc⟩ := hv
  have HC := Lib.hid hc
  clear hc
  go_enter Try.func49, Try.ntmps49
  go_wp2_with fail
  go_loop [8] (fun i => ∃ j : Nat, j ≤ xs.length ∧ i = .int .i64 j ∧ Hid (∀ (i : Nat) x, i < j → xs[i]? = some x → (n == x) = false)) (fun i => xs.length - (intOf i).toNat)
  case atStart => exact ⟨0, Nat.zero_le _, rfl, fun i x hi => absurd hi (Nat.not_lt_zero _)⟩
  case round =>
    obtain ⟨j, hj, rfl, H⟩ := hrel
    by_cases hlt : j < xs.length
    · obtain ⟨x, hx⟩ : ∃ x, xs[j]? = some x := ⟨xs[j], by simp [hlt]⟩
      obtain ⟨b, off, rfl, hcell⟩ := HC.out j x hx
      have HX := Lib.hid hx
      clear hx
      cases hp : (n == x)
      · have HP := Lib.hid hp
        go_wp2_with fail
        go_round
        case rel =>
          refine ⟨j + 1, by omega, by go_num, fun i y hi hy => ?_⟩
          by_cases e : i = j
          · subst e; rw [HX.out] at hy; cases hy; exact HP.out
          · exact H.out i y (by omega) hy
        case measure => simp [intOf]; omega
      · have HP := Lib.hid hp
        go_wp2_with fail
        go_ret
        exact ⟨ret_int (by rw [firstAt_some (k := j) H.out HX.out HP.out]; rfl), rfl⟩
    · go_wp2_with fail
      go_ret
      exact ⟨ret_int (by rw [firstAt_none (fun i x hx => H.out i x (by have := (List.getElem?_eq_some_iff.1 hx).1; omega) hx)]; rfl), rfl⟩
theorem c_ContainsN (v : Value) (xs : List Int) (n : Int) (w : World) (hv : Ints w v xs) :
    Calls Try.prog 31 #[v, .int .i64 n] w fun e w' => e = .returned (.bool (xs.any (fun x => n == x))) ∧ w = w' := by
  have HI := Lib.hid (idx_any (fun x => n == x) xs)
  go_enter Try.func31, Try.ntmps31
  go_wp2_with (go_at_call 49; refine (c_IndexN v xs n _ hv).mono ?_; rintro e w' ⟨rfl, rfl⟩)
  go_ret
  exact ⟨ret_bool HI.out, rfl⟩
end Go.Proofs.Ytckcjlophnehmaa
