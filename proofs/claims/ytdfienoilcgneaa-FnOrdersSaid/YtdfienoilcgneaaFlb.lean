/- Walks of the prime field's functions, second part: quotients, powers, orders, roots, logarithms, short fractions. -/
import Derived.Test.YtdfienoilcgneaaSl
namespace Go.Proofs.Ytdfienoilcgneaa
open Go.RowKit

theorem iinv_zero : iinv 0 = 0 := by rw [iinv_nat]; exact congrArg Int.ofNat Fus.inv_zero
theorem one_iinv (x : Int) : 1 * iinv x % 55441 = iinv x := by have := iinv_bd x; omega


/-- a power with an exponent of whatever sign -/
def zpw (a k : Int) : Int := if k < 0 then iinv (ipw a (-k)) else ipw a k
theorem iinv_ipw (a k : Int) : iinv (ipw a k) = ipw (iinv a) k := by
  rw [iinv_nat, ipw_eq, ipw_eq, iinv_nat]
  simp only [Int.toNat_natCast]
  unfold Fus.inv
  rw [Fus.pw_pw, Fus.pw_pw, Nat.mul_comm]
def powN (a k : Int) : Int × Int :=
  if isNum a = true ∧ inR (-1000000) 1000000 k = true then (if a = 0 ∧ k < 0 then (0, 5) else (zpw a k, 0)) else (0, 2)

theorem c_PowerNumber (a k : Int) (w : World) :
    Calls Try.prog 19 #[.int .i64 a, .int .i64 k] w fun e w' => e = .returned (two (powN a k)) ∧ w = w' := by
  cases ha : isNum a
  · have H : Hid (powN a k = (0, 2)) := Lib.hid (by unfold powN; rw [if_neg (by simp [ha])])
    go_enter Try.func19, Try.ntmps19
    go_wp2_with (first | (go_at_call 22; refine (c_IsNumber _ _).mono ?_; rintro e w' ⟨rfl, rfl⟩) | (go_at_call 36; refine (c_within _ _ _ _).mono ?_; rintro e w' ⟨rfl, rfl⟩))
    go_ret2
    exact ⟨ret_two H.out, rfl⟩
  · cases hk : inR (-1000000) 1000000 k
    · have H : Hid (powN a k = (0, 2)) := Lib.hid (by unfold powN; rw [if_neg (by simp [hk])])
      go_enter Try.func19, Try.ntmps19
      go_wp2_with (first | (go_at_call 22; refine (c_IsNumber _ _).mono ?_; rintro e w' ⟨rfl, rfl⟩) | (go_at_call 36; refine (c_within _ _ _ _).mono ?_; rintro e w' ⟨rfl, rfl⟩))
      go_ret2
      exact ⟨ret_two H.out, rfl⟩
    · have HU : Hid (powN a k = if a = 0 ∧ k < 0 then (0, 5) else (zpw a k, 0)) := Lib.hid (by unfold powN; rw [if_pos ⟨ha, hk⟩])
      have ha' := isNum_true ha
      obtain ⟨ha1, ha2⟩ := ha'
      have hk' := inR_true hk
      obtain ⟨hk1, hk2⟩ := hk'
      have hp := ipw_bd a (-k)
      obtain ⟨hp1, hp2⟩ := hp
      have hi := iinv_bd a
      obtain ⟨hi1, hi2⟩ := hi
      by_cases h0 : a = 0
      · have H0 : (a == 0) = true := by simp [h0]
        by_cases hn : k < 0
        · have H : Hid (powN a k = (0, 5)) := Lib.hid (by rw [HU.out, if_pos ⟨h0, hn⟩])
          clear h0
          go_enter Try.func19, Try.ntmps19
          go_wp2_with (first | (go_at_call 22; refine (c_IsNumber _ _).mono ?_; rintro e w' ⟨rfl, rfl⟩) | (go_at_call 36; refine (c_within _ _ _ _).mono ?_; rintro e w' ⟨rfl, rfl⟩))
          go_ret2
          exact ⟨ret_two H.out, rfl⟩
        · have H : Hid (powN a k = (ipw a k, 0)) := Lib.hid (by rw [HU.out, if_neg (fun h => hn h.2), zpw, if_neg hn])
          clear h0
          go_enter Try.func19, Try.ntmps19
          go_wp2_with (first | (go_at_call 22; refine (c_IsNumber _ _).mono ?_; rintro e w' ⟨rfl, rfl⟩) | (go_at_call 36; refine (c_within _ _ _ _).mono ?_; rintro e w' ⟨rfl, rfl⟩) | (go_at_call 38; refine (c_power a k _ ha1 ha2 (by omega) (by omega)).mono ?_; rintro e w' ⟨rfl, rfl⟩))
          go_ret2
          exact ⟨ret_two H.out, rfl⟩
      · have H0 : (a == 0) = false := by simp [h0]
        by_cases hn : k < 0
        · have H : Hid (powN a k = (iinv (ipw a (-k)), 0)) := Lib.hid (by rw [HU.out, if_neg (fun h => h0 h.1), zpw, if_pos hn])
          clear h0
          go_enter Try.func19, Try.ntmps19
          go_wp2_with (first | (go_at_call 22; refine (c_IsNumber _ _).mono ?_; rintro e w' ⟨rfl, rfl⟩) | (go_at_call 36; refine (c_within _ _ _ _).mono ?_; rintro e w' ⟨rfl, rfl⟩) | (go_at_call 38; refine (c_power a (-k) _ ha1 ha2 (by omega) (by omega)).mono ?_; rintro e w' ⟨rfl, rfl⟩) | (go_at_call 37; refine (c_divide 1 (ipw a (-k)) _ (by omega) (by omega) hp1 hp2).mono ?_; rintro e w' ⟨rfl, rfl⟩; rw [one_iinv]))
          go_ret2
          exact ⟨ret_two H.out, rfl⟩
        · have H : Hid (powN a k = (ipw a k, 0)) := Lib.hid (by rw [HU.out, if_neg (fun h => h0 h.1), zpw, if_neg hn])
          clear h0
          go_enter Try.func19, Try.ntmps19
          go_wp2_with (first | (go_at_call 22; refine (c_IsNumber _ _).mono ?_; rintro e w' ⟨rfl, rfl⟩) | (go_at_call 36; refine (c_within _ _ _ _).mono ?_; rintro e w' ⟨rfl, rfl⟩) | (go_at_call 38; refine (c_power a k _ ha1 ha2 (by omega) (by omega)).mono ?_; rintro e w' ⟨rfl, rfl⟩))
          go_ret2
          exact ⟨ret_two H.out, rfl⟩

end Go.Proofs.Ytdfienoilcgneaa
