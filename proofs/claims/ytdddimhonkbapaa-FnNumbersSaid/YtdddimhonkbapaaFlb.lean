/- Walks of the prime field's functions, second part: quotients, powers, orders, roots, logarithms, short fractions. -/
import Derived.Test.YtdddimhonkbapaaSl
namespace Go.Proofs.Ytdddimhonkbapaa
open Go.RowKit

theorem iinv_zero : iinv 0 = 0 := by rw [iinv_nat]; exact congrArg Int.ofNat Fus.inv_zero
theorem one_iinv (x : Int) : 1 * iinv x % 55441 = iinv x := by have := iinv_bd x; omega

theorem c_DivideNumbers (a b : Int) (w : World) :
    Calls Try.prog 18 #[.int .i64 a, .int .i64 b] w fun e w' => e = .returned (two (divN a b)) ∧ Below w.heap.size w w' := by
  cases hab : isNum a && isNum b
  · have H : Hid (divN a b = (0, 2)) := Lib.hid (both_no (by simpa using hab))
    go_enter Try.func18, Try.ntmps18
    go_wp2_with (go_at_call 48; refine (c_areNumbers _ [a, b] _ (ints_two _ a b _)).mono ?_; rintro e w' ⟨rfl, hb⟩; rw [all_two, hab])
    go_ret2
    exact ⟨ret_two H.out, below_after hb⟩
  · have ha := isNum_true (n := a) (by simp_all)
    have hb' := isNum_true (n := b) (by simp_all)
    obtain ⟨ha1, ha2⟩ := ha
    obtain ⟨hb1, hb2⟩ := hb'
    have HU : Hid (divN a b = if b = 0 then (0, 5) else (a * iinv b % 55441, 0)) := Lib.hid (both_yes (by simp_all) (by simp_all))
    by_cases h0 : b = 0
    · have H0 : (b == 0) = true := by simp [h0]
      have H : Hid (divN a b = (0, 5)) := Lib.hid (by rw [HU.out, if_pos h0])
      clear h0
      go_enter Try.func18, Try.ntmps18
      go_wp2_with (go_at_call 48; refine (c_areNumbers _ [a, b] _ (ints_two _ a b _)).mono ?_; rintro e w' ⟨rfl, hb⟩; rw [all_two, hab])
      go_ret2
      exact ⟨ret_two H.out, below_after hb⟩
    · have H0 : (b == 0) = false := by simp [h0]
      have H : Hid (divN a b = (a * iinv b % 55441, 0)) := Lib.hid (by rw [HU.out, if_neg h0])
      clear h0
      go_enter Try.func18, Try.ntmps18
      go_wp2_with (first | (go_at_call 48; refine (c_areNumbers _ [a, b] _ (ints_two _ a b _)).mono ?_; rintro e w' ⟨rfl, hb⟩; rw [all_two, hab]) | (go_at_call 51; refine (c_divide _ _ _ ha1 ha2 hb1 hb2).mono ?_; rintro e w' ⟨rfl, rfl⟩))
      go_ret2
      exact ⟨ret_two H.out, below_after hb⟩
theorem c_SDivideNumbers (a b : Int) (w : World) :
    Calls Try.prog 19 #[.int .i64 a, .int .i64 b] w fun e w' => e = .returned (two (divN a b)) ∧ w = w' := by
  cases ha : isNum a
  · have H : Hid (divN a b = (0, 2)) := Lib.hid (both_no (by simp [ha]))
    go_enter Try.func19, Try.ntmps19
    go_wp2_with (go_at_call 41; refine (c_l01Number _ _).mono ?_; rintro e w' ⟨rfl, rfl⟩)
    go_ret2
    exact ⟨ret_two H.out, rfl⟩
  · cases hb : isNum b
    · have H : Hid (divN a b = (0, 2)) := Lib.hid (both_no (by simp [hb]))
      go_enter Try.func19, Try.ntmps19
      go_wp2_with (go_at_call 41; refine (c_l01Number _ _).mono ?_; rintro e w' ⟨rfl, rfl⟩)
      go_ret2
      exact ⟨ret_two H.out, rfl⟩
    · have ha' := isNum_true ha
      have hb' := isNum_true hb
      obtain ⟨ha1, ha2⟩ := ha'
      obtain ⟨hb1, hb2⟩ := hb'
      have hi := iinv_bd b
      obtain ⟨hi1, hi2⟩ := hi
      have hpr := prod_bd ha1 ha2 hi1 hi2
      obtain ⟨hpr1, hpr2⟩ := hpr
      have HU : Hid (divN a b = if b = 0 then (0, 5) else (a * iinv b % 55441, 0)) := Lib.hid (both_yes (by simp_all) (by simp_all))
      by_cases h0 : b = 0
      · have H0 : (b == 0) = true := by simp [h0]
        have H : Hid (divN a b = (0, 5)) := Lib.hid (by rw [HU.out, if_pos h0])
        clear h0
        go_enter Try.func19, Try.ntmps19
        go_wp2_with (go_at_call 41; refine (c_l01Number _ _).mono ?_; rintro e w' ⟨rfl, rfl⟩)
        go_ret2
        exact ⟨ret_two H.out, rfl⟩
      · have H0 : (b == 0) = false := by simp [h0]
        have H : Hid (divN a b = (a * iinv b % 55441, 0)) := Lib.hid (by rw [HU.out, if_neg h0])
        clear h0
        go_enter Try.func19, Try.ntmps19
        go_wp2_with (first | (go_at_call 41; refine (c_l01Number _ _).mono ?_; rintro e w' ⟨rfl, rfl⟩) | (go_at_call 52; refine (c_l01Inv _ _ hb1 hb2).mono ?_; rintro e w' ⟨rfl, rfl⟩))
        go_ret2
        exact ⟨ret_two H.out, rfl⟩

/-- a power with an exponent of whatever sign -/
def zpw (a k : Int) : Int := if k < 0 then iinv (ipw a (-k)) else ipw a k
theorem iinv_ipw (a k : Int) : iinv (ipw a k) = ipw (iinv a) k := by
  rw [iinv_nat, ipw_eq, ipw_eq, iinv_nat]
  simp only [Int.toNat_natCast]
  unfold Fus.inv
  rw [Fus.pw_pw, Fus.pw_pw, Nat.mul_comm]
def powN (a k : Int) : Int × Int :=
  if isNum a = true ∧ inR (-1000000) 1000000 k = true then (if a = 0 ∧ k < 0 then (0, 5) else (zpw a k, 0)) else (0, 2)

theorem c_PowerNumber (a k : Int) (w : World) :
    Calls Try.prog 31 #[.int .i64 a, .int .i64 k] w fun e w' => e = .returned (two (powN a k)) ∧ w = w' := by
  cases ha : isNum a
  · have H : Hid (powN a k = (0, 2)) := Lib.hid (by unfold powN; rw [if_neg (by simp [ha])])
    go_enter Try.func31, Try.ntmps31
    go_wp2_with (first | (go_at_call 20; refine (c_IsNumber _ _).mono ?_; rintro e w' ⟨rfl, rfl⟩) | (go_at_call 53; refine (c_within _ _ _ _).mono ?_; rintro e w' ⟨rfl, rfl⟩))
    go_ret2
    exact ⟨ret_two H.out, rfl⟩
  · cases hk : inR (-1000000) 1000000 k
    · have H : Hid (powN a k = (0, 2)) := Lib.hid (by unfold powN; rw [if_neg (by simp [hk])])
      go_enter Try.func31, Try.ntmps31
      go_wp2_with (first | (go_at_call 20; refine (c_IsNumber _ _).mono ?_; rintro e w' ⟨rfl, rfl⟩) | (go_at_call 53; refine (c_within _ _ _ _).mono ?_; rintro e w' ⟨rfl, rfl⟩))
      go_ret2
      exact ⟨ret_two H.out, rfl⟩
    · have HU : Hid (powN a k = if a = 0 ∧ k < 0 then (0, 5) else (zpw a k, 0)) := Lib.hid (by unfold powN; rw [if_pos ⟨ha, hk⟩])
      have ha' := isNum_true ha
      obtain ⟨ha1, ha2⟩ := ha'
      have hk' := inR_true hk
      obtain ⟨hk1, hk2⟩ := hk'
      have hp := ipw_bd a (-k)
      obtain ⟨hp1, hp2⟩ := hp
      have hi := iinv_bd a
      obtain ⟨hi1, hi2⟩ := hi
      by_cases h0 : a = 0
      · have H0 : (a == 0) = true := by simp [h0]
        by_cases hn : k < 0
        · have H : Hid (powN a k = (0, 5)) := Lib.hid (by rw [HU.out, if_pos ⟨h0, hn⟩])
          clear h0
          go_enter Try.func31, Try.ntmps31
          go_wp2_with (first | (go_at_call 20; refine (c_IsNumber _ _).mono ?_; rintro e w' ⟨rfl, rfl⟩) | (go_at_call 53; refine (c_within _ _ _ _).mono ?_; rintro e w' ⟨rfl, rfl⟩))
          go_ret2
          exact ⟨ret_two H.out, rfl⟩
        · have H : Hid (powN a k = (ipw a k, 0)) := Lib.hid (by rw [HU.out, if_neg (fun h => hn h.2), zpw, if_neg hn])
          clear h0
          go_enter Try.func31, Try.ntmps31
          go_wp2_with (first | (go_at_call 20; refine (c_IsNumber _ _).mono ?_; rintro e w' ⟨rfl, rfl⟩) | (go_at_call 53; refine (c_within _ _ _ _).mono ?_; rintro e w' ⟨rfl, rfl⟩) | (go_at_call 60; refine (c_power a k _ ha1 ha2 (by omega) (by omega)).mono ?_; rintro e w' ⟨rfl, rfl⟩))
          go_ret2
          exact ⟨ret_two H.out, rfl⟩
      · have H0 : (a == 0) = false := by simp [h0]
        by_cases hn : k < 0
        · have H : Hid (powN a k = (iinv (ipw a (-k)), 0)) := Lib.hid (by rw [HU.out, if_neg (fun h => h0 h.1), zpw, if_pos hn])
          clear h0
          go_enter Try.func31, Try.ntmps31
          go_wp2_with (first | (go_at_call 20; refine (c_IsNumber _ _).mono ?_; rintro e w' ⟨rfl, rfl⟩) | (go_at_call 53; refine (c_within _ _ _ _).mono ?_; rintro e w' ⟨rfl, rfl⟩) | (go_at_call 60; refine (c_power a (-k) _ ha1 ha2 (by omega) (by omega)).mono ?_; rintro e w' ⟨rfl, rfl⟩) | (go_at_call 51; refine (c_divide 1 (ipw a (-k)) _ (by omega) (by omega) hp1 hp2).mono ?_; rintro e w' ⟨rfl, rfl⟩; rw [one_iinv]))
          go_ret2
          exact ⟨ret_two H.out, rfl⟩
        · have H : Hid (powN a k = (ipw a k, 0)) := Lib.hid (by rw [HU.out, if_neg (fun h => h0 h.1), zpw, if_neg hn])
          clear h0
          go_enter Try.func31, Try.ntmps31
          go_wp2_with (first | (go_at_call 20; refine (c_IsNumber _ _).mono ?_; rintro e w' ⟨rfl, rfl⟩) | (go_at_call 53; refine (c_within _ _ _ _).mono ?_; rintro e w' ⟨rfl, rfl⟩) | (go_at_call 60; refine (c_power a k _ ha1 ha2 (by omega) (by omega)).mono ?_; rintro e w' ⟨rfl, rfl⟩))
          go_ret2
          exact ⟨ret_two H.out, rfl⟩

end Go.Proofs.Ytdddimhonkbapaa
