/- Walks of the prime field's functions, sixth part: orders and logarithms of the program, with their codes. -/
import Derived.Test.YtdfienoilcgneaaFlf
namespace Go.Proofs.Ytdfienoilcgneaa
open Go.RowKit

set_option maxHeartbeats 1000000 in
theorem c_orderOf (a : Int) (w : World) (ha1 : 0 ≤ a) (ha2 : a < 55441) :
    Calls Try.prog 26 #[.int .i64 a] w fun e w' => e = .returned (.int .i64 (iord a)) ∧ Below w.heap.size w w' := by
  have HC := Lib.hid (ordP_cell w 2)
  have HB := below_alloc w (.cells #[.int .i64 2, .int .i64 3, .int .i64 5, .int .i64 7, .int .i64 11] 2)
  go_enter Try.func26, Try.ntmps26
  go_wp2_with fail
  go_loop [3, 8] (fun o i => ∃ k : Nat, k ≤ 5 ∧ i = .int .i64 k ∧ o = .int .i64 (ordK a.toNat k : Nat)) (fun _ i => 5 - (intOf i).toNat)
  case atStart => exact ⟨0, by omega, rfl, rfl⟩
  case round =>
    obtain ⟨k, hk, rfl, rfl⟩ := hrel
    by_cases hlt : k < 5
    · obtain ⟨p, hp⟩ : ∃ p, ordP[k]? = some p := ⟨ordP[k], by simp [ordP]⟩
      have hcell := HC.out k p hp
      have hb := ordP_bd hp
      obtain ⟨hp2, hp11, _⟩ := hb
      have HP := Lib.hid hp
      have HS := Lib.hid (stripRel_start a.toNat k p hp)
      clear hp
      have hob := ordK_bd a.toNat k
      obtain ⟨hob1, hob2⟩ := hob
      go_wp2_with fail
      go_loop [3] (fun o => ∃ o' : Int, o = .int .i64 o' ∧ stripRel a.toNat p o' (ordK a.toNat (k + 1))) (fun o => (intOf o).toNat)
      case atStart => exact ⟨_, rfl, HS.out⟩
      case round =>
        obtain ⟨o, rfl, hr⟩ := hrel
        have ho1 := hr.1
        have ho2 := hr.2.1
        have HR := Lib.hid hr
        clear hr
        have hd1 : 0 ≤ o / p := Int.ediv_nonneg (by omega) (by omega)
        have hd2 : o / p ≤ o := Int.ediv_le_self _ (by omega)
        by_cases hm : o % p = 0
        · have hmB : (o % p == 0) = true := by simp [hm]
          have HM := Lib.hid hm
          clear hm
          by_cases hw : ipw a (o / p) = 1
          · have hwB : (ipw a (o / p) == 1) = true := by simp [hw]
            have HW := Lib.hid hw
            clear hw
            go_wp2_with (go_at_call 38; refine (c_power a (o / p) _ ha1 ha2 hd1 (by omega)).mono ?_; rintro e w' ⟨rfl, rfl⟩)
            go_round
            case rel => exact ⟨_, rfl, stripRel_go hp2 HR.out HM.out (by rw [← toNat_div _ _ (by omega) (by omega)]; exact ipw_one HW.out)⟩
            case measure =>
              have : o / p < o := Int.ediv_lt_of_lt_mul (by omega) (by have := Int.mul_le_mul_of_nonneg_left hp2 (show 0 ≤ o by omega); omega)
              simp [intOf]; omega
          · have hwB : (ipw a (o / p) == 1) = false := by simp [hw]
            have HE : Hid ((ordK a.toNat (k + 1) : Nat) = o) := Lib.hid (stripRel_end HR.out (fun h => ipw_not_one hw (by rw [toNat_div _ _ (by omega) (by omega)]; exact h.2)))
            clear hw
            go_wp2_with (go_at_call 38; refine (c_power a (o / p) _ ha1 ha2 hd1 (by omega)).mono ?_; rintro e w' ⟨rfl, rfl⟩)
            go_round
            case rel => exact ⟨k + 1, by omega, by go_num, by rw [HE.out]⟩
            case measure => simp [intOf]; omega
        · have hmB : (o % p == 0) = false := by simp [hm]
          have HE : Hid ((ordK a.toNat (k + 1) : Nat) = o) := Lib.hid (stripRel_end HR.out (fun h => hm (by have := toNat_mod o p (by omega) (by omega); have hnn : 0 ≤ o % p := Int.emod_nonneg _ (by omega); omega)))
          clear hm
          go_wp2_with fail
          go_round
          case rel => exact ⟨k + 1, by omega, by go_num, by rw [HE.out]⟩
          case measure => simp [intOf]; omega
    · have hk5 : k = 5 := by omega
      subst hk5
      go_wp2_with fail
      go_ret
      exact ⟨ret_int (by rw [iord_eq, ← ordK_5]), HB⟩
def ordNum (a : Int) : Int × Int := if isNum a = true then (if a = 0 then (0, 5) else (iord a, 0)) else (0, 2)
/-- the logarithm of a number -/
def ilog (a : Int) : Int := (Fus.logN a.toNat : Nat)
def logNum (a : Int) : Int × Int := if isNum a = true then (if a = 0 then (0, 5) else (ilog a, 0)) else (0, 2)
theorem log_spec {a : Int} (h1 : 1 ≤ a) (h2 : a < 55441) : ((Fus.logN a.toNat : Nat) : Int) < 55440 ∧ ((Fus.pw 38 (Fus.logN a.toNat) : Nat) : Int) = a ∧ ∀ j : Nat, j < Fus.logN a.toNat → ((Fus.pw 38 j : Nat) : Int) ≠ a := by
  obtain ⟨h3, h4, h5⟩ := Fus.logN_spec a.toNat (by omega) (by omega)
  exact ⟨by omega, by omega, fun j hj => by have := h5 j hj; omega⟩
theorem pw38_next (k : Nat) : ((Fus.pw 38 (k + 1) : Nat) : Int) = (Fus.pw 38 k : Nat) * 38 % 55441 := by rw [Fus.pw_succ]; omega
theorem pw38_next' (k : Nat) : ((Fus.pw 38 (k + 1) : Nat) : Int) = (Fus.pw 38 k : Nat) * 38 % 55441 := pw38_next k
theorem pw38_bd (k : Nat) : (0 : Int) ≤ (Fus.pw 38 k : Nat) ∧ ((Fus.pw 38 k : Nat) : Int) < 55441 := by have := Fus.pw_lt 38 k; omega
/-- what a logarithm's loop keeps -/
def logRel (a k p : Int) : Prop := 0 ≤ k ∧ k ≤ (Fus.logN a.toNat : Nat) ∧ p = (Fus.pw 38 k.toNat : Nat)
theorem logRel_start (a : Int) : logRel a 0 1 := ⟨by omega, by omega, by simp [Fus.pw_zero_right]⟩
theorem logRel_stop {a k p : Int} (h1 : 1 ≤ a) (h2 : a < 55441) (h : logRel a k p) (e : p = a) : k = (Fus.logN a.toNat : Nat) := by
  obtain ⟨h3, h4, h5⟩ := h
  obtain ⟨_, _, h6⟩ := log_spec h1 h2
  have := h6 k.toNat
  omega
theorem logRel_go {a k p : Int} (h1 : 1 ≤ a) (h2 : a < 55441) (h : logRel a k p) (e : p ≠ a) : logRel a (k + 1) (p * 38 % 55441) ∧ k < (Fus.logN a.toNat : Nat) := by
  obtain ⟨h3, h4, h5⟩ := h
  obtain ⟨_, h7, _⟩ := log_spec h1 h2
  have hne : k ≠ (Fus.logN a.toNat : Nat) := by rintro rfl; rw [Int.toNat_natCast] at h5; exact e (by rw [h5]; exact h7)
  refine ⟨⟨by omega, by omega, ?_⟩, by omega⟩
  rw [show (k + 1).toNat = k.toNat + 1 from by omega, pw38_next, h5]
theorem logRel_bd {a k p : Int} (h : logRel a k p) : 0 ≤ p ∧ p < 55441 := by
  obtain ⟨_, _, rfl⟩ := h; exact pw38_bd _

theorem c_logarithm (a : Int) (w : World) (h1 : 1 ≤ a) (h2 : a < 55441) :
    Calls Try.prog 23 #[.int .i64 a] w fun e w' => e = .returned (.int .i64 (ilog a)) ∧ w = w' := by
  have hl := (log_spec h1 h2).1
  go_enter Try.func23, Try.ntmps23
  go_wp2_with fail
  go_loop [3, 4] (fun k p => ∃ k' p' : Int, k = .int .i64 k' ∧ p = .int .i64 p' ∧ logRel a k' p') (fun k _ => (55440 - intOf k).toNat)
  case atStart => exact ⟨_, _, rfl, rfl, logRel_start a⟩
  case round =>
    obtain ⟨k, p, rfl, rfl, hr⟩ := hrel
    have hb := logRel_bd hr
    obtain ⟨hb1, hb2⟩ := hb
    have hk1 := hr.1
    have hk2 := hr.2.1
    by_cases he : p = a
    · have hE : (p != a) = false := by simp [he]
      have HS := Lib.hid (logRel_stop h1 h2 hr he)
      clear hr he
      go_wp2_with fail
      go_ret
      exact ⟨ret_int HS.out, rfl⟩
    · have hE : (p != a) = true := by rw [bne_iff_ne]; exact he
      have hg := logRel_go h1 h2 hr he
      have hg2 := hg.2
      have HG := Lib.hid hg.1
      clear hr he hg
      go_wp2_with fail
      go_round
      case rel => exact ⟨_, _, rfl, rfl, HG.out⟩
      case measure => simp [intOf]; omega

theorem c_OrderOfNumber (a : Int) (w : World) :
    Calls Try.prog 8 #[.int .i64 a] w fun e w' => e = .returned (two (ordNum a)) ∧ Below w.heap.size w w' := by
  cases ha : isNum a
  · have H : Hid (ordNum a = (0, 2)) := Lib.hid (by unfold ordNum; rw [if_neg (by simp [ha])])
    go_enter Try.func8, Try.ntmps8
    go_wp2_with (first | (go_at_call 22; refine (c_IsNumber _ _).mono ?_; rintro e w' ⟨rfl, rfl⟩))
    go_ret2
    exact ⟨ret_two H.out, Below.refl _ _⟩
  · have ha' := isNum_true ha
    obtain ⟨ha1, ha2⟩ := ha'
    by_cases h0 : a = 0
    · have H : Hid (ordNum a = (0, 5)) := Lib.hid (by unfold ordNum; rw [if_pos ha, if_pos h0])
      have h0B : (a == 0) = true := by simp [h0]
      clear h0
      go_enter Try.func8, Try.ntmps8
      go_wp2_with (first | (go_at_call 22; refine (c_IsNumber _ _).mono ?_; rintro e w' ⟨rfl, rfl⟩))
      go_ret2
      exact ⟨ret_two H.out, Below.refl _ _⟩
    · have H : Hid (ordNum a = (iord a, 0)) := Lib.hid (by unfold ordNum; rw [if_pos ha, if_neg h0])
      have h0B : (a == 0) = false := by simp [h0]
      have hpos : 1 ≤ a := by omega
      clear h0
      go_enter Try.func8, Try.ntmps8
      go_wp2_with (first | (go_at_call 22; refine (c_IsNumber _ _).mono ?_; rintro e w' ⟨rfl, rfl⟩) | (go_at_call 26; refine (c_orderOf _ _ ha1 ha2).mono ?_; rintro e w' ⟨rfl, hb⟩))
      go_ret2
      exact ⟨ret_two H.out, hb⟩

theorem c_SOrderOfNumber (a : Int) (w : World) :
    Calls Try.prog 9 #[.int .i64 a] w fun e w' => e = .returned (two (ordNum a)) ∧ Below w.heap.size w w' := by
  cases ha : isNum a
  · have H : Hid (ordNum a = (0, 2)) := Lib.hid (by unfold ordNum; rw [if_neg (by simp [ha])])
    go_enter Try.func9, Try.ntmps9
    go_wp2_with (first | (go_at_call 24; refine (c_l01Number _ _).mono ?_; rintro e w' ⟨rfl, rfl⟩))
    go_ret2
    exact ⟨ret_two H.out, Below.refl _ _⟩
  · have ha' := isNum_true ha
    obtain ⟨ha1, ha2⟩ := ha'
    by_cases h0 : a = 0
    · have H : Hid (ordNum a = (0, 5)) := Lib.hid (by unfold ordNum; rw [if_pos ha, if_pos h0])
      have h0B : (a == 0) = true := by simp [h0]
      clear h0
      go_enter Try.func9, Try.ntmps9
      go_wp2_with (first | (go_at_call 24; refine (c_l01Number _ _).mono ?_; rintro e w' ⟨rfl, rfl⟩))
      go_ret2
      exact ⟨ret_two H.out, Below.refl _ _⟩
    · have H : Hid (ordNum a = (iord a, 0)) := Lib.hid (by unfold ordNum; rw [if_pos ha, if_neg h0])
      have h0B : (a == 0) = false := by simp [h0]
      have hpos : 1 ≤ a := by omega
      clear h0
      go_enter Try.func9, Try.ntmps9
      go_wp2_with (first | (go_at_call 24; refine (c_l01Number _ _).mono ?_; rintro e w' ⟨rfl, rfl⟩) | (go_at_call 27; refine (c_l01Order _ _ ha1 ha2).mono ?_; rintro e w' ⟨rfl, hb⟩))
      go_ret2
      exact ⟨ret_two H.out, hb⟩

theorem c_LogarithmOf (a : Int) (w : World) :
    Calls Try.prog 6 #[.int .i64 a] w fun e w' => e = .returned (two (logNum a)) ∧ Below w.heap.size w w' := by
  cases ha : isNum a
  · have H : Hid (logNum a = (0, 2)) := Lib.hid (by unfold logNum; rw [if_neg (by simp [ha])])
    go_enter Try.func6, Try.ntmps6
    go_wp2_with (first | (go_at_call 22; refine (c_IsNumber _ _).mono ?_; rintro e w' ⟨rfl, rfl⟩))
    go_ret2
    exact ⟨ret_two H.out, Below.refl _ _⟩
  · have ha' := isNum_true ha
    obtain ⟨ha1, ha2⟩ := ha'
    by_cases h0 : a = 0
    · have H : Hid (logNum a = (0, 5)) := Lib.hid (by unfold logNum; rw [if_pos ha, if_pos h0])
      have h0B : (a == 0) = true := by simp [h0]
      clear h0
      go_enter Try.func6, Try.ntmps6
      go_wp2_with (first | (go_at_call 22; refine (c_IsNumber _ _).mono ?_; rintro e w' ⟨rfl, rfl⟩))
      go_ret2
      exact ⟨ret_two H.out, Below.refl _ _⟩
    · have H : Hid (logNum a = (ilog a, 0)) := Lib.hid (by unfold logNum; rw [if_pos ha, if_neg h0])
      have h0B : (a == 0) = false := by simp [h0]
      have hpos : 1 ≤ a := by omega
      clear h0
      go_enter Try.func6, Try.ntmps6
      go_wp2_with (first | (go_at_call 22; refine (c_IsNumber _ _).mono ?_; rintro e w' ⟨rfl, rfl⟩) | (go_at_call 23; refine (c_logarithm _ _ (by omega) ha2).mono ?_; rintro e w' ⟨rfl, rfl⟩))
      go_ret2
      exact ⟨ret_two H.out, Below.refl _ _⟩

theorem c_SLogarithmOf (a : Int) (w : World) :
    Calls Try.prog 7 #[.int .i64 a] w fun e w' => e = .returned (two (logNum a)) ∧ Below w.heap.size w w' := by
  cases ha : isNum a
  · have H : Hid (logNum a = (0, 2)) := Lib.hid (by unfold logNum; rw [if_neg (by simp [ha])])
    go_enter Try.func7, Try.ntmps7
    go_wp2_with (go_at_call 24; refine (c_l01Number _ _).mono ?_; rintro e w' ⟨rfl, rfl⟩)
    go_ret2
    exact ⟨ret_two H.out, Below.refl _ _⟩
  · have ha' := isNum_true ha
    obtain ⟨ha1, ha2⟩ := ha'
    by_cases h0 : a = 0
    · have H : Hid (logNum a = (0, 5)) := Lib.hid (by unfold logNum; rw [if_pos ha, if_pos h0])
      have h0B : (a == 0) = true := by simp [h0]
      clear h0
      go_enter Try.func7, Try.ntmps7
      go_wp2_with (go_at_call 24; refine (c_l01Number _ _).mono ?_; rintro e w' ⟨rfl, rfl⟩)
      go_ret2
      exact ⟨ret_two H.out, Below.refl _ _⟩
    · have H : Hid (logNum a = (ilog a, 0)) := Lib.hid (by unfold logNum; rw [if_pos ha, if_neg h0])
      have h0B : (a == 0) = false := by simp [h0]
      have h1 : 1 ≤ a := by omega
      have hl := (log_spec h1 ha2).1
      clear h0
      go_enter Try.func7, Try.ntmps7
      go_wp2_with (first | (go_at_call 24; refine (c_l01Number _ _).mono ?_; rintro e w' ⟨rfl, rfl⟩) | (go_at_call 25; refine (c_l01Primitive _).mono ?_; rintro e w' ⟨rfl, hb⟩))
      go_loop [5, 6] (fun p k => ∃ k' p' : Int, k = .int .i64 k' ∧ p = .int .i64 p' ∧ logRel a k' p') (fun _ k => (55440 - intOf k).toNat)
      case atStart => exact ⟨_, _, rfl, rfl, logRel_start a⟩
      case round =>
        obtain ⟨k, p, rfl, rfl, hr⟩ := hrel
        have hb' := logRel_bd hr
        obtain ⟨hb1, hb2⟩ := hb'
        have hk1 := hr.1
        have hk2 := hr.2.1
        by_cases he : p = a
        · have hE : (p != a) = false := by simp [he]
          have HS := Lib.hid (logRel_stop h1 ha2 hr he)
          clear hr he
          go_wp2_with fail
          go_ret2
          exact ⟨ret_two (by rw [H.out, HS.out]; rfl), hb⟩
        · have hE : (p != a) = true := by rw [bne_iff_ne]; exact he
          have hg := logRel_go h1 ha2 hr he
          have hg2 := hg.2
          have HG := Lib.hid hg.1
          clear hr he hg
          go_wp2_with fail
          go_round
          case rel => exact ⟨_, _, rfl, rfl, HG.out⟩
          case measure => simp [intOf]; omega


end Go.Proofs.Ytdfienoilcgneaa
