/- Walks: ranks and reduced bases with their codes, program and reference. -/
import Derived.Test.YtmbcncmmgfnlmaaGrd
namespace Go.Proofs.Ytmbcncmmgfnlmaa
open Go.RowKit
open Fus (F Mx toI ofI toI_bd redR redR_d)

def rankN (m : List (List Int)) : Int × Int := if isMat m = true then ((((redR m.length (entF m) (width m)).d : Nat) : Int), 0) else (0, 1)
theorem mat_F {m : List (List Int)} (h : isMat m = true) : m = tabF m.length (width m) (entF m) := good_F (good_mat h)
theorem basF_length (r c : Nat) (f : Mx) : (basF r c f).length = (redR r f c).d := tabF_length _ _ _
theorem small_tabF {r c : Nat} {f : Mx} (hr : r ≤ 4096) (hc : c ≤ 4096) : Small 4096 (tabF r c f) :=
  ⟨by rw [tabF_length]; exact hr, fun xs hx => by rw [tabF_mem hx]; exact hc⟩
theorem small_bas {r c : Nat} {f : Mx} (hr : r ≤ 4096) (hc : c ≤ 4096) : Small 4096 (basF r c f) := small_tabF (by have := (redR_d r f c).1; omega) hc

theorem c_RankOf (u : Value) (m : List (List Int)) (w : World) (hu : IntRows w u m) :
    Calls Try.prog 20 #[u] w fun e w' => e = .returned (two (rankN m)) ∧ Below w.heap.size w w' := by
  have HU := Lib.hid hu
  cases hm : isMat m
  · have H : Hid (rankN m = (0, 1)) := Lib.hid (by unfold rankN; rw [if_neg (by simp [hm])])
    have HM := Lib.hid hm
    clear hm hu
    go_enter Try.func20, Try.ntmps20
    go_wp2_with fail
    refine (c_IsMatrix u m _ HU.out).mono ?_
    rintro e w1 ⟨rfl, hb1⟩
    rw [HM.out]
    have HB1 := Lib.hid hb1
    clear hb1
    go_wp2_with fail
    go_ret2
    exact ⟨ret_two H.out, HB1.out⟩
  · have H : Hid (rankN m = ((((redR m.length (entF m) (width m)).d : Nat) : Int), 0)) := Lib.hid (by unfold rankN; rw [if_pos hm])
    have HP := Lib.hid (isMat_parts hm)
    have HT := Lib.hid (mat_F hm)
    have HM := Lib.hid hm
    clear hm hu
    go_enter Try.func20, Try.ntmps20
    go_wp2_with fail
    refine (c_IsMatrix u m _ HU.out).mono ?_
    rintro e w1 ⟨rfl, hb1⟩
    rw [HM.out]
    have HB1 := Lib.hid hb1
    have HU1 : Hid (IntRows w1 u (tabF m.length (width m) (entF m))) := Lib.hid (by rw [← HT.out]; exact HU.out.keep hb1)
    clear hb1
    go_wp2_with fail
    refine (c_reduce u m.length (width m) (entF m) _ HU1.out HP.out.2.2.1 (by have := HP.out.2.2.2.1; omega) (by have := HP.out.2.1; omega)).mono ?_
    rintro e w3 ⟨v3, rfl, ho3, hb3⟩
    have HL : Hid (∃ p c, v3 = .slice p (redR m.length (entF m) (width m)).d c) := Lib.hid (by
      rcases ho3.shape with ⟨h1, h2⟩ | ⟨g, cap, h1, _⟩
      · have := congrArg List.length h2
        rw [basF_length] at this
        exact ⟨none, 0, by rw [this]; exact h1⟩
      · rw [basF_length] at h1; exact ⟨_, _, h1⟩)
    obtain ⟨p, c, rfl⟩ := HL.out
    clear ho3 HL
    go_wp2_with fail
    go_ret2
    exact ⟨ret_two H.out, HB1.out.trans (hb3.mono HB1.out.size)⟩
end Go.Proofs.Ytmbcncmmgfnlmaa

/- Walks: spans with their codes, program and reference. -/
namespace Go.Proofs.Ytmbcncmmgfnlmaa
open Go.RowKit
open Fus (F Mx toI ofI toI_bd redR redR_d)

def spanN (m : List (List Int)) : List (List Int) × Int := if m = [] then ([], 0) else if isMat m = true then (basF m.length (width m) (entF m), 0) else ([], 1)
theorem smallNil : Small 4096 ([] : List (List Int)) := ⟨by simp, fun _ h => by simp at h⟩
theorem spanN_small (m : List (List Int)) : Small 4096 (spanN m).1 := by
  unfold spanN
  split
  · exact smallNil
  · split
    · rename_i h; obtain ⟨_, h2, _, h4, _⟩ := isMat_parts h; exact small_bas (by omega) (by omega)
    · exact smallNil
/-- blocks of no rows, too -/
theorem block0 {m : List (List Int)} (h : m ≠ []) : (blockB m 0 && numsB m) = isMat m := by
  unfold isMat
  congr 1
  unfold blockB
  congr 1
  have : 1 ≤ m.length := Nat.pos_of_ne_zero (fun e => h (List.eq_nil_of_length_eq_zero e))
  have h1 : decide ((0 : Int) ≤ (m.length : Int)) = true := by simp
  have h2 : decide ((1 : Int) ≤ (m.length : Int)) = true := by simp; omega
  rw [h1, h2]
theorem c_SpanBasis (u : Value) (m : List (List Int)) (w : World) (hu : IntRows w u m) :
    Calls Try.prog 21 #[u] w (RetMC (spanN m) w) := by
  have HU := Lib.hid hu
  cases hb0 : blockB m 0
  · have hne : m ≠ [] := by rintro rfl; unfold blockB at hb0; simp at hb0
    have H : Hid (spanN m = ([], 1)) := Lib.hid (by
      have := block0 hne
      rw [hb0] at this
      unfold spanN; rw [if_neg hne, if_neg (by rw [← this]; simp)])
    have HB0 := Lib.hid hb0
    clear hb0 hu hne
    go_enter Try.func21, Try.ntmps21
    go_wp2_with fail
    refine (c_isBlock u m 0 _ HU.out).mono ?_
    rintro e w1 ⟨rfl, rfl⟩
    rw [HB0.out]
    go_wp2_with fail
    go_ret2
    refine ⟨.slice none 0 0, ?_, ?_, Below.refl _ _⟩
    · rw [H.out]; rfl
    · rw [H.out]; exact OwnM.nil _ _
  · cases hn : numsB m
    · have hne : m ≠ [] := by rintro rfl; unfold numsB at hn; simp at hn
      have H : Hid (spanN m = ([], 1)) := Lib.hid (by
        have := block0 hne
        rw [hb0, hn] at this
        unfold spanN; rw [if_neg hne, if_neg (by rw [← this]; simp)])
      have HB0 := Lib.hid hb0
      have HN := Lib.hid hn
      clear hb0 hn hu hne
      go_enter Try.func21, Try.ntmps21
      go_wp2_with fail
      refine (c_isBlock u m 0 _ HU.out).mono ?_
      rintro e w1 ⟨rfl, rfl⟩
      rw [HB0.out]
      go_wp2_with fail
      refine (c_haveNumbers u m _ HU.out).mono ?_
      rintro e w1 ⟨rfl, hb1⟩
      rw [HN.out]
      have HB1 := Lib.hid hb1
      clear hb1
      go_wp2_with fail
      go_ret2
      refine ⟨.slice none 0 0, ?_, ?_, HB1.out⟩
      · rw [H.out]; rfl
      · rw [H.out]; exact OwnM.nil _ _
    · have HT : Hid (∃ c, 0 < c ∧ c ≤ 1000 ∧ m.length ≤ 1000 ∧ m = tabF m.length c (entF m) ∧ spanN m = (basF m.length c (entF m), 0)) := Lib.hid (by
        by_cases hne : m = []
        · subst hne
          refine ⟨1, by omega, by omega, by simp, rfl, ?_⟩
          unfold spanN
          rw [if_pos rfl]
          have e0 : basF 0 1 (entF []) = [] := by
            have := (redR_d 0 (entF []) 1).1
            unfold basF
            rw [show (redR 0 (entF []) 1).d = 0 from by omega]; rfl
          show _ = (basF 0 1 (entF []), (0 : Int))
          rw [e0]
        · have := block0 hne
          rw [hb0, hn] at this
          have hm : isMat m = true := by rw [← this]; rfl
          obtain ⟨p1, p2, p3, p4, _⟩ := isMat_parts hm
          exact ⟨width m, p3, by omega, by omega, mat_F hm, by unfold spanN; rw [if_neg hne, if_pos hm]⟩)
      have HB0 := Lib.hid hb0
      have HN := Lib.hid hn
      clear hb0 hn hu
      obtain ⟨c, hc1, hc2, hml, hmT, hsp⟩ := HT.out
      have HMT := Lib.hid hmT
      have HSP := Lib.hid hsp
      clear HT hmT hsp
      go_enter Try.func21, Try.ntmps21
      go_wp2_with fail
      refine (c_isBlock u m 0 _ HU.out).mono ?_
      rintro e w1 ⟨rfl, rfl⟩
      rw [HB0.out]
      go_wp2_with fail
      refine (c_haveNumbers u m _ HU.out).mono ?_
      rintro e w1 ⟨rfl, hb1⟩
      rw [HN.out]
      have HB1 := Lib.hid hb1
      have HU1 : Hid (IntRows w1 u (tabF m.length c (entF m))) := Lib.hid (by rw [← HMT.out]; exact HU.out.keep hb1)
      clear hb1
      go_wp2_with fail
      refine (c_reduce u m.length c (entF m) _ HU1.out hc1 hc2 hml).mono ?_
      rintro e w3 ⟨v3, rfl, ho3, hb3⟩
      have HO3 := Lib.hid ho3
      clear ho3
      go_wp2_with fail
      go_ret2
      refine ⟨v3, ?_, ?_, HB1.out.trans (hb3.mono HB1.out.size)⟩
      · rw [HSP.out]; rfl
      · rw [HSP.out]; exact HO3.out.mono HB1.out.size
end Go.Proofs.Ytmbcncmmgfnlmaa
