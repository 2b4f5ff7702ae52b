/- Walks: ranks and reduced bases with their codes, program and reference. -/
import Derived.Test.YtmbcncmmgfnlmaaRdx
namespace Go.Proofs.Ytmbcncmmgfnlmaa
open Go.RowKit
open Fus (F Mx toI ofI toI_bd redR redR_d)

def rankN (m : List (List Int)) : Int × Int := if isMat m = true then ((((redR m.length (entF m) (width m)).d : Nat) : Int), 0) else (0, 1)
theorem mat_F {m : List (List Int)} (h : isMat m = true) : m = tabF m.length (width m) (entF m) := good_F (good_mat h)
theorem basF_length (r c : Nat) (f : Mx) : (basF r c f).length = (redR r f c).d := tabF_length _ _ _
theorem small_tabF {r c : Nat} {f : Mx} (hr : r ≤ 4096) (hc : c ≤ 4096) : Small 4096 (tabF r c f) :=
  ⟨by rw [tabF_length]; exact hr, fun xs hx => by rw [tabF_mem hx]; exact hc⟩
theorem small_bas {r c : Nat} {f : Mx} (hr : r ≤ 4096) (hc : c ≤ 4096) : Small 4096 (basF r c f) := small_tabF (by have := (redR_d r f c).1; omega) hc

theorem c_RankOf (u : Value) (m : List (List Int)) (w : World) (hu : IntRows w u m) :
    Calls Try.prog 20 #[u] w fun e w' => e = .returned (two (rankN m)) ∧ Below w.heap.size w w' := by
  have HU := Lib.hid hu
  cases hm : isMat m
  · have H : Hid (rankN m = (0, 1)) := Lib.hid (by unfold rankN; rw [if_neg (by simp [hm])])
    have HM := Lib.hid hm
    clear hm hu
    go_enter Try.func20, Try.ntmps20
    go_wp2_with fail
    refine (c_IsMatrix u m _ HU.out).mono ?_
    rintro e w1 ⟨rfl, hb1⟩
    rw [HM.out]
    have HB1 := Lib.hid hb1
    clear hb1
    go_wp2_with fail
    go_ret2
    exact ⟨ret_two H.out, HB1.out⟩
  · have H : Hid (rankN m = ((((redR m.length (entF m) (width m)).d : Nat) : Int), 0)) := Lib.hid (by unfold rankN; rw [if_pos hm])
    have HP := Lib.hid (isMat_parts hm)
    have HT := Lib.hid (mat_F hm)
    have HM := Lib.hid hm
    clear hm hu
    go_enter Try.func20, Try.ntmps20
    go_wp2_with fail
    refine (c_IsMatrix u m _ HU.out).mono ?_
    rintro e w1 ⟨rfl, hb1⟩
    rw [HM.out]
    have HB1 := Lib.hid hb1
    have HU1 : Hid (IntRows w1 u (tabF m.length (width m) (entF m))) := Lib.hid (by rw [← HT.out]; exact HU.out.keep hb1)
    clear hb1
    go_wp2_with fail
    refine (c_reduce u m.length (width m) (entF m) _ HU1.out HP.out.2.2.1 (by have := HP.out.2.2.2.1; omega) (by have := HP.out.2.1; omega)).mono ?_
    rintro e w3 ⟨v3, rfl, ho3, hb3⟩
    have HL : Hid (∃ p c, v3 = .slice p (redR m.length (entF m) (width m)).d c) := Lib.hid (by
      rcases ho3.shape with ⟨h1, h2⟩ | ⟨g, cap, h1, _⟩
      · have := congrArg List.length h2
        rw [basF_length] at this
        exact ⟨none, 0, by rw [this]; exact h1⟩
      · rw [basF_length] at h1; exact ⟨_, _, h1⟩)
    obtain ⟨p, c, rfl⟩ := HL.out
    clear ho3 HL
    go_wp2_with fail
    go_ret2
    exact ⟨ret_two H.out, HB1.out.trans (hb3.mono HB1.out.size)⟩
end Go.Proofs.Ytmbcncmmgfnlmaa
