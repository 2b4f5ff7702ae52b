/- Walks: bases of kernels with their codes, program and reference. -/
import Derived.Test.YtmbcncmmgfnlmaaKrk
namespace Go.Proofs.Ytmbcncmmgfnlmaa
open Go.RowKit
open Fus (F Mx toI ofI toI_bd redR redR_d kerR)

theorem matF {m : List (List Int)} (h : isMat m = true) : m = tabF m.length (width m) (entF m) := good_F (good_mat h)
theorem kerR_le (r c : Nat) (f : Mx) : (kerR r c f).d ≤ c := by have := Fus.rank_nullity r c f; omega
theorem kerF_length (r c : Nat) (f : Mx) : (kerF r c f).length = (kerR r c f).d := tabF_length _ _ _
theorem kerF_small {r c : Nat} {f : Mx} (hc : c ≤ 4096) : Small 4096 (kerF r c f) :=
  ⟨by rw [kerF_length]; have := kerR_le r c f; omega, fun xs hx => by rw [tabF_mem hx]; exact hc⟩
def kerN (m : List (List Int)) : List (List Int) × Int := if isMat m = true then (kerF m.length (width m) (entF m), 0) else ([], 1)
theorem kerN_small (m : List (List Int)) : Small 4096 (kerN m).1 := by
  unfold kerN
  split
  · rename_i h; obtain ⟨_, h2, _, h4, _⟩ := isMat_parts h; exact kerF_small (by omega)
  · exact ⟨by simp, fun _ h => by simp at h⟩
theorem c_KernelBasis (u : Value) (m : List (List Int)) (w : World) (hu : IntRows w u m) :
    Calls Try.prog 18 #[u] w (RetMC (kerN m) w) := by
  have HU := Lib.hid hu
  cases hm : isMat m
  · have H : Hid (kerN m = ([], 1)) := Lib.hid (by unfold kerN; rw [if_neg (by simp [hm])])
    have HM := Lib.hid hm
    clear hm hu
    go_enter Try.func18, Try.ntmps18
    go_wp2_with fail
    refine (c_IsMatrix u m _ HU.out).mono ?_
    rintro e w1 ⟨rfl, hb1⟩
    rw [HM.out]
    have HB1 := Lib.hid hb1
    clear hb1
    go_wp2_with fail
    go_ret2
    refine ⟨.slice none 0 0, ?_, ?_, HB1.out⟩
    · rw [H.out]; rfl
    · rw [H.out]; exact OwnM.nil _ _
  · have H : Hid (kerN m = (kerF m.length (width m) (entF m), 0)) := Lib.hid (by unfold kerN; rw [if_pos hm])
    have HP := Lib.hid (isMat_parts hm)
    have HT := Lib.hid (matF hm)
    have HM := Lib.hid hm
    clear hm hu
    go_enter Try.func18, Try.ntmps18
    go_wp2_with fail
    refine (c_IsMatrix u m _ HU.out).mono ?_
    rintro e w1 ⟨rfl, hb1⟩
    rw [HM.out]
    have HB1 := Lib.hid hb1
    have HU1 : Hid (IntRows w1 u (tabF m.length (width m) (entF m))) := Lib.hid (by rw [← HT.out]; exact HU.out.keep hb1)
    clear hb1
    go_wp2_with fail
    refine (c_kernel u m.length (width m) (entF m) _ HU1.out HP.out.1 HP.out.2.2.1 (by have := HP.out.2.2.2.1; omega) (by have := HP.out.2.1; omega)).mono ?_
    rintro e w3 ⟨v3, rfl, ho3, hb3⟩
    go_wp2_with fail
    go_ret2
    refine ⟨v3, ?_, ?_, HB1.out.trans (hb3.mono HB1.out.size)⟩
    · rw [H.out]; rfl
    · rw [H.out]; exact ho3.mono HB1.out.size
theorem c_SKernelBasis (u : Value) (m : List (List Int)) (w : World) (hu : IntRows w u m) :
    Calls Try.prog 19 #[u] w (RetMC (kerN m) w) := by
  have HU := Lib.hid hu
  cases hm : isMat m
  · have H : Hid (kerN m = ([], 1)) := Lib.hid (by unfold kerN; rw [if_neg (by simp [hm])])
    have HM := Lib.hid hm
    clear hm hu
    go_enter Try.func19, Try.ntmps19
    go_wp2_with fail
    refine (c_l02Is u m _ HU.out).mono ?_
    rintro e w1 ⟨rfl, hd⟩
    rw [HM.out]
    have HB1 := Lib.hid (hd.below w.heap.size)
    clear hd
    go_wp2_with fail
    go_ret2
    refine ⟨.slice none 0 0, ?_, ?_, HB1.out⟩
    · rw [H.out]; rfl
    · rw [H.out]; exact OwnM.nil _ _
  · have H : Hid (kerN m = (kerF m.length (width m) (entF m), 0)) := Lib.hid (by unfold kerN; rw [if_pos hm])
    have HP := Lib.hid (isMat_parts hm)
    have HT := Lib.hid (matF hm)
    have HM := Lib.hid hm
    clear hm hu
    go_enter Try.func19, Try.ntmps19
    go_wp2_with fail
    refine (c_l02Is u m _ HU.out).mono ?_
    rintro e w1 ⟨rfl, hd⟩
    rw [HM.out]
    have HB1 := Lib.hid (hd.below w.heap.size)
    have HU1 : Hid (IntRows w1 u (tabF m.length (width m) (entF m))) := Lib.hid (by rw [← HT.out]; exact HU.out.keep HB1.out)
    clear hd
    go_wp2_with fail
    refine (c_l02Kernel u m.length (width m) (entF m) _ HU1.out HP.out.1 HP.out.2.2.1 (by have := HP.out.2.2.2.1; omega) (by have := HP.out.2.1; omega)).mono ?_
    rintro e w3 ⟨v3, rfl, ho3, hb3⟩
    go_wp2_with fail
    go_ret2
    refine ⟨v3, ?_, ?_, HB1.out.trans (hb3.mono HB1.out.size)⟩
    · rw [H.out]; rfl
    · rw [H.out]; exact ho3.mono HB1.out.size
end Go.Proofs.Ytmbcncmmgfnlmaa
