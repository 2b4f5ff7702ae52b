/- Walks: inverse matrices with their codes, program and reference. -/
import Derived.Test.YtmbcncmmgfnlmaaGkr
import Derived.Test.YtmbcncmmgfnlmaaGin
import Derived.Test.YtmbcncmmgfnlmaaDtw
namespace Go.Proofs.Ytmbcncmmgfnlmaa
open Go.RowKit
open Fus (F Mx toI ofI toI_bd toI_ofI redR redR_d D D_red invM)

theorem sqFi {m : List (List Int)} {b : Bool} (h : sqCode m b = 0) : m = tabF m.length m.length (entF m) :=
  good_F (fun i x hx => (sq_rows h).2.2 i x hx)
def invN (m : List (List Int)) : List (List Int) × Int :=
  if sqCode m true = 0 then (if D m.length (entF m) = 0 then ([], 5) else (tabF m.length m.length (invM m.length (entF m)), 0)) else ([], sqCode m true)
theorem invN_small (m : List (List Int)) : Small 4096 (invN m).1 := by
  unfold invN
  split
  · rename_i h
    have := (sq_rows h).2.1
    split
    · exact ⟨by simp, fun _ h => by simp at h⟩
    · exact ⟨by rw [tabF_length]; omega, fun xs hx => by rw [tabF_mem hx]; omega⟩
  · exact ⟨by simp, fun _ h => by simp at h⟩
theorem c_InverseMatrix (u : Value) (m : List (List Int)) (w : World) (hu : IntRows w u m) :
    Calls Try.prog 25 #[u] w (RetMC (invN m) w) := by
  have HU := Lib.hid hu
  by_cases h : sqCode m true = 0
  · have HR := Lib.hid (sq_rows h)
    have HT := Lib.hid (sqFi h)
    have hB : (sqCode m true != 0) = false := by simp [h]
    have H : Hid (invN m = if D m.length (entF m) = 0 then ([], 5) else (tabF m.length m.length (invM m.length (entF m)), 0)) := Lib.hid (if_pos h)
    clear h hu
    go_enter Try.func25, Try.ntmps25
    go_wp2_with fail
    refine (c_squareCode u m _ _ HU.out).mono ?_
    rintro e w1 ⟨rfl, hb⟩
    have HB := Lib.hid hb
    have HV : Hid (IntRows w1 u (tabF m.length m.length (entF m))) := Lib.hid (by rw [← HT.out]; exact HU.out.keep hb)
    clear hb
    go_wp2_with fail
    refine (c_inverse u m.length (entF m) _ HV.out HR.out.1 (by have := HR.out.2.1; omega)).mono ?_
    rintro e w2 ⟨hb2, hcase⟩
    have HB2 := Lib.hid (HB.out.trans (hb2.mono HB.out.size))
    clear hb2
    rcases hcase with ⟨hD, v, rfl, ho⟩ | ⟨hD, rfl⟩
    · have H2 : Hid (invN m = (tabF m.length m.length (invM m.length (entF m)), 0)) := Lib.hid (by rw [H.out, if_neg hD])
      have HO := Lib.hid (ho.mono HB.out.size)
      obtain ⟨g, cap, rfl, _, _⟩ := ho.shape' (by rw [tabF_length]; exact HR.out.1)
      rw [tabF_length] at HO ⊢
      clear ho hD
      have hsn := @Lib.run_eql_slice_nil Try.prog
      go_wp2_with fail
      go_ret2
      refine ⟨.slice (some ⟨g, 0, none⟩) m.length cap, ?_, ?_, HB2.out⟩
      · rw [H2.out]; rfl
      · rw [H2.out]; exact HO.out
    · have H2 : Hid (invN m = ([], 5)) := Lib.hid (by rw [H.out, if_pos hD])
      clear hD
      have hsn := @Lib.run_eql_slice_nil Try.prog
      go_wp2_with fail
      go_ret2
      refine ⟨.slice none 0 0, ?_, ?_, HB2.out⟩
      · rw [H2.out]; rfl
      · rw [H2.out]; exact OwnM.nil _ _
  · have H : Hid (invN m = ([], sqCode m true)) := Lib.hid (if_neg h)
    have hB : (sqCode m true != 0) = true := by rw [bne_iff_ne]; exact h
    clear h hu
    go_enter Try.func25, Try.ntmps25
    go_wp2_with fail
    refine (c_squareCode u m _ _ HU.out).mono ?_
    rintro e w1 ⟨rfl, hb⟩
    have HB := Lib.hid hb
    clear hb
    go_wp2_with fail
    go_ret2
    refine ⟨.slice none 0 0, ?_, ?_, HB.out⟩
    · rw [H.out]; rfl
    · rw [H.out]; exact OwnM.nil _ _
theorem c_SInverseMatrix (u : Value) (m : List (List Int)) (w : World) (hu : IntRows w u m) :
    Calls Try.prog 26 #[u] w (RetMC (invN m) w) := by
  have HU := Lib.hid hu
  by_cases h : sqCode m true = 0
  · have HR := Lib.hid (sq_rows h)
    have HT := Lib.hid (sqFi h)
    have hB : (sqCode m true == 0) = true := by simp [h]
    have H : Hid (invN m = if D m.length (entF m) = 0 then ([], 5) else (tabF m.length m.length (invM m.length (entF m)), 0)) := Lib.hid (if_pos h)
    have hB2 : (sqCode m true != 0) = false := by simp [h]
    clear h hu
    go_enter Try.func26, Try.ntmps26
    go_wp2_with fail
    refine (c_l02Square u m _ HU.out).mono ?_
    rintro e w1 ⟨rfl, hb⟩
    have HB := Lib.hid hb
    have HV : Hid (IntRows w1 u (tabF m.length m.length (entF m))) := Lib.hid (by rw [← HT.out]; exact HU.out.keep hb)
    clear hb
    go_wp2_with fail
    refine (c_l02Det u m.length (entF m) _ HV.out HR.out.1 (by have := HR.out.2.1; omega)).mono ?_
    rintro e w2 ⟨rfl, hb2⟩
    have HB2 := Lib.hid (HB.out.trans (hb2.mono HB.out.size))
    have HV2 : Hid (IntRows w2 u (tabF m.length m.length (entF m))) := Lib.hid (HV.out.keep hb2)
    clear hb2
    rw [← D_red]
    by_cases hD : D m.length (entF m) = 0
    · have H2 : Hid (invN m = ([], 5)) := Lib.hid (by rw [H.out, if_pos hD])
      rw [hD, Fus.toI_zero]
      clear hD
      go_wp2_with fail
      go_ret2
      refine ⟨.slice none 0 0, ?_, ?_, HB2.out⟩
      · rw [H2.out]; rfl
      · rw [H2.out]; exact OwnM.nil _ _
    · have H2 : Hid (invN m = (tabF m.length m.length (invM m.length (entF m)), 0)) := Lib.hid (by rw [H.out, if_neg hD])
      have hDB : (toI (D m.length (entF m)) == 0) = false := by simpa using fun e => hD (Fus.toI_eq_zero.1 e)
      have HD := Lib.hid hD
      clear hD
      go_wp2_with fail
      refine (c_l02Inverse u m.length (entF m) _ HV2.out HR.out.1 (by have := HR.out.2.1; omega) HD.out).mono ?_
      rintro e w3 ⟨v3, rfl, ho3, hb3⟩
      go_wp2_with fail
      go_ret2
      refine ⟨v3, ?_, ?_, HB2.out.trans (hb3.mono HB2.out.size)⟩
      · rw [H2.out]; rfl
      · rw [H2.out]; exact ho3.mono HB2.out.size
  · have H : Hid (invN m = ([], sqCode m true)) := Lib.hid (if_neg h)
    have hB : (sqCode m true == 0) = false := by simpa using h
    have hB2 : (sqCode m true != 0) = true := by rw [bne_iff_ne]; exact h
    clear h hu
    go_enter Try.func26, Try.ntmps26
    go_wp2_with fail
    refine (c_l02Square u m _ HU.out).mono ?_
    rintro e w1 ⟨rfl, hb⟩
    have HB := Lib.hid hb
    clear hb
    go_wp2_with fail
    go_ret2
    refine ⟨.slice none 0 0, ?_, ?_, HB.out⟩
    · rw [H.out]; rfl
    · rw [H.out]; exact OwnM.nil _ _
end Go.Proofs.Ytmbcncmmgfnlmaa
