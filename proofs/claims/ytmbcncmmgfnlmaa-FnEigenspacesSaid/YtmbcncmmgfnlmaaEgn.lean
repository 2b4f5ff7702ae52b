/- Walks: eigenspaces with their codes, program and reference. -/
import Derived.Test.YtmbcncmmgfnlmaaGkr
import Derived.Test.YtmbcncmmgfnlmaaLes
namespace Go.Proofs.Ytmbcncmmgfnlmaa
open Go.RowKit
open Fus (F Mx toI ofI toI_bd toI_ofI redR redR_d kerR)

theorem sqFe {m : List (List Int)} {b : Bool} (h : sqCode m b = 0) : m = tabF m.length m.length (entF m) :=
  good_F (fun i x hx => (sq_rows h).2.2 i x hx)
theorem sq_other {m : List (List Int)} (h : ¬ sqCode m true = 0) (b : Bool) : sqCode m b = sqCode m true := by
  unfold sqCode at h ⊢
  by_cases hm : isMat m = true
  · rw [if_pos hm, if_pos hm] at *
    by_cases hl : m.length = width m
    · rw [if_pos ⟨hl, rfl⟩] at h; exact absurd rfl h
    · rw [if_neg (fun e => hl e.1), if_neg (fun e => hl e.1)]
  · rw [if_neg hm, if_neg hm]
theorem sq_false {m : List (List Int)} (h : sqCode m true = 0) : sqCode m false = 2 := by
  unfold sqCode; rw [if_pos (sq_parts h).1, if_neg (by simp)]
/-- the eigenspace of a number, as a table -/
def eigF (n : Nat) (f : Mx) (x : F) : List (List Int) := kerF n n (lessF f x)
def eigN (m : List (List Int)) (x : Int) : List (List Int) × Int :=
  if sqCode m (isNum x) = 0 then (if (kerR m.length m.length (lessF (entF m) (ofI x))).d = 0 then ([], 4) else (eigF m.length (entF m) (ofI x), 0)) else ([], sqCode m (isNum x))
theorem eigN_small (m : List (List Int)) (x : Int) : Small 4096 (eigN m x).1 := by
  unfold eigN
  split
  · rename_i h
    have := (sq_rows h).2.1
    split
    · exact ⟨by simp, fun _ h => by simp at h⟩
    · exact kerF_small (by omega)
  · exact ⟨by simp, fun _ h => by simp at h⟩
theorem OwnM.sliceLen {w : World} {B : Nat} {v : Value} {xss : List (List Int)} (h : OwnM w B v xss) : ∃ p c, v = .slice p xss.length c := by
  rcases h.shape with ⟨h1, h2⟩ | ⟨g, cap, h1, _⟩
  · subst h2; exact ⟨none, 0, h1⟩
  · exact ⟨_, _, h1⟩
theorem c_EigenspaceOf (u : Value) (m : List (List Int)) (x : Int) (w : World) (hu : IntRows w u m) :
    Calls Try.prog 37 #[u, .int .i64 x] w (RetMC (eigN m x) w) := by
  have HU := Lib.hid hu
  by_cases h : sqCode m (isNum x) = 0
  · have HR := Lib.hid (sq_rows h)
    have HT := Lib.hid (sqFe h)
    have hx := isNum_true (sq_parts h).2.2
    have HX : Hid (x = toI (ofI x)) := Lib.hid (by rw [toI_ofI]; omega)
    have hB : (sqCode m (isNum x) != 0) = false := by simp [h]
    have H : Hid (eigN m x = if (kerR m.length m.length (lessF (entF m) (ofI x))).d = 0 then ([], 4) else (eigF m.length (entF m) (ofI x), 0)) := Lib.hid (if_pos h)
    clear h hu hx
    generalize hxx : ofI x = X at *
    have HXX := Lib.hid hxx
    clear hxx
    go_enter Try.func37, Try.ntmps37
    go_wp2_with fail
    refine (c_IsNumber _ _).mono ?_
    rintro e w0 ⟨rfl, rfl⟩
    go_wp2_with fail
    refine (c_squareCode u m _ _ HU.out).mono ?_
    rintro e w1 ⟨rfl, hb⟩
    have HB := Lib.hid hb
    have HV : Hid (IntRows w1 u (tabF m.length m.length (entF m))) := Lib.hid (by rw [← HT.out]; exact HU.out.keep hb)
    clear hb
    go_wp2_with fail
    have hc := c_lessUnit u m.length (entF m) X w1 HV.out (by have := HR.out.2.1; omega)
    rw [← HX.out] at hc
    refine hc.mono ?_
    rintro e w2 ⟨v2, rfl, ho2, hb2⟩
    have HI2 : Hid (IntRows w2 v2 (tabF m.length m.length (lessF (entF m) X))) := Lib.hid (ho2.rows (by rw [tabF_length]; have := HR.out.2.1; omega) (fun xs hx => by rw [tabF_mem hx]; have := HR.out.2.1; omega))
    have HB2 := Lib.hid (HB.out.trans (hb2.mono HB.out.size))
    clear hc ho2 hb2
    go_wp2_with fail
    refine (c_kernel v2 m.length m.length _ _ HI2.out HR.out.1 HR.out.1 (by have := HR.out.2.1; omega) (by have := HR.out.2.1; omega)).mono ?_
    rintro e w3 ⟨v3, rfl, ho3, hb3⟩
    obtain ⟨p3, c3, hv3⟩ := ho3.sliceLen
    subst hv3
    have HB3 := Lib.hid (HB2.out.trans (hb3.mono HB2.out.size))
    have HO3 := Lib.hid (ho3.mono HB2.out.size)
    clear ho3 hb3
    by_cases hz : (kerR m.length m.length (lessF (entF m) X)).d = 0
    · have hzB : (((kerF m.length m.length (lessF (entF m) X)).length : Int) == 0) = true := by rw [kerF_length, hz]; rfl
      have H2 : Hid (eigN m x = ([], 4)) := Lib.hid (by rw [H.out, if_pos hz])
      clear hz
      go_wp2_with fail
      go_ret2
      refine ⟨.slice none 0 0, ?_, ?_, HB3.out⟩
      · rw [H2.out]; rfl
      · rw [H2.out]; exact OwnM.nil _ _
    · have hzB : (((kerF m.length m.length (lessF (entF m) X)).length : Int) == 0) = false := by rw [kerF_length, beq_eq_false_iff_ne]; omega
      have H2 : Hid (eigN m x = (eigF m.length (entF m) X, 0)) := Lib.hid (by rw [H.out, if_neg hz])
      clear hz
      go_wp2_with fail
      go_ret2
      refine ⟨.slice p3 (kerF m.length m.length (lessF (entF m) X)).length c3, ?_, ?_, HB3.out⟩
      · rw [H2.out]; rfl
      · rw [H2.out]; exact HO3.out
  · have H : Hid (eigN m x = ([], sqCode m (isNum x))) := Lib.hid (if_neg h)
    have hB : (sqCode m (isNum x) != 0) = true := by rw [bne_iff_ne]; exact h
    clear h hu
    go_enter Try.func37, Try.ntmps37
    go_wp2_with fail
    refine (c_IsNumber _ _).mono ?_
    rintro e w0 ⟨rfl, rfl⟩
    go_wp2_with fail
    refine (c_squareCode u m _ _ HU.out).mono ?_
    rintro e w1 ⟨rfl, hb⟩
    have HB := Lib.hid hb
    clear hb
    go_wp2_with fail
    go_ret2
    refine ⟨.slice none 0 0, ?_, ?_, HB.out⟩
    · rw [H.out]; rfl
    · rw [H.out]; exact OwnM.nil _ _
theorem c_SEigenspaceOf (u : Value) (m : List (List Int)) (x : Int) (w : World) (hu : IntRows w u m) :
    Calls Try.prog 38 #[u, .int .i64 x] w (RetMC (eigN m x) w) := by
  have HU := Lib.hid hu
  by_cases h : sqCode m true = 0
  · have HR := Lib.hid (sq_rows h)
    have HT := Lib.hid (sqFe h)
    have hB : (sqCode m true == 0) = true := by simp [h]
    cases hr : isNum x
    · have H : Hid (eigN m x = ([], 2)) := Lib.hid (by
        unfold eigN; rw [hr, if_neg (by rw [sq_false h]; decide), sq_false h])
      have HI := Lib.hid hr
      clear h hu hr
      go_enter Try.func38, Try.ntmps38
      go_wp2_with fail
      refine (c_l02Square u m _ HU.out).mono ?_
      rintro e w1 ⟨rfl, hb⟩
      have HB := Lib.hid hb
      clear hb
      go_wp2_with fail
      refine (c_l01Number _ _).mono ?_
      rintro e w0 ⟨rfl, rfl⟩
      rw [HI.out]
      go_wp2_with fail
      go_ret2
      refine ⟨.slice none 0 0, ?_, ?_, HB.out⟩
      · rw [H.out]; rfl
      · rw [H.out]; exact OwnM.nil _ _
    · have hx := isNum_true hr
      have HX : Hid (x = toI (ofI x)) := Lib.hid (by rw [toI_ofI]; omega)
      have H : Hid (eigN m x = if (kerR m.length m.length (lessF (entF m) (ofI x))).d = 0 then ([], 4) else (eigF m.length (entF m) (ofI x), 0)) := Lib.hid (by unfold eigN; rw [hr]; exact if_pos h)
      have HI := Lib.hid hr
      have hB2 : (sqCode m true != 0) = false := by simp [h]
      clear h hu hr hx
      generalize hxx : ofI x = X at *
      have HXX := Lib.hid hxx
      clear hxx
      go_enter Try.func38, Try.ntmps38
      go_wp2_with fail
      refine (c_l02Square u m _ HU.out).mono ?_
      rintro e w1 ⟨rfl, hb⟩
      have HB := Lib.hid hb
      have HV : Hid (IntRows w1 u (tabF m.length m.length (entF m))) := Lib.hid (by rw [← HT.out]; exact HU.out.keep hb)
      clear hb
      go_wp2_with fail
      refine (c_l01Number _ _).mono ?_
      rintro e w0 ⟨rfl, rfl⟩
      rw [HI.out]
      go_wp2_with fail
      have hc := c_l02Less u m.length (entF m) X w1 HV.out HR.out.1 (by have := HR.out.2.1; omega)
      rw [← HX.out] at hc
      refine hc.mono ?_
      rintro e w2 ⟨v2, rfl, ho2, hb2⟩
      have HI2 : Hid (IntRows w2 v2 (tabF m.length m.length (lessF (entF m) X))) := Lib.hid (ho2.rows (by rw [tabF_length]; have := HR.out.2.1; omega) (fun xs hx => by rw [tabF_mem hx]; have := HR.out.2.1; omega))
      have HB2 := Lib.hid (HB.out.trans (hb2.mono HB.out.size))
      clear hc ho2 hb2
      go_wp2_with fail
      refine (c_l02Kernel v2 m.length m.length _ _ HI2.out HR.out.1 HR.out.1 (by have := HR.out.2.1; omega) (by have := HR.out.2.1; omega)).mono ?_
      rintro e w3 ⟨v3, rfl, ho3, hb3⟩
      obtain ⟨p3, c3, hv3⟩ := ho3.sliceLen
      subst hv3
      have HB3 := Lib.hid (HB2.out.trans (hb3.mono HB2.out.size))
      have HO3 := Lib.hid (ho3.mono HB2.out.size)
      clear ho3 hb3
      by_cases hz : (kerR m.length m.length (lessF (entF m) X)).d = 0
      · have hzB : (((kerF m.length m.length (lessF (entF m) X)).length : Int) == 0) = true := by rw [kerF_length, hz]; rfl
        have H2 : Hid (eigN m x = ([], 4)) := Lib.hid (by rw [H.out, if_pos hz])
        clear hz
        go_wp2_with fail
        go_ret2
        refine ⟨.slice none 0 0, ?_, ?_, HB3.out⟩
        · rw [H2.out]; rfl
        · rw [H2.out]; exact OwnM.nil _ _
      · have hzB : (((kerF m.length m.length (lessF (entF m) X)).length : Int) == 0) = false := by rw [kerF_length, beq_eq_false_iff_ne]; omega
        have H2 : Hid (eigN m x = (eigF m.length (entF m) X, 0)) := Lib.hid (by rw [H.out, if_neg hz])
        clear hz
        go_wp2_with fail
        go_ret2
        refine ⟨.slice p3 (kerF m.length m.length (lessF (entF m) X)).length c3, ?_, ?_, HB3.out⟩
        · rw [H2.out]; rfl
        · rw [H2.out]; exact HO3.out
  · have H : Hid (eigN m x = ([], sqCode m true)) := Lib.hid (by unfold eigN; rw [sq_other h, if_neg h])
    have hB : (sqCode m true == 0) = false := by simpa using h
    have hB2 : (sqCode m true != 0) = true := by rw [bne_iff_ne]; exact h
    clear h hu
    go_enter Try.func38, Try.ntmps38
    go_wp2_with fail
    refine (c_l02Square u m _ HU.out).mono ?_
    rintro e w1 ⟨rfl, hb⟩
    have HB := Lib.hid hb
    clear hb
    go_wp2_with fail
    go_ret2
    refine ⟨.slice none 0 0, ?_, ?_, HB.out⟩
    · rw [H.out]; rfl
    · rw [H.out]; exact OwnM.nil _ _
end Go.Proofs.Ytmbcncmmgfnlmaa
