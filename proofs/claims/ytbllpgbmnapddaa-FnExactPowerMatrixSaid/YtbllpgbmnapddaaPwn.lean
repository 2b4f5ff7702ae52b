/- Walks: powers of matrices with their codes, program and reference. -/
import Derived.Test.YtbllpgbmnapddaaPwr
namespace Go.Proofs.Ytbllpgbmnapddaa
open Go.RowKit
open Fus (F Mx toI ofI toI_bd mm one)

theorem sqF {m : List (List Int)} {b : Bool} (h : sqCode m b = 0) : m = tabF m.length m.length (entF m) :=
  good_F (fun i x hx => (sq_rows h).2.2 i x hx)
theorem smallF {r c : Nat} {f : Mx} (hr : r ≤ 4096) (hc : c ≤ 4096) : Small 4096 (tabF r c f) :=
  ⟨by rw [tabF_length]; exact hr, fun xs hx => by rw [tabF_mem hx]; exact hc⟩
def powM (m : List (List Int)) (k : Int) : List (List Int) × Int :=
  if sqCode m (inR 0 1000000 k) = 0 then (tabF m.length m.length (ploop m.length one (entF m) k.toNat), 0) else ([], sqCode m (inR 0 1000000 k))
theorem powM_small (m : List (List Int)) (k : Int) : Small 4096 (powM m k).1 := by
  unfold powM
  split
  · rename_i h; have := (sq_rows h).2.1; exact smallF (by omega) (by omega)
  · exact ⟨by simp, fun _ h => by simp at h⟩
theorem c_PowerMatrix (u : Value) (m : List (List Int)) (k : Int) (w : World) (hu : IntRows w u m) :
    Calls Try.prog 41 #[u, .int .i64 k] w (RetMC (powM m k) w) := by
  have HU := Lib.hid hu
  by_cases h : sqCode m (inR 0 1000000 k) = 0
  · have HR := Lib.hid (sq_rows h)
    have HT := Lib.hid (sqF h)
    have hk := inR_true (sq_parts h).2.2
    obtain ⟨hk1, hk2⟩ := hk
    have H : Hid (powM m k = (tabF m.length m.length (ploop m.length one (entF m) k.toNat), 0)) := Lib.hid (if_pos h)
    have hB : (sqCode m (inR 0 1000000 k) != 0) = false := by simp [h]
    have HK : Hid (k = ((k.toNat : Nat) : Int)) := Lib.hid (by omega)
    clear h hu
    go_enter Try.func41, Try.ntmps41
    go_wp2_with fail
    refine (c_within _ _ _ _).mono ?_
    rintro e w0 ⟨rfl, rfl⟩
    go_wp2_with fail
    refine (c_squareCode u m _ _ HU.out).mono ?_
    rintro e w1 ⟨rfl, hb⟩
    have HB := Lib.hid hb
    have HV : Hid (IntRows w1 u (tabF m.length m.length (entF m))) := Lib.hid (by rw [← HT.out]; exact HU.out.keep hb)
    clear hb
    go_wp2_with fail
    have hc := c_powerMatrix u m.length (entF m) k.toNat w1 HV.out HR.out.1 (by have := HR.out.2.1; omega) (by omega)
    rw [← HK.out] at hc
    refine hc.mono ?_
    rintro e w2 ⟨v2, rfl, ho2, hb2⟩
    clear hc
    go_wp2_with fail
    go_ret2
    refine ⟨v2, ?_, ?_, HB.out.trans (hb2.mono HB.out.size)⟩
    · rw [H.out]; rfl
    · rw [H.out]; exact ho2.mono HB.out.size
  · have H : Hid (powM m k = ([], sqCode m (inR 0 1000000 k))) := Lib.hid (if_neg h)
    have hB : (sqCode m (inR 0 1000000 k) != 0) = true := by rw [bne_iff_ne]; exact h
    clear h hu
    go_enter Try.func41, Try.ntmps41
    go_wp2_with fail
    refine (c_within _ _ _ _).mono ?_
    rintro e w0 ⟨rfl, rfl⟩
    go_wp2_with fail
    refine (c_squareCode u m _ _ HU.out).mono ?_
    rintro e w1 ⟨rfl, hb⟩
    have HB := Lib.hid hb
    clear hb
    go_wp2_with fail
    go_ret2
    refine ⟨.slice none 0 0, ?_, ?_, HB.out⟩
    · rw [H.out]; rfl
    · rw [H.out]; exact OwnM.nil _ _
theorem c_SPowerMatrix (u : Value) (m : List (List Int)) (k : Int) (w : World) (hu : IntRows w u m) :
    Calls Try.prog 40 #[u, .int .i64 k] w (RetMC (powM m k) w) := by
  have HU := Lib.hid hu
  by_cases h : sqCode m true = 0
  · have HR := Lib.hid (sq_rows h)
    have HT := Lib.hid (sqF h)
    have hB : (sqCode m true == 0) = true := by simp [h]
    have HP := Lib.hid (sq_parts h)
    have H0 := Lib.hid h
    cases hr : inR 0 1000000 k
    · have H : Hid (powM m k = ([], 2)) := Lib.hid (by
        have e : sqCode m false = 2 := by unfold sqCode; rw [if_pos HP.out.1, if_neg (by simp)]
        unfold powM; rw [hr, if_neg (by rw [e]; decide), e])
      have HI := Lib.hid hr
      clear h hu hr
      go_enter Try.func40, Try.ntmps40
      go_wp2_with fail
      refine (c_l02Square u m _ HU.out).mono ?_
      rintro e w1 ⟨rfl, hb⟩
      have HB := Lib.hid hb
      clear hb
      go_wp2_with fail
      refine (c_l01In _ _ _ _).mono ?_
      rintro e w0 ⟨rfl, rfl⟩
      rw [HI.out]
      go_wp2_with fail
      go_ret2
      refine ⟨.slice none 0 0, ?_, ?_, HB.out⟩
      · rw [H.out]; rfl
      · rw [H.out]; exact OwnM.nil _ _
    · have hk := inR_true hr
      obtain ⟨hk1, hk2⟩ := hk
      have H : Hid (powM m k = (tabF m.length m.length (ploop m.length one (entF m) k.toNat), 0)) := Lib.hid (by unfold powM; rw [hr]; exact if_pos h)
      have HI := Lib.hid hr
      have HK : Hid (k = ((k.toNat : Nat) : Int)) := Lib.hid (by omega)
      have hB2 : (sqCode m true != 0) = false := by simp [h]
      clear h hu hr
      go_enter Try.func40, Try.ntmps40
      go_wp2_with fail
      refine (c_l02Square u m _ HU.out).mono ?_
      rintro e w1 ⟨rfl, hb⟩
      have HB := Lib.hid hb
      have HV : Hid (IntRows w1 u (tabF m.length m.length (entF m))) := Lib.hid (by rw [← HT.out]; exact HU.out.keep hb)
      clear hb
      go_wp2_with fail
      refine (c_l01In _ _ _ _).mono ?_
      rintro e w0 ⟨rfl, rfl⟩
      rw [HI.out]
      go_wp2_with fail
      have hc := c_l02Power u m.length (entF m) k.toNat w1 HV.out HR.out.1 (by have := HR.out.2.1; omega) (by omega)
      rw [← HK.out] at hc
      refine hc.mono ?_
      rintro e w2 ⟨v2, rfl, ho2, hb2⟩
      clear hc
      go_wp2_with fail
      go_ret2
      refine ⟨v2, ?_, ?_, HB.out.trans (hb2.mono HB.out.size)⟩
      · rw [H.out]; rfl
      · rw [H.out]; exact ho2.mono HB.out.size
  · have H : Hid (powM m k = ([], sqCode m true)) := Lib.hid (by
      have e : ∀ b, sqCode m b = sqCode m true := fun b => by
        unfold sqCode at h ⊢
        by_cases hm : isMat m = true
        · rw [if_pos hm, if_pos hm] at *
          by_cases hl : m.length = width m
          · rw [if_pos ⟨hl, rfl⟩] at h; exact absurd rfl h
          · rw [if_neg (fun e => hl e.1), if_neg (fun e => hl e.1)]
        · rw [if_neg hm, if_neg hm]
      unfold powM
      rw [e, if_neg h])
    have hB : (sqCode m true == 0) = false := by simpa using h
    have hB2 : (sqCode m true != 0) = true := by rw [bne_iff_ne]; exact h
    clear h hu
    go_enter Try.func40, Try.ntmps40
    go_wp2_with fail
    refine (c_l02Square u m _ HU.out).mono ?_
    rintro e w1 ⟨rfl, hb⟩
    have HB := Lib.hid hb
    clear hb
    go_wp2_with fail
    go_ret2
    refine ⟨.slice none 0 0, ?_, ?_, HB.out⟩
    · rw [H.out]; rfl
    · rw [H.out]; exact OwnM.nil _ _
end Go.Proofs.Ytbllpgbmnapddaa
