/- Walks: characteristic polynomials and eigenvalues with their codes, program and reference. -/
import Derived.Test.YtmbcncmmgfnlmaaCht
import Derived.Test.YtmbcncmmgfnlmaaGev
import Derived.Test.YtmbcncmmgfnlmaaInn
namespace Go.Proofs.Ytmbcncmmgfnlmaa
open Go.RowKit
open Fus (F Mx toI ofI toI_bd toI_of ofI_toI ofI_mul ofI_add hz hz_top hz_step hz_ev ev rts rts_yes rts_no rts_length rts_congr fnat fnat_toI fl hpoly fl_hpoly)

theorem out_hpoly {n : Nat} (h1 : 1 ≤ n) (h2 : n ≤ 1000) (f : Mx) : ∀ i, i < n + 1 → outP n f n i = hpoly n f i := fun i hi => by
  unfold outP
  rw [if_pos (by omega), fl_hpoly h1 h2 f (by omega), show n - (n - i) = i from by omega]
def charN (m : List (List Int)) : List Int × Int := if sqCode m true = 0 then (zl (m.length + 1) (hpoly m.length (entF m)), 0) else ([], sqCode m true)
def valsN (m : List (List Int)) : List Int × Int := if sqCode m true = 0 then (rts (m.length + 1) (hpoly m.length (entF m)) 55441, 0) else ([], sqCode m true)
theorem charN_small (m : List (List Int)) : (charN m).1.length ≤ 4096 := by
  unfold charN
  split
  · rename_i h; have := (sq_rows h).2.1; rw [zl_length]; omega
  · simp
theorem valsN_small (m : List (List Int)) : (valsN m).1.length ≤ 100000 := by
  unfold valsN
  split
  · have := rts_length (m.length + 1) (hpoly m.length (entF m)) 55441; show (rts _ _ _).length ≤ _; omega
  · simp
attribute [local irreducible] Fus.rts Fus.fnat
theorem c_characteristicH (v : Value) (n : Nat) (f : Mx) (w : World) (hv : IntRows w v (tabF n n f)) (hn1 : 0 < n) (hn2 : n ≤ 500) :
    Calls Try.prog 69 #[v] w (RetI (zl (n + 1) (hpoly n f)) w) := by
  have h := c_characteristic v n f w hv hn1 hn2
  rw [zl_congr (out_hpoly hn1 (by omega) f)] at h
  exact h
theorem c_eigenvaluesH (v : Value) (n : Nat) (f : Mx) (w : World) (hv : IntRows w v (tabF n n f)) (hn1 : 0 < n) (hn2 : n ≤ 500) :
    Calls Try.prog 81 #[v] w (RetI (rts (n + 1) (hpoly n f) 55441) w) := by
  have h := c_eigenvalues v n f w hv hn1 hn2
  rw [rts_congr (out_hpoly hn1 (by omega) f)] at h
  exact h
set_option maxRecDepth 100000 in
set_option maxHeartbeats 4000000 in
theorem c_l02Values (v : Value) (n : Nat) (f : Mx) (w : World) (hv : IntRows w v (tabF n n f)) (hn1 : 0 < n) (hn2 : n ≤ 500) :
    Calls Try.prog 75 #[v] w (RetI (rts (n + 1) (hpoly n f) 55441) w) := by
  have HV := Lib.hid hv
  clear hv
  go_enter Try.func75, Try.ntmps75
  go_wp2_with fail
  refine (c_l02Char v n f _ HV.out hn1 hn2).mono ?_
  rintro e w1 ⟨v1, rfl, ho1, hb1⟩
  generalize hpoly n f = c at *
  obtain ⟨g1, c1, rfl, hg1, hg2⟩ := ho1.shapeN (zl_length _ _) (by omega)
  have HC : Hid (∀ j, j < n + 1 → w1.cell? ⟨g1, j, none⟩ = some (vi (toI (c j)))) := Lib.hid (fun j hj => Own.cell ho1 (zl_get hj))
  have HB1 := Lib.hid hb1
  have hz1 := hb1.size
  clear ho1 hb1
  go_wp2_with fail
  go_loopw [4, 5] (fun s x wr => ∃ k : Nat, (k : Int) ≤ 55441 ∧ x = .int .i64 k ∧ OwnI wr w1.heap.size s (rts (n + 1) c k) ∧ Below w1.heap.size w1 wr) (fun _ x _ => (55441 - intOf x).toNat)
  case atStart => exact ⟨0, by omega, rfl, by rw [rts_zero]; exact own_empty _ _ _ (Nat.le_refl _), below_alloc _ _⟩
  case round =>
    obtain ⟨k, hk, rfl, hs, hbel⟩ := hrel
    have HS := Lib.hid hs
    have HB := Lib.hid hbel
    have hsz := hbel.size
    clear hs hbel
    by_cases hk1 : (k : Int) < 55441
    · have hk0 : (0 : Int) ≤ (k : Int) := by omega
      have HKE : Hid (toI (fnat k) = (k : Int)) := Lib.hid (fnat_toI hk1)
      have hlen := rts_length (n + 1) c k
      go_wp2_with fail
      go_loop [6, 7] (fun s i => ∃ j : Nat, j ≤ n + 1 ∧ i = .int .i64 ((j : Int) - 1) ∧ s = .int .i64 (toI (hz c (fnat k) (n + 1) j))) (fun _ i => (intOf i + 1).toNat)
      case atStart => exact ⟨n + 1, Nat.le_refl _, by go_num, by rw [hz_top c _ (Nat.le_refl _), Fus.toI_zero]⟩
      case round =>
        obtain ⟨j, hj, rfl, rfl⟩ := hrel
        cases j with
        | zero =>
          rw [hz_ev, show ((0 : Nat) : Int) - 1 = -1 from rfl]
          by_cases hev : ev (n + 1) c (fnat k) = 0
          · have HY : Hid (rts (n + 1) c (k + 1) = rts (n + 1) c k ++ [(k : Int)]) := Lib.hid (rts_yes hev)
            rw [hev, Fus.toI_zero]
            clear hev
            go_wp2_with (at_builtin; refine wp_pushI HS.out rfl _ _ rfl rfl rfl (by first | with_reducible rfl | simp) (by omega) (by omega) ?_; intro v3 w3 ho3 _ hb3)
            go_roundw
            case rel => exact ⟨k + 1, by omega, by go_num, by rw [HY.out]; exact ho3, HB.out.trans hb3⟩
            case measure => simp [intOf]; omega
          · have HN : Hid (rts (n + 1) c (k + 1) = rts (n + 1) c k) := Lib.hid (rts_no hev)
            have hevB : (toI (ev (n + 1) c (fnat k)) == 0) = false := by simpa using fun e => hev (Fus.toI_eq_zero.1 e)
            clear hev
            go_wp2_with fail
            go_roundw
            case rel => exact ⟨k + 1, by omega, by go_num, by rw [HN.out]; exact HS.out, HB.out⟩
            case measure => simp [intOf]; omega
        | succ j =>
          have e1 : (((j + 1 : Nat) : Int) - 1) = (j : Int) := by omega
          rw [e1]
          have g1 := bcell HB.out (HC.out j (by omega))
          obtain ⟨S, hS⟩ : ∃ S, hz c (fnat k) (n + 1) (j + 1) = S := ⟨_, rfl⟩
          obtain ⟨S', hS'⟩ : ∃ S', hz c (fnat k) (n + 1) j = S' := ⟨_, rfl⟩
          have hst := hz_step c (fnat k) (m := n + 1) (k := j) (by omega)
          rw [hS, hS'] at hst
          rw [hS]
          have HS' := Lib.hid hS'
          have hsb := toI_bd S
          have hcb := toI_bd (c j)
          have hp := prod_bd hsb.1 hsb.2 hk0 hk1
          have hw1 : IntKind.i64.wrap (toI S * (k : Int)) = toI S * (k : Int) := IntWalk.i64_in _ (by omega)
          have hw2 : IntKind.i64.wrap (toI S * (k : Int) + toI (c j)) = toI S * (k : Int) + toI (c j) := IntWalk.i64_in _ (by omega)
          have hw3 : (toI S * (k : Int) + toI (c j)).tmod 55441 = toI S' := by rw [← HKE.out, hst]; exact hornerZ
          have hjI : (j : Int) < (n : Int) + 1 := by omega
          have hjI0 : (0 : Int) ≤ (j : Int) := by omega
          clear hS hS' hst hsb hcb hp
          go_wp2_with fail
          go_round
          case rel => exact ⟨j, by omega, by go_num, by rw [HS'.out]⟩
          case measure => simp [intOf]
    · have HEQ : Hid (k = 55441) := Lib.hid (by omega)
      go_wp2_with fail
      go_ret
      exact ⟨_, rfl, by rw [← HEQ.out]; exact HS.out.mono hz1, HB1.out.trans (HB.out.mono hz1)⟩
theorem c_CharacteristicPolynomial (u : Value) (m : List (List Int)) (w : World) (hu : IntRows w u m) :
    Calls Try.prog 27 #[u] w (RetIC (charN m) w) := by
  have HU := Lib.hid hu
  by_cases h : sqCode m true = 0
  · have HR := Lib.hid (sq_rows h)
    have HT := Lib.hid (sqFi h)
    have hB : (sqCode m true != 0) = false := by simp [h]
    have H : Hid (charN m = (zl (m.length + 1) (hpoly m.length (entF m)), 0)) := Lib.hid (if_pos h)
    clear h hu
    go_enter Try.func27, Try.ntmps27
    go_wp2_with fail
    refine (c_squareCode u m _ _ HU.out).mono ?_
    rintro e w1 ⟨rfl, hb⟩
    have HB := Lib.hid hb
    have HV : Hid (IntRows w1 u (tabF m.length m.length (entF m))) := Lib.hid (by rw [← HT.out]; exact HU.out.keep hb)
    clear hb
    go_wp2_with fail
    refine (c_characteristicH u m.length (entF m) _ HV.out HR.out.1 (by have := HR.out.2.1; omega)).mono ?_
    rintro e w2 ⟨v2, rfl, ho2, hb2⟩
    go_wp2_with fail
    go_ret2
    refine ⟨v2, ?_, ?_, HB.out.trans (hb2.mono HB.out.size)⟩
    · rw [H.out]; rfl
    · rw [H.out]; exact ho2.mono HB.out.size
  · have H : Hid (charN m = ([], sqCode m true)) := Lib.hid (if_neg h)
    have hB : (sqCode m true != 0) = true := by rw [bne_iff_ne]; exact h
    clear h hu
    go_enter Try.func27, Try.ntmps27
    go_wp2_with fail
    refine (c_squareCode u m _ _ HU.out).mono ?_
    rintro e w1 ⟨rfl, hb⟩
    have HB := Lib.hid hb
    clear hb
    go_wp2_with fail
    go_ret2
    refine ⟨.slice none 0 0, ?_, ?_, HB.out⟩
    · rw [H.out]; rfl
    · rw [H.out]; exact Own.nil _ _ _
theorem c_SCharacteristicPolynomial (u : Value) (m : List (List Int)) (w : World) (hu : IntRows w u m) :
    Calls Try.prog 28 #[u] w (RetIC (charN m) w) := by
  have HU := Lib.hid hu
  by_cases h : sqCode m true = 0
  · have HR := Lib.hid (sq_rows h)
    have HT := Lib.hid (sqFi h)
    have hB : (sqCode m true != 0) = false := by simp [h]
    have H : Hid (charN m = (zl (m.length + 1) (hpoly m.length (entF m)), 0)) := Lib.hid (if_pos h)
    clear h hu
    go_enter Try.func28, Try.ntmps28
    go_wp2_with fail
    refine (c_l02Square u m _ HU.out).mono ?_
    rintro e w1 ⟨rfl, hb⟩
    have HB := Lib.hid hb
    have HV : Hid (IntRows w1 u (tabF m.length m.length (entF m))) := Lib.hid (by rw [← HT.out]; exact HU.out.keep hb)
    clear hb
    go_wp2_with fail
    refine (c_l02Char u m.length (entF m) _ HV.out HR.out.1 (by have := HR.out.2.1; omega)).mono ?_
    rintro e w2 ⟨v2, rfl, ho2, hb2⟩
    go_wp2_with fail
    go_ret2
    refine ⟨v2, ?_, ?_, HB.out.trans (hb2.mono HB.out.size)⟩
    · rw [H.out]; rfl
    · rw [H.out]; exact ho2.mono HB.out.size
  · have H : Hid (charN m = ([], sqCode m true)) := Lib.hid (if_neg h)
    have hB : (sqCode m true != 0) = true := by rw [bne_iff_ne]; exact h
    clear h hu
    go_enter Try.func28, Try.ntmps28
    go_wp2_with fail
    refine (c_l02Square u m _ HU.out).mono ?_
    rintro e w1 ⟨rfl, hb⟩
    have HB := Lib.hid hb
    clear hb
    go_wp2_with fail
    go_ret2
    refine ⟨.slice none 0 0, ?_, ?_, HB.out⟩
    · rw [H.out]; rfl
    · rw [H.out]; exact Own.nil _ _ _
theorem c_EigenvaluesOf (u : Value) (m : List (List Int)) (w : World) (hu : IntRows w u m) :
    Calls Try.prog 39 #[u] w (RetIC (valsN m) w) := by
  have HU := Lib.hid hu
  by_cases h : sqCode m true = 0
  · have HR := Lib.hid (sq_rows h)
    have HT := Lib.hid (sqFi h)
    have hB : (sqCode m true != 0) = false := by simp [h]
    have H : Hid (valsN m = (rts (m.length + 1) (hpoly m.length (entF m)) 55441, 0)) := Lib.hid (if_pos h)
    clear h hu
    go_enter Try.func39, Try.ntmps39
    go_wp2_with fail
    refine (c_squareCode u m _ _ HU.out).mono ?_
    rintro e w1 ⟨rfl, hb⟩
    have HB := Lib.hid hb
    have HV : Hid (IntRows w1 u (tabF m.length m.length (entF m))) := Lib.hid (by rw [← HT.out]; exact HU.out.keep hb)
    clear hb
    go_wp2_with fail
    refine (c_eigenvaluesH u m.length (entF m) _ HV.out HR.out.1 (by have := HR.out.2.1; omega)).mono ?_
    rintro e w2 ⟨v2, rfl, ho2, hb2⟩
    go_wp2_with fail
    go_ret2
    refine ⟨v2, ?_, ?_, HB.out.trans (hb2.mono HB.out.size)⟩
    · rw [H.out]; rfl
    · rw [H.out]; exact ho2.mono HB.out.size
  · have H : Hid (valsN m = ([], sqCode m true)) := Lib.hid (if_neg h)
    have hB : (sqCode m true != 0) = true := by rw [bne_iff_ne]; exact h
    clear h hu
    go_enter Try.func39, Try.ntmps39
    go_wp2_with fail
    refine (c_squareCode u m _ _ HU.out).mono ?_
    rintro e w1 ⟨rfl, hb⟩
    have HB := Lib.hid hb
    clear hb
    go_wp2_with fail
    go_ret2
    refine ⟨.slice none 0 0, ?_, ?_, HB.out⟩
    · rw [H.out]; rfl
    · rw [H.out]; exact Own.nil _ _ _
theorem c_SEigenvaluesOf (u : Value) (m : List (List Int)) (w : World) (hu : IntRows w u m) :
    Calls Try.prog 40 #[u] w (RetIC (valsN m) w) := by
  have HU := Lib.hid hu
  by_cases h : sqCode m true = 0
  · have HR := Lib.hid (sq_rows h)
    have HT := Lib.hid (sqFi h)
    have hB : (sqCode m true != 0) = false := by simp [h]
    have H : Hid (valsN m = (rts (m.length + 1) (hpoly m.length (entF m)) 55441, 0)) := Lib.hid (if_pos h)
    clear h hu
    go_enter Try.func40, Try.ntmps40
    go_wp2_with fail
    refine (c_l02Square u m _ HU.out).mono ?_
    rintro e w1 ⟨rfl, hb⟩
    have HB := Lib.hid hb
    have HV : Hid (IntRows w1 u (tabF m.length m.length (entF m))) := Lib.hid (by rw [← HT.out]; exact HU.out.keep hb)
    clear hb
    go_wp2_with fail
    refine (c_l02Values u m.length (entF m) _ HV.out HR.out.1 (by have := HR.out.2.1; omega)).mono ?_
    rintro e w2 ⟨v2, rfl, ho2, hb2⟩
    go_wp2_with fail
    go_ret2
    refine ⟨v2, ?_, ?_, HB.out.trans (hb2.mono HB.out.size)⟩
    · rw [H.out]; rfl
    · rw [H.out]; exact ho2.mono HB.out.size
  · have H : Hid (valsN m = ([], sqCode m true)) := Lib.hid (if_neg h)
    have hB : (sqCode m true != 0) = true := by rw [bne_iff_ne]; exact h
    clear h hu
    go_enter Try.func40, Try.ntmps40
    go_wp2_with fail
    refine (c_l02Square u m _ HU.out).mono ?_
    rintro e w1 ⟨rfl, hb⟩
    have HB := Lib.hid hb
    clear hb
    go_wp2_with fail
    go_ret2
    refine ⟨.slice none 0 0, ?_, ?_, HB.out⟩
    · rw [H.out]; rfl
    · rw [H.out]; exact Own.nil _ _ _
end Go.Proofs.Ytmbcncmmgfnlmaa
