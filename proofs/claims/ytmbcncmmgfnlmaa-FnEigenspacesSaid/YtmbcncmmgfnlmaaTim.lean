/- Walks: products of matrices by the reference; turning over and multiplying with their codes. -/
import Derived.Test.YtmbcncmmgfnlmaaTur
namespace Go.Proofs.Ytmbcncmmgfnlmaa
open Go.RowKit

set_option maxHeartbeats 1600000 in
theorem c_l02Times (u v : Value) (a b : List (List Int)) (w : World) (hu : IntRows w u a) (hv : IntRows w v b) (ha : Good a b.length) (hb : Good b (width b)) (hp : 0 < b.length) (h1 : a.length ≤ 100000) (h2 : b.length ≤ 100000) (h3 : width b ≤ 100000) :
    Calls Try.prog 52 #[u, v] w (RetM (mulZ a b) w) := by
  obtain ⟨bb, ob, capb, a2, cap2, x0, hveq, hlb, hx0, hw0, hl2, hcell0⟩ := mat_first hv hp
  obtain ⟨pb, capb', hveq', _, hcb⟩ := hv
  rw [hveq] at hveq'
  cases hveq'
  subst hveq
  obtain ⟨pa, cap, rfl, hl, hc⟩ := hu
  have HC := Lib.hid hc
  have HCB := Lib.hid hcb
  have HA := Lib.hid ha
  have HBB := Lib.hid hb
  have HW := Lib.hid hw0
  rw [hw0] at HBB h3
  clear hc hcb ha hb hx0 hw0
  go_enter Try.func52, Try.ntmps52
  go_wp2_with fail
  go_loopw [5, 6] (fun s i wr => ∃ (k : Nat), k ≤ a.length ∧ i = .int .i64 k ∧ OwnM wr w.heap.size s (tab k x0.length fun i k => sumK b.length (fun j => ent a i j * ent b j k) % 55441) ∧ Below w.heap.size w wr) (fun _ i _ => a.length - (intOf i).toNat)
  case atStart => exact ⟨0, Nat.zero_le _, rfl, ownM_empty _ _ (Nat.le_refl _), below_alloc _ _⟩
  case round =>
    obtain ⟨i, hi, rfl, hown, hbel⟩ := hrel
    by_cases hlt : i < a.length
    · obtain ⟨x, hx⟩ : ∃ x, a[i]? = some x := ⟨a[i], by simp [hlt]⟩
      obtain ⟨b', off', q, rfl, hcell, ⟨pa', ca', rfl, hla', hcx⟩⟩ := HC.out i x hx
      have hcx1 := bcell hbel hcell
      have hcx0 := bcell hbel hcell0
      have HX := Lib.hid hx
      have HCX := Lib.hid hcx
      have HR := Lib.hid (HA.out i x hx)
      have HOW := Lib.hid hown
      have HB := Lib.hid hbel
      have hsz := hbel.size
      clear hx hcx hcell hown hbel
      go_wp2_with fail
      obtain ⟨wo, rfl⟩ : ∃ wo : World, wo = wr := ⟨_, rfl⟩
      go_loopw [7, 8] (fun s j wr => ∃ (k : Nat), k ≤ x0.length ∧ j = .int .i64 k ∧ OwnI wr wo.heap.size s (vec k fun k => sumK b.length (fun j => ent a i j * ent b j k) % 55441) ∧ Below wo.heap.size wo wr) (fun _ j _ => x0.length - (intOf j).toNat)
      case atStart => exact ⟨0, Nat.zero_le _, rfl, own_empty _ _ _ (Nat.le_refl _), below_alloc _ _⟩
      case round =>
        obtain ⟨k, hk, rfl, hown, hbel⟩ := hrel
        have hcy0 := bcell hbel hcx0
        have hcy1 := bcell hbel hcx1
        by_cases hltk : k < x0.length
        · have HOW2 := Lib.hid hown
          have HB2 := Lib.hid hbel
          have hsz2 := hbel.size
          clear hown hbel hcx0 hcx1
          go_wp2_with fail
          obtain ⟨wm, rfl⟩ : ∃ wm : World, wm = wr := ⟨_, rfl⟩
          go_loopw [9, 10] (fun s l wr => ∃ (j : Nat) (t : Int), j ≤ b.length ∧ l = .int .i64 j ∧ s = .int .i64 t ∧ 0 ≤ t ∧ t ≤ 55440 ∧ Hid (t = sumK j (fun j => ent a i j * ent b j k) % 55441) ∧ Drew wm wr) (fun _ l _ => b.length - (intOf l).toNat)
          case atStart => exact ⟨0, 0, Nat.zero_le _, rfl, rfl, by omega, by omega, rfl, Drew.refl _⟩
          case round =>
            obtain ⟨j, t, hj, rfl, rfl, ht1, ht2, H, hd⟩ := hrel
            by_cases hltj : j < b.length
            · obtain ⟨y, z, hy, hz, hent, hyl, hz1, hz2⟩ := HBB.out.at hltj hltk
              have hjx : j < x.length := by rw [HR.out.1]; exact hltj
              obtain ⟨p, hp'⟩ : ∃ p, x[j]? = some p := ⟨x[j], by simp⟩
              have hpn := nums_at HR.out.2 hp'
              obtain ⟨hp1, hp2⟩ := hpn
              have HEA := Lib.hid (ent_at HX.out hp')
              have HEB := Lib.hid hent
              obtain ⟨b3, off3, rfl, hcp⟩ := HCX.out j p hp'
              obtain ⟨b4, off4, q4, hab, hcy, ⟨a5, c5, rfl, _, hcz⟩⟩ := HCB.out j y hy
              cases hab
              obtain ⟨b6, off6, rfl, hcz'⟩ := hcz k z hz
              have g1 := hd.cell hcy1
              have g2 := hd.cell (bcell HB2.out (bcell HB.out hcp))
              have g3 := hd.cell (bcell HB2.out (bcell HB.out hcy))
              have g4 := hd.cell (bcell HB2.out (bcell HB.out hcz'))
              have hky : k < y.length := by omega
              have hpr := prod_bd hp1 hp2 hz1 hz2
              obtain ⟨hpr1, hpr2⟩ := hpr
              have HS : Hid ((t + p * z) % 55441 = sumK (j + 1) (fun j => ent a i j * ent b j k) % 55441) := Lib.hid (by
                have e : sumK (j + 1) (fun j => ent a i j * ent b j k) = sumK j (fun j => ent a i j * ent b j k) + ent a i j * ent b j k := rfl
                rw [e, HEA.out, HEB.out]; have := H.out; omega)
              have HD := Lib.hid hd
              clear hy hz hent hyl hp' hcp hcy hcz hcz' H hd
              have hw1 : IntKind.i64.wrap (p * z) = p * z := IntWalk.i64_in _ (by omega)
              have hw3 : IntKind.i64.wrap (t + p * z) = t + p * z := IntWalk.i64_in _ (by omega)
              have hw2 : (t + p * z).tmod 55441 = (t + p * z) % 55441 := Int.tmod_eq_emod_of_nonneg (by omega)
              go_wp2_with fail
              go_quiet (fail)
              go_wp2_with fail
              go_roundw
              case rel => exact ⟨j + 1, _, by omega, by go_num, rfl, by omega, by omega, HS.out, HD.out.more _⟩
              case measure => simp [intOf]; omega
            · obtain rfl : j = b.length := by omega
              have HOW3 := Lib.hid (HOW2.out.keep (hd.below _))
              have HB3 := Lib.hid (HB2.out.trans (hd.below _))
              have hsz3 : wm.heap.size ≤ wr.heap.size := by rw [hd.heap]; exact Nat.le_refl _
              have HH := Lib.hid H.out
              clear hd H
              go_wp2_with (at_builtin; refine wp_pushI HOW3.out rfl _ _ rfl rfl rfl (by first | with_reducible rfl | simp) (by omega) (by rw [vec_length]; omega) ?_; intro v' w2 ho2 _ hb2)
              go_roundw
              case rel => exact ⟨k + 1, by omega, by go_num, by rw [vec_snoc, ← HH.out]; exact ho2, HB3.out.trans hb2⟩
              case measure => simp [intOf]; omega
        · obtain rfl : k = x0.length := by omega
          obtain ⟨p5, n5, c5, rfl⟩ := hown.slice
          have HOW2 := Lib.hid hown
          have HB2 := Lib.hid hbel
          have hsz2 := hbel.size
          clear hown hbel
          go_wp2_with (at_builtin; refine wp_pushM HOW.out HB2.out HOW2.out rfl _ _ rfl rfl rfl (by first | with_reducible rfl | simp) (by omega) (by rw [tab_length]; omega) ?_; intro v' w2 ho2 hb2)
          go_roundw
          case rel => exact ⟨i + 1, by omega, by go_num, by rw [tab, vec_snoc]; exact ho2, (HB.out.trans (HB2.out.mono hsz)).trans hb2⟩
          case measure => simp [intOf]; omega
    · obtain rfl : i = a.length := by omega
      have HOW := Lib.hid hown
      have HB := Lib.hid hbel
      clear hown hbel
      go_wp2_with fail
      go_ret
      exact ⟨_, rfl, by rw [mulZ, HW.out]; exact HOW.out, HB.out⟩

def turnN (m : List (List Int)) : List (List Int) × Int := if isMat m = true then (turnZ m, 0) else ([], 1)
theorem small_tab {r c : Nat} {f : Nat → Nat → Int} (hr : r ≤ 4096) (hc : c ≤ 4096) : Small 4096 (tab r c f) :=
  ⟨by rw [tab_length]; exact hr, fun xs hx => by obtain ⟨i, _, rfl⟩ := vec_mem hx; rw [vec_length]; exact hc⟩
theorem small_nil : Small 4096 ([] : List (List Int)) := ⟨by simp, fun _ h => by simp at h⟩
theorem turnN_small (m : List (List Int)) : Small 4096 (turnN m).1 := by
  unfold turnN
  split
  · rename_i h; obtain ⟨_, h2, _, h4, _⟩ := isMat_parts h; exact small_tab (by omega) (by omega)
  · exact small_nil
def mulM (a b : List (List Int)) : List (List Int) × Int :=
  if isMat a = true ∧ isMat b = true then (if width a = b.length then (mulZ a b, 0) else ([], 2)) else ([], 1)
theorem mulM_small (a b : List (List Int)) : Small 4096 (mulM a b).1 := by
  unfold mulM
  split
  · rename_i h
    obtain ⟨_, h2, _, _, _⟩ := isMat_parts h.1
    obtain ⟨_, _, _, h4, _⟩ := isMat_parts h.2
    split
    · exact small_tab (by omega) (by omega)
    · exact small_nil
  · exact small_nil

theorem c_TransposeMatrix (u : Value) (m : List (List Int)) (w : World) (hu : IntRows w u m) :
    Calls Try.prog 16 #[u] w (RetMC (turnN m) w) := by
  have HU := Lib.hid hu
  cases hm : isMat m
  · have H : Hid (turnN m = ([], 1)) := Lib.hid (by unfold turnN; rw [if_neg (by simp [hm])])
    have HM := Lib.hid hm
    clear hm hu
    go_enter Try.func16, Try.ntmps16
    go_wp2_with fail
    refine (c_IsMatrix u m _ HU.out).mono ?_
    rintro e w1 ⟨rfl, hb1⟩
    rw [HM.out]
    have HB1 := Lib.hid hb1
    clear hb1
    go_wp2_with fail
    go_ret2
    refine ⟨.slice none 0 0, ?_, ?_, HB1.out⟩
    · rw [H.out]; rfl
    · rw [H.out]; exact OwnM.nil _ _
  · have H : Hid (turnN m = (turnZ m, 0)) := Lib.hid (by unfold turnN; rw [if_pos hm])
    have HP := Lib.hid (isMat_parts hm)
    have HG := Lib.hid (good_mat hm)
    have HM := Lib.hid hm
    clear hm hu
    go_enter Try.func16, Try.ntmps16
    go_wp2_with fail
    refine (c_IsMatrix u m _ HU.out).mono ?_
    rintro e w1 ⟨rfl, hb1⟩
    rw [HM.out]
    have HB1 := Lib.hid hb1
    have HU1 := Lib.hid (HU.out.keep HB1.out)
    clear hb1
    go_wp2_with fail
    refine (c_transpose u m _ HU1.out HP.out.1 HG.out HP.out.2.2.1 (Nat.le_trans HP.out.2.1 (by omega)) (Nat.le_trans HP.out.2.2.2.1 (by omega))).mono ?_
    rintro e w3 ⟨v3, rfl, ho3, hb3⟩
    go_wp2_with fail
    go_ret2
    refine ⟨v3, ?_, ?_, HB1.out.trans (hb3.mono HB1.out.size)⟩
    · rw [H.out]; rfl
    · rw [H.out]; exact ho3.mono HB1.out.size
set_option maxHeartbeats 1000000 in
theorem c_MultiplyMatrices (u : Value) (a : List (List Int)) (v : Value) (b : List (List Int)) (w : World) (hu : IntRows w u a) (hv : IntRows w v b) :
    Calls Try.prog 8 #[u, v] w (RetMC (mulM a b) w) := by
  have HU := Lib.hid hu
  have HV := Lib.hid hv
  cases hm : isMat a
  · have H : Hid (mulM a b = ([], 1)) := Lib.hid (by unfold mulM; rw [if_neg (by simp [hm])])
    have HM := Lib.hid hm
    clear hm hu hv
    go_enter Try.func8, Try.ntmps8
    go_wp2_with fail
    refine (c_IsMatrix u a _ HU.out).mono ?_
    rintro e w1 ⟨rfl, hb1⟩
    rw [HM.out]
    have HB1 := Lib.hid hb1
    clear hb1
    go_wp2_with fail
    go_ret2
    refine ⟨.slice none 0 0, ?_, ?_, HB1.out⟩
    · rw [H.out]; rfl
    · rw [H.out]; exact OwnM.nil _ _
  · cases hm2 : isMat b
    · have H : Hid (mulM a b = ([], 1)) := Lib.hid (by unfold mulM; rw [if_neg (by simp [hm2])])
      have HM := Lib.hid hm
      have HM2 := Lib.hid hm2
      clear hm hm2 hu hv
      go_enter Try.func8, Try.ntmps8
      go_wp2_with fail
      refine (c_IsMatrix u a _ HU.out).mono ?_
      rintro e w1 ⟨rfl, hb1⟩
      rw [HM.out]
      have HB1 := Lib.hid hb1
      have HV1 := Lib.hid (HV.out.keep HB1.out)
      clear hb1
      go_wp2_with fail
      refine (c_IsMatrix v b _ HV1.out).mono ?_
      rintro e w2 ⟨rfl, hb2⟩
      rw [HM2.out]
      have HB2 := Lib.hid (HB1.out.trans (hb2.mono HB1.out.size))
      clear hb2
      go_wp2_with fail
      go_ret2
      refine ⟨.slice none 0 0, ?_, ?_, HB2.out⟩
      · rw [H.out]; rfl
      · rw [H.out]; exact OwnM.nil _ _
    · have HP := Lib.hid (isMat_parts hm)
      have HP2 := Lib.hid (isMat_parts hm2)
      have HG := Lib.hid (good_mat hm)
      have HG2 := Lib.hid (good_mat hm2)
      have hpos : 0 < a.length := HP.out.1
      have HM := Lib.hid hm
      have HM2 := Lib.hid hm2
      obtain ⟨bf, off, cap, a2, cap2, x0, rfl, hl, hx0, hw0, hl2, hcell0⟩ := mat_first hu hpos
      have HW := Lib.hid hw0
      obtain ⟨a', cap', rfl, hl', _⟩ := hv
      clear hm hm2 hu hx0 hw0
      by_cases hlen : x0.length = b.length
      · have hlenB : ((x0.length : Int) != (b.length : Int)) = false := by simp [hlen]
        have H : Hid (mulM a b = (mulZ a b, 0)) := Lib.hid (by unfold mulM; rw [if_pos ⟨HM.out, HM2.out⟩, if_pos (by rw [HW.out]; exact hlen)])
        have HL := Lib.hid hlen
        clear hlen
        go_enter Try.func8, Try.ntmps8
        go_wp2_with fail
        refine (c_IsMatrix _ a _ HU.out).mono ?_
        rintro e w1 ⟨rfl, hb1⟩
        rw [HM.out]
        have HB1 := Lib.hid hb1
        have HU1 := Lib.hid (HU.out.keep HB1.out)
        have HV1 := Lib.hid (HV.out.keep HB1.out)
        clear hb1
        go_wp2_with fail
        refine (c_IsMatrix _ b _ HV1.out).mono ?_
        rintro e w2 ⟨rfl, hb2⟩
        rw [HM2.out]
        have HB2 := Lib.hid (HB1.out.trans (hb2.mono HB1.out.size))
        have HU2 := Lib.hid (HU1.out.keep hb2)
        have HV2 := Lib.hid (HV1.out.keep hb2)
        have hcell2 := bcell HB2.out hcell0
        clear hb2
        go_wp2_with fail
        refine (c_multiply _ _ a b _ HU2.out HV2.out (by rw [← HL.out, ← HW.out]; exact HG.out) HG2.out HP2.out.1 HP2.out.2.2.1 (Nat.le_trans HP.out.2.1 (by omega)) (Nat.le_trans HP2.out.2.1 (by omega)) (Nat.le_trans HP2.out.2.2.2.1 (by omega))).mono ?_
        rintro e w3 ⟨v3, rfl, ho3, hb3⟩
        go_wp2_with fail
        go_ret2
        refine ⟨v3, ?_, ?_, HB2.out.trans (hb3.mono HB2.out.size)⟩
        · rw [H.out]; rfl
        · rw [H.out]; exact ho3.mono HB2.out.size
      · have hlenB : ((x0.length : Int) != (b.length : Int)) = true := by rw [bne_iff_ne]; omega
        have H : Hid (mulM a b = ([], 2)) := Lib.hid (by unfold mulM; rw [if_pos ⟨HM.out, HM2.out⟩, if_neg (fun h => hlen (by rw [← HW.out]; exact h))])
        clear hlen
        go_enter Try.func8, Try.ntmps8
        go_wp2_with fail
        refine (c_IsMatrix _ a _ HU.out).mono ?_
        rintro e w1 ⟨rfl, hb1⟩
        rw [HM.out]
        have HB1 := Lib.hid hb1
        have HV1 := Lib.hid (HV.out.keep HB1.out)
        clear hb1
        go_wp2_with fail
        refine (c_IsMatrix _ b _ HV1.out).mono ?_
        rintro e w2 ⟨rfl, hb2⟩
        rw [HM2.out]
        have HB2 := Lib.hid (HB1.out.trans (hb2.mono HB1.out.size))
        have hcell2 := bcell HB2.out hcell0
        clear hb2
        go_wp2_with fail
        go_ret2
        refine ⟨.slice none 0 0, ?_, ?_, HB2.out⟩
        · rw [H.out]; rfl
        · rw [H.out]; exact OwnM.nil _ _

set_option maxHeartbeats 1000000 in
theorem c_SMultiplyMatrices (u : Value) (a : List (List Int)) (v : Value) (b : List (List Int)) (w : World) (hu : IntRows w u a) (hv : IntRows w v b) :
    Calls Try.prog 9 #[u, v] w (RetMC (mulM a b) w) := by
  have HU := Lib.hid hu
  have HV := Lib.hid hv
  cases hm : isMat a
  · have H : Hid (mulM a b = ([], 1)) := Lib.hid (by unfold mulM; rw [if_neg (by simp [hm])])
    have HM := Lib.hid hm
    clear hm hu hv
    go_enter Try.func9, Try.ntmps9
    go_wp2_with fail
    refine (c_l02Is u a _ HU.out).mono ?_
    rintro e w1 ⟨rfl, hd⟩
    rw [HM.out]
    have HB1 := Lib.hid (hd.below w.heap.size)
    clear hd
    go_wp2_with fail
    go_ret2
    refine ⟨.slice none 0 0, ?_, ?_, HB1.out⟩
    · rw [H.out]; rfl
    · rw [H.out]; exact OwnM.nil _ _
  · cases hm2 : isMat b
    · have H : Hid (mulM a b = ([], 1)) := Lib.hid (by unfold mulM; rw [if_neg (by simp [hm2])])
      have HM := Lib.hid hm
      have HM2 := Lib.hid hm2
      clear hm hm2 hu hv
      go_enter Try.func9, Try.ntmps9
      go_wp2_with fail
      refine (c_l02Is u a _ HU.out).mono ?_
      rintro e w1 ⟨rfl, hd⟩
      rw [HM.out]
      have HB1 := Lib.hid (hd.below w.heap.size)
      have HV1 := Lib.hid (HV.out.keep HB1.out)
      clear hd
      go_wp2_with fail
      refine (c_l02Is v b _ HV1.out).mono ?_
      rintro e w2 ⟨rfl, hd⟩
      rw [HM2.out]
      have HB2 := Lib.hid (HB1.out.trans (hd.below _))
      clear hd
      go_wp2_with fail
      go_ret2
      refine ⟨.slice none 0 0, ?_, ?_, HB2.out⟩
      · rw [H.out]; rfl
      · rw [H.out]; exact OwnM.nil _ _
    · have HP := Lib.hid (isMat_parts hm)
      have HP2 := Lib.hid (isMat_parts hm2)
      have HG := Lib.hid (good_mat hm)
      have HG2 := Lib.hid (good_mat hm2)
      have hpos : 0 < a.length := HP.out.1
      have HM := Lib.hid hm
      have HM2 := Lib.hid hm2
      obtain ⟨bf, off, cap, a2, cap2, x0, rfl, hl, hx0, hw0, hl2, hcell0⟩ := mat_first hu hpos
      have HW := Lib.hid hw0
      obtain ⟨a', cap', rfl, hl', _⟩ := hv
      clear hm hm2 hu hx0 hw0
      by_cases hlen : x0.length = b.length
      · have hlenB : ((x0.length : Int) != (b.length : Int)) = false := by simp [hlen]
        have H : Hid (mulM a b = (mulZ a b, 0)) := Lib.hid (by unfold mulM; rw [if_pos ⟨HM.out, HM2.out⟩, if_pos (by rw [HW.out]; exact hlen)])
        have HL := Lib.hid hlen
        clear hlen
        go_enter Try.func9, Try.ntmps9
        go_wp2_with fail
        refine (c_l02Is _ a _ HU.out).mono ?_
        rintro e w1 ⟨rfl, hd⟩
        rw [HM.out]
        have HB1 := Lib.hid (hd.below w.heap.size)
        have HU1 := Lib.hid (HU.out.keep HB1.out)
        have HV1 := Lib.hid (HV.out.keep HB1.out)
        clear hd
        go_wp2_with fail
        refine (c_l02Is _ b _ HV1.out).mono ?_
        rintro e w2 ⟨rfl, hd⟩
        rw [HM2.out]
        have HB2 := Lib.hid (HB1.out.trans (hd.below _))
        have HU2 := Lib.hid (HU1.out.keep (hd.below w1.heap.size))
        have HV2 := Lib.hid (HV1.out.keep (hd.below w1.heap.size))
        have hcell2 := bcell HB2.out hcell0
        clear hd
        go_wp2_with fail
        refine (c_l02Times _ _ a b _ HU2.out HV2.out (by rw [← HL.out, ← HW.out]; exact HG.out) HG2.out HP2.out.1 (Nat.le_trans HP.out.2.1 (by omega)) (Nat.le_trans HP2.out.2.1 (by omega)) (Nat.le_trans HP2.out.2.2.2.1 (by omega))).mono ?_
        rintro e w3 ⟨v3, rfl, ho3, hb3⟩
        go_wp2_with fail
        go_ret2
        refine ⟨v3, ?_, ?_, HB2.out.trans (hb3.mono HB2.out.size)⟩
        · rw [H.out]; rfl
        · rw [H.out]; exact ho3.mono HB2.out.size
      · have hlenB : ((x0.length : Int) != (b.length : Int)) = true := by rw [bne_iff_ne]; omega
        have H : Hid (mulM a b = ([], 2)) := Lib.hid (by unfold mulM; rw [if_pos ⟨HM.out, HM2.out⟩, if_neg (fun h => hlen (by rw [← HW.out]; exact h))])
        clear hlen
        go_enter Try.func9, Try.ntmps9
        go_wp2_with fail
        refine (c_l02Is _ a _ HU.out).mono ?_
        rintro e w1 ⟨rfl, hd⟩
        rw [HM.out]
        have HB1 := Lib.hid (hd.below w.heap.size)
        have HV1 := Lib.hid (HV.out.keep HB1.out)
        clear hd
        go_wp2_with fail
        refine (c_l02Is _ b _ HV1.out).mono ?_
        rintro e w2 ⟨rfl, hd⟩
        rw [HM2.out]
        have HB2 := Lib.hid (HB1.out.trans (hd.below _))
        have hcell2 := bcell HB2.out hcell0
        clear hd
        go_wp2_with fail
        go_ret2
        refine ⟨.slice none 0 0, ?_, ?_, HB2.out⟩
        · rw [H.out]; rfl
        · rw [H.out]; exact OwnM.nil _ _
end Go.Proofs.Ytmbcncmmgfnlmaa
