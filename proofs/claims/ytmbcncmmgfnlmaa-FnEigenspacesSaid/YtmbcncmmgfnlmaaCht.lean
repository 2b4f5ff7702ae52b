/- Walk: characteristic polynomials by the reference. -/
import Derived.Test.YtmbcncmmgfnlmaaHsp
import Derived.Test.YtmbcncmmgfnlmaaChw
import Derived.Test.YtmbcncmmgfnlmaaAps
import Derived.BigRegion
import Derived.Deep.AppendLies
import Derived.Deep.DeepCutAuto
namespace Go.Proofs.Ytmbcncmmgfnlmaa
open Go.RowKit
attribute [local go_sem ↓] Go.wp_at_zero Go.wp_at_succ
open Fus (F Mx toI ofI toI_bd toI_of ofI_toI ofI_neg ofI_mul ofI_add finv swapR swapC simI elimH hstep hess prd hp hpoly)
set_option maxRecDepth 100000 in
set_option maxHeartbeats 16000000 in
theorem c_l02Char (v : Value) (n : Nat) (f : Mx) (w : World) (hv : IntRows w v (tabF n n f)) (hn1 : 0 < n) (hn2 : n ≤ 500) :
    Calls Try.prog 70 #[v] w (RetI (zl (n + 1) (hpoly n f)) w) := by
  have HV := Lib.hid hv
  clear hv
  go_enter Try.func70, Try.ntmps70
  go_wp2_with fail
  refine (c_l01Own2 v _ _ HV.out (fun xs hx => by rw [tabF_mem hx]; omega) (by rw [tabF_length]; omega)).mono ?_
  rintro e w1 ⟨v1, rfl, ho1, hb1⟩
  obtain ⟨g, cap, rfl, hg1, hg2⟩ := ho1.shape' (by rw [tabF_length]; exact hn1)
  rw [tabF_length] at ho1
  rw [tabF_length]
  have HO := Lib.hid ho1
  have HB := Lib.hid hb1
  clear ho1 hb1
  go_wp2_with fail
  go_loopw [5] (fun kk wr => ∃ k : Nat, k ≤ n - 2 ∧ kk = .int .i64 k ∧ OwnM wr w.heap.size (.slice (some ⟨g, 0, none⟩) n cap) (tabF n n (hess n f k)) ∧ Below w.heap.size w wr) (fun kk _ => n - (intOf kk).toNat)
  case atStart => exact ⟨0, Nat.zero_le _, rfl, HO.out, HB.out⟩
  case round =>
    obtain ⟨k, hk, rfl, hown, hbel⟩ := hrel
    clear HO HB
    have HO := Lib.hid hown
    have HB := Lib.hid hbel
    have hsz := hbel.size
    clear hown hbel
    by_cases hkc : k + 2 < n
    · have hkI : (k : Int) + 2 < (n : Int) := by omega
      have hkI0 : (0 : Int) ≤ (k : Int) := by omega
      have hkI1 : (k : Int) < (n : Int) := by omega
      have hkI2 : (k : Int) + 1 < (n : Int) := by omega
      have hkI3 : (0 : Int) ≤ (k : Int) + 1 := by omega
      have hw00 : IntKind.i64.wrap ((k : Int) + 1) = (k : Int) + 1 := IntWalk.i64_in _ (by omega)
      have hw01 : IntKind.i64.wrap ((k : Int) + 2) = (k : Int) + 2 := IntWalk.i64_in _ (by omega)
      obtain ⟨NX, hNX⟩ : ∃ NX, hess n f (k + 1) = NX := ⟨_, rfl⟩
      have HNX := Lib.hid hNX
      have HSUC : Hid (NX = hstep n k (hess n f k)) := Lib.hid hNX.symm
      clear hNX
      generalize hess n f k = H at *
      go_wp2_with fail
      go_loop [6] (fun p => ∃ p' : Nat, k + 1 ≤ p' ∧ p' ≤ n ∧ p = .int .i64 p' ∧ Hid (∀ i, k + 1 ≤ i → i < p' → H i k = 0)) (fun p => n - (intOf p).toNat)
      case atStart => exact ⟨k + 1, Nat.le_refl _, by omega, by go_num, fun i h1 h2 => by omega⟩
      case round =>
        obtain ⟨p, hdp, hpr, rfl, HZ⟩ := hrel
        by_cases hlt : p < n
        · have hpI : (p : Int) < (n : Int) := by omega
          obtain ⟨gp, cp, hcellp, hop, hgpg, _, _⟩ := HO.out.rowK (k := p) (tabF_at n H hlt) (by rw [zl_length]; exact hn1)
          rw [zl_length] at hcellp hop
          have hx := Own.cell hop (i := k) (zl_get (by omega))
          clear hop
          by_cases hz : H p k = 0
          · rw [hz, Fus.toI_zero] at hx
            have HZ1 : Hid (∀ i, k + 1 ≤ i → i < p + 1 → H i k = 0) := Lib.hid (fun i h1 h2 => by
              by_cases e : i = p
              · rw [e]; exact hz
              · exact HZ.out i h1 (by omega))
            clear hz HZ
            go_wp2_with fail
            go_round
            case rel => exact ⟨p + 1, by omega, by omega, by go_num, HZ1.out⟩
            case measure => simp [intOf]; omega
          · have hzB : (toI (H p k) == 0) = false := by simpa using fun e => hz (toI_zero e)
            have hprB : ((p : Int) == (n : Int)) = false := by rw [beq_eq_false_iff_ne]; omega
            have HST : Hid (NX = elimH (swapC (swapR H (k + 1) p) (k + 1) p) k (finv (swapC (swapR H (k + 1) p) (k + 1) p (k + 1) k)) (n - (k + 2))) := Lib.hid (by rw [HSUC.out]; exact hstep_some hdp hlt hz HZ.out)
            clear hz HZ HSUC
            go_upto_if 55 with fail
            go_cut [6] (fun s6 wx => s6 = .int .i64 p ∧ ∃ G : Mx, Hid (NX = elimH G k (finv (G (k + 1) k)) (n - (k + 2))) ∧ OwnM wx w.heap.size (.slice (some ⟨g, 0, none⟩) n cap) (tabF n n G) ∧ Below w.heap.size w wx)
            case first =>
              by_cases hpk : p = k + 1
              · have hpkI : ¬ ((k : Int) + 1 < (p : Int)) := by omega
                have HSTN : Hid (NX = elimH H k (finv (H (k + 1) k)) (n - (k + 2))) := Lib.hid (by
                  have := HST.out; rw [hpk, swapR_own, swapC_own] at this; exact this)
                clear hpk
                go_wp2_with fail
                go_meet
                case rel => exact ⟨rfl, H, HSTN.out, HO.out, HB.out⟩
              · have hpkI : (k : Int) + 1 < (p : Int) := by omega
                obtain ⟨gd, cd, hcelld, _, hgdg, _, _⟩ := HO.out.rowK (k := k + 1) (tabF_at n H (by omega)) (by rw [zl_length]; exact hn1)
                rw [zl_length] at hcelld
                have hfrp := HO.out.frozenAt p
                have hfrk := HO.out.frozenAt (k + 1)
                have hnN : ¬ p = k + 1 := hpk
                have hnN2 : ¬ k + 1 = p := fun e => hpk e.symm
                have HSW : Hid (OwnM ((wr.setCell ⟨g, p, none⟩ (.slice (some ⟨gd, 0, none⟩) n cd)).setCell ⟨g, k + 1, none⟩ (.slice (some ⟨gp, 0, none⟩) n cp)) w.heap.size (.slice (some ⟨g, 0, none⟩) n cap) (tabF n n (swapR H (k + 1) p))) := Lib.hid (by
                  rw [← swap_tab2]
                  exact OwnM.swap HO.out hcellp hcelld (tabF_at n H hlt) (tabF_at n H (by omega)) hpk)
                have HSB : Hid (Below w.heap.size w ((wr.setCell ⟨g, p, none⟩ (.slice (some ⟨gd, 0, none⟩) n cd)).setCell ⟨g, k + 1, none⟩ (.slice (some ⟨gp, 0, none⟩) n cp))) := Lib.hid (below_set (below_set HB.out hg1) hg1)
                have hcd2 := cell_far (u := .slice (some ⟨gd, 0, none⟩) n cd) hpk hcelld
                go_wp2_with fail
                generalize swapR H (k + 1) p = S at *
                go_loopw [8] (fun i wr => ∃ m : Nat, m ≤ n ∧ i = .int .i64 m ∧ OwnM wr w.heap.size (.slice (some ⟨g, 0, none⟩) n cap) (tabF n n (colTo S (k + 1) p m)) ∧ Below w.heap.size w wr) (fun i _ => n - (intOf i).toNat)
                case atStart => exact ⟨0, Nat.zero_le _, rfl, by rw [colTo_zero]; exact HSW.out, HSB.out⟩
                case round =>
                  obtain ⟨m, hm, rfl, hown, hbel⟩ := hrel
                  clear HSW HSB HO HB hcellp hcelld hx hfrp hfrk hcd2
                  by_cases hmn : m < n
                  · have hmI : (m : Int) < (n : Int) := by omega
                    obtain ⟨gm, cm, hcellm, hom, hgmg, hgm1, _⟩ := hown.rowK (k := m) (tabF_at n _ hmn) (by rw [zl_length]; exact hn1)
                    rw [zl_length] at hcellm hom
                    rw [colTo_row] at hom
                    have hx1 := Own.cell hom (i := p) (zl_get hlt)
                    have hx2 := Own.cell hom (i := k + 1) (zl_get (by omega))
                    have hf1 := Own.frozen hom p
                    have hf2 := Own.frozen hom (k + 1)
                    have hx2' := cell_far (u := vi (toI (S m (k + 1)))) hpk hx2
                    have hcm' := cell_farB2 (i := p) (u := vi (toI (S m (k + 1)))) hgmg hcellm
                    have HU : Hid (OwnM ((wr.setCell ⟨gm, p, none⟩ (vi (toI (S m (k + 1))))).setCell ⟨gm, k + 1, none⟩ (vi (toI (S m p)))) w.heap.size (.slice (some ⟨g, 0, none⟩) n cap) (tabF n n (colTo S (k + 1) p (m + 1)))) := Lib.hid (by
                      have h1 := hown.storeK (i := p) hcellm (tabF_at n _ hmn) (zl_at _ hlt) (toI (S m (k + 1)))
                      rw [colTo_row] at h1
                      have h2 := h1.storeK (i := k + 1) (xs := (zl n (S m)).set p (toI (S m (k + 1)))) (y := toI (S m (k + 1))) hcm' (by rw [List.getElem?_set_self (by rw [tabF_length]; exact hmn)]) (by rw [List.getElem?_set_ne (fun e => hpk e), zl_at _ (by omega)]) (toI (S m p))
                      rw [List.set_set, colTo_next] at h2
                      exact h2)
                    have HUB : Hid (Below w.heap.size w ((wr.setCell ⟨gm, p, none⟩ (vi (toI (S m (k + 1))))).setCell ⟨gm, k + 1, none⟩ (vi (toI (S m p))))) := Lib.hid (below_set (below_set hbel hgm1) hgm1)
                    clear hown hbel hom hcm'
                    go_wp2_with fail
                    go_roundw
                    case rel => exact ⟨m + 1, by omega, by go_num, HU.out, HUB.out⟩
                    case measure => simp [intOf]; omega
                  · obtain rfl : n = m := by omega
                    rw [colTo_end] at hown
                    have HO := Lib.hid hown
                    have HB := Lib.hid hbel
                    clear hown hbel
                    go_wp2_with fail
                    go_meet
                    case rel => exact ⟨rfl, swapC S (k + 1) p, HST.out, HO.out, HB.out⟩
            case rest =>
              obtain ⟨rfl, G, HSTN, hown, hbel⟩ := hcut
              have HO := Lib.hid hown
              have HB := Lib.hid hbel
              have hsz := hbel.size
              clear hown hbel HST hcellp hx hgpg hzB hprB hlt hpI hdp hpr
              obtain ⟨gk, ck, hcellk, hok, hgkg, _, _⟩ := HO.out.rowK (k := k + 1) (tabF_at n G (by omega)) (by rw [zl_length]; exact hn1)
              rw [zl_length] at hcellk hok
              have hxk := Own.cell hok (i := k) (zl_get (by omega))
              have hxb := toI_bd (G (k + 1) k)
              obtain ⟨hx1, hx2⟩ := hxb
              clear hok
              go_wp2_with fail
              refine (c_l01Inv _ _ hx1 hx2).mono ?_
              rintro e w' ⟨rfl, rfl⟩
              rw [iinv_toI]
              generalize finv (G (k + 1) k) = v at *
              go_wp2_with fail
              go_loopw [12] (fun i wr => ∃ m : Nat, k + 2 + m ≤ n ∧ i = .int .i64 ((k + 2 + m : Nat) : Int) ∧ OwnM wr w.heap.size (.slice (some ⟨g, 0, none⟩) n cap) (tabF n n (elimH G k v m)) ∧ Below w.heap.size w wr) (fun i _ => n - (intOf i).toNat)
              case atStart => exact ⟨0, by omega, by go_num, HO.out, HB.out⟩
              case round =>
                obtain ⟨m, hm, rfl, hown, hbel⟩ := hrel
                clear HO HB hcellk hxk hx1 hx2
                have hsz2 := hbel.size
                obtain ⟨i, hi⟩ : ∃ i, k + 2 + m = i := ⟨_, rfl⟩
                rw [hi]
                by_cases hlti : i < n
                · have hi0 : (0 : Int) ≤ (i : Int) := by omega
                  have hi1 : (i : Int) < (n : Int) := by omega
                  have hik : ¬ i = k + 1 := by omega
                  have hik2 : ¬ k + 1 = i := by omega
                  obtain ⟨T', hT'⟩ : ∃ T', tabF n n (elimH G k v (m + 1)) = T' := ⟨_, rfl⟩
                  have HT' := Lib.hid hT'
                  have HEN : Hid (tabF n n (simI (elimH G k v m) (k + 1) i (elimH G k v m i k * v)) = T') := Lib.hid (by rw [← hT', ← hi]; exact elim_next n G k v m)
                  have HI' : Hid (k + 2 + m = i) := Lib.hid hi
                  clear hT' hi
                  generalize elimH G k v m = E at *
                  obtain ⟨gi, ci, hcelli, hoi, hgig, _, _⟩ := hown.rowK (k := i) (tabF_at n _ hlti) (by rw [zl_length]; exact hn1)
                  obtain ⟨gk, ck, hcellk, hok, hgkg, _, _⟩ := hown.rowK (k := k + 1) (tabF_at n _ (by omega)) (by rw [zl_length]; exact hn1)
                  rw [zl_length] at hcelli hoi hcellk hok
                  have hx := Own.cell hoi (i := k) (zl_get (by omega))
                  have hxb := toI_bd (E i k)
                  have hvb := toI_bd v
                  have hpr0 := prod_bd hxb.1 hxb.2 hvb.1 hvb.2
                  obtain ⟨hpr1, hpr2⟩ := hpr0
                  obtain ⟨C, hC⟩ : ∃ C, E i k * v = C := ⟨_, rfl⟩
                  have hw1 : IntKind.i64.wrap (toI (E i k) * toI v) = toI (E i k) * toI v := IntWalk.i64_in _ (by omega)
                  have hw2 : (toI (E i k) * toI v).tmod 55441 = toI C := (Int.tmod_eq_emod_of_nonneg hpr1).trans (toI_of (by rw [ofI_mul, ofI_toI, ofI_toI, hC])).symm
                  rw [hC] at HEN
                  have hCb := toI_bd C
                  obtain ⟨hc1, hc2⟩ := hCb
                  have hw3 : IntKind.i64.wrap (-toI C) = -toI C := IntWalk.i64_in _ (by omega)
                  have HM : Hid (-toI C % 55441 = toI (-C)) := Lib.hid (toI_of (by rw [ofI_neg, ofI_toI])).symm
                  have hfri := hown.frozenAt i
                  have HI : Hid (Ints wr.drew (.slice (some ⟨gi, 0, none⟩) n ci) (zl n (E i))) := Lib.hid (Ints.ofHeap rfl (OwnI.ints hoi (by rw [zl_length]; omega)))
                  have HIK : Hid (Ints wr.drew (.slice (some ⟨gk, 0, none⟩) n ck) (zl n (E (k + 1)))) := Lib.hid (Ints.ofHeap rfl (OwnI.ints hok (by rw [zl_length]; omega)))
                  have HO : Hid (OwnM wr.drew w.heap.size (.slice (some ⟨g, 0, none⟩) n cap) (tabF n n E)) := Lib.hid (hown.drewN 1)
                  have HB := Lib.hid hbel
                  clear hown hbel hoi hok hxb hvb hC
                  go_wp2_with fail
                  go_cut [13] (fun s13 wx => s13 = .int .i64 (toI C) ∧ OwnM wx w.heap.size (.slice (some ⟨g, 0, none⟩) n cap) (tabF n n (rowed E (k + 1) i C)) ∧ Below w.heap.size w wx)
                  case first =>
                    go_region_with
                      (first
                        | (go_at_call 102; refine (c_l01Mod _ _).mono ?_; rintro e w' ⟨rfl, rfl⟩; rw [HM.out])
                        | (go_at_call 113; refine (c_l02Plus _ _ n n (E i) (E (k + 1)) (-C) _ HI.out HIK.out (Nat.le_refl _) (by omega)).mono ?_; rintro e w5 ⟨v5, rfl, ho5, hb5⟩; obtain ⟨p5, n5, c5, rfl⟩ := ho5.slice; have hcell5 := bcell hb5 hcelli; have hfr5 := bfrozen hb5 hcelli hfri))
                    all_goals
                      have HN : Hid (OwnM (w5.setCell ⟨g, i, none⟩ (.slice p5 n5 c5)) w.heap.size (.slice (some ⟨g, 0, none⟩) n cap) (tabF n n (rowed E (k + 1) i C))) := Lib.hid (by
                        rw [← rowed_set]; exact OwnM.set HO.out hb5 hsz2 ho5 i)
                      have HNB : Hid (Below w.heap.size w (w5.setCell ⟨g, i, none⟩ (.slice p5 n5 c5))) := Lib.hid (below_set (below_drewed HB.out (hb5.mono hsz2)) hg1)
                      clear ho5 hb5 hcell5 hfr5 HO HB hx hw1 hw2 hw3 hpr1 hpr2 hcelli hcellk hfri HI HIK
                      go_wp2_with fail
                      go_meet
                      case rel => exact ⟨rfl, HN.out, HNB.out⟩
                  case rest =>
                    obtain ⟨rfl, hown5, hbel5⟩ := hcut
                    have HN := Lib.hid hown5
                    have HNB := Lib.hid hbel5
                    have HEND : Hid (tabF n n (simTo (rowed E (k + 1) i C) (k + 1) i C n) = T') := Lib.hid (by rw [simTo_end]; exact HEN.out)
                    clear hown5 hbel5 HO HB hx hw1 hw2 hw3 hpr1 hpr2 hcelli hcellk hfri HI HIK
                    generalize rowed E (k + 1) i C = R at *
                    go_wp2_with fail
                    go_loopw [14] (fun jj wr => ∃ j : Nat, j ≤ n ∧ jj = .int .i64 j ∧ OwnM wr w.heap.size (.slice (some ⟨g, 0, none⟩) n cap) (tabF n n (simTo R (k + 1) i C j)) ∧ Below w.heap.size w wr) (fun jj _ => n - (intOf jj).toNat)
                    case atStart => exact ⟨0, Nat.zero_le _, rfl, by rw [simTo_zero]; exact HN.out, HNB.out⟩
                    case round =>
                      obtain ⟨j, hj, rfl, hown, hbel⟩ := hrel
                      clear HN HNB
                      by_cases hjn : j < n
                      · have hjI : (j : Int) < (n : Int) := by omega
                        have hjI0 : (0 : Int) ≤ (j : Int) := by omega
                        obtain ⟨gj, cj, hcellj, hoj, hgjg, hgj1, _⟩ := hown.rowK (k := j) (tabF_at n _ hjn) (by rw [zl_length]; exact hn1)
                        rw [zl_length] at hcellj hoj
                        rw [simTo_row] at hoj
                        have hy1 := Own.cell hoj (i := k + 1) (zl_get (by omega))
                        have hy2 := Own.cell hoj (i := i) (zl_get hlti)
                        have hf1 := Own.frozen hoj (k + 1)
                        have hb1 := toI_bd (R j (k + 1))
                        have hb2 := toI_bd (R j i)
                        have hpr0 := prod_bd hc1 hc2 hb2.1 hb2.2
                        obtain ⟨hq1, hq2⟩ := hpr0
                        obtain ⟨hb11, hb12⟩ := hb1
                        have hv1 : IntKind.i64.wrap (toI C * toI (R j i)) = toI C * toI (R j i) := IntWalk.i64_in _ (by omega)
                        have hv2 : IntKind.i64.wrap (toI (R j (k + 1)) + toI C * toI (R j i)) = toI (R j (k + 1)) + toI C * toI (R j i) := IntWalk.i64_in _ (by omega)
                        have hv3 : (toI (R j (k + 1)) + toI C * toI (R j i)).tmod 55441 = toI (R j (k + 1) + C * R j i) := (Int.tmod_eq_emod_of_nonneg (by omega)).trans (toI_of (by rw [ofI_add, ofI_mul, ofI_toI, ofI_toI, ofI_toI])).symm
                        have HU : Hid (OwnM (wr.setCell ⟨gj, k + 1, none⟩ (vi (toI (R j (k + 1) + C * R j i)))) w.heap.size (.slice (some ⟨g, 0, none⟩) n cap) (tabF n n (simTo R (k + 1) i C (j + 1)))) := Lib.hid (by
                          have h1 := hown.storeK (i := k + 1) hcellj (tabF_at n _ hjn) (zl_at _ (by omega)) (toI (R j (k + 1) + C * R j i))
                          rw [simTo_row, simTo_next] at h1
                          exact h1)
                        have HUB : Hid (Below w.heap.size w (wr.setCell ⟨gj, k + 1, none⟩ (vi (toI (R j (k + 1) + C * R j i))))) := Lib.hid (below_set hbel hgj1)
                        clear hown hbel hoj hb2
                        go_wp2_with fail
                        go_region
                        go_wp2_with fail
                        go_roundw
                        case rel => exact ⟨j + 1, by omega, by go_num, HU.out, HUB.out.drew⟩
                        case measure => simp [intOf]; omega
                      · obtain rfl : n = j := by omega
                        rw [HEND.out] at hown
                        have HO := Lib.hid hown
                        have HB := Lib.hid hbel
                        clear hown hbel
                        go_wp2_with fail
                        go_roundw
                        case rel => exact ⟨m + 1, by have := HI'.out; omega, by have := HI'.out; go_num, by rw [HT'.out]; exact HO.out, HB.out⟩
                        case measure => simp [intOf]; omega
                · obtain rfl : n = i := by omega
                  have hme : n - (k + 2) = m := by omega
                  rw [hme] at HSTN
                  have HO := Lib.hid hown
                  have HB := Lib.hid hbel
                  clear hown hbel
                  go_wp2_with fail
                  go_roundw
                  case rel => exact ⟨k + 1, by omega, by go_num, by rw [HNX.out, HSTN.out]; exact HO.out, HB.out⟩
                  case measure => simp [intOf]; omega
        · obtain rfl : n = p := by omega
          have HST : Hid (NX = H) := Lib.hid (by rw [HSUC.out]; exact hstep_none HZ.out)
          clear HZ HSUC
          go_wp2_with fail
          go_roundw
          case rel => exact ⟨k + 1, by omega, by go_num, by rw [HNX.out, HST.out]; exact HO.out, HB.out⟩
          case measure => simp [intOf]; omega
    · obtain rfl : k = n - 2 := by omega
      have HP : Hid (hpoly n f = hp (hess n f (n - 2)) n n) := Lib.hid rfl
      generalize hess n f (n - 2) = H at *
      have HL0 : Hid (OwnM _ _ _ _) := Lib.hid (ownM_one wr 1)
      have HBL : Hid (Below wr.heap.size wr _) := Lib.hid ((below_alloc wr (.cells #[.int .i64 1] 2)).trans ((below_alloc (wr.alloc (.cells #[.int .i64 1] 2)) (.cells #[.slice (some ⟨wr.heap.size, 0, none⟩) 1 1] 35)).mono (by simp)))
      have hkge : ¬ ((n - 2 : Nat) : Int) + 2 < (n : Int) := by omega
      clear hk hkc
      obtain ⟨wo, rfl⟩ : ∃ wo : World, wo = wr := ⟨_, rfl⟩
      go_wp2_with fail
      go_loopw [16, 17] (fun ls kk wr => ∃ k : Nat, k ≤ n ∧ kk = .int .i64 k ∧ OwnM wr wo.heap.size ls (hpL H k) ∧ Below wo.heap.size wo wr) (fun _ kk _ => n - (intOf kk).toNat)
      case atStart => exact ⟨0, Nat.zero_le _, rfl, by
        have e : hpL H 0 = [[1]] := by show [zl 1 (hp H 0 0)] = _; show [[toI (hp H 0 0 0)]] = _; rw [show hp H 0 0 0 = 1 from rfl, Fus.toI_one]
        rw [e]; exact HL0.out, HBL.out⟩
      case round =>
        obtain ⟨k, hk, rfl, hlist, hbel⟩ := hrel
        clear HL0 HBL
        have hzw := hbel.size
        obtain ⟨gL, cL, rfl, hgL1, hgL2⟩ := hlist.shape' (by rw [hpL_length]; omega)
        rw [hpL_length] at hlist ⊢
        by_cases hkn : k < n
        · have hkI : (k : Int) < (n : Int) := by omega
          have hkI0 : (0 : Int) ≤ (k : Int) := by omega
          have hkL : (k : Int) < (k : Int) + 1 := by omega
          obtain ⟨gr, cr, hcr, hor, hgr1, hgr2, hgr3⟩ := hlist.rowK (k := k) (hpL_at H (Nat.le_refl _)) (by rw [zl_length]; omega)
          obtain ⟨gk, ck, hck, hok, _, hgk2, hgk3⟩ := HO.out.rowK (k := k) (tabF_at n H hkn) (by rw [zl_length]; exact hn1)
          rw [zl_length] at hcr hor hck hok
          have hxk := Own.cell hok (i := k) (zl_get hkn)
          have hck1 := bcell hbel hck
          have hxk1 := bcell hbel hxk
          have hgo : g < wo.heap.size := Ints.lt hck
          have HROW : Hid (∀ i y, (zl (k + 1) (hp H k k))[i]? = some y → (wr.alloc (.cells #[.int .i64 0] 2)).cell? ⟨gr, 0 + i, none⟩ = some (.int .i64 y)) := Lib.hid (fun i y hy => bcell (below_alloc wr _) (by rw [Nat.zero_add]; exact Own.cell hor (by rw [List.getElem?_map, hy]; rfl)))
          have HRI : Hid (Ints wr (.slice (some ⟨gr, 0, none⟩) (k + 1) cr) (zl (k + 1) (hp H k k))) := Lib.hid (OwnI.ints hor (by rw [zl_length]; omega))
          have HZ0 : Hid (OwnI (wr.alloc (.cells #[.int .i64 0] 2)) wr.heap.size (.slice (some ⟨wr.heap.size, 0, none⟩) 1 1) [0]) := Lib.hid (Own.lit (B := wr.heap.size) wr 2 [vi 0] (Nat.le_refl _) (by simp [maxLen]))
          have HLS := Lib.hid hlist
          have HB2 := Lib.hid hbel
          have hcra := bcell (below_alloc wr (.cells #[.int .i64 0] 2)) hcr
          obtain ⟨w3, hw3⟩ : ∃ w3 : World, w3 = wr := ⟨_, rfl⟩
          clear hlist hbel hor hok
          go_wp2_with (at_builtin; refine wp_appendI (b := gr) (off := 0) HZ0.out HROW.out rfl _ _ rfl rfl rfl (zl_length _ _).symm (by simp) (by simp) (by rw [zl_length]; omega) ?_; intro v3 w4 ho4 hb4)
          have e4 := zl_shift (k + 1) (hp H k k)
          rw [e4] at ho4
          have hB4 : Below wr.heap.size wr w4 := (below_alloc wr _).trans hb4
          have hcr4 := bcell hB4 hcr
          have hck4 := bcell hB4 hck1
          have hxk4 := bcell hB4 hxk1
          have HV3 : Hid (∀ w', Below w4.heap.size w4 w' → Ints w' v3 (zl (k + 2) fun l => if l = 0 then 0 else hp H k k (l - 1))) := Lib.hid (fun w' h => (OwnI.ints ho4 (by rw [zl_length]; omega)).keep h)
          have HR4 : Hid (∀ w', Below w4.heap.size w4 w' → Ints w' (.slice (some ⟨gr, 0, none⟩) (k + 1) cr) (zl (k + 1) (hp H k k))) := Lib.hid (fun w' h => (HRI.out.keep hB4).keep h)
          obtain ⟨p3, n3, c3, rfl⟩ := ho4.slice
          have HB4 := Lib.hid hB4
          have hz4 := hB4.size
          have hHb := toI_bd (H k k)
          obtain ⟨hh1, hh2⟩ := hHb
          have hwn : IntKind.i64.wrap (-toI (H k k)) = -toI (H k k) := IntWalk.i64_in _ (by omega)
          have HM : Hid (-toI (H k k) % 55441 = toI (-(H k k))) := Lib.hid (toI_of (by rw [ofI_neg, ofI_toI])).symm
          have E6 : Hid (zl (k + 1) (hp H k k) ++ [0] = zl (k + 2) (hp H k k)) := Lib.hid (by rw [zl_snoc (k + 1), Fus.hp_deg H k (k + 1) (by omega), Fus.toI_zero])
          clear e4 ho4 hb4 hB4 hcra hcr hck1 hxk1 hxk hck HROW HZ0 HRI
          go_wp2_with fail
          go_cut [18] (fun nx wx => OwnI wx wr.heap.size nx (zl (k + 2) (nextTo H k k)) ∧ Below wr.heap.size wr wx)
          case first =>
            go_region_held3 (fun w' => w'.cell? ⟨gL, k, none⟩ = some (.slice (some ⟨gr, 0, none⟩) (k + 1) cr) ∧ w'.cell? ⟨g, k, none⟩ = some (.slice (some ⟨gk, 0, none⟩) n ck) ∧ w'.cell? ⟨gk, k, none⟩ = some (vi (toI (H k k))))
              (first | go_keep | (exact ⟨bcell hB7 hcr4, bcell hB7 hck4, bcell hB7 hxk4⟩) | (exact ⟨bcell hB6 hcr4, bcell hB6 hck4, bcell hB6 hxk4⟩) | (exact ⟨bcell hB5 hcr4, bcell hB5 hck4, bcell hB5 hxk4⟩))
              (first
                | (go_at_call 115; have hX := HR4.out; refine (c_l01Own _ (zl (k + 1) (hp H k k)) _ (HR4.out _ (by first | with_reducible exact bel1 _ | with_reducible exact bel2 _ _ | with_reducible exact bel3 _ _)) (by rw [zl_length]; omega) (by rw [zl_length]; omega)).mono ?_; rintro e w5 ⟨v5, rfl, ho5, hb5⟩; have hB5 := below_call (w0 := w4) hb5 (by first | with_reducible exact bel1 _ | with_reducible exact bel2 _ _ | with_reducible exact bel3 _ _); have hO5 := own_call (w0 := w4) ho5 (by first | with_reducible exact bel1 _ | with_reducible exact bel2 _ _ | with_reducible exact bel3 _ _); obtain ⟨p5, n5, c5, rfl⟩ := ho5.slice)
                | (go_at_call 102; refine (c_l01Mod _ _).mono ?_; rintro e w' ⟨rfl, rfl⟩; rw [HM.out])
                | (go_at_call 113; refine (c_l02Plus _ _ (k + 2) (k + 2) (fun l => if l = 0 then 0 else hp H k k (l - 1)) (hp H k k) (-(H k k)) _ (HV3.out _ hB6) (OwnI.ints ho6 (by rw [zl_length]; omega)) (Nat.le_refl _) (by omega)).mono ?_; rintro e w7 ⟨v7, rfl, ho7, hb7⟩; have hB7 := below_call (w0 := w4) hb7 hB6; obtain ⟨p7, n7, c7, rfl⟩ := ho7.slice)
                | (refine step_pushI (B := w4.heap.size) (y := 0) (xs := zl (k + 1) (hp H k k)) (gx := w5.heap.size) (v := .slice p5 n5 c5) ?_ ?_ ?_ (.tmp 185) (.tmp 186) ?_ ?_ ?_ ?_ ?_ ?_; rotate_left 2; rfl; rfl; rfl; rfl; rotate_left 3; (first | with_reducible exact hO5 | with_reducible exact hO5.alloc _); (first | exact bcell hb5 (by simp) | simp); (have := hB5.size; first | exact this | (simp; omega)); (rw [zl_length]; omega); intro v6 w6 ho6 hb6; have hB6 : Below w4.heap.size w4 w6 := (by first | exact hB5.trans hb6 | exact (hB5.alloc hB5.size _).trans hb6); rw [E6.out] at ho6; obtain ⟨p6, n6, c6, rfl⟩ := ho6.slice)
                | (refine step_pushI (B := w4.heap.size) (y := 0) (xs := zl (k + 1) (hp H k k)) (gx := w4.heap.size) (v := .slice p5 n5 c5) ?_ ?_ ?_ (.tmp 185) (.tmp 186) ?_ ?_ ?_ ?_ ?_ ?_; rotate_left 2; rfl; rfl; rfl; rfl; rotate_left 3; (first | with_reducible exact hO5 | with_reducible exact hO5.alloc _); (first | exact bcell hb5 (by simp) | simp); (have := hB5.size; first | exact this | (simp; omega)); (rw [zl_length]; omega); intro v6 w6 ho6 hb6; have hB6 : Below w4.heap.size w4 w6 := (by first | exact hB5.trans hb6 | exact (hB5.alloc hB5.size _).trans hb6); rw [E6.out] at ho6; obtain ⟨p6, n6, c6, rfl⟩ := ho6.slice))
            all_goals
              have e7 : (zl (k + 2) fun j => (if j = 0 then 0 else hp H k k (j - 1)) + -(H k k) * hp H k k j) = zl (k + 2) (nextTo H k k) := zl_congr fun j _ => (nextTo_top H k j).symm
              rw [e7] at ho7
              have HN7 : Hid (OwnI w7 wr.heap.size (.slice p7 n7 c7) (zl (k + 2) (nextTo H k k))) := Lib.hid (ho7.mono (Nat.le_trans hz4 hB6.size))
              have HB7 : Hid (Below wr.heap.size wr w7) := Lib.hid (HB4.out.trans (hB7.mono hz4))
              clear e7 ho7 hb7 hB7 ho6 hb6 hB6 ho5 hb5 hB5 hO5 hcr4 hck4 hxk4 HV3 HR4 HB4 E6 HM hwn hh1 hh2 hz4
              go_wp2_with fail
              go_meet
              case rel => exact ⟨HN7.out, HB7.out⟩
          case rest =>
            obtain ⟨hn7, hb7⟩ := hcut
            obtain ⟨g7, c7, rfl, _, _⟩ := hn7.shapeN (zl_length _ _) (by omega)
            have HN7 := Lib.hid hn7
            have HB7 := Lib.hid hb7
            clear hn7 hb7 hcr4 hck4 hxk4 HV3 HR4 HB4 E6 HM hwn hh1 hh2 hz4
            obtain ⟨wq, hwq⟩ : ∃ wq : World, wq = wr := ⟨_, rfl⟩
            subst hwq
            go_wp2_with fail
            go_loopw [18, 19, 20] (fun nx pr ii wr => ∃ r : Nat, r ≤ k ∧ ii = .int .i64 ((r : Int) - 1) ∧ pr = .int .i64 (toI (prd H r (k - r))) ∧ OwnI wr wq.heap.size nx (zl (k + 2) (nextTo H k r)) ∧ Below wq.heap.size wq wr) (fun _ _ ii _ => (intOf ii + 1).toNat)
            case atStart => exact ⟨k, Nat.le_refl _, by go_num, by rw [Nat.sub_self, show prd H k 0 = 1 from rfl, Fus.toI_one], HN7.out, HB7.out⟩
            case round =>
              obtain ⟨r, hr, rfl, rfl, hnx, hbel⟩ := hrel
              clear HN7 HB7
              have hzr := hbel.size
              obtain ⟨gn, cn, rfl, _, _⟩ := hnx.shapeN (zl_length _ _) (by omega)
              cases r with
              | zero =>
                have e : zl (k + 2) (nextTo H k 0) = zl (k + 2) (hp H (k + 1) (k + 1)) := zl_congr fun j _ => nextTo_end H k j
                rw [e] at hnx
                rw [show ((0 : Nat) : Int) - 1 = -1 from rfl]
                have HNX := Lib.hid hnx
                have HBB := Lib.hid hbel
                clear hnx hbel e
                go_wp2_with (at_builtin; refine wp_pushM HLS.out HBB.out HNX.out rfl _ _ rfl rfl rfl (by first | with_reducible rfl | simp) (by omega) (by rw [hpL_length]; omega) ?_; intro v' w9 ho9 hb9)
                go_roundw
                case rel => exact ⟨k + 1, by omega, by go_num, by rw [hpL_next]; exact ho9, (HB2.out.trans (HBB.out.mono hzw)).trans hb9⟩
                case measure => simp [intOf]; omega
              | succ r =>
                have e1 : (((r + 1 : Nat) : Int) - 1) = (r : Int) := by omega
                rw [e1]
                have HWO : Hid (Below wo.heap.size wo wr) := Lib.hid (HB2.out.trans (hbel.mono hzw))
                obtain ⟨ga, ca, ha1, ha2, _, _, ha3⟩ := HO.out.rowK (k := r + 1) (tabF_at n H (by omega)) (by rw [zl_length]; exact hn1)
                obtain ⟨gb, cb, hb1, hb2, _, _, hb3⟩ := HO.out.rowK (k := r) (tabF_at n H (by omega)) (by rw [zl_length]; exact hn1)
                obtain ⟨gq, cq, hq1, hq2, _, _, hq3⟩ := HLS.out.rowK (k := r) (hpL_at H (by omega)) (by rw [zl_length]; omega)
                rw [zl_length] at ha1 ha2 hb1 hb2 hq1 hq2
                have hA1 := bcell HWO.out ha1
                have hA2 := bcell HWO.out (Own.cell ha2 (i := r) (zl_get (by omega)))
                have hB1 := bcell HWO.out hb1
                have hB2' := bcell HWO.out (Own.cell hb2 (i := k) (zl_get hkn))
                have hQ1 := bcell hbel hq1
                have HLI : Hid (∀ w', Below wr.heap.size wr w' → Ints w' (.slice (some ⟨gq, 0, none⟩) (r + 1) cq) (zl (r + 1) (hp H r r))) := Lib.hid (fun w' h => ((OwnI.ints hq2 (by rw [zl_length]; omega)).keep hbel).keep h)
                have HNI : Hid (∀ w', Below wr.heap.size wr w' → Ints w' (.slice (some ⟨gn, 0, none⟩) (k + 2) cn) (zl (k + 2) (nextTo H k (r + 1)))) := Lib.hid (fun w' h => (OwnI.ints hnx (by rw [zl_length]; omega)).keep h)
                have EPR : prd H (r + 1) (k - (r + 1)) * H (r + 1) r = prd H r (k - r) := by
                  rw [show k - r = (k - (r + 1)) + 1 from by omega, prd_head]
                obtain ⟨P, hP⟩ : ∃ P, prd H (r + 1) (k - (r + 1)) = P := ⟨_, rfl⟩
                rw [hP] at EPR
                obtain ⟨P', hP'⟩ : ∃ P', prd H r (k - r) = P' := ⟨_, rfl⟩
                rw [hP'] at EPR
                obtain ⟨Q, hQ⟩ : ∃ Q, P' * H r k = Q := ⟨_, rfl⟩
                rw [hP]
                have ENX : Hid ((zl (k + 2) fun j => nextTo H k (r + 1) j + -Q * hp H r r j) = zl (k + 2) (nextTo H k r)) := Lib.hid (zl_congr fun j _ => by rw [← hQ, ← hP']; exact nextTo_step H k j (by omega))
                have HP' := Lib.hid hP'
                have hb_1 := toI_bd P
                have hb_2 := toI_bd (H (r + 1) r)
                have hb_3 := toI_bd P'
                have hb_4 := toI_bd (H r k)
                have hb_5 := toI_bd Q
                have hp1 := prod_bd hb_1.1 hb_1.2 hb_2.1 hb_2.2
                have hp2 := prod_bd hb_3.1 hb_3.2 hb_4.1 hb_4.2
                have hw1 : IntKind.i64.wrap (toI P * toI (H (r + 1) r)) = toI P * toI (H (r + 1) r) := IntWalk.i64_in _ (by omega)
                have hw2 : (toI P * toI (H (r + 1) r)).tmod 55441 = toI P' := (Int.tmod_eq_emod_of_nonneg hp1.1).trans (toI_of (by rw [ofI_mul, ofI_toI, ofI_toI, EPR])).symm
                have hw3 : IntKind.i64.wrap (toI P' * toI (H r k)) = toI P' * toI (H r k) := IntWalk.i64_in _ (by omega)
                have hw4 : (toI P' * toI (H r k)).tmod 55441 = toI Q := (Int.tmod_eq_emod_of_nonneg hp2.1).trans (toI_of (by rw [ofI_mul, ofI_toI, ofI_toI, hQ])).symm
                have hw5 : IntKind.i64.wrap (-toI Q) = -toI Q := IntWalk.i64_in _ (by omega)
                have HM : Hid (-toI Q % 55441 = toI (-Q)) := Lib.hid (toI_of (by rw [ofI_neg, ofI_toI])).symm
                obtain ⟨m, hm⟩ : ∃ m, k + 2 = r + 1 + m := ⟨k + 2 - (r + 1), by omega⟩
                have hmI : (k : Int) + 2 - ((r : Int) + 1) = (m : Int) := by omega
                have hmw : IntKind.i64.wrap (m : Int) = (m : Int) := IntWalk.i64_in _ (by omega)
                have E6 : Hid (zl (r + 1) (hp H r r) ++ List.replicate m 0 = zl (k + 2) (hp H r r)) := Lib.hid (by rw [hm]; exact zl_zeros fun l hl => Fus.hp_deg H r l (by omega))
                have hmle : m ≤ 1000 := by omega
                have hrI : (r : Int) + 1 < (n : Int) := by omega
                have hrI0 : (0 : Int) ≤ (r : Int) := by omega
                have hrI1 : (r : Int) < (n : Int) := by omega
                have hrI2 : (r : Int) < (k : Int) + 1 := by omega
                have HBB := Lib.hid hbel
                clear ha1 ha2 ha3 hb1 hb2 hb3 hq1 hq2 hq3 hnx hbel EPR hP hP' hQ hb_1 hb_2 hb_3 hb_4 hb_5 hp1 hp2 hm
                go_wp2_with fail
                go_region_held3 (fun w' => w'.cell? ⟨gL, r, none⟩ = some (.slice (some ⟨gq, 0, none⟩) (r + 1) cq))
                  (first | go_keep | (exact bcell hB6 hQ1) | (exact bcell hB5 hQ1))
                  (first
                    | (go_at_call 115; refine (c_l01Own _ (zl (r + 1) (hp H r r)) _ (HLI.out _ (by first | with_reducible exact bel1 _ | with_reducible exact bel2 _ _ | with_reducible exact bel3 _ _)) (by rw [zl_length]; omega) (by rw [zl_length]; omega)).mono ?_; rintro e w5 ⟨v5, rfl, ho5, hb5⟩; have hB5 := below_call (w0 := wr) hb5 (by first | with_reducible exact bel1 _ | with_reducible exact bel2 _ _ | with_reducible exact bel3 _ _); have hO5 := own_call (w0 := wr) ho5 (by first | with_reducible exact bel1 _ | with_reducible exact bel2 _ _ | with_reducible exact bel3 _ _); obtain ⟨p5, n5, c5, rfl⟩ := ho5.slice)
                    | (refine step_zerosI (B := wr.heap.size) (xs := zl (r + 1) (hp H r r)) (m := m) (v := .slice p5 n5 c5) ?_ ?_ (.tmp 219) (.tmp 227) ?_ ?_ ?_ ?_ ?_ ?_ ?_; rotate_left 1; rfl; rfl; rfl; rfl; rotate_left 4; (with_reducible exact hO5); (exact hB5.size); (rw [zl_length]; omega); omega; intro v6 w6 ho6 hb6; have hB6 : Below wr.heap.size wr w6 := hB5.trans hb6; rw [E6.out] at ho6; obtain ⟨p6, n6, c6, rfl⟩ := ho6.slice))
                all_goals
                  have HI6 : Hid (Ints w6 (.slice p6 n6 c6) (zl (k + 2) (hp H r r))) := Lib.hid (OwnI.ints ho6 (by rw [zl_length]; omega))
                  have HN6 := Lib.hid (HNI.out _ hB6)
                  have hC1 := bcell hB6 hB1
                  have hC2 := bcell hB6 hB2'
                  have HB6 := Lib.hid hB6
                  clear hB6 ho6 hb6 ho5 hb5 hB5 hO5 hA1 hA2 hB1 hB2' hQ1 HLI HNI E6 hw1 hw2
                  go_wp2_with fail
                  refine (c_l01Mod _ _).mono ?_
                  rintro e w' ⟨rfl, rfl⟩
                  rw [HM.out]
                  go_wp2_with fail
                  refine (c_l02Plus _ _ (k + 2) (k + 2) (nextTo H k (r + 1)) (hp H r r) (-Q) _ HN6.out HI6.out (Nat.le_refl _) (by omega)).mono ?_
                  rintro e w7 ⟨v7, rfl, ho7, hb7⟩
                  rw [ENX.out] at ho7
                  have HO7 := Lib.hid (ho7.mono (Nat.le_trans hzr HB6.out.size))
                  have HB7 := Lib.hid (HBB.out.trans ((HB6.out.trans (hb7.mono HB6.out.size)).mono hzr))
                  clear ho7 hb7
                  go_wp2_with fail
                  go_roundw
                  case rel => exact ⟨r, by omega, by go_num, by rw [HP'.out], HO7.out, HB7.out⟩
                  case measure => simp [intOf]
        · obtain rfl : n = k := by omega
          obtain ⟨gr, cr, hcr, hor, hgr1, hgr2, hgr3⟩ := hlist.rowK (k := n) (hpL_at H (Nat.le_refl _)) (by rw [zl_length]; omega)
          rw [zl_length] at hcr hor
          have HOR := Lib.hid hor
          have HB2 := Lib.hid hbel
          have hnI0 : (0 : Int) ≤ (n : Int) := by omega
          have hnI1 : (n : Int) < (n : Int) + 1 := by omega
          clear hor hbel hlist
          go_wp2_with fail
          go_ret
          exact ⟨_, rfl, by rw [HP.out]; exact HOR.out.mono hsz, HB.out.trans (HB2.out.mono hsz)⟩
end Go.Proofs.Ytmbcncmmgfnlmaa
