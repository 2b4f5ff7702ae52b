/- Walk: determinants by the reference. -/
import Derived.Test.YtmbcncmmgfnlmaaBas
import Derived.Test.YtmbcncmmgfnlmaaAlg
import Derived.Deep.DeepCutAuto
namespace Go.Proofs.Ytmbcncmmgfnlmaa
open Go.RowKit
attribute [local go_sem ↓] Go.wp_at_zero Go.wp_at_succ
open Fus (F Mx toI ofI toI_bd toI_of ofI_toI ofI_neg ofI_mul finv redR redR_d redR_succ stepR step_some step_none scaleR swapR clearR setR)

theorem cell_far {w : World} {g i k : Nat} {u v : Value} (h : i ≠ k) (hc : w.cell? ⟨g, k, none⟩ = some v) : (w.setCell ⟨g, i, none⟩ u).cell? ⟨g, k, none⟩ = some v := by
  rw [World.cell?_setCell_other _ _ _ _ (fun e => h (by cases e; rfl))]; exact hc
theorem cell_farB2 {w : World} {g g' i k : Nat} {u v : Value} (h : g ≠ g') (hc : w.cell? ⟨g', k, none⟩ = some v) : (w.setCell ⟨g, i, none⟩ u).cell? ⟨g', k, none⟩ = some v := by
  rw [World.cell?_setCell_other _ _ _ _ (fun e => h (by cases e; rfl))]; exact hc
/-- the rows behind k are cleared in column k, of those before m -/
def lowTo (g : Mx) (k : Nat) (v : F) (m : Nat) : Mx := fun i j => if k < i ∧ i < m then g i j + -(g i k) * v * g k j else g i j
theorem lowTo_start (r c : Nat) (g : Mx) (k : Nat) (v : F) : tabF r c (lowTo g k v (k + 1)) = tabF r c g := tabF_congr fun i j _ _ => by
  simp only [lowTo]; rw [if_neg (by omega)]
theorem lowTo_set {r c k m : Nat} (g : Mx) (v : F) (hm : k < m) : (tabF r c (lowTo g k v m)).set m (zl c fun j => g m j + -(g m k) * v * g k j) = tabF r c (lowTo g k v (m + 1)) := by
  rw [tabF_set]
  refine tabF_congr fun a b _ _ => ?_
  simp only [setR, lowTo]
  by_cases e : a = m
  · subst e; rw [if_pos rfl, if_pos ⟨hm, by omega⟩]
  · rw [if_neg e]
    by_cases e2 : k < a ∧ a < m
    · rw [if_pos e2, if_pos ⟨e2.1, by omega⟩]
    · rw [if_neg e2, if_neg (fun h => e2 ⟨h.1, by omega⟩)]
theorem lowTo_row (g : Mx) (k : Nat) (v : F) (m i : Nat) (hi : ¬ (k < i ∧ i < m)) : lowTo g k v m i = g i := by funext b; simp only [lowTo]; rw [if_neg hi]
/-- the rows from k on are as in the reduction -/
def agree (r k : Nat) (f h : Mx) : Prop := ∀ i, k ≤ i → i < r → ∀ j, f i j = h i j
theorem agree_next {r k p : Nat} {f h : Mx} (ha : agree r k f h) (hk : k ≤ p) (hp : p < r) : agree r (k + 1) (lowTo (swapR f k p) k (finv (swapR f k p k k)) r) (clearR (scaleR (swapR h k p) k (finv (h p k))) k k) := by
  intro i hi hir j
  have e1 : ∀ a, k ≤ a → a < r → ∀ j, swapR f k p a j = swapR h k p a j := fun a h1 h2 j => by
    simp only [swapR]; split
    · exact ha p hk hp j
    · split
      · exact ha k (by omega) (by omega) j
      · exact ha a h1 h2 j
  have e2 : swapR h k p k k = h p k := by simp [swapR]
  simp only [lowTo, clearR, scaleR]
  rw [if_pos ⟨by omega, hir⟩, if_neg (by omega), if_neg (by omega), if_neg (by omega), if_true, e1 i (by omega) hir, e1 i (by omega) hir, e1 k (by omega) (by omega), e1 k (by omega) (by omega), e2]
  grind
theorem swap_tab2 {r c p k : Nat} (f : Mx) : ((tabF r c f).set p (zl c (f k))).set k (zl c (f p)) = tabF r c (swapR f k p) := by
  rw [tabF_set, tabF_set]
  refine tabF_congr fun a b _ _ => ?_
  simp only [setR, swapR]
theorem swapR_own (f : Mx) (d : Nat) : swapR f d d = f := by funext i j; simp only [swapR]; split <;> simp_all
theorem d_gap {r : Nat} {f : Mx} {k : Nat} (h : (redR r f k).d < k) : ∀ m, (redR r f (k + m)).d < k + m := by
  intro m
  induction m with
  | zero => exact h
  | succ m ih =>
    rw [← Nat.add_assoc, redR_succ]
    rcases Fus.pivot_cases (redR r f (k + m)).f (k + m) (redR r f (k + m)).d r with ⟨n, _, _, _, h4⟩ | ⟨_, h2⟩
    · rw [Fus.stepR_some h4]; show _ + 1 < _; omega
    · rw [Fus.stepR_none h2]; show (redR r f (k + m)).d < _; omega
theorem det_gap {n k : Nat} {f : Mx} (hk : k ≤ n) (h : (redR n f k).d < k) : (redR n f n).det = 0 := by
  have := d_gap h (n - k)
  rw [show k + (n - k) = n from by omega] at this
  exact ((Fus.D_alt n).steps f n).2.1 this
set_option maxRecDepth 100000 in
set_option maxHeartbeats 8000000 in
theorem c_l02Det (v : Value) (n : Nat) (f : Mx) (w : World) (hv : IntRows w v (tabF n n f)) (hn1 : 0 < n) (hn2 : n ≤ 1000) :
    Calls Try.prog 67 #[v] w fun e w' => e = .returned (.int .i64 (toI (redR n f n).det)) ∧ Below w.heap.size w w' := by
  have HV := Lib.hid hv
  clear hv
  go_enter Try.func67, Try.ntmps67
  go_wp2_with fail
  refine (c_l01Own2 v _ _ HV.out (fun xs hx => by rw [tabF_mem hx]; omega) (by rw [tabF_length]; omega)).mono ?_
  rintro e w1 ⟨v1, rfl, ho1, hb1⟩
  obtain ⟨g, cap, rfl, hg1, hg2⟩ := ho1.shape' (by rw [tabF_length]; exact hn1)
  rw [tabF_length] at ho1
  rw [tabF_length]
  have HO := Lib.hid ho1
  have HB := Lib.hid hb1
  clear ho1 hb1
  go_wp2_with fail
  go_loopw [4, 5] (fun out k wr => ∃ (k' : Nat) (f' h : Mx) (t : F), k' ≤ n ∧ k = .int .i64 k' ∧ out = .int .i64 (toI t) ∧ Hid (redR n f k' = ⟨h, k', t⟩) ∧ Hid (agree n k' f' h) ∧ OwnM wr w.heap.size (.slice (some ⟨g, 0, none⟩) n cap) (tabF n n f') ∧ Below w.heap.size w wr) (fun _ k _ => n - (intOf k).toNat)
  case atStart => exact ⟨0, f, f, 1, Nat.zero_le _, rfl, by rw [Fus.toI_one], rfl, fun i _ _ j => rfl, HO.out, HB.out⟩
  case round =>
    obtain ⟨k, f', h, t, hk, rfl, rfl, HS, HA, hown, hbel⟩ := hrel
    clear HO HB
    have HO := Lib.hid hown
    have HB := Lib.hid hbel
    have hsz := hbel.size
    clear hown hbel
    by_cases hkc : k < n
    · have hkI : (k : Int) < (n : Int) := by omega
      go_wp2_with fail
      go_loop [6] (fun p => ∃ p' : Nat, k ≤ p' ∧ p' ≤ n ∧ p = .int .i64 p' ∧ Hid (∀ i, k ≤ i → i < p' → f' i k = 0)) (fun p => n - (intOf p).toNat)
      case atStart => exact ⟨k, Nat.le_refl _, by omega, rfl, fun i h1 h2 => by omega⟩
      case round =>
        obtain ⟨p, hdp, hpr, rfl, HZ⟩ := hrel
        by_cases hlt : p < n
        · have hpI : (p : Int) < (n : Int) := by omega
          obtain ⟨gp, cp, hcellp, hop, hgpg, _, _⟩ := HO.out.rowK (k := p) (tabF_at n f' hlt) (by rw [zl_length]; exact hn1)
          rw [zl_length] at hcellp hop
          have hx := Own.cell hop (i := k) (u := vi (toI (f' p k))) (by rw [List.getElem?_map, zl_at _ hkc]; rfl)
          clear hop
          by_cases hz : f' p k = 0
          · rw [hz, Fus.toI_zero] at hx
            have HZ1 : Hid (∀ i, k ≤ i → i < p + 1 → f' i k = 0) := Lib.hid (fun i h1 h2 => by
              by_cases e : i = p
              · rw [e]; exact hz
              · exact HZ.out i h1 (by omega))
            clear hz HZ
            go_wp2_with fail
            go_round
            case rel => exact ⟨p + 1, by omega, by omega, by go_num, HZ1.out⟩
            case measure => simp [intOf]; omega
          · have hzB : (toI (f' p k) == 0) = false := by simpa using fun e => hz (toI_zero e)
            have hprB : ((p : Int) == (n : Int)) = false := by rw [beq_eq_false_iff_ne]; omega
            have HST : Hid (redR n f (k + 1) = ⟨clearR (scaleR (swapR h k p) k (finv (h p k))) k k, k + 1, (if p = k then t else -t) * h p k⟩) := Lib.hid (by
              rw [redR_succ, HS.out]
              exact step_some (s := ⟨h, k, t⟩) hdp hlt (by show h p k ≠ 0; rw [← HA.out p hdp hlt]; exact hz) (fun i h1 h2 => by show h i k = 0; rw [← HA.out i h1 (by omega)]; exact HZ.out i h1 h2))
            have HAN : Hid (agree n (k + 1) (lowTo (swapR f' k p) k (finv (swapR f' k p k k)) n) (clearR (scaleR (swapR h k p) k (finv (h p k))) k k)) := Lib.hid (agree_next HA.out hdp hlt)
            have HPE : Hid (h p k = swapR f' k p k k) := Lib.hid (by rw [← HA.out p hdp hlt k]; simp [swapR])
            clear hz HZ
            go_upto_if 41 with fail
            go_cut [4] (fun s4 wx => ∃ (G H' : Mx) (T : F), s4 = .int .i64 (toI T) ∧ Hid (redR n f (k + 1) = ⟨H', k + 1, T * G k k⟩) ∧ Hid (agree n (k + 1) (lowTo G k (finv (G k k)) n) H') ∧ OwnM wx w.heap.size (.slice (some ⟨g, 0, none⟩) n cap) (tabF n n G) ∧ Below w.heap.size w wx)
            case first =>
              by_cases hpk : p = k
              · obtain rfl : k = p := hpk.symm
                have HSTN : Hid (redR n f (k + 1) = ⟨clearR (scaleR (swapR h k k) k (finv (h k k))) k k, k + 1, t * f' k k⟩) := Lib.hid (by
                  rw [HST.out, if_pos rfl]; have := HPE.out; rw [swapR_own] at this; rw [this])
                have HANN : Hid (agree n (k + 1) (lowTo f' k (finv (f' k k)) n) (clearR (scaleR (swapR h k k) k (finv (h k k))) k k)) := Lib.hid (by
                  have := HAN.out; rw [swapR_own] at this; exact this)
                clear hpk
                go_wp2_with fail
                go_meet
                case rel => exact ⟨f', _, t, rfl, HSTN.out, HANN.out, HO.out, HB.out⟩
              · have hpkI : (k : Int) < (p : Int) := by omega
                obtain ⟨gd, cd, hcelld, _, hgdg, _, _⟩ := HO.out.rowK (k := k) (tabF_at n f' hkc) (by rw [zl_length]; exact hn1)
                rw [zl_length] at hcelld
                have hfrp := HO.out.frozenAt p
                have hfrk := HO.out.frozenAt k
                have hnI : ¬ (p : Int) = (k : Int) := by omega
                have hnI2 : ¬ (k : Int) = (p : Int) := by omega
                have hnN : ¬ p = k := hpk
                have hnN2 : ¬ k = p := fun e => hpk e.symm
                have hw2 : IntKind.i64.wrap (-toI t) = -toI t := IntWalk.i64_in _ (by have := toI_bd t; omega)
                have HM : Hid (-toI t % 55441 = toI (-t)) := Lib.hid (toI_of (by rw [ofI_neg, ofI_toI])).symm
                go_wp2_with fail
                refine (c_l01Mod _ _).mono ?_
                rintro e w1 ⟨rfl, rfl⟩
                rw [HM.out]
                go_wp2_with fail
                go_meet
                case rel =>
                  refine ⟨swapR f' k p, _, -t, rfl, by rw [HST.out, if_neg hpk, HPE.out]; rfl, HAN.out, ?_, below_set (below_set HB.out hg1) hg1⟩
                  rw [← swap_tab2]
                  exact OwnM.swap HO.out hcellp hcelld (tabF_at n f' hlt) (tabF_at n f' hkc) hpk
            case rest =>
              obtain ⟨G, H', T, rfl, HSTN, HANN, hown, hbel⟩ := hcut
              have HO := Lib.hid hown
              have HB := Lib.hid hbel
              have hsz := hbel.size
              clear hown hbel HST HAN HPE HA HS hcellp hx hgpg
              obtain ⟨gk, ck, hcellk, hok, hgkg, _, _⟩ := HO.out.rowK (k := k) (tabF_at n G hkc) (by rw [zl_length]; exact hn1)
              rw [zl_length] at hcellk hok
              have hxk := Own.cell hok (i := k) (u := vi (toI (G k k))) (by rw [List.getElem?_map, zl_at _ hkc]; rfl)
              have hTb := toI_bd T
              have hxb := toI_bd (G k k)
              have hpr0 := prod_bd hTb.1 hTb.2 hxb.1 hxb.2
              obtain ⟨hpr1, hpr2⟩ := hpr0
              obtain ⟨hx1, hx2⟩ := hxb
              have HD : Hid (toI T * toI (G k k) % 55441 = toI (T * G k k)) := Lib.hid (toI_of (by rw [ofI_mul, ofI_toI, ofI_toI])).symm
              have hw1 : IntKind.i64.wrap (toI T * toI (G k k)) = toI T * toI (G k k) := IntWalk.i64_in _ (by omega)
              have hw2 : (toI T * toI (G k k)).tmod 55441 = toI T * toI (G k k) % 55441 := Int.tmod_eq_emod_of_nonneg hpr1
              clear hok hTb
              go_wp2_with fail
              refine (c_l01Inv _ _ hx1 hx2).mono ?_
              rintro e w' ⟨rfl, rfl⟩
              rw [iinv_toI]
              go_wp2_with fail
              go_loopw [9] (fun i wr => ∃ i' : Nat, k < i' ∧ i' ≤ n ∧ i = .int .i64 i' ∧ OwnM wr w.heap.size (.slice (some ⟨g, 0, none⟩) n cap) (tabF n n (lowTo G k (finv (G k k)) i')) ∧ Below w.heap.size w wr) (fun i _ => n - (intOf i).toNat)
              case atStart => exact ⟨k + 1, by omega, by omega, by go_num, by rw [lowTo_start]; exact HO.out, HB.out⟩
              case round =>
                obtain ⟨i, hki, hi, rfl, hown, hbel⟩ := hrel
                clear HO HB hcellk hxk hw1 hw2 hpr1 hpr2 hx1 hx2
                have hsz2 := hbel.size
                by_cases hlti : i < n
                · have hi0 : (0 : Int) ≤ (i : Int) := by omega
                  have hi1 : (i : Int) < (n : Int) := by omega
                  have hk0 : (0 : Int) ≤ (k : Int) := by omega
                  have hik : ¬ i = k := by omega
                  obtain ⟨gi, ci, hcelli, hoi, hgig, _, _⟩ := hown.rowK (k := i) (tabF_at n _ hlti) (by rw [zl_length]; exact hn1)
                  obtain ⟨gk, ck, hcellk, hok, hgkg, _, _⟩ := hown.rowK (k := k) (tabF_at n _ hkc) (by rw [zl_length]; exact hn1)
                  rw [zl_length] at hcelli hoi hcellk hok
                  rw [lowTo_row _ _ _ _ _ (by omega)] at hoi hok
                  have hx := Own.cell hoi (i := k) (u := vi (toI (G i k))) (by rw [List.getElem?_map, zl_at _ hkc]; rfl)
                  have hxb := toI_bd (G i k)
                  obtain ⟨hx1, hx2⟩ := hxb
                  have hfri := hown.frozenAt i
                  have hw1 : IntKind.i64.wrap (-toI (G i k)) = -toI (G i k) := IntWalk.i64_in _ (by omega)
                  have HM : Hid (-toI (G i k) % 55441 = toI (-(G i k))) := Lib.hid (toI_of (by rw [ofI_neg, ofI_toI])).symm
                  have hyb := toI_bd (-(G i k))
                  have hvb := toI_bd (finv (G k k))
                  have hpr0 := prod_bd hyb.1 hyb.2 hvb.1 hvb.2
                  obtain ⟨hpr1, hpr2⟩ := hpr0
                  have hw2 : IntKind.i64.wrap (toI (-(G i k)) * toI (finv (G k k))) = toI (-(G i k)) * toI (finv (G k k)) := IntWalk.i64_in _ (by omega)
                  have hw3 : (toI (-(G i k)) * toI (finv (G k k))).tmod 55441 = toI (-(G i k) * finv (G k k)) := (Int.tmod_eq_emod_of_nonneg hpr1).trans (toI_of (by rw [ofI_mul, ofI_toI, ofI_toI])).symm
                  have HI : Hid (Ints wr.drew (.slice (some ⟨gi, 0, none⟩) n ci) (zl n (G i))) := Lib.hid (Ints.ofHeap rfl (OwnI.ints hoi (by rw [zl_length]; omega)))
                  have HIK : Hid (Ints wr.drew (.slice (some ⟨gk, 0, none⟩) n ck) (zl n (G k))) := Lib.hid (Ints.ofHeap rfl (OwnI.ints hok (by rw [zl_length]; omega)))
                  have HO : Hid (OwnM wr.drew w.heap.size (.slice (some ⟨g, 0, none⟩) n cap) (tabF n n (lowTo G k (finv (G k k)) i))) := Lib.hid (hown.drewN 1)
                  have HB := Lib.hid hbel
                  clear hown hbel hoi hok hyb hvb
                  go_wp2_with fail
                  go_region_with
                    (first
                      | (go_at_call 102; refine (c_l01Mod _ _).mono ?_; rintro e w' ⟨rfl, rfl⟩; rw [HM.out])
                      | (go_at_call 113; refine (c_l02Plus _ _ n n (G i) (G k) (-(G i k) * finv (G k k)) _ HI.out HIK.out (Nat.le_refl _) (by omega)).mono ?_; rintro e w5 ⟨v5, rfl, ho5, hb5⟩; obtain ⟨p5, n5, c5, rfl⟩ := ho5.slice; have hcell5 := bcell hb5 hcelli; have hfr5 := bfrozen hb5 hcelli hfri))
                  all_goals
                    have HN : Hid (OwnM (w5.setCell ⟨g, i, none⟩ (.slice p5 n5 c5)) w.heap.size (.slice (some ⟨g, 0, none⟩) n cap) (tabF n n (lowTo G k (finv (G k k)) (i + 1)))) := Lib.hid (by
                      rw [← lowTo_set G _ hki]; exact OwnM.set HO.out hb5 hsz2 ho5 i)
                    have HNB : Hid (Below w.heap.size w (w5.setCell ⟨g, i, none⟩ (.slice p5 n5 c5))) := Lib.hid (below_set (below_drewed HB.out (hb5.mono hsz2)) hg1)
                    clear ho5 hb5 hcell5 hfr5 HO HB
                    go_wp2_with fail
                    go_roundw
                    case rel => exact ⟨i + 1, by omega, by omega, by go_num, HN.out, HNB.out⟩
                    case measure => simp [intOf]; omega
                · obtain rfl : n = i := by omega
                  have HO := Lib.hid hown
                  have HB := Lib.hid hbel
                  clear hown hbel
                  go_wp2_with fail
                  go_roundw
                  case rel => exact ⟨k + 1, _, H', T * G k k, by omega, by go_num, by rw [HD.out], HSTN.out, HANN.out, HO.out, HB.out⟩
                  case measure => simp [intOf]; omega
        · obtain rfl : n = p := by omega
          have HST : Hid ((redR n f n).det = 0) := Lib.hid (by
            have : redR n f (k + 1) = ⟨h, k, 0⟩ := by
              rw [redR_succ, HS.out]
              exact step_none (s := ⟨h, k, t⟩) (fun i h1 h2 => by show h i k = 0; rw [← HA.out i h1 h2]; exact HZ.out i h1 h2)
            exact det_gap (k := k + 1) (by omega) (by rw [this]; show k < k + 1; omega))
          clear HZ
          go_wp2_with fail
          go_ret
          exact ⟨ret_int (by rw [HST.out, Fus.toI_zero]), HB.out⟩
    · obtain rfl : n = k := by omega
      go_wp2_with fail
      go_ret
      exact ⟨ret_int (by rw [HS.out]), HB.out⟩
end Go.Proofs.Ytmbcncmmgfnlmaa
