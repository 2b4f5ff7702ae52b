/- Walk: reduced bases by the reference. -/
import Derived.Test.YtmbcncmmgfnlmaaGro
import Derived.Deep.RegionLaw
import Derived.Deep.DrawnRows
namespace Go.Proofs.Ytmbcncmmgfnlmaa
open Go.RowKit
attribute [local go_sem ↓] Go.wp_at_zero Go.wp_at_succ
open Fus (F Mx toI ofI toI_bd toI_of ofI_toI ofI_neg finv redR redR_d redR_succ stepR step_some step_none scaleR swapR clearR setR)

/-- the reduced rows as a table -/
def basF (r c : Nat) (f : Mx) : List (List Int) := tabF (redR r f c).d c (redR r f c).f
/-- the first rows are cleared -/
def clrTo (h : Mx) (d k m : Nat) : Mx := fun a b => if a < m then clearR h d k a b else h a b
theorem clrTo_zero (h : Mx) (d k : Nat) : clrTo h d k 0 = h := by funext a b; simp [clrTo]
theorem clrTo_skip (r c : Nat) (h : Mx) (d k : Nat) : tabF r c (clrTo h d k (d + 1)) = tabF r c (clrTo h d k d) := tabF_congr fun a b _ _ => by
  simp only [clrTo]
  by_cases e : a = d
  · subst e; rw [if_pos (by omega), if_neg (by omega)]; simp [clearR]
  · by_cases e2 : a < d
    · rw [if_pos e2, if_pos (by omega)]
    · rw [if_neg e2, if_neg (by omega)]
theorem clrTo_set {r c d k m : Nat} (h : Mx) (hm : m ≠ d) : (tabF r c (clrTo h d k m)).set m (zl c fun j => h m j + -(h m k) * h d j) = tabF r c (clrTo h d k (m + 1)) := by
  rw [tabF_set]
  refine tabF_congr fun a b _ _ => ?_
  simp only [setR, clrTo, clearR]
  by_cases e : a = m
  · subst e; rw [if_pos rfl, if_pos (by omega), if_neg hm]; grind
  · rw [if_neg e]
    by_cases e2 : a < m
    · simp only [if_pos e2, if_pos (show a < m + 1 from by omega)]
    · simp only [if_neg e2, if_neg (show ¬ a < m + 1 from by omega)]
theorem clrTo_end (r c : Nat) (h : Mx) (d k : Nat) : tabF r c (clrTo h d k r) = tabF r c (clearR h d k) := tabF_congr fun a b ha _ => by simp only [clrTo, if_pos ha]
theorem clrTo_row (h : Mx) (d k m i : Nat) (hi : m ≤ i) : clrTo h d k m i = h i := by funext b; simp only [clrTo]; rw [if_neg (by omega)]
theorem clrTo_piv (h : Mx) (d k m : Nat) : clrTo h d k m d = h d := by funext b; simp only [clrTo]; split <;> simp [clearR]
theorem swapIn_tab {r c p d : Nat} (f : Mx) (t : F) : ((tabF r c f).set p (zl c (f d))).set d (zl c fun j => f p j * t) = tabF r c (scaleR (swapR f d p) d t) := by
  rw [tabF_set, tabF_set]
  refine tabF_congr fun a b _ _ => ?_
  simp only [setR, scaleR, swapR]
  by_cases e : a = d
  · simp [e]
  · simp [e]
theorem toI_zero {a : F} (h : toI a = 0) : a = 0 := Fus.toI_eq_zero.1 h

set_option maxRecDepth 100000 in
set_option maxHeartbeats 4000000 in
theorem c_l02Basis (v : Value) (r c : Nat) (f : Mx) (w : World) (hv : IntRows w v (tabF r c f)) (hc1 : 0 < c) (hc2 : c ≤ 1000) (hr : r ≤ 1000) :
    Calls Try.prog 99 #[v] w (RetM (basF r c f) w) := by
  have HV := Lib.hid hv
  clear hv
  go_enter Try.func99, Try.ntmps99
  go_wp2_with fail
  refine (c_l01Own2 v _ _ HV.out (fun xs hx => by rw [tabF_mem hx]; omega) (by rw [tabF_length]; omega)).mono ?_
  rintro e w1 ⟨v1, rfl, ho1, hb1⟩
  have hsh := ho1.shape
  rw [tabF_length] at hsh
  by_cases hr0 : r = 0
  · subst hr0
    have e0 : basF 0 c f = [] := by
      have := (redR_d 0 f c).1
      unfold basF
      rw [show (redR 0 f c).d = 0 from by omega]; rfl
    have HE := Lib.hid e0
    clear e0
    have HO := Lib.hid ho1
    have HB := Lib.hid hb1
    rcases hsh with ⟨rfl, _⟩ | ⟨g, cap, rfl, _, _⟩
    · clear ho1 hb1
      go_wp2_with fail
      go_loop [4, 5] (fun d k => d = .int .i64 0 ∧ k = .int .i64 0) (fun _ _ => 0)
      case atStart => exact ⟨rfl, rfl⟩
      case round =>
        obtain ⟨rfl, rfl⟩ := hrel
        go_wp2_with fail
        go_ret
        exact ⟨_, rfl, by rw [HE.out]; exact OwnM.nil _ _, HB.out⟩
    · have hcap := ho1.capLe
      clear ho1 hb1
      go_wp2_with fail
      go_loop [4, 5] (fun d k => d = .int .i64 0 ∧ k = .int .i64 0) (fun _ _ => 0)
      case atStart => exact ⟨rfl, rfl⟩
      case round =>
        obtain ⟨rfl, rfl⟩ := hrel
        go_wp2_with fail
        go_ret
        exact ⟨_, rfl, by rw [HE.out]; exact HO.out, HB.out⟩
  · obtain ⟨g, cap, rfl, hg1, hg2⟩ : ∃ g cap, v1 = .slice (some ⟨g, 0, none⟩) r cap ∧ w.heap.size ≤ g ∧ g < w1.heap.size := by
      rcases hsh with ⟨_, h⟩ | h
      · have := congrArg List.length h; rw [tabF_length] at this; exact absurd this hr0
      · exact h
    have hcap := ho1.capLe
    have hrp : 0 < r := by omega
    have HO := Lib.hid ho1
    have HB := Lib.hid hb1
    clear hsh ho1 hb1 hr0
    go_wp2_with fail
    go_loopw [4, 5] (fun d k wr => ∃ (k' : Nat) (f' : Mx) (d' : Nat) (t : F), k' ≤ c ∧ k = .int .i64 k' ∧ d = .int .i64 d' ∧ d' ≤ r ∧ Hid (redR r f k' = ⟨f', d', t⟩) ∧ OwnM wr w.heap.size (.slice (some ⟨g, 0, none⟩) r cap) (tabF r c f') ∧ Below w.heap.size w wr) (fun _ k _ => c - (intOf k).toNat)
    case atStart => exact ⟨0, f, 0, 1, Nat.zero_le _, rfl, rfl, Nat.zero_le _, rfl, HO.out, HB.out⟩
    case round =>
      obtain ⟨k, f', d, t, hk, rfl, rfl, hd, HS, hown, hbel⟩ := hrel
      clear HO HB
      have hrI : (0 : Int) < (r : Int) := by omega
      obtain ⟨g0, c0, hcell0, _, _, _, _⟩ := hown.rowK (k := 0) (tabF_at c f' hrp) (by rw [zl_length]; exact hc1)
      rw [zl_length] at hcell0
      have HO := Lib.hid hown
      have HB := Lib.hid hbel
      have hsz := hbel.size
      clear hown hbel
      by_cases hkc : k < c
      · have hkI : (k : Int) < (c : Int) := by omega
        go_wp2_with fail
        go_loop [6] (fun p => ∃ p' : Nat, d ≤ p' ∧ p' ≤ r ∧ p = .int .i64 p' ∧ Hid (∀ i, d ≤ i → i < p' → f' i k = 0)) (fun p => r - (intOf p).toNat)
        case atStart => exact ⟨d, Nat.le_refl _, hd, rfl, fun i h1 h2 => by omega⟩
        case round =>
          obtain ⟨p, hdp, hpr, rfl, HZ⟩ := hrel
          by_cases hlt : p < r
          · have hpI : (p : Int) < (r : Int) := by omega
            obtain ⟨gp, cp, hcellp, hop, hgpg, _, _⟩ := HO.out.rowK (k := p) (tabF_at c f' hlt) (by rw [zl_length]; exact hc1)
            rw [zl_length] at hcellp hop
            have hx := Own.cell hop (i := k) (u := vi (toI (f' p k))) (by rw [List.getElem?_map, zl_at _ hkc]; rfl)
            have HOP := Lib.hid hop
            clear hop
            by_cases hz : f' p k = 0
            · rw [hz, Fus.toI_zero] at hx
              have HZ1 : Hid (∀ i, d ≤ i → i < p + 1 → f' i k = 0) := Lib.hid (fun i h1 h2 => by
                by_cases e : i = p
                · rw [e]; exact hz
                · exact HZ.out i h1 (by omega))
              clear hz HZ
              go_wp2_with fail
              go_round
              case rel => exact ⟨p + 1, by omega, by omega, by go_num, HZ1.out⟩
              case measure => simp [intOf]; omega
            · have hzB : (toI (f' p k) == 0) = false := by simpa using fun e => hz (toI_zero e)
              have hprB : ((p : Int) == (r : Int)) = false := by rw [beq_eq_false_iff_ne]; omega
              have hxb := toI_bd (f' p k)
              obtain ⟨hx1, hx2⟩ := hxb
              obtain ⟨gd, cd, hcelld, hod, hgdg, _, _⟩ := HO.out.rowK (k := d) (tabF_at c f' (by omega)) (by rw [zl_length]; exact hc1)
              rw [zl_length] at hcelld hod
              have hfrp := HO.out.frozenAt p
              have hxw : (wr.setCell ⟨g, p, none⟩ (.slice (some ⟨gd, 0, none⟩) c cd)).cell? ⟨gp, k, none⟩ = some (vi (toI (f' p k))) :=
                Own.cell (Own.keepOther (a := ⟨g, p, none⟩) HOP.out (fun e => hgpg (by cases e; rfl)) _) (i := k) (u := vi (toI (f' p k))) (by rw [List.getElem?_map, zl_at _ hkc]; rfl)
              have HIP : Hid (Ints (wr.setCell ⟨g, p, none⟩ (.slice (some ⟨gd, 0, none⟩) c cd)) (.slice (some ⟨gp, 0, none⟩) c cp) (zl c (f' p))) :=
                Lib.hid (OwnI.ints (Own.keepOther (a := ⟨g, p, none⟩) HOP.out (fun e => hgpg (by cases e; rfl)) _) (by rw [zl_length]; omega))
              have HST : Hid (stepR r k ⟨f', d, t⟩ = ⟨clearR (scaleR (swapR f' d p) d (finv (f' p k))) d k, d + 1, (if p = d then t else -t) * f' p k⟩) := Lib.hid (step_some (s := ⟨f', d, t⟩) hdp hlt hz HZ.out)
              have hdI : (d : Int) < (r : Int) := by omega
              clear hz HZ hod
              go_wp2_with fail
              refine (c_l01Inv _ _ hx1 hx2).mono ?_
              rintro e w' ⟨rfl, rfl⟩
              rw [iinv_toI]
              go_wp2_with fail
              refine (c_l02Scale _ c (f' p) (finv (f' p k)) _ HIP.out (by omega)).mono ?_
              rintro e w2 ⟨v2, rfl, ho2, hb2⟩
              obtain ⟨p2, n2, c2, rfl⟩ := ho2.slice
              have hold : w2.cell? ⟨g, d, none⟩ = some (.slice (some ⟨gd, 0, none⟩) c cd) := by
                exact bcell hb2 (cell_set_over hcellp hcelld)
              have hfrd : w2.frozen? ⟨g, d, none⟩ = false := (hb2.frozen (p := ⟨g, d, none⟩) (by have := (OwnM.lt HO.out).2; simpa using this)).trans (by simpa using HO.out.frozenAt d)
              have HO3 : Hid (OwnM (w2.setCell ⟨g, d, none⟩ (.slice p2 n2 c2)) w.heap.size (.slice (some ⟨g, 0, none⟩) r cap) (tabF r c (scaleR (swapR f' d p) d (finv (f' p k))))) := Lib.hid (by
                rw [← swapIn_tab]
                exact OwnM.swapIn HO.out hsz hcelld (tabF_at c f' (by omega)) (hb2.mono (by simp)) (by simpa using ho2))
              have HR3 : Hid (OwnI (w2.setCell ⟨g, d, none⟩ (.slice p2 n2 c2)) w.heap.size (.slice p2 n2 c2) (zl c (scaleR (swapR f' d p) d (finv (f' p k)) d))) := Lib.hid (by
                have e : zl c (scaleR (swapR f' d p) d (finv (f' p k)) d) = zl c fun j => f' p j * finv (f' p k) := zl_congr fun j _ => by simp [scaleR, swapR]
                rw [e]
                exact Own.mono (Own.keepOther (a := ⟨g, d, none⟩) ho2 (fun e => by have := (Own.lt ho2 e).1; have := (OwnM.lt HO.out).2; simp at *; omega) _) (by simpa using hsz))
              have HB3 : Hid (Below w.heap.size w (w2.setCell ⟨g, d, none⟩ (.slice p2 n2 c2))) := Lib.hid (below_set ((below_set HB.out hg1).trans (hb2.mono (by simpa using hsz))) hg1)
              generalize scaleR (swapR f' d p) d (finv (f' p k)) = h at *
              clear ho2 hb2 HO HB HOP HIP hx hx1 hx2 hxw hzB
              go_wp2_with fail
              go_loopw [8] (fun i wr => ∃ i' : Nat, i' ≤ r ∧ i = .int .i64 i' ∧ OwnM wr w.heap.size (.slice (some ⟨g, 0, none⟩) r cap) (tabF r c (clrTo h d k i')) ∧ OwnI wr w.heap.size (.slice p2 n2 c2) (zl c (h d)) ∧ Below w.heap.size w wr) (fun i _ => r - (intOf i).toNat)
              case atStart => exact ⟨0, Nat.zero_le _, rfl, by rw [clrTo_zero]; exact HO3.out, HR3.out, HB3.out⟩
              case round =>
                obtain ⟨i, hi, rfl, hown, hR, hbel⟩ := hrel
                clear HO3 HR3 HB3
                have hsz2 := hbel.size
                by_cases hlti : i < r
                · by_cases hid : i = d
                  · have hidB : ((i : Int) != (d : Int)) = false := by simp [hid]
                    have HO := Lib.hid hown
                    have HR := Lib.hid hR
                    have HB := Lib.hid hbel
                    have HE := Lib.hid hid
                    clear hown hR hbel hid
                    go_wp2_with fail
                    go_roundw
                    case rel => exact ⟨i + 1, by omega, by go_num, by have e := clrTo_skip r c h d k; rw [← HE.out] at e ⊢; rw [e]; have := HO.out; rw [← HE.out] at this; exact this, HR.out, HB.out⟩
                    case measure => simp [intOf]; omega
                  · have hidB : ((i : Int) != (d : Int)) = true := by rw [bne_iff_ne]; omega
                    have hi0 : (0 : Int) ≤ (i : Int) := by omega
                    have hi1 : (i : Int) < (r : Int) := by omega
                    have hk0 : (0 : Int) ≤ (k : Int) := by omega
                    obtain ⟨gi, ci, hcelli, hoi, hgig, _, _⟩ := hown.rowK (k := i) (tabF_at c _ hlti) (by rw [zl_length]; exact hc1)
                    rw [zl_length] at hcelli hoi
                    rw [clrTo_row h d k i i (Nat.le_refl _)] at hoi
                    have hx := Own.cell hoi (i := k) (u := vi (toI (h i k))) (by rw [List.getElem?_map, zl_at _ hkc]; rfl)
                    have hxb := toI_bd (h i k)
                    obtain ⟨hx1, hx2⟩ := hxb
                    have hfri := hown.frozenAt i
                    have hw1 : IntKind.i64.wrap (-toI (h i k)) = -toI (h i k) := IntWalk.i64_in _ (by omega)
                    have HM : Hid (-toI (h i k) % 55441 = toI (-(h i k))) := Lib.hid (toI_of (by rw [ofI_neg, ofI_toI])).symm
                    have HI : Hid (Ints wr.drew (.slice (some ⟨gi, 0, none⟩) c ci) (zl c (h i))) := Lib.hid (Ints.ofHeap rfl (OwnI.ints hoi (by rw [zl_length]; omega)))
                    have HIR : Hid (Ints wr.drew (.slice p2 n2 c2) (zl c (h d))) := Lib.hid (Ints.ofHeap rfl (OwnI.ints hR (by rw [zl_length]; omega)))
                    have HO : Hid (OwnM wr.drew w.heap.size (.slice (some ⟨g, 0, none⟩) r cap) (tabF r c (clrTo h d k i))) := Lib.hid (hown.drewN 1)
                    have HR : Hid (OwnI wr.drew w.heap.size (.slice p2 n2 c2) (zl c (h d))) := Lib.hid hR
                    have HB := Lib.hid hbel
                    clear hown hR hbel hoi
                    go_wp2_with fail
                    go_region_with
                      (first
                        | (go_at_call 102; refine (c_l01Mod _ _).mono ?_; rintro e w' ⟨rfl, rfl⟩; rw [HM.out])
                        | (go_at_call 113; refine (c_l02Plus _ _ c c (h i) (h d) (-(h i k)) _ HI.out HIR.out (Nat.le_refl _) (by omega)).mono ?_; rintro e w5 ⟨v5, rfl, ho5, hb5⟩; obtain ⟨p5, n5, c5, rfl⟩ := ho5.slice; have hcell5 := bcell hb5 hcelli; have hfr5 := bfrozen hb5 hcelli hfri))
                    all_goals
                      have HN : Hid (OwnM (w5.setCell ⟨g, i, none⟩ (.slice p5 n5 c5)) w.heap.size (.slice (some ⟨g, 0, none⟩) r cap) (tabF r c (clrTo h d k (i + 1)))) := Lib.hid (by
                        rw [← clrTo_set h hid]; exact OwnM.set HO.out hb5 hsz2 ho5 i)
                      have HNR : Hid (OwnI (w5.setCell ⟨g, i, none⟩ (.slice p5 n5 c5)) w.heap.size (.slice p2 n2 c2) (zl c (h d))) := Lib.hid (OwnI.stays HR.out HO.out hb5)
                      have HNB : Hid (Below w.heap.size w (w5.setCell ⟨g, i, none⟩ (.slice p5 n5 c5))) := Lib.hid (below_set (below_drewed HB.out (hb5.mono hsz2)) hg1)
                      clear ho5 hb5 hcell5 hfr5 HO HR HB hid
                      go_wp2_with fail
                      go_roundw
                      case rel => exact ⟨i + 1, by omega, by go_num, HN.out, HNR.out, HNB.out⟩
                      case measure => simp [intOf]; omega
                · obtain rfl : i = r := by omega
                  rw [clrTo_end] at hown
                  have HO := Lib.hid hown
                  have HB := Lib.hid hbel
                  clear hown hR hbel
                  go_wp2_with fail
                  go_roundw
                  case rel => exact ⟨k + 1, _, d + 1, _, by omega, by go_num, by go_num, by omega, by rw [redR_succ, HS.out]; exact HST.out, HO.out, HB.out⟩
                  case measure => simp [intOf]; omega
          · obtain rfl : p = r := by omega
            have HST : Hid (stepR p k ⟨f', d, t⟩ = ⟨f', d, 0⟩) := Lib.hid (step_none (s := ⟨f', d, t⟩) HZ.out)
            clear HZ
            go_wp2_with fail
            go_roundw
            case rel => exact ⟨k + 1, f', d, 0, by omega, by go_num, rfl, hd, by rw [redR_succ, HS.out]; exact HST.out, HO.out, HB.out⟩
            case measure => simp [intOf]; omega
      · obtain rfl : k = c := by omega
        have hdc : (d : Int) ≤ (cap : Int) := by omega
        go_wp2_with fail
        go_ret
        refine ⟨_, rfl, ?_, HB.out⟩
        have h1 := OwnM.take HO.out hd
        rw [tabF_take _ hd] at h1
        have e : basF r k f = tabF d k f' := by unfold basF; rw [HS.out]
        rw [e]
        exact h1
end Go.Proofs.Ytmbcncmmgfnlmaa
