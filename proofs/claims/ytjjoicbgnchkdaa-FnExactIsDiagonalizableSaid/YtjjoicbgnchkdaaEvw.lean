/- Walks: eigenvalues by the program: quotients of polynomials, the search. -/
import Derived.Test.YtjjoicbgnchkdaaBkw
import Derived.Test.YtjjoicbgnchkdaaChw
import Derived.Test.YtjjoicbgnchkdaaAps
import Derived.Test.YtjjoicbgnchkdaaHsp
import Derived.BigQuiet
import Derived.Deep.QuietTactic
namespace Go.Proofs.Ytjjoicbgnchkdaa
open Go.RowKit
theorem rts_zero (m : Nat) (c : Nat → Fus.F) : Fus.rts m c 0 = [] := rfl
attribute [local irreducible] Fus.rts Fus.fnat
open Fus (F Mx toI ofI toI_bd toI_of ofI_toI ofI_neg ofI_mul ofI_add hz hz_top hz_step hz_ev hz_sdiv sdiv ev rts rts_yes rts_no rts_length fnat fnat_toI fl hpoly)

/-- the coefficients of the quotient from place k on -/
def dvP (c : Nat → F) (r : F) (m k : Nat) : Nat → F := fun i => if k ≤ i then sdiv c r m i else 0
theorem dvP_start (c : Nat → F) (r : F) (m : Nat) : (vec (m - 1) fun _ => (0 : Int)) = zl (m - 1) (dvP c r m (m - 1)) := vec_congr fun i hi => by
  show (0 : Int) = toI (if m - 1 ≤ i then _ else 0)
  rw [if_neg (by omega), Fus.toI_zero]
theorem dvP_next (c : Nat → F) (r : F) (m k : Nat) : (zl (m - 1) (dvP c r m (k + 1))).set k (toI (sdiv c r m k)) = zl (m - 1) (dvP c r m k) := by
  rw [zl_set]
  refine zl_congr fun i _ => ?_
  unfold dvP
  by_cases e : i = k
  · rw [if_pos e, if_pos (by omega), e]
  · rw [if_neg e]
    by_cases e2 : k + 1 ≤ i
    · rw [if_pos e2, if_pos (by omega)]
    · rw [if_neg e2, if_neg (by omega)]
theorem dvP_end (c : Nat → F) (r : F) (m : Nat) : zl (m - 1) (dvP c r m 0) = zl (m - 1) (sdiv c r m) := zl_congr fun i _ => by unfold dvP; rw [if_pos (Nat.zero_le _)]
set_option maxRecDepth 100000 in
set_option maxHeartbeats 2000000 in
theorem c_divided (v : Value) (m : Nat) (c : Nat → F) (z : F) (w : World) (hv : Ints w v (zl m c)) (h2 : 2 ≤ m) (hm : m ≤ 1000) :
    Calls Try.prog 137 #[v, .int .i64 (toI z)] w (RetI (zl (m - 1) (sdiv c z m)) w) := by
  obtain ⟨a, cap, hveq, _, hc⟩ := hv
  rw [zl_length] at hveq
  subst hveq
  have HC := Lib.hid hc
  clear hc
  obtain ⟨N, rfl⟩ : ∃ N, m = N + 1 := ⟨m - 1, by omega⟩
  have hzb := toI_bd z
  obtain ⟨hz1, hz2⟩ := hzb
  have HS := Lib.hid (dvP_start c z (N + 1))
  have HX := Lib.hid (dvP_next c z (N + 1))
  have HE := Lib.hid (dvP_end c z (N + 1))
  rw [show N + 1 - 1 = N from rfl] at HS HX HE ⊢
  have hmk := run_make_row' (P := Try.prog) 38 2 (.int .i64 0) 8 Try.underlying38 info_int rfl .i64 .i64 N (by omega) (by omega)
  have HA := Lib.hid (below_alloc w (.cells (madeCells #[.int .i64 0] N) 2))
  have HO : Hid (OwnI (w.alloc (.cells (madeCells #[.int .i64 0] N) 2)) w.heap.size (.slice (some ⟨w.heap.size, 0, none⟩) N N) (zl N (dvP c z (N + 1) N))) := Lib.hid (by rw [← HS.out]; exact own_zeros w N (by omega))
  go_enter Try.func137, Try.ntmps137
  go_wp2_with fail
  go_loopw [6, 7] (fun s i wr => ∃ k : Nat, k ≤ N ∧ i = .int .i64 ((k : Int) - 1) ∧ s = .int .i64 (toI (hz c z (N + 1) (k + 1))) ∧ OwnI wr w.heap.size (.slice (some ⟨w.heap.size, 0, none⟩) N N) (zl N (dvP c z (N + 1) k)) ∧ Below w.heap.size w wr) (fun _ i _ => (intOf i + 1).toNat)
  case atStart => exact ⟨N, Nat.le_refl _, by go_num, by rw [hz_top c z (Nat.le_refl _), Fus.toI_zero], HO.out, HA.out⟩
  case round =>
    obtain ⟨k, hk, rfl, rfl, hown, hbel⟩ := hrel
    clear HO HA hmk
    cases k with
    | zero =>
      rw [HE.out] at hown
      have HO := Lib.hid hown
      have HB := Lib.hid hbel
      clear hown hbel
      rw [show ((0 : Nat) : Int) - 1 = -1 from rfl]
      go_wp2_with fail
      go_ret
      exact ⟨_, rfl, HO.out, HB.out⟩
    | succ k =>
      have e1 : (((k + 1 : Nat) : Int) - 1) = (k : Int) := by omega
      rw [e1]
      obtain ⟨b, off, rfl, hcell⟩ := HC.out (k + 1) _ (zl_at c (by omega))
      have g1 := bcell hbel hcell
      have hold := Own.cell hown (i := k) (zl_get (by omega))
      have hfr := Own.frozen hown k
      obtain ⟨S, hS⟩ : ∃ S, hz c z (N + 1) (k + 1 + 1) = S := ⟨_, rfl⟩
      obtain ⟨S', hS'⟩ : ∃ S', hz c z (N + 1) (k + 1) = S' := ⟨_, rfl⟩
      have hst := hz_step c z (m := N + 1) (k := k + 1) (by omega)
      rw [hS, hS'] at hst
      rw [hS]
      have HS' := Lib.hid hS'
      have HNX : Hid ((zl N (dvP c z (N + 1) (k + 1))).set k (toI S') = zl N (dvP c z (N + 1) k)) := Lib.hid (by
        have := HX.out k; rw [← hz_sdiv, hS'] at this; exact this)
      have hsb := toI_bd S
      have hcb := toI_bd (c (k + 1))
      have hp := prod_bd hsb.1 hsb.2 hz1 hz2
      have hw1 : IntKind.i64.wrap (toI S * toI z) = toI S * toI z := IntWalk.i64_in _ (by omega)
      have hw2 : IntKind.i64.wrap (toI S * toI z + toI (c (k + 1))) = toI S * toI z + toI (c (k + 1)) := IntWalk.i64_in _ (by omega)
      have hw3 : (toI S * toI z + toI (c (k + 1))).tmod 55441 = toI S' := by rw [hst]; exact hornerZ
      have hkI : (k : Int) < (N : Int) := by omega
      have hkI0 : (0 : Int) ≤ (k : Int) := by omega
      have hkI1 : (k : Int) + 1 < (N : Int) + 1 := by omega
      have HU : Hid (OwnI (wr.setCell ⟨w.heap.size, k, none⟩ (.int .i64 (toI S'))) w.heap.size (.slice (some ⟨w.heap.size, 0, none⟩) N N) (zl N (dvP c z (N + 1) k))) := Lib.hid (by
        rw [← HNX.out]
        have := Own.store hown k (vi (toI S'))
        rw [← List.map_set] at this
        exact this)
      have HUB := Lib.hid (below_set (i := k) (u := .int .i64 (toI S')) hbel (Nat.le_refl w.heap.size))
      clear hown hbel hcell hS hS' hst hsb hcb hp HNX
      go_wp2_with fail
      go_roundw
      case rel => exact ⟨k, by omega, by go_num, by rw [HS'.out], HU.out, HUB.out⟩
      case measure => simp [intOf]
/-- the length that a slice value tells -/
def lenOf (v : Value) : Nat := match v with | .slice _ n _ => n | _ => 0
theorem lenOf_slice (p : Option Addr) (n c : Nat) : lenOf (.slice p n c) = n := rfl
set_option maxRecDepth 100000 in
set_option maxHeartbeats 4000000 in
theorem c_eigenvalues (v : Value) (n : Nat) (f : Mx) (w : World) (hv : IntRows w v (tabF n n f)) (hn1 : 0 < n) (hn2 : n ≤ 500) :
    Calls Try.prog 91 #[v] w (RetI (rts (n + 1) (outP n f n) 55441) w) := by
  have HV := Lib.hid hv
  clear hv
  have HLEAD : Hid (outP n f n n = 1) := Lib.hid (by unfold outP; rw [if_pos (by omega), Nat.sub_self]; rfl)
  generalize hc0 : outP n f n = c0 at *
  have HC0 := Lib.hid hc0
  clear hc0
  go_enter Try.func91, Try.ntmps91
  go_wp2_with fail
  refine (c_characteristic v n f _ (HV.out.keep (below_alloc _ _)) hn1 hn2).mono ?_
  rintro e w1 ⟨v1, rfl, ho1, hb1⟩
  rw [HC0.out] at ho1
  have HP1 := Lib.hid ho1
  have HE1 : Hid (OwnI w1 w.heap.size (.slice (some ⟨w.heap.size, 0, none⟩) 0 0) []) := Lib.hid ((own_empty w 2 w.heap.size (Nat.le_refl _)).keep hb1)
  have HB1 : Hid (Below w.heap.size w w1) := Lib.hid ((below_alloc w _).trans (hb1.mono (by simp)))
  have hz1 : w.heap.size < w1.heap.size := by have := hb1.size; simp at this; omega
  clear ho1 hb1
  go_wp2_with fail
  go_loopw [3, 4, 5] (fun s p z wr => ∃ (k m : Nat) (c : Nat → F), (k : Int) ≤ 55441 ∧ z = .int .i64 k ∧ Hid (Fus.Left (n + 1) c0 m c k) ∧ OwnI wr w.heap.size s (rts (n + 1) c0 k) ∧ OwnI wr w.heap.size p (zl m c) ∧ (∀ g, p.ownBlock = some g → s.ownBlock ≠ some g) ∧ Below w.heap.size w wr) (fun _ _ z _ => (55441 - intOf z).toNat)
  case atStart => exact ⟨0, n + 1, c0, by omega, rfl, Fus.Left.start (by omega) (show c0 (n + 1 - 1) = 1 from HLEAD.out), by rw [rts_zero]; exact HE1.out, HP1.out.mono (by simp), fun g h1 h2 => by have := (Own.lt HP1.out h1).1; simp [Value.ownBlock] at h2; simp at this; omega, HB1.out⟩
  case round =>
    obtain ⟨k, m, c, hk, rfl, HL, hs, hp, hap, hbel⟩ := hrel
    clear HP1 HE1 HB1 hz1
    have hm0 := HL.out.pos
    have hmn := HL.out.le
    have hsz := hbel.size
    obtain ⟨gp, cp, rfl, hgp1, hgp2⟩ := hp.shapeN (zl_length _ _) hm0
    by_cases hcase : (k : Int) < 55441 ∧ 1 < m
    · obtain ⟨hk1, hm1⟩ := hcase
      have HKE : Hid (toI (fnat k) = (k : Int)) := Lib.hid (fnat_toI hk1)
      have HSAME : Hid (ev (n + 1) c0 (fnat k) = 0 ↔ ev m c (fnat k) = 0) := Lib.hid (HL.out.same k (Nat.le_refl _) hk1)
      have HPI : Hid (Ints wr (.slice (some ⟨gp, 0, none⟩) m cp) (zl m c)) := Lib.hid (OwnI.ints hp (by rw [zl_length]; omega))
      have hmI : (1 : Int) < (m : Int) := by omega
      have hk0 : (0 : Int) ≤ (k : Int) := by omega
      have HP := Lib.hid hp
      have HS := Lib.hid hs
      have HB := Lib.hid hbel
      have HAP := Lib.hid hap
      clear hp hs hbel hap
      go_wp2_with fail
      have hcv := c_valueAt (.slice (some ⟨gp, 0, none⟩) m cp) m c (fnat k) wr HPI.out hm0 (by omega)
      rw [HKE.out] at hcv
      refine hcv.mono ?_
      rintro e w2 ⟨rfl, hb2⟩
      have HP2 := Lib.hid (HP.out.keep hb2)
      have HS2 := Lib.hid (HS.out.keep hb2)
      have HB2 := Lib.hid (HB.out.trans (hb2.mono hsz))
      have hz2 := hb2.size
      clear hcv hb2 HP HS HB HPI
      by_cases hev : ev m c (fnat k) = 0
      · rw [hev, Fus.toI_zero]
        have HY : Hid (rts (n + 1) c0 (k + 1) = rts (n + 1) c0 k ++ [(k : Int)]) := Lib.hid (rts_yes (HSAME.out.2 hev))
        have hlen := rts_length (n + 1) c0 k
        clear hev HSAME
        go_wp2_with (at_builtin; refine wp_pushI3 HS2.out rfl _ _ rfl rfl rfl (by first | with_reducible rfl | simp) (by omega) (by omega) ?_; intro v3 w3 ho3 hb3 hk3)
        rw [← HY.out] at ho3
        have HP3 : Hid (OwnI w3 w.heap.size (.slice (some ⟨gp, 0, none⟩) m cp) (zl m c)) := Lib.hid (OwnI.stay HP2.out (fun g hg => (hk3 g (Own.lt HP2.out hg).2 (HAP.out g hg)).1))
        have HAP3 : Hid (∀ g, (Value.slice (some ⟨gp, 0, none⟩) m cp).ownBlock = some g → v3.ownBlock ≠ some g) := Lib.hid (fun g hg => (hk3 g (Own.lt HP2.out hg).2 (HAP.out g hg)).2)
        obtain ⟨ps, ns, cs, rfl⟩ := ho3.slice
        have HS3 := Lib.hid ho3
        have HB3 := Lib.hid (HB2.out.trans hb3)
        have HL3 := Lib.hid HL.out.next
        clear ho3 hb3 hk3 HP2 HS2 HB2 HAP hz2 hlen HL
        go_wp2_with fail
        go_loopw [4] (fun p wr => ∃ (m : Nat) (c : Nat → F), Hid (Fus.Left (n + 1) c0 m c (k + 1)) ∧ OwnI wr w.heap.size (.slice ps ns cs) (rts (n + 1) c0 (k + 1)) ∧ OwnI wr w.heap.size p (zl m c) ∧ (∀ g, p.ownBlock = some g → (Value.slice ps ns cs).ownBlock ≠ some g) ∧ Below w.heap.size w wr) (fun p _ => lenOf p)
        case atStart => exact ⟨m, c, HL3.out, HS3.out, HP3.out, HAP3.out, HB3.out⟩
        case round =>
          obtain ⟨m, c, HL, hs, hp, hap, hbel⟩ := hrel
          clear HL3 HS3 HP3 HAP3 HB3
          have hm0 := HL.out.pos
          have hmn := HL.out.le
          have hsz := hbel.size
          obtain ⟨gp, cp, rfl, hgp1, hgp2⟩ := hp.shapeN (zl_length _ _) hm0
          by_cases hm1 : 1 < m
          · have HPI : Hid (Ints wr (.slice (some ⟨gp, 0, none⟩) m cp) (zl m c)) := Lib.hid (OwnI.ints hp (by rw [zl_length]; omega))
            have hmI : (1 : Int) < (m : Int) := by omega
            have HP := Lib.hid hp
            have HS := Lib.hid hs
            have HB := Lib.hid hbel
            have HAP := Lib.hid hap
            clear hp hs hbel hap
            go_wp2_with fail
            have hcv := c_valueAt (.slice (some ⟨gp, 0, none⟩) m cp) m c (fnat k) wr HPI.out hm0 (by omega)
            rw [HKE.out] at hcv
            refine hcv.mono ?_
            rintro e w2 ⟨rfl, hb2⟩
            have HP2 := Lib.hid (HP.out.keep hb2)
            have HS2 := Lib.hid (HS.out.keep hb2)
            have HB2 := Lib.hid (HB.out.trans (hb2.mono hsz))
            have HPI2 := Lib.hid (HPI.out.keep hb2)
            have hz2 := hb2.size
            clear hcv hb2 HP HS HB HPI
            by_cases hev : ev m c (fnat k) = 0
            · have HL4 := Lib.hid (HL.out.div hm1 hk1 hev)
              rw [hev, Fus.toI_zero]
              clear hev
              go_wp2_with fail
              have hcd := c_divided (.slice (some ⟨gp, 0, none⟩) m cp) m c (fnat k) w2 HPI2.out hm1 (by omega)
              rw [HKE.out] at hcd
              refine hcd.mono ?_
              rintro e w4 ⟨v4, rfl, ho4, hb4⟩
              obtain ⟨g4, c4, rfl, hg41, hg42⟩ := ho4.shapeN (zl_length _ _) (by omega)
              have HP4 := Lib.hid (ho4.mono (Nat.le_trans hsz hz2))
              have HS4 := Lib.hid (HS2.out.keep hb4)
              have HB4 := Lib.hid (HB2.out.trans (hb4.mono (Nat.le_trans hsz hz2)))
              have HAP4 : Hid (∀ g, (Value.slice (some ⟨g4, 0, none⟩) (m - 1) c4).ownBlock = some g → (Value.slice ps ns cs).ownBlock ≠ some g) := Lib.hid (fun g h1 h2 => by
                have h3 := (Own.lt HS2.out h2).2
                simp [Value.ownBlock] at h1
                omega)
              clear hcd ho4 hb4
              go_wp2_with fail
              go_roundw
              case rel => exact ⟨m - 1, _, HL4.out, HS4.out, HP4.out, HAP4.out, HB4.out⟩
              case measure => simp [lenOf_slice]; omega
            · have hevB : (toI (ev m c (fnat k)) == 0) = false := by simpa using fun e => hev (Fus.toI_eq_zero.1 e)
              clear hev
              go_wp2_with fail
              go_roundw
              case rel => exact ⟨k + 1, m, c, by omega, by go_num, HL.out, HS2.out, HP2.out, HAP.out, HB2.out⟩
              case measure => simp [intOf]; omega
          · have hmI : ¬ (1 : Int) < (m : Int) := by omega
            have HP := Lib.hid hp
            have HS := Lib.hid hs
            have HB := Lib.hid hbel
            have HAP := Lib.hid hap
            clear hp hs hbel hap
            go_wp2_with fail
            go_roundw
            case rel => exact ⟨k + 1, m, c, by omega, by go_num, HL.out, HS.out, HP.out, HAP.out, HB.out⟩
            case measure => simp [intOf]; omega
      · have HN : Hid (rts (n + 1) c0 (k + 1) = rts (n + 1) c0 k) := Lib.hid (rts_no (fun e => hev (HSAME.out.1 e)))
        have hevB : (toI (ev m c (fnat k)) != 0) = true := by rw [bne_iff_ne]; exact fun e => hev (Fus.toI_eq_zero.1 e)
        clear hev HSAME
        go_wp2_with fail
        go_roundw
        case rel => exact ⟨k + 1, m, c, by omega, by go_num, HL.out.next, by rw [HN.out]; exact HS2.out, HP2.out, HAP.out, HB2.out⟩
        case measure => simp [intOf]; omega
    · have HEQ : Hid (rts (n + 1) c0 55441 = rts (n + 1) c0 k) := Lib.hid (by
        by_cases hm1 : m = 1
        · exact HL.out.one hm1 (by omega) (by omega)
        · rw [show k = 55441 from by omega])
      have HS := Lib.hid hs
      have HB := Lib.hid hbel
      clear hs hp hap hbel
      by_cases hk1 : (k : Int) < 55441
      · have hmI : ¬ (1 : Int) < (m : Int) := by omega
        clear hcase
        go_wp2_with fail
        go_ret
        exact ⟨_, rfl, by rw [HEQ.out]; exact HS.out, HB.out⟩
      · clear hcase
        go_wp2_with fail
        go_ret
        exact ⟨_, rfl, by rw [HEQ.out]; exact HS.out, HB.out⟩
end Go.Proofs.Ytjjoicbgnchkdaa
