/- Spin data: the walk of the reference. -/
import Derived.Test.YtibaollnjfibnaaSpf
namespace Go.Proofs.Ytibaollnjfibnaa
open Go.RowKit
theorem OwnD.lower {w : World} {lo lo' hi : Nat} {s t : Value} {S : List (List Int)} {T : List Int} (h : OwnD w lo hi s t S T) (hl : lo' ≤ lo) : OwnD w lo' hi s t S T := by
  obtain ⟨us, h1, h2, h3, h4, h5, h6, h7, h8, h9⟩ := h
  exact ⟨us, h1.mono hl, h2, fun i u xs e1 e2 => (h3 i u xs e1 e2).mono hl, h4, h5.mono hl, h6, h7, h8, h9⟩
theorem SpIn.ret {w wr : World} {bx : Nat} {s t : Value} {us : List Value} {S : List (List Int)} {T : List Int} {r : (List (List Int) × List Int) × Int} (hr : r = ((S, T), 0)) (h : SpIn w bx s t us [] S T wr) :
    RetX r w (.returned (.tuple #[.agg #[s, t], .int .i64 0])) ((wr.setCell ⟨w.heap.size, 0, none⟩ s).setCell ⟨w.heap.size, 1, none⟩ t) := by
  subst hr
  have hlt := h.lt
  refine ⟨s, t, rfl, ?_, below_set (below_set h.below (Nat.le_refl _)) (Nat.le_refl _)⟩
  rw [World.size_setCell, World.size_setCell]
  refine (h.own.d.same (fun k h1 h2 => ?_)).lower (by omega)
  rw [Below.heap_setCell _ _ _ _ (by show k ≠ w.heap.size; omega), Below.heap_setCell _ _ _ _ (by show k ≠ w.heap.size; omega)]
set_option maxHeartbeats 1600000 in
set_option maxRecDepth 100000 in
theorem c_l13Spin (k m st : Int) (w : World) (hk : 0 ≤ k) (hk' : k ≤ 31) (hm : 1 ≤ m) (hm' : m ≤ 1000) (hst : st = 1 ∨ st = 2) :
    Calls Try.prog 13 #[.int .i64 k, .int .i64 m, .int .i64 st] w (RetX (spinN k m st) w) := by
  have hst1 : 1 ≤ st ∧ st ≤ 2 := by omega
  have HST := Lib.hid hst
  clear hst
  obtain ⟨od, hod⟩ : ∃ od, od = 4 * (k + 2) := ⟨_, rfl⟩
  have hw1 : IntKind.i64.wrap (4 * (k + 2)) = od := by rw [hod]; exact IntWalk.i64_in _ (by omega)
  have hodb : 8 ≤ od ∧ od ≤ 132 := by omega
  have hok : spOk k m = (isOrd od && decide (Int.gcd m od = 1)) := by rw [hod]; rfl
  have hz : spZ k m = ipw (iroot od) m := by rw [hod]; rfl
  have HZ := Lib.hid hz
  clear hod hz
  by_cases hd : (55440 : Int).tmod od = 0
  · have ho : isOrd od = true := by unfold isOrd; simp [hd]; omega
    rw [ho, Bool.true_and] at hok
    have hmod : (55440 : Int) % od = 0 := by rw [← Int.tmod_eq_emod_of_nonneg (by omega)]; exact hd
    cases hg : decide (Int.gcd m od = 1)
    · have HF : Hid (spinN k m st = (([], []), 5)) := Lib.hid (by unfold spinN; rw [if_neg (by rw [hok, hg]; simp)])
      have HG := Lib.hid hg
      clear hd ho hok hg
      go_enter Try.func13, Try.ntmps13
      go_wp2_with fail
      refine (c_l13Coprime m od _ (by omega) (by omega) (by omega) (by omega)).mono ?_
      rw [HG.out]
      rintro e w1 ⟨rfl, rfl⟩
      go_wp2_with fail
      (try simp only [Exit.inBlock, Exit.then])
      refine bodyPost_ret (v := .tuple #[.agg #[.slice none 0 0, .slice none 0 0], .int .i64 5]) (by rw [results_cell_tmp rfl]; go_simp) rfl ?_
      exact retX_nil HF.out (below_alloc w _)
    · have HF : Hid (spinN k m st = ((spS (spQ k m) st (spn k st) (spn k st), spT (spZ k m) st (spn k st)), 0)) := Lib.hid (by unfold spinN; rw [if_pos (by rw [hok, hg])])
      have HG := Lib.hid hg
      have hzb := spZ_bd k m
      have hqe : spQ k m = spZ k m * spZ k m % 55441 := rfl
      have hqb : 0 ≤ spQ k m ∧ spQ k m < 55441 := by unfold spQ; omega
      have HR := Lib.hid (iroot_bd od)
      have hnk := spn_le hk hk' HST.out
      clear hd ho hok hg
      have HP := Lib.hid (fun w => (HZ.out ▸ c_l01Pow (iroot od) m w HR.out.1 HR.out.2 (by omega) (by omega) : Calls Try.prog 24 #[.int .i64 (iroot od), .int .i64 m] w fun e w' => e = .returned (.int .i64 (spZ k m)) ∧ w = w'))
      generalize spZ k m = z at *
      generalize spQ k m = q at *
      clear HZ
      obtain ⟨hpr1, hpr2⟩ := prod_bd hzb.1 hzb.2 hzb.1 hzb.2
      have hw2 : IntKind.i64.wrap (z * z) = z * z := IntWalk.i64_in _ (by omega)
      have hw3 : (z * z) % 55441 = q := hqe.symm
      have hw4 : IntKind.i64.wrap q = q := IntWalk.i64_in _ (by omega)
      have hib := iinv_bd q
      have hbk := iinv_bd ((q - iinv q) % 55441)
      have hqn : ∀ a, qnum q a = (ipw q a - ipw (iinv q) a) % 55441 * iinv ((q - iinv q) % 55441) % 55441 := qnum_eq q
      have HI1 := Lib.hid (fun w => c_l01Inv q w hqb.1 hqb.2)
      have hw5 : IntKind.i64.wrap (q - iinv q) = q - iinv q := IntWalk.i64_in _ (by omega)
      have HM1 := Lib.hid (fun w => c_l01Mod (q - iinv q) w)
      have hmb : 0 ≤ (q - iinv q) % 55441 ∧ (q - iinv q) % 55441 < 55441 := by omega
      have HI2 := Lib.hid (fun w => c_l01Inv ((q - iinv q) % 55441) w hmb.1 hmb.2)
      generalize iinv ((q - iinv q) % 55441) = bl at *
      generalize (q - iinv q) % 55441 = dq at *
      generalize iinv q = bk at *
      have HQN := Lib.hid hqn
      clear hqn hqe hmb
      go_enter Try.func13, Try.ntmps13
      go_wp2_with fail
      refine (c_l13Coprime m od _ (by omega) (by omega) (by omega) (by omega)).mono ?_
      rw [HG.out]
      rintro e w1 ⟨rfl, rfl⟩
      go_wp2_with fail
      refine (c_l01Unity od _ (by omega) (by omega)).mono ?_
      rintro e w2 ⟨rfl, hb2⟩
      have hlt : w.heap.size < w2.heap.size := by have := hb2.size; simp at this; omega
      have HB2 := Lib.hid hb2
      have hc0 : w2.cell? ⟨w.heap.size, 0, none⟩ = some (.slice none 0 0) := bcell hb2 (by simp)
      have hc1 : w2.cell? ⟨w.heap.size, 1, none⟩ = some (.slice none 0 0) := bcell hb2 (by simp)
      have hf0 : w2.frozen? ⟨w.heap.size, 0, none⟩ = false := bfrozen hb2 (v := .slice none 0 0) (by simp) (by simp)
      have hf1 : w2.frozen? ⟨w.heap.size, 1, none⟩ = false := bfrozen hb2 (v := .slice none 0 0) (by simp) (by simp)
      clear hb2
      go_wp2_with fail
      refine (HP.out _).mono ?_
      rintro e w3 ⟨rfl, rfl⟩
      go_wp2_with fail
      refine (HI1.out _).mono ?_
      rintro e w3 ⟨rfl, rfl⟩
      go_wp2_with fail
      refine (HM1.out _).mono ?_
      rintro e w3 ⟨rfl, rfl⟩
      go_wp2_with fail
      refine (HI2.out _).mono ?_
      rintro e w3 ⟨rfl, rfl⟩
      go_wp2_with fail
      have h0 : Hid (SpIn w w2.heap.size (.slice none 0 0) (.slice none 0 0) [] [] (spS q st (spn k st) 0) (spT z st 0) (w2.alloc (.cells #[.slice none 0 0, .slice none 0 0] 25))) := Lib.hid
        ⟨by simp, by simp, by simp, by simp, bcell (below_alloc _ _) hc0, bcell (below_alloc _ _) hc1, bfrozen (below_alloc _ _) hc0 hf0, bfrozen (below_alloc _ _) hc1 hf1, OwnQ.nil _ _, by simp, (below_after HB2.out).trans ((below_alloc _ _).mono (by omega)), hlt⟩
      clear hc0 hc1 hf0 hf1
      obtain ⟨n, hn⟩ : ∃ n, n = spn k st := ⟨_, rfl⟩
      have HNI : Hid (∀ X : Nat, st * X ≤ k ↔ X < n) := Lib.hid (fun X => by rw [hn]; exact spn_iff hk HST.out)
      rw [← hn] at h0 hnk
      have HN := Lib.hid hn
      clear hn HB2
      generalize w2.heap.size = bx at *
      go_loopw [14] (fun vi wr => ∃ (X : Nat) (i : Int) (us : List Value) (sv tv : Value), vi = .int .i64 i ∧ 0 ≤ i ∧ i ≤ 40 ∧ Hid (i = st * X) ∧ X ≤ n ∧ Hid (SpIn w bx sv tv us [] (spS q st n X) (spT z st X) wr)) (fun vi _ => (40 - intOf vi).toNat)
      case atStart => exact ⟨0, 0, [], _, _, rfl, by omega, by omega, Lib.hid (by simp), Nat.zero_le _, h0⟩
      case round =>
        clear h0
        obtain ⟨X, i, us, sv, tv, rfl, hi0, hi40, HI, hXn, HIN⟩ := hrel
        by_cases hik : i ≤ k
        · have hX : X < n := (HNI.out X).1 (by rw [← HI.out]; exact hik)
          have hA1 : IntKind.i64.wrap (i + st) = i + st := IntWalk.i64_in _ (by omega)
          have hA2 : IntKind.i64.wrap (i + 1) = i + 1 := IntWalk.i64_in _ (by omega)
          have hA3 : IntKind.i64.wrap (i + 2) = i + 2 := IntWalk.i64_in _ (by omega)
          have hII := prod34 hi0 (by omega : i ≤ 32)
          obtain ⟨b, hb⟩ : ∃ b, b = i * (i + 2) := ⟨_, rfl⟩
          have hA4 : IntKind.i64.wrap (i * (i + 2)) = b := by rw [hb]; exact IntWalk.i64_in _ (by omega)
          rw [← hb] at hII
          have HBB := Lib.hid hb
          clear hb
          have hrow0 : OwnI (wr.alloc (.cells #[] 2)) wr.heap.size (.slice (some ⟨wr.heap.size, 0, none⟩) 0 0) (spR q st i 0) := Own.lit (B := wr.heap.size) wr 2 [] (Nat.le_refl _) (by simp)
          have HROW0 := Lib.hid hrow0
          clear hrow0
          go_wp2_with fail
          obtain ⟨wo, rfl⟩ : ∃ wo : World, wo = wr := ⟨_, rfl⟩
          go_loopw [15, 16] (fun rv vj wr => ∃ (Y : Nat) (j : Int), vj = .int .i64 j ∧ 0 ≤ j ∧ j ≤ 40 ∧ Hid (j = st * Y) ∧ Y ≤ n ∧ OwnI wr wo.heap.size rv (spR q st i Y) ∧ Below wo.heap.size wo wr) (fun _ vj _ => (40 - intOf vj).toNat)
          case atStart => exact ⟨0, 0, rfl, by omega, by omega, Lib.hid (by simp), Nat.zero_le _, HROW0.out, below_alloc _ _⟩
          case round =>
            clear HROW0
            obtain ⟨Y, j, rfl, hj0, hj40, HJ, hYn, hrow, hbel⟩ := hrel
            have HRW := Lib.hid hrow
            have HBL := Lib.hid hbel
            obtain ⟨rp, rn, rc, rfl⟩ := hrow.slice
            clear hrow hbel
            by_cases hjk : j ≤ k
            · have hY : Y < n := (HNI.out Y).1 (by rw [← HJ.out]; exact hjk)
              have hB1 : IntKind.i64.wrap (j + st) = j + st := IntWalk.i64_in _ (by omega)
              have hB2 : IntKind.i64.wrap (j + 1) = j + 1 := IntWalk.i64_in _ (by omega)
              have hab := prod33 hi0 (by omega : i ≤ 32) hj0 (by omega : j ≤ 32)
              obtain ⟨a, ha⟩ : ∃ a, a = (i + 1) * (j + 1) := ⟨_, rfl⟩
              have hB3 : IntKind.i64.wrap ((i + 1) * (j + 1)) = a := by rw [ha]; exact IntWalk.i64_in _ (by omega)
              rw [← ha] at hab
              have HAJ : Hid (spR q st i (Y + 1) = spR q st i Y ++ [qnum q a]) := Lib.hid (by rw [spR_succ, ha, HJ.out])
              have hPa := Lib.hid (fun w => c_l01Pow q a w hqb.1 hqb.2 (by omega) (by omega))
              have hPb := Lib.hid (fun w => c_l01Pow bk a w hib.1 hib.2 (by omega) (by omega))
              have hp1 := ipw_bd q a
              have hp2 := ipw_bd bk a
              have hqq := HQN.out a
              have hqy := qnum_bd q a
              generalize qnum q a = y at *
              generalize ipw q a = P1 at *
              generalize ipw bk a = P2 at *
              have hB4 : IntKind.i64.wrap (P1 - P2) = P1 - P2 := IntWalk.i64_in _ (by omega)
              have hMa := Lib.hid (fun w => c_l01Mod (P1 - P2) w)
              have hdb : 0 ≤ (P1 - P2) % 55441 ∧ (P1 - P2) % 55441 < 55441 := by omega
              generalize (P1 - P2) % 55441 = dd at *
              obtain ⟨hpr1, hpr2⟩ := prod_bd hdb.1 hdb.2 hbk.1 hbk.2
              have hB5 : IntKind.i64.wrap (dd * bl) = dd * bl := IntWalk.i64_in _ (by omega)
              have hB6 : dd * bl % 55441 = y := hqq.symm
              have hB7 : IntKind.i64.wrap y = y := IntWalk.i64_in _ (by omega)
              have hszo : wo.heap.size ≤ wr.heap.size := HBL.out.size
              have hrl : (spR q st i Y).length ≤ 1000000 := by rw [spR_len]; omega
              have HRL := Lib.hid hrl
              clear ha hqq hrl
              go_wp2_with fail
              refine (hPa.out _).mono ?_
              rintro e w4 ⟨rfl, rfl⟩
              go_wp2_with fail
              refine (hPb.out _).mono ?_
              rintro e w4 ⟨rfl, rfl⟩
              go_wp2_with fail
              refine (hMa.out _).mono ?_
              rintro e w4 ⟨rfl, rfl⟩
              go_wp2_with (at_builtin; refine wp_pushI (gx := wr.heap.size) (y := y) HRW.out rfl (.tmp 65) (.tmp 77) rfl rfl rfl rfl hszo HRL.out ?_; intro v' w4 ho4 hg4 hb4; obtain ⟨p4, n4, c4, rfl⟩ := ho4.slice)
              have HO4 := Lib.hid ho4
              have HB4 := Lib.hid (HBL.out.trans hb4)
              clear ho4 hg4 hb4
              go_roundw
              case rel => exact ⟨Y + 1, j + st, rfl, by omega, by omega, Lib.hid (st_next HJ.out), by omega, by rw [HAJ.out]; exact HO4.out, HB4.out⟩
              case measure => simp [intOf]; omega
            · obtain rfl : Y = n := by
                have : ¬ Y < n := fun h => hjk (by rw [HJ.out]; exact (HNI.out Y).2 h)
                omega
              have HP1 := Lib.hid (HIN.out.pend HBL.out HRW.out)
              have hS1 : Hid (spS q st Y (X + 1) = spS q st Y X ++ [spR q st i Y]) := Lib.hid (by rw [spS_succ, HI.out])
              have hT1 : Hid (spT z st (X + 1) = spT z st X ++ [ipw z b]) := Lib.hid (by rw [spT_succ, HBB.out, HI.out])
              rw [← hS1.out] at HP1
              obtain ⟨s5, w5, hr5, hq5, hb5, hs5, p5, n5, c5, rfl⟩ := HP1.out.own.runS HP1.out.size (by rw [spS_len]; omega)
              have hc0 := HP1.out.c0
              have hbx5 : bx < bx + 1 := by omega
              have hk0 := cellOf hb5 hbx5 HP1.out.c0
              have hk1 := frozenOf hb5 hbx5 HP1.out.f0
              have HT5 := Lib.hid (HP1.out.turnS hb5 hs5 hq5)
              clear hq5 hb5 hs5 hbx5
              go_wp2_with (at_builtin; refine wp_run rfl (.tmp 80) (.tmp 82) rfl rfl rfl hr5 ?_)
              refine gen_worldS (fun W6 hW6 => ?_)
              rw [← hW6] at HT5
              have hPz := Lib.hid (fun w => c_l01Pow z b w hzb.1 hzb.2 (by omega) (by omega))
              generalize ipw z b = pz at *
              obtain ⟨t7, w7, hr7, hq7, hb7, hs7, p7, n7, c7, rfl⟩ := HT5.out.drew.own.runT pz HT5.out.drew.size (by rw [spT_len]; omega)
              have hr8 : ∀ ty, (Builtin.append_ #[23, 23] ty #[tv, .slice (some ⟨W6.heap.size, 0, none⟩) 1 1]).run Try.prog (W6.alloc (.cells #[.int .i64 pz] 2)).drew = .ok (.slice p7 n7 c7) w7 := hr7
              have hc61 := HT5.out.c1
              have hc61a : (W6.alloc (.cells #[.int .i64 pz] 2)).cell? ⟨bx, 1, none⟩ = some tv := bcell (below_alloc _ _) hc61
              have hbx7 : bx < bx + 1 := by omega
              have hk71 := cellOf hb7 hbx7 HT5.out.drew.c1
              have hk72 := frozenOf hb7 hbx7 HT5.out.drew.f1
              have HT7 := Lib.hid (HT5.out.drew.turnT hb7 hs7 hq7)
              have HR8 := Lib.hid hr8
              clear hW6 hr5 hr7 hr8 hq7 hb7 hs7 hbx7 hc0 hk0 hk1
              go_region_law (first
                | (refine step_run (t := 23) (v := tv) (u := .slice (some ⟨W6.heap.size, 0, none⟩) 1 1) (v' := .slice p7 n7 c7) (w' := w7) ?_ (.tmp 86) (.tmp 93) ?_ ?_ ?_ ?_ ?_; rfl; rfl; rfl; rfl; exact HR8.out)
                | (go_simp; go_at_call 24; refine (hPz.out _).mono ?_; rintro e w' ⟨rfl, rfl⟩))
              all_goals
                go_wp2_with fail
                go_roundw
                case rel => exact ⟨X + 1, i + st, _, _, _, rfl, by omega, by omega, Lib.hid (st_next HI.out), by omega, by rw [hT1.out]; exact HT7⟩
                case measure => simp [intOf]; omega
        · obtain rfl : X = n := by
            have : ¬ X < n := fun h => hik (by rw [HI.out]; exact (HNI.out X).2 h)
            omega
          have hq0 := HIN.out.c0
          have hq1 := HIN.out.c1
          have hq2 := HIN.out.r0
          have hq3 := HIN.out.r1
          have hq4 := HIN.out.g0
          have hq5 := HIN.out.g1
          obtain ⟨⟨sp, sn, sc, rfl⟩, ⟨tp, tn, tc, rfl⟩⟩ := HIN.out.own.d.slices
          go_wp2_with fail
          (try simp only [Exit.inBlock, Exit.then])
          refine bodyPost_ret (v := .tuple #[.agg #[.slice sp sn sc, .slice tp tn tc], .int .i64 0]) (by rw [results_cell_tmp rfl]; go_simp) rfl ?_
          exact SpIn.ret (by rw [HF.out, ← HN.out]) HIN.out
  · have HF : Hid (spinN k m st = (([], []), 5)) := Lib.hid (by
      unfold spinN
      rw [if_neg]
      rw [hok]
      unfold isOrd
      simp [hd])
    have hmod : ((55440 : Int) % od == 0) = false := by
      rw [← Int.tmod_eq_emod_of_nonneg (by omega)]; simpa using hd
    have hmod2 : ¬ (55440 : Int) % od = 0 := by simpa using hmod
    clear hd hok
    go_enter Try.func13, Try.ntmps13
    go_wp2_with fail
    (try simp only [Exit.inBlock, Exit.then])
    refine bodyPost_ret (v := .tuple #[.agg #[.slice none 0 0, .slice none 0 0], .int .i64 5]) (by rw [results_cell_tmp rfl]; go_simp) rfl ?_
    exact retX_nil HF.out (below_alloc w _)
end Go.Proofs.Ytibaollnjfibnaa
