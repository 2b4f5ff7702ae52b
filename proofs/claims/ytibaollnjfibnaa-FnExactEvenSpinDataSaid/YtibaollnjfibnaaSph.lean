/- Spin data: the walk of the program. -/
import Derived.Test.YtibaollnjfibnaaSpg
namespace Go.Proofs.Ytibaollnjfibnaa
open Go.RowKit
/-- post of a call that makes data alone -/
def RetX0 (r : List (List Int) × List Int) (w : World) (e : Ending) (w' : World) : Prop :=
  ∃ s t, e = .returned (.agg #[s, t]) ∧ OwnD w' w.heap.size w'.heap.size s t r.1 r.2 ∧ Below w.heap.size w w'
theorem SpIn.ret0 {w wr : World} {bx : Nat} {s t : Value} {us : List Value} {S : List (List Int)} {T : List Int} {r : List (List Int) × List Int} (hr : r = (S, T)) (h : SpIn w bx s t us [] S T wr) :
    RetX0 r w (.returned (.agg #[s, t])) ((wr.setCell ⟨w.heap.size, 0, none⟩ s).setCell ⟨w.heap.size, 1, none⟩ t) := by
  subst hr
  have hlt := h.lt
  refine ⟨s, t, rfl, ?_, below_set (below_set h.below (Nat.le_refl _)) (Nat.le_refl _)⟩
  rw [World.size_setCell, World.size_setCell]
  refine (h.own.d.same (fun k h1 h2 => ?_)).lower (by omega)
  rw [Below.heap_setCell _ _ _ _ (by show k ≠ w.heap.size; omega), Below.heap_setCell _ _ _ _ (by show k ≠ w.heap.size; omega)]
theorem cellKept {w w' : World} {B g : Nat} {x y v : Value} {bx : Nat} (hb : Below B w w') (hg : g < B) (hne : g ≠ bx) (hc : w.cell? ⟨g, 0, none⟩ = some v) : ((w'.setCell ⟨bx, 0, none⟩ x).setCell ⟨bx, 1, none⟩ y).cell? ⟨g, 0, none⟩ = some v := by
  rw [World.cell?_setCell_other _ _ _ _ (fun e => hne (congrArg Addr.block e).symm), World.cell?_setCell_other _ _ _ _ (fun e => hne (congrArg Addr.block e).symm)]
  exact cellOf hb hg hc
theorem results_cell1 {fn : Func} {p : Tmp} {ty : TypeId} (h : fn.results = #[.cell p ty]) (tmps : Array Value) (P : Program) (w : World) :
    (results fn tmps).run P w = ((asAddr (tmps.getD p undef)).run P w).andThen fun a w₁ => (loadVar ty a).run P w₁ := by
  simp only [results, h]
  simp [Sem.run_bind, Result.andThen]
/-- the ways through a region end alike: their end is shown once -/
theorem wp_one {P : Program} {c : Code} {a : Act} {w : World} {Q : Exit → Act → World → Prop} {A : Act} {W : World} (h : c.wp P (fun e a w => match e with | .normal => a = A ∧ w = W | _ => False) a w) (hq : Q .normal A W) : c.wp P Q a w := by
  refine Code.wp_mono (fun e a w h => ?_) h
  cases e <;> first | exact h.elim | (obtain ⟨rfl, rfl⟩ := h; exact hq)
set_option maxHeartbeats 1600000 in
set_option maxRecDepth 100000 in
theorem c_spinData (k m st : Int) (w : World) (hk : 0 ≤ k) (hk' : k ≤ 31) (hm : 1 ≤ m) (hm' : m ≤ 1000) (hst : st = 1 ∨ st = 2) (hok : spOk k m = true) :
    Calls Try.prog 16 #[.int .i64 k, .int .i64 m, .int .i64 st] w (RetX0 (spinN k m st).1 w) := by
  have hst1 : 1 ≤ st ∧ st ≤ 2 := by omega
  have HST := Lib.hid hst
  clear hst
  have HF : Hid ((spinN k m st).1 = (spS (spQ k m) st (spn k st) (spn k st), spT (spZ k m) st (spn k st))) := Lib.hid (by unfold spinN; rw [if_pos hok])
  clear hok
  obtain ⟨od, hod⟩ : ∃ od, od = 4 * (k + 2) := ⟨_, rfl⟩
  have hw1 : IntKind.i64.wrap (4 * (k + 2)) = od := by rw [hod]; exact IntWalk.i64_in _ (by omega)
  have hodb : 8 ≤ od ∧ od ≤ 132 := by omega
  have hz : spZ k m = ipw (iroot od) m := by rw [hod]; rfl
  have HZ := Lib.hid hz
  clear hod hz
  have hzb := spZ_bd k m
  have hqe : spQ k m = spZ k m * spZ k m % 55441 := rfl
  have hqb : 0 ≤ spQ k m ∧ spQ k m < 55441 := by unfold spQ; omega
  have HR := Lib.hid (iroot_bd od)
  have hnk := spn_le hk hk' HST.out
  have HP := Lib.hid (fun w => (HZ.out ▸ c_power (iroot od) m w HR.out.1 HR.out.2 (by omega) (by omega) : Calls Try.prog 30 #[.int .i64 (iroot od), .int .i64 m] w fun e w' => e = .returned (.int .i64 (spZ k m)) ∧ w = w'))
  generalize spZ k m = z at *
  generalize spQ k m = q at *
  clear HZ
  obtain ⟨hpr1, hpr2⟩ := prod_bd hzb.1 hzb.2 hzb.1 hzb.2
  have hw2 : IntKind.i64.wrap (z * z) = z * z := IntWalk.i64_in _ (by omega)
  have hw3 : (z * z) % 55441 = q := hqe.symm
  have hw4 : IntKind.i64.wrap q = q := IntWalk.i64_in _ (by omega)
  clear hqe
  go_enter Try.func16, Try.ntmps16
  go_wp2_with fail
  refine (c_root od _ (by omega) (by omega)).mono ?_
  rintro e w1 ⟨rfl, rfl⟩
  go_wp2_with fail
  refine (HP.out _).mono ?_
  rintro e w3 ⟨rfl, rfl⟩
  go_wp2_with fail
  rw [hw3]
  obtain ⟨w2, hw2e⟩ : ∃ w2 : World, w2 = (w.alloc (.cells #[.slice none 0 0, .slice none 0 0] 25)).alloc (.cells #[.int .i64 q] 2) := ⟨_, rfl⟩
  have hsz2 : w2.heap.size = w.heap.size + 1 + 1 := by rw [hw2e]; simp
  have hb2 : Below w.heap.size w w2 := by rw [hw2e]; exact (below_alloc _ _).trans ((below_alloc _ _).mono (by simp))
  have hc0 : w2.cell? ⟨w.heap.size, 0, none⟩ = some (.slice none 0 0) := by rw [hw2e]; simp
  have hc1 : w2.cell? ⟨w.heap.size, 1, none⟩ = some (.slice none 0 0) := by rw [hw2e]; simp
  have hf0 : w2.frozen? ⟨w.heap.size, 0, none⟩ = false := by rw [hw2e]; simp
  have hf1 : w2.frozen? ⟨w.heap.size, 1, none⟩ = false := by rw [hw2e]; simp
  have hcq : w2.cell? ⟨w.heap.size + 1, 0, none⟩ = some (.int .i64 q) := by rw [hw2e]; simp
  have h0 : Hid (SpIn w (w.heap.size + 1 + 1) (.slice none 0 0) (.slice none 0 0) [] [] (spS q st (spn k st) 0) (spT z st 0) (w2.alloc (.cells #[.slice none 0 0, .slice none 0 0] 25))) := Lib.hid (by
    rw [← hsz2]
    exact ⟨by simp, by simp, by simp, by simp, bcell (below_alloc _ _) hc0, bcell (below_alloc _ _) hc1, bfrozen (below_alloc _ _) hc0 hf0, bfrozen (below_alloc _ _) hc1 hf1, OwnQ.nil _ _, by simp, hb2.trans ((below_alloc _ _).mono (by omega)), by omega⟩)
  have hq0 : Hid ((w2.alloc (.cells #[.slice none 0 0, .slice none 0 0] 25)).cell? ⟨w.heap.size + 1, 0, none⟩ = some (.int .i64 q)) := Lib.hid (bcell (below_alloc _ _) hcq)
  rw [hw2e] at h0 hq0
  clear hc0 hc1 hf0 hf1 hcq hb2 hsz2 hw2e
  obtain ⟨n, hn⟩ : ∃ n, n = spn k st := ⟨_, rfl⟩
  have HNI : Hid (∀ X : Nat, st * X ≤ k ↔ X < n) := Lib.hid (fun X => by rw [hn]; exact spn_iff hk HST.out)
  rw [← hn] at h0 hnk
  have HN := Lib.hid hn
  clear hn
  go_loopw [12] (fun vi wr => ∃ (X : Nat) (i : Int) (us : List Value) (sv tv : Value), vi = .int .i64 i ∧ 0 ≤ i ∧ i ≤ 40 ∧ Hid (i = st * X) ∧ X ≤ n ∧ Hid (SpIn w (w.heap.size + 1 + 1) sv tv us [] (spS q st n X) (spT z st X) wr) ∧ Hid (wr.cell? ⟨w.heap.size + 1, 0, none⟩ = some (.int .i64 q))) (fun vi _ => (40 - intOf vi).toNat)
  case atStart => exact ⟨0, 0, [], _, _, rfl, by omega, by omega, Lib.hid (by simp), Nat.zero_le _, h0, hq0⟩
  case round =>
    clear h0 hq0
    obtain ⟨X, i, us, sv, tv, rfl, hi0, hi40, HI, hXn, HIN, HCQ⟩ := hrel
    by_cases hik : i ≤ k
    · have hX : X < n := (HNI.out X).1 (by rw [← HI.out]; exact hik)
      have hA1 : IntKind.i64.wrap (i + st) = i + st := IntWalk.i64_in _ (by omega)
      have hA2 : IntKind.i64.wrap (i + 1) = i + 1 := IntWalk.i64_in _ (by omega)
      have hA3 : IntKind.i64.wrap (i + 2) = i + 2 := IntWalk.i64_in _ (by omega)
      have hII := prod34 hi0 (by omega : i ≤ 32)
      obtain ⟨b, hb⟩ : ∃ b, b = i * (i + 2) := ⟨_, rfl⟩
      have hA4 : IntKind.i64.wrap (i * (i + 2)) = b := by rw [hb]; exact IntWalk.i64_in _ (by omega)
      rw [← hb] at hII
      have HBB := Lib.hid hb
      clear hb
      have hrow0 : OwnI (wr.alloc (.cells #[] 2)) wr.heap.size (.slice (some ⟨wr.heap.size, 0, none⟩) 0 0) (spR q st i 0) := Own.lit (B := wr.heap.size) wr 2 [] (Nat.le_refl _) (by simp)
      have HROW0 := Lib.hid hrow0
      clear hrow0
      go_wp2_with fail
      obtain ⟨wo, rfl⟩ : ∃ wo : World, wo = wr := ⟨_, rfl⟩
      go_loopw [13, 14] (fun rv vj wr => ∃ (Y : Nat) (j : Int), vj = .int .i64 j ∧ 0 ≤ j ∧ j ≤ 40 ∧ Hid (j = st * Y) ∧ Y ≤ n ∧ OwnI wr wo.heap.size rv (spR q st i Y) ∧ Below wo.heap.size wo wr) (fun _ vj _ => (40 - intOf vj).toNat)
      case atStart => exact ⟨0, 0, rfl, by omega, by omega, Lib.hid (by simp), Nat.zero_le _, HROW0.out, below_alloc _ _⟩
      case round =>
        clear HROW0
        obtain ⟨Y, j, rfl, hj0, hj40, HJ, hYn, hrow, hbel⟩ := hrel
        have HRW := Lib.hid hrow
        have HBL := Lib.hid hbel
        obtain ⟨rp, rn, rc, rfl⟩ := hrow.slice
        clear hrow hbel
        by_cases hjk : j ≤ k
        · have hY : Y < n := (HNI.out Y).1 (by rw [← HJ.out]; exact hjk)
          have hB1 : IntKind.i64.wrap (j + st) = j + st := IntWalk.i64_in _ (by omega)
          have hB2 : IntKind.i64.wrap (j + 1) = j + 1 := IntWalk.i64_in _ (by omega)
          have hab := prod33 hi0 (by omega : i ≤ 32) hj0 (by omega : j ≤ 32)
          obtain ⟨a, ha⟩ : ∃ a, a = (i + 1) * (j + 1) := ⟨_, rfl⟩
          have hB3 : IntKind.i64.wrap ((i + 1) * (j + 1)) = a := by rw [ha]; exact IntWalk.i64_in _ (by omega)
          rw [← ha] at hab
          have HAJ : Hid (spR q st i (Y + 1) = spR q st i Y ++ [qnum q a]) := Lib.hid (by rw [spR_succ, ha, HJ.out])
          have HCQ2 : Hid (wr.cell? ⟨w.heap.size + 1, 0, none⟩ = some (.int .i64 q)) := Lib.hid (bcell HBL.out HCQ.out)
          have HQC := Lib.hid (c_quantum q a (w.heap.size + 1) wr HCQ2.out hqb.1 hqb.2 (by omega) (by omega))
          have hqy := qnum_bd q a
          generalize qnum q a = y at *
          have hszo : wo.heap.size ≤ wr.heap.size := HBL.out.size
          have hrl : (spR q st i Y).length ≤ 1000000 := by rw [spR_len]; omega
          have HRL := Lib.hid hrl
          clear ha hrl
          go_wp2_with fail
          refine HQC.out.mono ?_
          rintro e w4 ⟨rfl, n4, rfl⟩
          have HRW4 : Hid (OwnI (wr.drewN n4) wo.heap.size (.slice rp rn rc) (spR q st i Y)) := Lib.hid (HRW.out.drewN n4)
          have HBL4 : Hid (Below wo.heap.size wo (wr.drewN n4)) := Lib.hid (HBL.out.trans ((below_toDrewN n4 _ wr)))
          have hsz4 : wo.heap.size ≤ (wr.drewN n4).heap.size := hszo
          clear HCQ2 HQC HRW HBL hszo
          generalize wr.drewN n4 = wz at *
          go_wp2_with (at_builtin; refine wp_pushI (gx := wz.heap.size) (y := y) HRW4.out rfl (.tmp 41) (.tmp 49) rfl rfl rfl rfl hsz4 HRL.out ?_; intro v' w5 ho5 hg5 hb5; obtain ⟨p5, n5, c5, rfl⟩ := ho5.slice)
          have HO5 := Lib.hid ho5
          have HB5 := Lib.hid (HBL4.out.trans hb5)
          clear ho5 hg5 hb5
          go_roundw
          case rel => exact ⟨Y + 1, j + st, rfl, by omega, by omega, Lib.hid (st_next HJ.out), by omega, by rw [HAJ.out]; exact HO5.out, HB5.out⟩
          case measure => simp [intOf]; omega
        · obtain rfl : Y = n := by
            have : ¬ Y < n := fun h => hjk (by rw [HJ.out]; exact (HNI.out Y).2 h)
            omega
          have HP1 := Lib.hid (HIN.out.pend HBL.out HRW.out)
          have hS1 : Hid (spS q st Y (X + 1) = spS q st Y X ++ [spR q st i Y]) := Lib.hid (by rw [spS_succ, HI.out])
          have hT1 : Hid (spT z st (X + 1) = spT z st X ++ [ipw z b]) := Lib.hid (by rw [spT_succ, HBB.out, HI.out])
          rw [← hS1.out] at HP1
          have HP2 := Lib.hid HP1.out.drew
          have HCQ2 : Hid (wr.cell? ⟨w.heap.size + 1, 0, none⟩ = some (.int .i64 q)) := Lib.hid (bcell HBL.out HCQ.out)
          have hPz := Lib.hid (fun w => c_power z b w hzb.1 hzb.2 (by omega) (by omega))
          generalize ipw z b = pz at *
          obtain ⟨s5, w5, hr5, hq5, hb5, hs5, p5, n5, c5, rfl⟩ := HP2.out.own.runS HP2.out.size (by rw [spS_len]; omega)
          obtain ⟨t7, w7, hr7, hq7, hb7, hs7, p7, n7, c7, rfl⟩ := hq5.runT pz (Nat.le_trans HP2.out.size hs5) (by rw [spT_len]; omega)
          have HR5 : Hid (∀ ty, (Builtin.append_ #[22, 22] ty #[sv, .slice (some ⟨wr.heap.size, 0, none⟩) 1 1]).run Try.prog (wr.alloc (.cells #[.slice rp rn rc] 23)).drew = .ok (.slice p5 n5 c5) w5) := Lib.hid hr5
          have HR7 := Lib.hid hr7
          have hlt5 : w.heap.size + 1 + 1 < w.heap.size + 1 + 1 + 1 := by omega
          have hA10 := HP1.out.c0
          have hA11 := HP1.out.c1
          have hB10 : (wr.alloc (.cells #[.slice rp rn rc] 23)).cell? ⟨w.heap.size + 1 + 1, 0, none⟩ = some sv := bcell (below_alloc _ _) hA10
          have hB11 : (wr.alloc (.cells #[.slice rp rn rc] 23)).cell? ⟨w.heap.size + 1 + 1, 1, none⟩ = some tv := bcell (below_alloc _ _) hA11
          have hC11 : w5.cell? ⟨w.heap.size + 1 + 1, 1, none⟩ = some tv := cellOf hb5 hlt5 hA11
          have hD11 : (w5.alloc (.cells #[.int .i64 pz] 2)).cell? ⟨w.heap.size + 1 + 1, 1, none⟩ = some tv := bcell (below_alloc _ _) hC11
          have hbb := hb5.trans hb7
          have hE10 : w7.cell? ⟨w.heap.size + 1 + 1, 0, none⟩ = some sv := cellOf hbb hlt5 hA10
          have hE11 : w7.cell? ⟨w.heap.size + 1 + 1, 1, none⟩ = some tv := cellOf hbb hlt5 hA11
          have hF10 : w7.frozen? ⟨w.heap.size + 1 + 1, 0, none⟩ = false := frozenOf hbb hlt5 HP1.out.f0
          have hF11 : w7.frozen? ⟨w.heap.size + 1 + 1, 1, none⟩ = false := frozenOf hbb hlt5 HP1.out.f1
          have HT7 := Lib.hid (HP2.out.turn hbb (Nat.le_trans hs5 hs7) hq7)
          have HQ7 : Hid (((w7.setCell ⟨w.heap.size + 1 + 1, 0, none⟩ (.slice p5 n5 c5)).setCell ⟨w.heap.size + 1 + 1, 1, none⟩ (.slice p7 n7 c7)).cell? ⟨w.heap.size + 1, 0, none⟩ = some (.int .i64 q)) := Lib.hid (cellKept hbb (by omega) (by omega) HCQ2.out)
          clear hr5 hr7 hq5 hq7 hb5 hb7 hs5 hs7 hbb hlt5
          go_wp2_with fail
          apply wp_one
          case h =>
            go_region_law (first
              | (refine step_run (t := 22) (v := sv) (u := .slice (some ⟨wr.heap.size, 0, none⟩) 1 1) (v' := .slice p5 n5 c5) (w' := w5) ?_ (.tmp 52) (.tmp 54) ?_ ?_ ?_ ?_ ?_; rfl; rfl; rfl; rfl; with_reducible exact HR5.out)
              | (refine step_run (t := 23) (v := tv) (u := .slice (some ⟨w5.heap.size, 0, none⟩) 1 1) (v' := .slice p7 n7 c7) (w' := w7) ?_ (.tmp 57) (.tmp 64) ?_ ?_ ?_ ?_ ?_; rfl; rfl; rfl; rfl; with_reducible exact HR7.out)
              | (go_simp; go_at_call 30; refine (hPz.out _).mono ?_; rintro e w' ⟨rfl, rfl⟩))
            all_goals exact ⟨rfl, rfl⟩
          go_wp2_with fail
          go_roundw
          case rel => exact ⟨X + 1, i + st, _, _, _, rfl, by omega, by omega, Lib.hid (st_next HI.out), by omega, by rw [hT1.out]; exact HT7, HQ7⟩
          case measure => simp [intOf]; omega
    · obtain rfl : X = n := by
        have : ¬ X < n := fun h => hik (by rw [HI.out]; exact (HNI.out X).2 h)
        omega
      have hq0 := HIN.out.c0
      have hq1 := HIN.out.c1
      have hq2 := HIN.out.r0
      have hq3 := HIN.out.r1
      have hq4 := HIN.out.g0
      have hq5 := HIN.out.g1
      obtain ⟨⟨sp, sn, sc, rfl⟩, ⟨tp, tn, tc, rfl⟩⟩ := HIN.out.own.d.slices
      go_wp2_with fail
      (try simp only [Exit.inBlock, Exit.then])
      refine bodyPost_ret (v := .agg #[.slice sp sn sc, .slice tp tn tc]) (by rw [results_cell1 rfl]; go_simp) rfl ?_
      exact SpIn.ret0 (by rw [HF.out, ← HN.out]) HIN.out
end Go.Proofs.Ytibaollnjfibnaa
