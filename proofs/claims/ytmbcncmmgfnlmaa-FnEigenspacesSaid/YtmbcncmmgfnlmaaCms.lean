/- Walks: common spaces by the reference. -/
import Derived.Test.YtmbcncmmgfnlmaaCmw
import Derived.Test.YtmbcncmmgfnlmaaAps
import Derived.Deep.RegionHeld3
import Derived.BigQuiet
import Derived.Deep.QuietTactic
namespace Go.Proofs.Ytmbcncmmgfnlmaa
open Go.RowKit
attribute [local go_sem ↓] Go.wp_at_zero Go.wp_at_succ
open Fus (F Mx toI ofI toI_bd toI_of toI_ofI ofI_toI redR kerR glue stk cmn one Ker kerR_unique kerR_all ker_same_cmn cmn_le)

theorem ker_com {n : Nat} (fs : Nat → Mx) (k : Nat) : kerF (k * n) n (stk n fs k) = kerF (cmn n fs k).d n (cmn n fs k).f := by
  obtain ⟨h1, h2⟩ := kerR_unique (fun x => ker_same_cmn (n := n) (fs := fs) k x)
  unfold kerF
  rw [← h1]
  exact tabF_congr fun i j hi hj => h2 i j hi hj
theorem ker_com0 {n : Nat} (fs : Nat → Mx) (k : Nat) (h : (cmn n fs k).d = 0) : kerF (k * n) n (stk n fs k) = tabF n n one := by
  obtain ⟨h1, h2⟩ := kerR_all (r := k * n) (c := n) (f := stk n fs k) (fun x => (ker_same_cmn k x).2 (fun i hi => by omega))
  unfold kerF
  rw [h1]
  exact tabF_congr fun i j hi hj => h2 i j hi hj
set_option maxRecDepth 100000 in
set_option maxHeartbeats 4000000 in
theorem c_l02Common (u : Value) (c : List (List (List Int))) (v : Value) (xs : List Int) (n : Nat) (w : World) (hu : IntCubes w u c) (hv : Ints w v xs) (h1 : 1 ≤ c.length) (h2 : c.length ≤ 16) (h3 : xs.length = c.length) (hx : xs.all isNum = true) (hn1 : 1 ≤ n) (hn2 : n ≤ 16)
    (hm : ∀ (i : Nat) m, c[i]? = some m → m.length = n ∧ m = tabF n n (entF m)) :
    Calls Try.prog 89 #[u, v] w (RetM (kerF (c.length * n) n (stk n (fsC c xs) c.length)) w) := by
  have HU := Lib.hid hu
  have HV := Lib.hid hv
  have HX := Lib.hid hx
  have HM := Lib.hid hm
  have H3 := Lib.hid h3
  obtain ⟨m0, hm0⟩ : ∃ m, c[0]? = some m := ⟨c[0]'(by omega), by simp⟩
  obtain ⟨pu, cu, rfl, hul, hcu⟩ := hu
  obtain ⟨pv, cv, rfl, hvl, hcv⟩ := hv
  obtain ⟨b0, o0, u0, rfl, hc0, hI0⟩ := hcu 0 m0 hm0
  rw [Nat.add_zero] at hc0
  obtain ⟨p0, q0, hu0, hu01, hu02⟩ := hI0
  subst hu0
  rw [(hm 0 m0 hm0).1] at hc0
  have HCU := Lib.hid hcu
  have HCV := Lib.hid hcv
  clear hx hm h3 hcu hcv hu01 hu02
  go_enter Try.func89, Try.ntmps89
  go_wp2_with fail
  go_loopw [5, 6] (fun s i wr => ∃ k : Nat, k ≤ c.length ∧ i = .int .i64 k ∧ OwnM wr w.heap.size s (tabF (cmn n (fsC c xs) k).d n (cmn n (fsC c xs) k).f) ∧ Below w.heap.size w wr) (fun _ i _ => c.length - (intOf i).toNat)
  case atStart => exact ⟨0, Nat.zero_le _, rfl, ownM_empty _ _ (Nat.le_refl _), below_alloc _ _⟩
  case round =>
    obtain ⟨k, hk, rfl, hown, hbel⟩ := hrel
    have HO := Lib.hid hown
    have HB := Lib.hid hbel
    have hsz := hbel.size
    have hdl := cmn_le n (fsC c xs) k
    have hc0' := bcell hbel hc0
    clear hown hbel
    by_cases hlt : k < c.length
    · obtain ⟨m, hm⟩ : ∃ m, c[k]? = some m := ⟨c[k], by simp [hlt]⟩
      obtain ⟨x, hxx⟩ : ∃ x, xs[k]? = some x := ⟨xs[k]'(by rw [H3.out]; exact hlt), by simp⟩
      obtain ⟨b1, o1, u1, he1, hc1, hI1⟩ := HCU.out k m hm
      cases he1
      obtain ⟨b2, o2, rfl, hc2⟩ := HCV.out k x hxx
      have hk1 := Ints.lt hc1
      have hk2 := Ints.lt hc2
      have hc1' := bcell HB.out hc1
      have hc2' := bcell HB.out hc2
      obtain ⟨hml, hmt⟩ := HM.out k m hm
      have hx12 := isNum_true ((List.all_eq_true.1 HX.out) x (List.mem_of_getElem? hxx))
      have HXE : Hid (x = toI (ofI x)) := Lib.hid (by rw [toI_ofI]; omega)
      have HFS : Hid (fsC c xs k = lessF (entF m) (ofI x)) := Lib.hid (fsC_at hm hxx)
      have HNX : Hid (basF ((cmn n (fsC c xs) k).d + n) n (glue (cmn n (fsC c xs) k).d (cmn n (fsC c xs) k).f (fsC c xs k)) = tabF (cmn n (fsC c xs) (k + 1)).d n (cmn n (fsC c xs) (k + 1)).f) := Lib.hid rfl
      obtain ⟨p1, q1, hu1, hu11, hu12⟩ := id hI1
      subst hu1
      rw [hml] at hc1'
      have HI2 : Hid (∀ w', Below wr.heap.size wr w' → IntRows w' (.slice p1 n q1) (tabF n n (entF m))) := Lib.hid (fun w' h => by
        have := (hI1.keep HB.out).keep h
        rw [hml] at this
        rw [← hmt]; exact this)
      have hkI : (k : Int) < (c.length : Int) := by omega
      have hkI0 : (0 : Int) ≤ (k : Int) := by omega
      have hkI1 : (k : Int) < (xs.length : Int) := by have := H3.out; omega
      obtain ⟨R', hR'⟩ : ∃ R', cmn n (fsC c xs) (k + 1) = R' := ⟨_, rfl⟩
      rw [hR'] at HNX
      have HRE := Lib.hid hR'
      clear hR'
      generalize (cmn n (fsC c xs) k).f = Rf at *
      generalize (cmn n (fsC c xs) k).d = Rd at *
      clear hm hxx hc1 hc2 hI1 hu11 hu12 hmt hml
      go_wp2_with fail
      go_region_held3 (fun w' => w'.cell? ⟨b0, o0 + k, none⟩ = some (.slice p1 n q1) ∧ w'.cell? ⟨b2, o2 + k, none⟩ = some (.int .i64 x))
        (first | go_keep | (exact ⟨bkeep hB6 hk1 hc1', bkeep hB6 hk2 hc2'⟩) | (exact ⟨bkeep hB5 hk1 hc1', bkeep hB5 hk2 hc2'⟩) | (exact ⟨bcell hB4 hc1', bcell hB4 hc2'⟩))
        (first
          | (go_at_call 80; have hcl := c_l02Less _ n (entF m) (ofI x) _ (HI2.out _ (by first | with_reducible exact bel1 _ | with_reducible exact bel2 _ _ | with_reducible exact bel3 _ _)) (by omega) (by omega); rw [← HXE.out] at hcl; refine hcl.mono ?_; rintro e w4 ⟨v4, rfl, ho4, hb4⟩; have hB4 := below_call (w0 := wr) hb4 (bel1 _); have hO4 := ho4.mono (B' := wr.heap.size) (Nat.le_refl _); obtain ⟨g4, c4, rfl, hg41, hg42⟩ := ho4.shape' (by rw [tabF_length]; omega); rw [← HFS.out, tabF_length] at hO4; rw [tabF_length])
          | (go_at_call 99; rw [tabF_glue] at ho5; have hz5' : w.heap.size ≤ w5.heap.size := Nat.le_trans hsz hB5.size; refine (c_l02Basis _ (Rd + n) n (glue Rd Rf (fsC c xs k)) _ (ho5.rowsF (by omega) (by omega)) (by omega) (by omega) (by omega)).mono ?_; rintro e w6 ⟨v6, rfl, ho6, hb6⟩; have hB6 : Below w.heap.size wr w6 := hB5.trans (hb6.mono hz5'))
          | (refine step_appendM (w0 := wr) (gx := g4) (n := n) (c := c4) (v := u5) (xss := tabF Rd n Rf) HO.out hB4 hO4 ?_ (.tmp 14) (.tmp 23) ?_ ?_ ?_ hsz ?_ ?_ ?_; rfl; rfl; rfl; rfl; (rw [tabF_length]; omega); (rw [tabF_length]; omega); intro v5 w5 ho5 hb5; have hO5 := ho5; have hz5 := hB4.size; have hB5 : Below w.heap.size wr w5 := (hB4.mono hsz).trans hb5))
      all_goals
        rw [HNX.out] at ho6
        have HO6 := Lib.hid (ho6.mono hz5')
        have HB6 := Lib.hid (HB.out.trans hB6)
        clear ho6 hb6 hB6 ho5 hb5 hB5 hO5 hz5 hz5' ho4 hb4 hB4 hO4 hcl
        go_wp2_with fail
        go_roundw
        case rel => exact ⟨k + 1, by omega, by go_num, by rw [HRE.out]; exact HO6.out, HB6.out⟩
        case measure => simp [intOf]; omega
    · obtain rfl : k = c.length := by omega
      have HRES := Lib.hid (ker_com (n := n) (fsC c xs) c.length)
      have HRES0 := Lib.hid (ker_com0 (n := n) (fsC c xs) c.length)
      have HI := Lib.hid (HO.out.rowsF (by omega) (by omega))
      obtain ⟨ps, cs, hse⟩ := HO.out.sliceLen
      rw [tabF_length] at hse
      generalize (cmn n (fsC c xs) c.length).f = Rf at *
      generalize (cmn n (fsC c xs) c.length).d = Rd at *
      subst hse
      by_cases hd : Rd = 0
      · have HR := Lib.hid (HRES0.out hd)
        have hdB : ((Rd : Int) == 0) = true := by rw [hd]; rfl
        have hcI : (0 : Int) < (c.length : Int) := by omega
        clear HRES HRES0 hd HO
        go_wp2_with fail
        refine (c_l02Unit n _ (by omega)).mono ?_
        rintro e w5 ⟨v5, rfl, ho5, hb5⟩
        rw [← HR.out] at ho5
        have HO5 := Lib.hid (ho5.mono hsz)
        have HB5 := Lib.hid (HB.out.trans (hb5.mono hsz))
        clear ho5 hb5
        go_wp2_with fail
        go_ret
        exact ⟨_, rfl, HO5.out, HB5.out⟩
      · have hdB : ((Rd : Int) == 0) = false := by rw [beq_eq_false_iff_ne]; omega
        go_wp2_with fail
        refine (c_l02Kernel _ Rd n Rf _ HI.out (by omega) (by omega) (by omega) (by omega)).mono ?_
        rintro e w5 ⟨v5, rfl, ho5, hb5⟩
        rw [← HRES.out] at ho5
        have HO5 := Lib.hid (ho5.mono hsz)
        have HB5 := Lib.hid (HB.out.trans (hb5.mono hsz))
        clear ho5 hb5
        go_wp2_with fail
        go_ret
        exact ⟨_, rfl, HO5.out, HB5.out⟩
set_option maxRecDepth 100000 in
set_option maxHeartbeats 4000000 in
theorem c_SCommonSpace (u : Value) (c : List (List (List Int))) (v : Value) (xs : List Int) (w : World) (hu : IntCubes w u c) (hv : Ints w v xs) :
    Calls Try.prog 45 #[u, v] w (RetMC (comN c xs) w) := by
  have HU := Lib.hid hu
  have HV := Lib.hid hv
  obtain ⟨pu, cu, rfl, hul, hcu⟩ := hu
  obtain ⟨pv, cv, rfl, hvl, hcv⟩ := hv
  have HCU := Lib.hid hcu
  have HCV := Lib.hid hcv
  clear hcu hcv
  go_enter Try.func45, Try.ntmps45
  go_wp2_with fail
  go_loopw [6] (fun i wr => ∃ k : Nat, k ≤ c.length ∧ i = .int .i64 k ∧ Hid (∀ (i : Nat) m, i < k → c[i]? = some m → isMat m = true) ∧ Drew w wr) (fun i _ => c.length - (intOf i).toNat)
  case atStart => exact ⟨0, Nat.zero_le _, rfl, fun i m hi => by omega, Drew.refl _⟩
  case round =>
    obtain ⟨k, hk, rfl, HK, hd⟩ := hrel
    by_cases hlt : k < c.length
    · obtain ⟨m, hm⟩ : ∃ m, c[k]? = some m := ⟨c[k], by simp [hlt]⟩
      obtain ⟨b, off, u1, rfl, hcell, hI⟩ := HCU.out k m hm
      have h1 := hd.cell hcell
      have HI := Lib.hid (hI.ofHeap hd.heap)
      have HM := Lib.hid hm
      have HD := Lib.hid hd
      clear hm hd hI hcell
      cases hp : isMat m
      · have H2 : Hid (comN c xs = ([], 1)) := Lib.hid (by
          unfold comN; rw [if_pos (List.any_eq_true.2 ⟨m, List.mem_of_getElem? HM.out, by simp [badM, hp]⟩)])
        have HP := Lib.hid hp
        clear hp
        go_wp2_with fail
        refine (c_l02Is u1 m _ HI.out).mono ?_
        rintro e w1 ⟨rfl, hd1⟩
        rw [HP.out]
        have HB1 := Lib.hid ((HD.out.trans hd1).below w.heap.size)
        clear hd1
        go_wp2_with fail
        go_ret2
        refine ⟨.slice none 0 0, ?_, ?_, HB1.out⟩
        · rw [H2.out]; rfl
        · rw [H2.out]; exact OwnM.nil _ _
      · have HP := Lib.hid hp
        clear hp
        go_wp2_with fail
        refine (c_l02Is u1 m _ HI.out).mono ?_
        rintro e w1 ⟨rfl, hd1⟩
        rw [HP.out]
        have HD1 := Lib.hid (HD.out.trans hd1)
        clear hd1
        go_wp2_with fail
        go_roundw
        case rel =>
          refine ⟨k + 1, by omega, by go_num, fun i m' hi hm' => ?_, HD1.out⟩
          by_cases e : i = k
          · subst e; rw [HM.out] at hm'; cases hm'; exact HP.out
          · exact HK.out i m' (by omega) hm'
        case measure => simp [intOf]; omega
    · obtain rfl : k = c.length := by omega
      have HMAT : Hid (∀ (i : Nat) m, c[i]? = some m → isMat m = true) := Lib.hid (fun i m hm => HK.out i m (List.getElem?_eq_some_iff.1 hm).1 hm)
      have HA : Hid (c.any badM = false) := Lib.hid (by
        rw [List.any_eq_false]
        intro m hm
        obtain ⟨i, hi⟩ := List.getElem?_of_mem hm
        simp [badM, HMAT.out i m hi])
      have H : Hid (comN c xs = if comR c xs = true ∧ c.all (sqB (rowsC c)) = true then (kerF (c.length * rowsC c) (rowsC c) (stk (rowsC c) (fsC c xs) c.length), 0) else ([], 2)) := Lib.hid (by unfold comN; rw [if_neg (by rw [HA.out]; simp)])
      have FAIL : Hid (comR c xs = false → comN c xs = ([], 2)) := Lib.hid (fun h => by rw [H.out, if_neg (fun e => by rw [h] at e; cases e.1)])
      have HB1 := Lib.hid (hd.below w.heap.size)
      have HDH := Lib.hid hd
      clear HK hd hlt hk
      by_cases h1 : 1 ≤ c.length
      case neg =>
        have H2 := Lib.hid (FAIL.out (by unfold comR; rw [decide_eq_false (by omega)]; rfl))
        have h1I : (c.length : Int) < 1 := by omega
        go_wp2_with fail
        go_ret2
        refine ⟨.slice none 0 0, ?_, ?_, HB1.out⟩
        · rw [H2.out]; rfl
        · rw [H2.out]; exact OwnM.nil _ _
      have h1I : ¬ (c.length : Int) < 1 := by omega
      by_cases h2 : c.length ≤ 16
      case neg =>
        have H2 := Lib.hid (FAIL.out (by unfold comR; rw [decide_eq_false (by omega)]; rfl))
        have h2I : (16 : Int) < (c.length : Int) := by omega
        go_wp2_with fail
        go_ret2
        refine ⟨.slice none 0 0, ?_, ?_, HB1.out⟩
        · rw [H2.out]; rfl
        · rw [H2.out]; exact OwnM.nil _ _
      have h2I : ¬ (16 : Int) < (c.length : Int) := by omega
      by_cases h3 : xs.length = c.length
      case neg =>
        have H2 := Lib.hid (FAIL.out (by unfold comR; rw [decide_eq_false (by omega)]; rfl))
        have h3B : ((xs.length : Int) != (c.length : Int)) = true := by rw [bne_iff_ne]; omega
        clear h3
        go_wp2_with fail
        go_ret2
        refine ⟨.slice none 0 0, ?_, ?_, HB1.out⟩
        · rw [H2.out]; rfl
        · rw [H2.out]; exact OwnM.nil _ _
      have h3B : ((xs.length : Int) != (c.length : Int)) = false := by rw [bne_eq_false_iff_eq, h3]
      have HVD := Lib.hid (HV.out.ofHeap HDH.out.heap)
      cases hx : xs.all isNum
      case false =>
        have H2 := Lib.hid (FAIL.out (by unfold comR; rw [hx, Bool.and_false]))
        have HX := Lib.hid hx
        clear hx h3
        go_wp2_with fail
        refine (c_l01Numbers _ xs _ HVD.out).mono ?_
        rintro e w2 ⟨rfl, rfl⟩
        rw [HX.out]
        go_wp2_with fail
        go_ret2
        refine ⟨.slice none 0 0, ?_, ?_, HB1.out⟩
        · rw [H2.out]; rfl
        · rw [H2.out]; exact OwnM.nil _ _
      case true =>
        have HX := Lib.hid hx
        have HR : Hid (comR c xs = true) := Lib.hid (by unfold comR; rw [hx, decide_eq_true ⟨h1, h2, h3⟩]; rfl)
        obtain ⟨m0, hm0⟩ : ∃ m, c[0]? = some m := ⟨c[0]'(by omega), by simp⟩
        obtain ⟨b0, o0, u0, rfl, hc0, hI0⟩ := HCU.out 0 m0 hm0
        rw [Nat.add_zero] at hc0
        have hn := rowsC_eq hm0
        obtain ⟨p0, q0, hu0, hu01, hu02⟩ := hI0
        subst hu0
        have hn12 := isMat_parts (HMAT.out 0 m0 hm0)
        obtain ⟨n, hne⟩ : ∃ n, rowsC c = n := ⟨_, rfl⟩
        rw [← hn, hne] at hc0
        have hn1 : 1 ≤ n := by have := hn12.1; omega
        have hn2 : n ≤ 16 := by have := hn12.2.1; omega
        rw [hne] at H
        have H3 := Lib.hid h3
        clear hx h3 hn12 hu01 hu02 hn
        go_wp2_with fail
        refine (c_l01Numbers _ xs _ HVD.out).mono ?_
        rintro e w2 ⟨rfl, rfl⟩
        rw [HX.out]
        go_wp2_with fail
        go_loopw [7] (fun i w2 => ∃ k : Nat, k ≤ c.length ∧ i = .int .i64 k ∧ Hid (∀ (i : Nat) m, i < k → c[i]? = some m → sqB n m = true) ∧ Drew w w2) (fun i _ => c.length - (intOf i).toNat)
        case atStart => exact ⟨0, Nat.zero_le _, rfl, fun i m hi => by omega, HDH.out⟩
        case round =>
          obtain ⟨k, hk, rfl, HSQ, hd⟩ := hrel
          have HD := Lib.hid hd
          have hc0' := hd.cell hc0
          clear hd
          by_cases hlt : k < c.length
          · obtain ⟨m, hm⟩ : ∃ m, c[k]? = some m := ⟨c[k], by simp [hlt]⟩
            obtain ⟨b1, o1, u1, he1, hc1, hI1⟩ := HCU.out k m hm
            cases he1
            obtain ⟨b3, o3, cap3, a3, c3, x0, hu1, _, _, hw0, _, hr0⟩ := mat_first hI1 (isMat_parts (HMAT.out k m hm)).1
            subst hu1
            have hc1' := HD.out.cell hc1
            have hr0' := HD.out.cell hr0
            have HM := Lib.hid hm
            have hkI : (k : Int) < (c.length : Int) := by omega
            have hkI0 : (0 : Int) ≤ (k : Int) := by omega
            have hcI : (0 : Int) < (c.length : Int) := by omega
            have hmI : (0 : Int) < (m.length : Int) := by have := (isMat_parts (HMAT.out k m hm)).1; omega
            clear hm hc1 hr0 hI1
            by_cases hs1 : m.length = x0.length
            · have hs1B : ((m.length : Int) != (x0.length : Int)) = false := by rw [bne_eq_false_iff_eq, hs1]
              by_cases hs2 : m.length = n
              · have hs2B : ((m.length : Int) != (n : Int)) = false := by rw [bne_eq_false_iff_eq, hs2]
                have HSQ2 : Hid (∀ (i : Nat) m, i < k + 1 → c[i]? = some m → sqB n m = true) := Lib.hid (fun i m' hi hm' => by
                  by_cases e : i = k
                  · subst e; rw [HM.out] at hm'; cases hm'; exact decide_eq_true ⟨by rw [hw0]; exact hs1, hs2⟩
                  · exact HSQ.out i m' (by omega) hm')
                clear hs1 hs2 HSQ hw0
                go_wp2_with fail
                go_quiet (fail)
                go_wp2_with fail
                go_roundw
                case rel => exact ⟨k + 1, by omega, by go_num, HSQ2.out, HD.out.more _⟩
                case measure => simp [intOf]; omega
              · have hs2B : ((m.length : Int) != (n : Int)) = true := by rw [bne_iff_ne]; omega
                have H2 : Hid (comN c xs = ([], 2)) := Lib.hid (by
                  rw [H.out, if_neg]
                  rintro ⟨_, h⟩
                  have := (List.all_eq_true.1 h) m (List.mem_of_getElem? HM.out)
                  exact hs2 (of_decide_eq_true this).2)
                clear hs1 hs2 hw0
                go_wp2_with fail
                go_quiet (fail)
                go_wp2_with fail
                go_ret2
                refine ⟨.slice none 0 0, ?_, ?_, (HD.out.more _).below _⟩
                · rw [H2.out]; rfl
                · rw [H2.out]; exact OwnM.nil _ _
            · have hs1B : ((m.length : Int) != (x0.length : Int)) = true := by rw [bne_iff_ne]; omega
              have H2 : Hid (comN c xs = ([], 2)) := Lib.hid (by
                rw [H.out, if_neg]
                rintro ⟨_, h⟩
                have := (List.all_eq_true.1 h) m (List.mem_of_getElem? HM.out)
                exact hs1 (by rw [← hw0]; exact (of_decide_eq_true this).1))
              clear hs1 hw0
              go_wp2_with fail
              go_quiet (fail)
              go_wp2_with fail
              go_ret2
              refine ⟨.slice none 0 0, ?_, ?_, (HD.out.more _).below _⟩
              · rw [H2.out]; rfl
              · rw [H2.out]; exact OwnM.nil _ _
          · obtain rfl : k = c.length := by omega
            have HALL : Hid (∀ (i : Nat) m, c[i]? = some m → m.length = n ∧ m = tabF n n (entF m)) := Lib.hid (fun i m hm => by
              have h4 := of_decide_eq_true (HSQ.out i m (List.getElem?_eq_some_iff.1 hm).1 hm)
              have h5 := sqFi (m := m) (b := true) (by unfold sqCode; rw [if_pos (HMAT.out i m hm), if_pos ⟨h4.1, rfl⟩])
              rw [h4.2] at h5
              exact ⟨h4.2, h5⟩)
            have H2 : Hid (comN c xs = (kerF (c.length * n) n (stk n (fsC c xs) c.length), 0)) := Lib.hid (by
              have hall : c.all (sqB n) = true := by
                rw [List.all_eq_true]
                intro m' hm'
                obtain ⟨i, hi⟩ := List.getElem?_of_mem hm'
                exact HSQ.out i m' (List.getElem?_eq_some_iff.1 hi).1 hi
              rw [H.out, if_pos ⟨HR.out, hall⟩])
            have HB2 := Lib.hid (HD.out.below w.heap.size)
            have HU2 := Lib.hid (HU.out.keep HB2.out)
            have HV2 := Lib.hid (HV.out.keep HB2.out)
            clear HSQ
            go_wp2_with fail
            refine (c_l02Common _ c _ xs n _ HU2.out HV2.out h1 h2 H3.out HX.out hn1 hn2 HALL.out).mono ?_
            rintro e w5 ⟨v5, rfl, ho5, hb5⟩
            go_wp2_with fail
            go_ret2
            refine ⟨v5, ?_, ?_, HB2.out.trans (hb5.mono HB2.out.size)⟩
            · rw [H2.out]; rfl
            · rw [H2.out]; exact ho5.mono HB2.out.size
end Go.Proofs.Ytmbcncmmgfnlmaa
