/- The law's walk of transitive actions. -/
import Derived.Test.YtckcjlophnehmaaTaj
import Derived.Test.YtckcjlophnehmaaTsb
namespace Go.Proofs.Ytckcjlophnehmaa
open Go.RowKit
/-- the sizes of an action's matrices -/
theorem smallC_vec {X c : Nat} (f : Nat → Nat → Nat → Int) (hX : X ≤ 1000) (hc : c ≤ 1000) : SmallC (vec X fun x => tab c c (f x)) := by
  have h0 : ∀ m ∈ vec X fun x => tab c c (f x), m.length ≤ 5864062014634 ∧ ∀ xs ∈ m, xs.length ≤ 17592186043904 := by
    intro m hm
    obtain ⟨i, hi, rfl⟩ := vec_mem hm
    refine ⟨by rw [tab_length]; omega, fun xs hx => ?_⟩
    obtain ⟨j, hj, rfl⟩ := vec_mem hx
    rw [vec_length]; omega
  refine ⟨⟨by rw [vec_length]; omega, h0⟩, totC_nonneg cntM_nonneg _ _, ?_, fun k => ⟨by rw [marksC_length, vec_length]; omega, fun m hm => ?_⟩⟩
  · have h : ∀ k, k ≤ X → totC cntM (vec X fun x => tab c c (f x)) k ≤ (k : Int) * 1000000 := by
      intro k
      induction k with
      | zero => intro _; simp [totC]
      | succ k ih =>
        intro hk
        rw [totC_next (m := tab c c (f k)) (vec_at _ (by omega))]
        have h1 := ih (by omega)
        have h2 : cntM (tab c c (f k)) = (c : Int) * c := by unfold cntM; rw [cntM_tab _ _ (by rw [tab_length]; exact Nat.le_refl _), tab_length]
        have h3 : (c : Int) * c ≤ 1000 * 1000 := Int.mul_le_mul (by omega) (by omega) (by omega) (by omega)
        push_cast
        omega
    have h1 := h X (Nat.le_refl _)
    unfold cntC
    rw [vec_length]
    omega
  · obtain ⟨i, hi, rfl⟩ := List.mem_mapIdx.1 hm
    have h := h0 _ (List.getElem_mem hi)
    exact ⟨by rw [marksM_length]; exact h.1, marks_row h.2⟩
theorem traN_small (xs hs : List Int) : SmallC (traN xs hs).1.1 ∧ SmallC (traN xs hs).1.2 := by
  unfold traN
  by_cases h1 : gOk xs = true
  · rw [if_pos h1]
    obtain ⟨_, _, _, h16⟩ := gOk_true h1
    by_cases h2 : okS (ordN xs) hs hs.length
    · rw [if_pos h2]
      by_cases h3 : (sgB (grpT xs) (zn hs) && (zn hs).contains 0) = true
      · rw [if_pos h3]
        have hc := cnt_le (grpT xs) (zn hs) (ordN xs)
        exact ⟨smallC_cub _ (by omega), smallC_vec _ (by omega) (by omega)⟩
      · rw [if_neg h3]
        exact ⟨smallC_nil, smallC_nil⟩
    · rw [if_neg h2]
      exact ⟨smallC_nil, smallC_nil⟩
  · rw [if_neg h1]
    exact ⟨smallC_nil, smallC_nil⟩
set_option maxHeartbeats 4000000 in
set_option maxRecDepth 100000 in
theorem w_FnExactTransitiveAction (v : Value) (xs : List Int) (u : Value) (hs : List Int) (w : World) (hv : Ints w v xs) (hu : Ints w u hs) :
    Calls Try.prog 5 #[v, u] w fun e w' => e = .returned (.bool true) ∧ Below w.heap.size w w' := by
  obtain ⟨hsR, hsA⟩ := traN_small xs hs
  obtain ⟨r, hr⟩ : ∃ r, r = traN xs hs := ⟨_, rfl⟩
  rw [← hr] at hsR hsA
  obtain ⟨⟨cR, cA⟩, cc⟩ := r
  obtain ⟨⟨RL, RR⟩, RN, RC, RM⟩ := hsR
  obtain ⟨⟨AL, AR⟩, AN, AC, AM⟩ := hsA
  dsimp only at RL RR RN RC RM AL AR AN AC AM
  have HR := Lib.hid hr
  have RR := Lib.hid RR
  have AR := Lib.hid AR
  have RM := Lib.hid RM
  have AM := Lib.hid AM
  have HV := Lib.hid hv
  have HU := Lib.hid hu
  obtain ⟨pv, cv, rfl, lv, _⟩ := hv
  obtain ⟨pu, cu, rfl, lu, _⟩ := hu
  clear hr
  by_cases lx : xs.length ≤ 1048576
  case neg =>
    go_enter Try.func5, Try.ntmps5
    go_wp2_with fail
    go_ret
    exact ⟨rfl, Below.refl _ _⟩
  by_cases ly : hs.length ≤ 1048576
  case neg =>
    go_enter Try.func5, Try.ntmps5
    go_wp2_with fail
    go_ret
    exact ⟨rfl, Below.refl _ _⟩
  go_enter Try.func5, Try.ntmps5
  go_wp2_with fail
  refine (c_toInt64S _ xs _ HV.out).mono ?_
  rintro e w1 ⟨v1, rfl, ho1, hb1⟩
  have X1 := Lib.hid (ho1.ints (by omega))
  have HB := Lib.hid hb1
  clear ho1 hb1
  go_wp2_with fail
  refine (c_toInt64S _ hs _ (HU.out.keep HB.out)).mono ?_
  rintro e w2 ⟨v2, rfl, ho2, hb2⟩
  have X1 := Lib.hid (X1.out.keep hb2)
  have X2 := Lib.hid (ho2.ints (by omega))
  have HB := Lib.hid (HB.out.trans (hb2.mono HB.out.size))
  clear ho2 hb2
  go_wp2_with fail
  refine (c_STransitiveAction _ _ xs hs _ X1.out X2.out).mono ?_
  rw [← HR.out]
  rintro e w3 ⟨p1, n1, c1, p2, n2, c2, rfl, hR, hA, hb3⟩
  obtain ⟨wA, hwA⟩ : ∃ wA, wA = (w3.alloc (.cells #[.slice p1 n1 c1] 32)).alloc (.cells #[.slice p2 n2 c2] 34) := ⟨_, rfl⟩
  have hb3A : Below w3.heap.size w3 wA := by rw [hwA]; exact (below_alloc w3 _).alloc (by simp) _
  have IR := Lib.hid (hR.keep hb3A)
  have IA := Lib.hid (hA.keep hb3A)
  have k5 : wA.cell? ⟨w3.heap.size, 0, none⟩ = some (.slice p1 n1 c1) := by rw [hwA]; simp
  have k6 : wA.cell? ⟨w3.heap.size + 1, 0, none⟩ = some (.slice p2 n2 c2) := by rw [hwA]; simp
  have hs5 : w3.heap.size + 1 < wA.heap.size := by rw [hwA]; simp
  have HB := Lib.hid (HB.out.trans ((hb3.trans (hb3A.mono hb3.size)).mono HB.out.size))
  have HWA := Lib.hid hwA
  clear hR hA hb3 hb3A hwA X1 X2
  go_wp2_with fail
  rw [← HWA.out]
  clear HWA
  generalize w3.heap.size = b5 at *
  refine (c_toInt64S _ xs _ (HV.out.keep HB.out)).mono ?_
  rintro e w4 ⟨v4, rfl, ho4, hb4⟩
  have X0 := Lib.hid ho4.bound
  have HBA := Lib.hid hb4
  have hz4 := hb4.size
  clear ho4 hb4
  go_wp2_with fail
  refine (c_toInt64S _ hs _ (HU.out.keep (HB.out.trans (HBA.out.mono HB.out.size)))).mono ?_
  rintro e w5 ⟨v5, rfl, ho5, hb5⟩
  have X0 := Lib.hid (X0.out.keep hb5 (Nat.le_refl _))
  have X1 := Lib.hid ho5.bound
  have HBA := Lib.hid (HBA.out.trans (hb5.mono HBA.out.size))
  have hz5 := hb5.size
  clear ho5 hb5
  go_wp2_with fail
  refine (c_TransitiveAction _ _ xs hs _ (X0.out.ints (by omega)) (X1.out.ints (by omega))).mono ?_
  rw [← HR.out]
  rintro e w6 ⟨s, t, m, rfl, hm1, hm2, hoA, hoR, hb6⟩
  obtain ⟨p3, n3, c3, rfl⟩ := hoR.slice
  obtain ⟨p4, n4, c4, rfl⟩ := hoA.slice
  dsimp only at hoA hoR
  have hz6 := hb6.size
  obtain ⟨wB, hwB⟩ : ∃ wB, wB = (w6.alloc (.cells #[.slice p3 n3 c3] 32)).alloc (.cells #[.slice p4 n4 c4] 34) := ⟨_, rfl⟩
  have hb6B : Below w6.heap.size w6 wB := by rw [hwB]; exact (below_alloc w6 _).alloc (by simp) _
  have GR := Lib.hid (hoR.keep hb6B (Nat.le_refl _))
  have GA := Lib.hid (hoA.keep hb6B hm2)
  have k10 : wB.cell? ⟨w6.heap.size, 0, none⟩ = some (.slice p3 n3 c3) := by rw [hwB]; simp
  have k11 : wB.cell? ⟨w6.heap.size + 1, 0, none⟩ = some (.slice p4 n4 c4) := by rw [hwB]; simp
  have hs10 : w6.heap.size + 1 < wB.heap.size := by rw [hwB]; simp
  have hb5B : Below w5.heap.size w5 wB := hb6.trans (hb6B.mono hz6)
  have X0 := Lib.hid (X0.out.keep hb5B hz5)
  have X1 := Lib.hid (X1.out.keep hb5B (Nat.le_refl _))
  have hb56 := HBA.out.trans (hb6.mono HBA.out.size)
  have j5 := bcell hb56 k5
  have j6 := bcell hb56 k6
  have j7 : b5 + 1 < w6.heap.size := by omega
  have j8 : b5 < w6.heap.size := by omega
  have HBA := Lib.hid (HBA.out.trans (hb5B.mono HBA.out.size))
  have k5 := bcell HBA.out k5
  have k6 := bcell HBA.out k6
  have HWB := Lib.hid hwB
  clear hoR hoA hb6 hb6B hb5B hwB hb56
  go_wp2_with fail
  rw [← HWB.out]
  clear HWB j5 j6
  refine (c_eqRing _ _ _ _ (GR.out.cubes RL RR.out) (IR.out.keep HBA.out)).mono ?_
  rintro e w7 ⟨rfl, hb⟩
  have k5 := bcell hb k5
  have k6 := bcell hb k6
  have k10 := bcell hb k10
  have k11 := bcell hb k11
  have GR := Lib.hid (GR.out.keep hb (by omega))
  have GA := Lib.hid (GA.out.keep hb (by omega))
  have X0 := Lib.hid (X0.out.keep hb (by omega))
  have X1 := Lib.hid (X1.out.keep hb (by omega))
  have HBA := Lib.hid (HBA.out.trans (hb.mono HBA.out.size))
  have hz := hb.size
  clear hb
  go_wp2_with fail
  refine (c_eqAction _ _ _ _ (GA.out.cubes AL AR.out) (IA.out.keep HBA.out)).mono ?_
  rintro e w8 ⟨rfl, hb⟩
  have k5 := bcell hb k5
  have k6 := bcell hb k6
  have k10 := bcell hb k10
  have k11 := bcell hb k11
  have GR := Lib.hid (GR.out.keep hb (by omega))
  have GA := Lib.hid (GA.out.keep hb (by omega))
  have X0 := Lib.hid (X0.out.keep hb (by omega))
  have X1 := Lib.hid (X1.out.keep hb (by omega))
  have HBA := Lib.hid (HBA.out.trans (hb.mono HBA.out.size))
  have hz := hb.size
  clear hb
  go_wp2_with fail
  refine (c_toInt64S _ xs _ (HV.out.keep (HB.out.trans (HBA.out.mono HB.out.size)))).mono ?_
  rintro e w9 ⟨v9, rfl, ho, hb⟩
  have XX := Lib.hid (ho.ints (by omega))
  have k5 := bcell hb k5
  have k6 := bcell hb k6
  have k10 := bcell hb k10
  have k11 := bcell hb k11
  have GR := Lib.hid (GR.out.keep hb (by omega))
  have GA := Lib.hid (GA.out.keep hb (by omega))
  have X0 := Lib.hid (X0.out.keep hb (by omega))
  have X1 := Lib.hid (X1.out.keep hb (by omega))
  have HBA := Lib.hid (HBA.out.trans (hb.mono HBA.out.size))
  have hz := hb.size
  clear hb ho
  go_wp2_with fail
  refine (c_eqInt64S _ _ xs xs _ (X0.out.ints (by omega)) XX.out).mono ?_
  rintro e w10 ⟨rfl, hb⟩
  rw [eqL_self]
  have k5 := bcell hb k5
  have k6 := bcell hb k6
  have k10 := bcell hb k10
  have k11 := bcell hb k11
  have GR := Lib.hid (GR.out.keep hb (by omega))
  have GA := Lib.hid (GA.out.keep hb (by omega))
  have X0 := Lib.hid (X0.out.keep hb (by omega))
  have X1 := Lib.hid (X1.out.keep hb (by omega))
  have HBA := Lib.hid (HBA.out.trans (hb.mono HBA.out.size))
  have hz := hb.size
  clear hb XX
  go_wp2_with fail
  refine (c_toInt64S _ hs _ (HU.out.keep (HB.out.trans (HBA.out.mono HB.out.size)))).mono ?_
  rintro e w11 ⟨v11, rfl, ho, hb⟩
  have XX := Lib.hid (ho.ints (by omega))
  have k5 := bcell hb k5
  have k6 := bcell hb k6
  have k10 := bcell hb k10
  have k11 := bcell hb k11
  have GR := Lib.hid (GR.out.keep hb (by omega))
  have GA := Lib.hid (GA.out.keep hb (by omega))
  have X0 := Lib.hid (X0.out.keep hb (by omega))
  have X1 := Lib.hid (X1.out.keep hb (by omega))
  have HBA := Lib.hid (HBA.out.trans (hb.mono HBA.out.size))
  have hz := hb.size
  clear hb ho
  go_wp2_with fail
  refine (c_eqInt64S _ _ hs hs _ (X1.out.ints (by omega)) XX.out).mono ?_
  rintro e w12 ⟨rfl, hb⟩
  rw [eqL_self]
  have k5 := bcell hb k5
  have k6 := bcell hb k6
  have k10 := bcell hb k10
  have k11 := bcell hb k11
  have GR := Lib.hid (GR.out.keep hb (by omega))
  have GA := Lib.hid (GA.out.keep hb (by omega))
  have X0 := Lib.hid (X0.out.keep hb (by omega))
  have X1 := Lib.hid (X1.out.keep hb (by omega))
  have HBA := Lib.hid (HBA.out.trans (hb.mono HBA.out.size))
  have hz := hb.size
  clear hb XX
  go_wp2_with fail
  refine (c_markIB _ _ 1 _ _ _ X0.out (by omega) (by omega) (by omega)).mono ?_
  rintro e w13 ⟨rfl, _, ht⟩
  have k5 := cell_sameD (ht.block _ (fun hk => by have h1 := hk.1; have h2 := hk.2; omega)) k5
  have k6 := cell_sameD (ht.block _ (fun hk => by have h1 := hk.1; have h2 := hk.2; omega)) k6
  have k10 := cell_sameD (ht.block _ (fun hk => by have h1 := hk.1; have h2 := hk.2; omega)) k10
  have k11 := cell_sameD (ht.block _ (fun hk => by have h1 := hk.1; have h2 := hk.2; omega)) k11
  have GR := Lib.hid (GR.out.touch ht (fun k hk => by have h1 := hk.1; have h2 := hk.2; omega))
  have GA := Lib.hid (GA.out.touch ht (fun k hk => by have h1 := hk.1; have h2 := hk.2; omega))
  have X1 := Lib.hid (X1.out.touch ht (fun k hk => by have h1 := hk.1; have h2 := hk.2; omega))
  have HBA := Lib.hid (Touch.below HBA.out ht (fun k hk => by have h1 := hk.1; omega))
  have hz := ht.size
  clear ht X0
  go_wp2_with fail
  refine (c_markIB _ _ (1 + (xs.length : Int)) _ _ _ X1.out (by omega) (by omega) (by omega)).mono ?_
  rintro e w14 ⟨rfl, _, ht⟩
  have k5 := cell_sameD (ht.block _ (fun hk => by have h1 := hk.1; have h2 := hk.2; omega)) k5
  have k6 := cell_sameD (ht.block _ (fun hk => by have h1 := hk.1; have h2 := hk.2; omega)) k6
  have k10 := cell_sameD (ht.block _ (fun hk => by have h1 := hk.1; have h2 := hk.2; omega)) k10
  have k11 := cell_sameD (ht.block _ (fun hk => by have h1 := hk.1; have h2 := hk.2; omega)) k11
  have GR := Lib.hid (GR.out.touch ht (fun k hk => by have h1 := hk.1; have h2 := hk.2; omega))
  have GA := Lib.hid (GA.out.touch ht (fun k hk => by have h1 := hk.1; have h2 := hk.2; omega))
  have HBA := Lib.hid (Touch.below HBA.out ht (fun k hk => by have h1 := hk.1; omega))
  have hz := ht.size
  clear ht X1
  go_wp2_with fail
  refine (c_eqRing _ _ _ _ (GR.out.cubes RL RR.out) (IR.out.keep HBA.out)).mono ?_
  rintro e w15 ⟨rfl, hb⟩
  have k5 := bcell hb k5
  have k6 := bcell hb k6
  have k10 := bcell hb k10
  have k11 := bcell hb k11
  have GR := Lib.hid (GR.out.keep hb (by omega))
  have GA := Lib.hid (GA.out.keep hb (by omega))
  have HBA := Lib.hid (HBA.out.trans (hb.mono HBA.out.size))
  have hz := hb.size
  clear hb
  go_wp2_with fail
  refine (c_eqAction _ _ _ _ (GA.out.cubes AL AR.out) (IA.out.keep HBA.out)).mono ?_
  rintro e w16 ⟨rfl, hb⟩
  have k5 := bcell hb k5
  have k6 := bcell hb k6
  have k10 := bcell hb k10
  have k11 := bcell hb k11
  have GR := Lib.hid (GR.out.keep hb (by omega))
  have GA := Lib.hid (GA.out.keep hb (by omega))
  have HBA := Lib.hid (HBA.out.trans (hb.mono HBA.out.size))
  have hz := hb.size
  clear hb
  go_wp2_with fail
  refine (c_markRing _ _ 1 _ _ _ GR.out hm2 (by omega) RL RR.out (by omega) (by omega)).mono ?_
  rintro e w17 ⟨rfl, hoR, hb, hx⟩
  have k5 := cell_sameD (hb.block _ (by omega)) k5
  have k6 := cell_sameD (hb.block _ (by omega)) k6
  have k10 := cell_sameD (hx _ (by omega) (by omega)) k10
  have k11 := cell_sameD (hx _ (by omega) (by omega)) k11
  have GA := Lib.hid (GA.out.keep hb (Nat.le_refl _))
  have GR := Lib.hid hoR
  have HBA := Lib.hid (HBA.out.trans (hb.mono (by omega)))
  have hz := hb.size
  clear hoR hb hx
  go_wp2_with fail
  refine (c_markAction _ _ (1 + cntC cR) _ _ _ GA.out hm1 (by omega) AL AR.out (by omega) (by omega)).mono ?_
  rintro e w18 ⟨rfl, hoA, hb, hx⟩
  have k5 := cell_sameD (hb.block _ (by omega)) k5
  have k6 := cell_sameD (hb.block _ (by omega)) k6
  have k10 := cell_sameD (hx _ (by omega) (by omega)) k10
  have k11 := cell_sameD (hx _ (by omega) (by omega)) k11
  have GR := Lib.hid (GR.out.same fun k h1 h2 => hx k h1 (by omega))
  have GA := Lib.hid hoA
  have HBA := Lib.hid (HBA.out.trans (hb.mono (by omega)))
  have hz := hb.size
  clear hoA hb hx
  go_wp2_with fail
  refine (c_heldRing _ _ 1 _ (GR.out.cubes (RM.out 1).1 (RM.out 1).2) (by omega) (by omega)).mono ?_
  rintro e w19 ⟨rfl, hb⟩
  have k5 := bcell hb k5
  have k6 := bcell hb k6
  have k10 := bcell hb k10
  have k11 := bcell hb k11
  have GR := Lib.hid (GR.out.keep hb (by omega))
  have GA := Lib.hid (GA.out.keep hb (by omega))
  have HBA := Lib.hid (HBA.out.trans (hb.mono HBA.out.size))
  have hz := hb.size
  clear hb
  go_wp2_with fail
  refine (c_heldAction _ _ (1 + cntC cR) _ (GA.out.cubes (AM.out (1 + cntC cR)).1 (AM.out (1 + cntC cR)).2) (by omega) (by omega)).mono ?_
  rintro e w20 ⟨rfl, hb⟩
  have k5 := bcell hb k5
  have k6 := bcell hb k6
  have k10 := bcell hb k10
  have k11 := bcell hb k11
  have GR := Lib.hid (GR.out.keep hb (by omega))
  have GA := Lib.hid (GA.out.keep hb (by omega))
  have HBA := Lib.hid (HBA.out.trans (hb.mono HBA.out.size))
  have hz := hb.size
  clear hb
  go_wp2_with fail
  refine (c_toInt64S _ xs _ (HV.out.keep (HB.out.trans (HBA.out.mono HB.out.size)))).mono ?_
  rintro e w21 ⟨v21, rfl, ho, hb⟩
  have X1 := Lib.hid (ho.ints (by omega))
  have k5 := bcell hb k5
  have k6 := bcell hb k6
  have k10 := bcell hb k10
  have k11 := bcell hb k11
  have GR := Lib.hid (GR.out.keep hb (by omega))
  have GA := Lib.hid (GA.out.keep hb (by omega))
  have HBA := Lib.hid (HBA.out.trans (hb.mono HBA.out.size))
  have hz := hb.size
  clear hb ho
  go_wp2_with fail
  refine (c_toInt64S _ hs _ (HU.out.keep (HB.out.trans (HBA.out.mono HB.out.size)))).mono ?_
  rintro e w22 ⟨v22, rfl, ho, hb⟩
  have X1 := Lib.hid (X1.out.keep hb)
  have X2 := Lib.hid (ho.ints (by omega))
  have k5 := bcell hb k5
  have k6 := bcell hb k6
  have k10 := bcell hb k10
  have k11 := bcell hb k11
  have GR := Lib.hid (GR.out.keep hb (by omega))
  have GA := Lib.hid (GA.out.keep hb (by omega))
  have HBA := Lib.hid (HBA.out.trans (hb.mono HBA.out.size))
  have hz := hb.size
  clear hb ho
  go_wp2_with fail
  refine (c_TransitiveAction _ _ xs hs _ X1.out X2.out).mono ?_
  rw [← HR.out]
  rintro e w23 ⟨s, t, m2, rfl, hn1, hn2, hoA, hoR, hb⟩
  obtain ⟨p7, n7, c7, rfl⟩ := hoR.slice
  obtain ⟨p8, n8, c8, rfl⟩ := hoA.slice
  dsimp only at hoA hoR
  obtain ⟨wE, hwE⟩ : ∃ wE, wE = (w23.alloc (.cells #[.slice p7 n7 c7] 32)).alloc (.cells #[.slice p8 n8 c8] 34) := ⟨_, rfl⟩
  have hbE : Below w23.heap.size w23 wE := by rw [hwE]; exact (below_alloc w23 _).alloc (by simp) _
  have hb2 := hb.trans (hbE.mono hb.size)
  have RH := Lib.hid (hoR.keep hbE (Nat.le_refl _))
  have AH := Lib.hid (hoA.keep hbE hn2)
  have k16 : wE.cell? ⟨w23.heap.size, 0, none⟩ = some (.slice p7 n7 c7) := by rw [hwE]; simp
  have k17 : wE.cell? ⟨w23.heap.size + 1, 0, none⟩ = some (.slice p8 n8 c8) := by rw [hwE]; simp
  have hs16 : w23.heap.size + 1 < wE.heap.size := by rw [hwE]; simp
  have HWE := Lib.hid hwE
  have j5 := bcell hb k5
  have j6 := bcell hb k6
  have j10 := bcell hb k10
  have j11 := bcell hb k11
  have HZ3 := hb.size
  have j5l : b5 < w23.heap.size := by omega
  have j6l : b5 + 1 < w23.heap.size := by omega
  have j10l : w6.heap.size < w23.heap.size := by omega
  have j11l : w6.heap.size + 1 < w23.heap.size := by omega
  have k5 := bcell hb2 k5
  have k6 := bcell hb2 k6
  have k10 := bcell hb2 k10
  have k11 := bcell hb2 k11
  have GR := Lib.hid (GR.out.keep hb2 (by omega))
  have GA := Lib.hid (GA.out.keep hb2 (by omega))
  have HBA := Lib.hid (HBA.out.trans (hb2.mono HBA.out.size))
  have hz := hb2.size
  clear hb hbE hb2 hoA hoR hwE X1 X2
  go_wp2_with fail
  rw [← HWE.out]
  clear HWE j5 j6 j10 j11
  refine (c_eqRing _ _ _ _ (RH.out.cubes RL RR.out) (IR.out.keep HBA.out)).mono ?_
  rintro e w24 ⟨rfl, hb⟩
  have k5 := bcell hb k5
  have k6 := bcell hb k6
  have k10 := bcell hb k10
  have k11 := bcell hb k11
  have k16 := bcell hb k16
  have k17 := bcell hb k17
  have GR := Lib.hid (GR.out.keep hb (by omega))
  have GA := Lib.hid (GA.out.keep hb (by omega))
  have RH := Lib.hid (RH.out.keep hb (by omega))
  have AH := Lib.hid (AH.out.keep hb (by omega))
  have HBA := Lib.hid (HBA.out.trans (hb.mono HBA.out.size))
  have hz := hb.size
  clear hb
  go_wp2_with fail
  refine (c_eqAction _ _ _ _ (AH.out.cubes AL AR.out) (IA.out.keep HBA.out)).mono ?_
  rintro e w25 ⟨rfl, hb⟩
  have k5 := bcell hb k5
  have k6 := bcell hb k6
  have k10 := bcell hb k10
  have k11 := bcell hb k11
  have k16 := bcell hb k16
  have k17 := bcell hb k17
  have GR := Lib.hid (GR.out.keep hb (by omega))
  have GA := Lib.hid (GA.out.keep hb (by omega))
  have RH := Lib.hid (RH.out.keep hb (by omega))
  have AH := Lib.hid (AH.out.keep hb (by omega))
  have HBA := Lib.hid (HBA.out.trans (hb.mono HBA.out.size))
  have hz := hb.size
  clear hb
  go_wp2_with fail
  clear RH AH
  refine (c_heldRing _ _ 1 _ (GR.out.cubes (RM.out 1).1 (RM.out 1).2) (by omega) (by omega)).mono ?_
  rintro e w26 ⟨rfl, hb⟩
  have k5 := bcell hb k5
  have k6 := bcell hb k6
  have k10 := bcell hb k10
  have k11 := bcell hb k11
  have k16 := bcell hb k16
  have k17 := bcell hb k17
  have GR := Lib.hid (GR.out.keep hb (by omega))
  have GA := Lib.hid (GA.out.keep hb (by omega))
  have HBA := Lib.hid (HBA.out.trans (hb.mono HBA.out.size))
  have hz := hb.size
  clear hb
  go_wp2_with fail
  refine (c_heldAction _ _ (1 + cntC cR) _ (GA.out.cubes (AM.out (1 + cntC cR)).1 (AM.out (1 + cntC cR)).2) (by omega) (by omega)).mono ?_
  rintro e w27 ⟨rfl, hb⟩
  have k5 := bcell hb k5
  have k6 := bcell hb k6
  have k10 := bcell hb k10
  have k11 := bcell hb k11
  have k16 := bcell hb k16
  have k17 := bcell hb k17
  have GR := Lib.hid (GR.out.keep hb (by omega))
  have GA := Lib.hid (GA.out.keep hb (by omega))
  have HBA := Lib.hid (HBA.out.trans (hb.mono HBA.out.size))
  have hz := hb.size
  clear hb
  go_wp2_with fail
  go_ret
  exact ⟨rfl, HB.out.trans (HBA.out.mono HB.out.size)⟩
end Go.Proofs.Ytckcjlophnehmaa
