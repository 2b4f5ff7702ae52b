/- Walks: characteristic polynomials by the program. -/
import Derived.Test.YtmbcncmmgfnlmaaGpw
import Derived.Test.YtmbcncmmgfnlmaaLes
import Derived.Test.YtmbcncmmgfnlmaaAlg
namespace Go.Proofs.Ytmbcncmmgfnlmaa
open Go.RowKit
open Fus (F Mx toI ofI toI_bd toI_of ofI_toI ofI_neg ofI_mul ofI_add fl fl_succ trc nf nf_val finv mm sm)

/-- a table that was made later stays when an older cell is written -/
theorem OwnI.setBelow {w : World} {B g i : Nat} {v u : Value} {xs : List Int} (h : OwnI w B v xs) (hg : g < B) : OwnI (w.setCell ⟨g, i, none⟩ u) B v xs :=
  Own.keepOther (a := ⟨g, i, none⟩) h (fun e => by have := (Own.lt h e).1; simp at this; omega) _
theorem OwnM.setBelow {w : World} {B g i : Nat} {v u : Value} {xss : List (List Int)} (h : OwnM w B v xss) (hg : g < B) : OwnM (w.setCell ⟨g, i, none⟩ u) B v xss := by
  obtain ⟨us, ho, hlen, hr, ha⟩ := h
  exact ⟨us, ho.keepOther (a := ⟨g, i, none⟩) (fun e => by have := (ho.lt e).1; simp at this; omega) _, hlen, fun j u' xs h1 h2 => OwnI.setBelow (hr j u' xs h1 h2) hg, ha⟩
theorem OwnM.slice {w : World} {B : Nat} {v : Value} {xss : List (List Int)} (h : OwnM w B v xss) : ∃ p n c, v = .slice p n c := by
  rcases h.shape with ⟨h1, _⟩ | ⟨g, cap, h1, _⟩
  · exact ⟨_, _, _, h1⟩
  · exact ⟨_, _, _, h1⟩
/-- the coefficients that are there when k rounds are over -/
def outP (n : Nat) (f : Mx) (k : Nat) : Nat → F := fun i => if n - k ≤ i then (fl n f (n - i)).1 else 0
theorem outP_start (n : Nat) (f : Mx) : (vec (n + 1) fun _ => (0 : Int)).set n 1 = zl (n + 1) (outP n f 0) := by
  rw [vec_set]
  refine vec_congr fun i hi => ?_
  show (if i = n then (1 : Int) else 0) = toI (outP n f 0 i)
  unfold outP
  by_cases e : i = n
  · rw [if_pos e, if_pos (by omega), e, Nat.sub_self]; exact Fus.toI_one.symm
  · rw [if_neg e, if_neg (by omega)]; exact Fus.toI_zero.symm
theorem outP_at {n k j : Nat} (f : Mx) (h : n = j + (k + 1)) : outP n f k (j + 1) = (fl n f k).1 := by
  unfold outP; rw [if_pos (by omega), show n - (j + 1) = k from by omega]
theorem outP_next {n k j : Nat} (f : Mx) (h : n = j + (k + 1)) : (zl (n + 1) (outP n f k)).set j (toI (fl n f (k + 1)).1) = zl (n + 1) (outP n f (k + 1)) := by
  rw [zl_set]
  refine zl_congr fun i hi => ?_
  unfold outP
  by_cases e : i = j
  · rw [if_pos e, if_pos (by omega), e, show n - j = k + 1 from by omega]
  · rw [if_neg e]
    by_cases e2 : n - k ≤ i
    · rw [if_pos e2, if_pos (by omega)]
    · rw [if_neg e2, if_neg (by omega)]
theorem fl_zero_tab (n : Nat) (f : Mx) : (tab n n fun _ _ => (0 : Int)) = tabF n n (fl n f 0).2 := tab_congr fun _ _ _ _ => Fus.toI_zero.symm
theorem fl_less (n : Nat) (f : Mx) (k : Nat) : tabF n n (lessF (mm n f (fl n f k).2) (-(fl n f k).1)) = tabF n n (fl n f (k + 1)).2 := tabF_congr fun i j _ _ => by
  rw [(fl_succ n f k).1]
  show (if i = j then _ - -(fl n f k).1 else _) = _
  split <;> grind
theorem ofI_sum1 (n : Nat) (f : Nat → F) : ofI (sumK n fun j => toI (f j)) = sm n f := by
  induction n with
  | zero => simp only [sumK, sm]; exact Fus.ofI_zero
  | succ n ih => simp only [sumK]; rw [ofI_add, ih, ofI_toI]; rfl
theorem trZ_F (n : Nat) (f : Mx) : trZ (tabF n n f) = toI (trc n f) := by
  unfold trZ
  rw [tabF_length, sumK_congr (g := fun j => toI (f j j)) (fun j hj => ent_F hj hj)]
  exact (toI_of (ofI_sum1 n fun j => f j j)).symm
theorem fl_coef (n : Nat) (f : Mx) (k : Nat) (hk : k < 50000) : toI (-(trc n (mm n f (fl n f (k + 1)).2))) * iinv ((k : Int) + 1) % 55441 = toI (fl n f (k + 1)).1 := by
  rw [(fl_succ n f k).2]
  have e : ((k : Int) + 1) = toI (nf (k + 1)) := by
    unfold toI; rw [nf_val (k + 1) (by omega)]; omega
  rw [e, iinv_toI]
  exact (toI_of (by rw [ofI_mul, ofI_toI, ofI_toI])).symm
theorem c_traceF (v : Value) (n : Nat) (f : Mx) (w : World) (hv : IntRows w v (tabF n n f)) (hn : n ≤ 1000) :
    Calls Try.prog 71 #[v] w fun e w' => e = .returned (.int .i64 (toI (trc n f))) ∧ w = w' := by
  have h := c_trace v _ w hv (fun i x hx => by rw [tabF_length]; exact good_tabF n n f i x hx) (by rw [tabF_length]; omega)
  rw [trZ_F] at h
  exact h
set_option maxRecDepth 100000 in
set_option maxHeartbeats 4000000 in
theorem c_characteristic (v : Value) (n : Nat) (f : Mx) (w : World) (hv : IntRows w v (tabF n n f)) (hn1 : 0 < n) (hn2 : n ≤ 500) :
    Calls Try.prog 69 #[v] w (RetI (zl (n + 1) (outP n f n)) w) := by
  obtain ⟨ad, capv, hveq, hq1, hq2⟩ := id hv
  rw [tabF_length] at hveq
  subst hveq
  clear hq1 hq2
  have HV := Lib.hid hv
  clear hv
  have hmk := run_make_row' (P := Try.prog) 35 2 (.int .i64 0) 8 Try.underlying35 info_int rfl .i64 .i64 (n + 1) (by omega) (by omega)
  rw [show ((n + 1 : Nat) : Int) = (n : Int) + 1 from by omega] at hmk
  have hz0 := own_zeros w (n + 1) (by omega)
  have hold := Own.cell hz0 (i := n) (u := vi 0) (by rw [List.getElem?_map, vec_at _ (by omega)]; rfl)
  have hfr := Own.frozen hz0 n
  have hset := World.setCell_alloc_new (w := w) (madeCells #[.int .i64 0] (n + 1)) 2 n (.int .i64 1)
  obtain ⟨w0, hw0⟩ : ∃ w0, w0 = w.alloc (.cells ((madeCells #[.int .i64 0] (n + 1)).setIfInBounds n (.int .i64 1)) 2) := ⟨_, rfl⟩
  have HV0 : Hid (OwnI w0 w.heap.size (.slice (some ⟨w.heap.size, 0, none⟩) (n + 1) (n + 1)) (zl (n + 1) (outP n f 0))) := Lib.hid (by
    rw [hw0, ← hset, ← outP_start]
    have := Own.store hz0 n (vi 1)
    rw [← List.map_set] at this
    exact this)
  have HB0 : Hid (Below w.heap.size w w0) := Lib.hid (by rw [hw0]; exact below_alloc _ _)
  have HS0 : Hid (w0.heap.size = w.heap.size + 1) := Lib.hid (by rw [hw0]; simp)
  have hnI : (n : Int) < (n : Int) + 1 := by omega
  have hnI0 : (0 : Int) ≤ (n : Int) := by omega
  have hnN : n < n + 1 := by omega
  have HW0 := Lib.hid hw0
  clear hset hz0 hw0
  go_enter Try.func69, Try.ntmps69
  go_wp2_with fail
  rw [← HW0.out]
  refine (c_zeros n n _ (by omega) (by omega)).mono ?_
  rintro e w1 ⟨v1, rfl, ho1, hb1⟩
  have hsz0 := HS0.out
  have hsz1 := hb1.size
  have HM1 : Hid (OwnM w1 (w.heap.size + 1) v1 (tabF n n (fl n f 0).2)) := Lib.hid (by rw [← fl_zero_tab]; rw [← HS0.out]; exact ho1)
  have HO1 := Lib.hid (HV0.out.keep hb1)
  have HB1 := Lib.hid (HB0.out.trans (hb1.mono (by omega)))
  clear ho1 hb1 hold hfr hmk HV0 HB0 HW0 HS0
  go_wp2_with fail
  go_loopw [5, 6] (fun m i wr => ∃ k : Nat, k ≤ n ∧ i = .int .i64 ((k : Int) + 1) ∧ OwnM wr (w.heap.size + 1) m (tabF n n (fl n f k).2) ∧ OwnI wr w.heap.size (.slice (some ⟨w.heap.size, 0, none⟩) (n + 1) (n + 1)) (zl (n + 1) (outP n f k)) ∧ Below w.heap.size w wr ∧ w.heap.size + 1 ≤ wr.heap.size) (fun _ i _ => n + 1 - (intOf i).toNat)
  case atStart => exact ⟨0, Nat.zero_le _, by go_num, HM1.out, HO1.out, HB1.out, by omega⟩
  case round =>
    obtain ⟨k, hk, rfl, hm, hout, hbel, hsz⟩ := hrel
    clear HM1 HO1 HB1 hsz0 hsz1
    by_cases hlt : k < n
    · obtain ⟨j, hj⟩ : ∃ j, n = j + (k + 1) := ⟨n - (k + 1), by omega⟩
      have HNEXT : Hid ((zl (n + 1) (outP n f k)).set j (toI (fl n f (k + 1)).1) = zl (n + 1) (outP n f (k + 1))) := Lib.hid (outP_next f hj)
      have hco := Own.cell hout (i := j + 1) (u := vi (toI (fl n f k).1)) (by rw [List.getElem?_map, zl_at _ (by omega), outP_at f hj]; rfl)
      have hcj : ∃ y, wr.cell? ⟨w.heap.size, j, none⟩ = some (.int .i64 y) := ⟨_, Own.cell hout (i := j) (u := vi (toI (outP n f k j))) (by rw [List.getElem?_map, zl_at _ (by omega)]; rfl)⟩
      have hfrj := Own.frozen hout j
      have hfro := Own.frozen hout (j + 1)
      have HLESS := Lib.hid (fl_less n f k)
      have HCOEF := Lib.hid (fl_coef n f k (by omega))
      have HMM : Hid (IntRows wr.drew u5 (tabF n n (fl n f k).2)) := Lib.hid ((hm.drewN 1).rowsF (by omega) (by omega))
      have HVV : Hid (IntRows wr.drew (.slice ad n capv) (tabF n n f)) := Lib.hid (HV.out.keep hbel.drew)
      have HO := Lib.hid hout
      have HB := Lib.hid hbel
      generalize (fl n f (k + 1)).1 = c' at *
      generalize (fl n f k).1 = c at *
      obtain ⟨y, hcj⟩ := hcj
      have hi1 : (n : Int) - ((k : Int) + 1) = (j : Int) := by omega
      have hjI : (j : Int) + 1 < (n : Int) + 1 := by omega
      have hjI2 : (j : Int) < (n : Int) + 1 := by omega
      have hjI0 : (0 : Int) ≤ (j : Int) := by omega
      have hjI3 : (j : Int) < (n : Int) := by omega
      have hjI4 : (0 : Int) ≤ (j : Int) + 1 := by omega
      have hwj : IntKind.i64.wrap (j : Int) = (j : Int) := IntWalk.i64_in _ (by omega)
      have hwb : IntKind.i64.wrap ((j : Int) + 1) = (j : Int) + 1 := IntWalk.i64_in _ (by omega)
      have hcb := toI_bd c
      obtain ⟨hc1, hc2⟩ := hcb
      have hw1 : IntKind.i64.wrap (-toI c) = -toI c := IntWalk.i64_in _ (by omega)
      have HN1 : Hid (-toI c % 55441 = toI (-c)) := Lib.hid (toI_of (by rw [ofI_neg, ofI_toI])).symm
      have HT : Hid (∃ T, trc n (mm n f (fl n f (k + 1)).2) = T ∧ toI (-T) * iinv ((k : Int) + 1) % 55441 = toI c') := Lib.hid ⟨_, rfl, HCOEF.out⟩
      obtain ⟨M', hM'⟩ : ∃ M', (fl n f (k + 1)).2 = M' := ⟨_, rfl⟩
      rw [hM'] at HT HLESS
      have HME := Lib.hid hM'
      clear hM'
      generalize (fl n f k).2 = M at *
      have hlb : w.heap.size < wr.heap.size := by omega
      clear hm hout hbel hj HCOEF
      go_wp2_with fail
      go_region_held3 (fun w' => w'.cell? ⟨w.heap.size, j + 1, none⟩ = some (.int .i64 (toI c)))
        (first | go_keep | (refine bkeep hb5 hlb ?_; go_keep) | (refine bkeep (hb6.mono hs5) hlb ?_; go_keep))
        (first
          | (go_at_call 50; refine (c_multiplyF _ _ n n n f M _ HVV.out HMM.out hn1 hn1 (by omega) (by omega) (by omega)).mono ?_; rintro e w5 ⟨v5, rfl, ho5, hb5⟩; obtain ⟨p5, n5, c5, rfl⟩ := ho5.slice; have hs5 := hb5.size)
          | (go_at_call 97; refine (c_mod _ _).mono ?_; rintro e w' ⟨rfl, rfl⟩; rw [HN1.out])
          | (go_at_call 78; refine (c_lessUnit _ n _ (-c) _ (ho5.rowsF (by omega) (by omega)) (by omega)).mono ?_; rintro e w6 ⟨v6, rfl, ho6, hb6⟩; obtain ⟨p6, n6, c6, rfl⟩ := ho6.slice))
      all_goals
        have hz6 := hb6.size
        have HM6 : Hid (OwnM w6 (w.heap.size + 1) (.slice p6 n6 c6) (tabF n n M')) := Lib.hid (by rw [← HLESS.out]; exact ho6.mono (by simp at hs5; omega))
        have HB6 : Hid (Below wr.heap.size wr w6) := Lib.hid (below_drewed (Below.refl _ _) (hb5.trans (hb6.mono hs5)))
        have hs6 : wr.heap.size ≤ w6.heap.size := HB6.out.size
        have hcj6 := bkeep HB6.out hlb hcj
        have hfj6 : w6.frozen? ⟨w.heap.size, j, none⟩ = false := (HB6.out.frozen (p := ⟨w.heap.size, j, none⟩) hlb).trans hfrj
        have HVV6 : Hid (IntRows w6 (.slice ad n capv) (tabF n n f)) := Lib.hid (HV.out.keep (HB.out.trans (HB6.out.mono (by omega))))
        clear ho5 hb5 ho6 hb6 hs5 hz6 hco hcj hfrj hfro HVV HMM HLESS
        go_wp2_with fail
        refine (c_multiplyF _ _ n n n f M' _ HVV6.out (HM6.out.rowsF (by omega) (by omega)) hn1 hn1 (by omega) (by omega) (by omega)).mono ?_
        rintro e w7 ⟨v7, rfl, ho7, hb7⟩
        have HQ7 : Hid (IntRows w7 v7 (tabF n n (mm n f M'))) := Lib.hid (ho7.rowsF (by omega) (by omega))
        have HB7 : Hid (Below wr.heap.size wr w7) := Lib.hid (HB6.out.trans (hb7.mono hs6))
        have HM7 := Lib.hid (HM6.out.keep hb7)
        have hcj7 := bcell hb7 hcj6
        have hfj7 := bfrozen hb7 hcj6 hfj6
        have hs7 : wr.heap.size ≤ w7.heap.size := HB7.out.size
        obtain ⟨T, hT1, hT2⟩ := HT.out
        have HT1 := Lib.hid hT1
        have HT2 := Lib.hid hT2
        have hTb := toI_bd T
        obtain ⟨hTb1, hTb2⟩ := hTb
        have hTn := toI_bd (-T)
        obtain ⟨hTn1, hTn2⟩ := hTn
        have hw7 : IntKind.i64.wrap (-toI T) = -toI T := IntWalk.i64_in _ (by omega)
        have HN7 : Hid (-toI T % 55441 = toI (-T)) := Lib.hid (toI_of (by rw [ofI_neg, ofI_toI])).symm
        clear hT1 hT2 HT ho7 hb7 hcj6 hfj6 HB6 HM6 HVV6
        go_wp2_with fail
        refine (c_traceF _ n _ _ HQ7.out (by omega)).mono ?_
        rintro e w8 ⟨rfl, rfl⟩
        rw [HT1.out]
        go_wp2_with fail
        refine (c_mod _ _).mono ?_
        rintro e w' ⟨rfl, rfl⟩
        rw [HN7.out]
        go_wp2_with fail
        refine (c_divide _ _ _ hTn1 hTn2 (by omega) (by omega)).mono ?_
        rintro e w' ⟨rfl, rfl⟩
        rw [HT2.out]
        have HO8 : Hid (OwnI (w7.setCell ⟨w.heap.size, j, none⟩ (.int .i64 (toI c'))) w.heap.size (.slice (some ⟨w.heap.size, 0, none⟩) (n + 1) (n + 1)) (zl (n + 1) (outP n f (k + 1)))) := Lib.hid (by
          rw [← HNEXT.out]
          have := Own.store (HO.out.keep HB7.out) j (vi (toI c'))
          rw [← List.map_set] at this
          exact this)
        have HM8 := Lib.hid (OwnM.setBelow (g := w.heap.size) (i := j) (u := .int .i64 (toI c')) HM7.out (by omega))
        have HB8 := Lib.hid (below_set (i := j) (u := .int .i64 (toI c')) (HB.out.trans (HB7.out.mono (by omega))) (Nat.le_refl w.heap.size))
        go_wp2_with fail
        go_roundw
        case rel => exact ⟨k + 1, by omega, by go_num, by rw [HME.out]; exact HM8.out, HO8.out, HB8.out, by simp; omega⟩
        case measure => simp [intOf]; omega
    · obtain rfl : n = k := by omega
      have HO := Lib.hid hout
      have HB := Lib.hid hbel
      clear hm hout hbel
      go_wp2_with fail
      go_ret
      exact ⟨_, rfl, HO.out, HB.out⟩
end Go.Proofs.Ytmbcncmmgfnlmaa
