/- Transitive actions: the program's walk. -/
import Derived.Test.YtckcjlophnehmaaTai
namespace Go.Proofs.Ytckcjlophnehmaa
open Go.RowKit
theorem cellOf2 {w w' : World} {B g i : Nat} {v : Value} (hb : Below B w w') (hg : g < B) (hc : w.cell? ⟨g, i, none⟩ = some v) : w'.cell? ⟨g, i, none⟩ = some v := by
  rw [← hc]; simp only [World.cell?, hb.block g hg]
theorem frozenOf2 {w w' : World} {B g i : Nat} (hb : Below B w w') (hg : g < B) (hc : w.frozen? ⟨g, i, none⟩ = false) : w'.frozen? ⟨g, i, none⟩ = false := by
  rw [← hc]; simp only [World.frozen?, hb.block g hg]
theorem below_drewed2 {w w' : World} (h : Below w.drew.heap.size w.drew w') : Below w.heap.size w w' := below_drew h
theorem retRA_of {r : (List (List (List Int)) × List (List (List Int))) × Int} {cR cA : List (List (List Int))} {c : Int} {w w8 : World} {s t : Value} {lo m : Nat} (hr : r = ((cR, cA), c)) (hA : OwnCB w8 lo m t cA) (hR : OwnCB w8 m w8.heap.size s cR) (hlo : w.heap.size + 2 ≤ lo) (hlm : lo ≤ m) (hm : m ≤ w8.heap.size) (hb : Below w.heap.size w w8) :
    RetRA r w (.returned (.tuple #[.agg #[s], .agg #[t], .int .i64 c])) ((w8.setCell ⟨w.heap.size, 0, none⟩ s).setCell ⟨w.heap.size + 1, 0, none⟩ t) := by
  subst hr
  have hk : ∀ k, lo ≤ k → ((w8.setCell ⟨w.heap.size, 0, none⟩ s).setCell ⟨w.heap.size + 1, 0, none⟩ t).heap[k]? = w8.heap[k]? := fun k h1 => by
    rw [Below.heap_setCell _ _ _ _ (by show k ≠ w.heap.size + 1; omega), Below.heap_setCell _ _ _ _ (by show k ≠ w.heap.size; omega)]
  refine ⟨s, t, m, rfl, by omega, by simp; exact hm, (hA.same fun k h1 _ => hk k h1).mono (by omega) (Nat.le_refl _), (hR.same fun k h1 _ => hk k (by omega)).mono (Nat.le_refl _) (by simp), below_set (below_set hb (by simp)) (by simp)⟩
/-- a matrix, the first j columns set -/
def mtxE (n : Nat) (g : Nat → Nat → Nat) (H : List Nat) (X j r c : Nat) : Int := if c < j then actE n g H X r c else 0
def mtx (n : Nat) (g : Nat → Nat → Nat) (H : List Nat) (X j : Nat) : List (List Int) := tab (cnt g H n) (cnt g H n) (mtxE n g H X j)
theorem mtx_zero (n : Nat) (g : Nat → Nat → Nat) (H : List Nat) (X : Nat) : (tab (cnt g H n) (cnt g H n) fun _ _ => 0) = mtx n g H X 0 := tab_congr fun _ _ _ _ => by unfold mtxE; rw [if_neg (by omega)]
theorem mtx_end (n : Nat) (g : Nat → Nat → Nat) (H : List Nat) (X : Nat) : mtx n g H X (cnt g H n) = tab (cnt g H n) (cnt g H n) (actE n g H X) := tab_congr fun _ _ _ hc => by unfold mtxE; rw [if_pos hc]
theorem mtx_next {n : Nat} {g : Nat → Nat → Nat} {H : List Nat} {X j y r : Nat} (hy : (fsts g H n)[j]? = some y) (hr : pnt g H (g X y) = r) : (mtx n g H X j).set r ((vec (cnt g H n) (mtxE n g H X j r)).set j 1) = mtx n g H X (j + 1) := by
  unfold mtx
  rw [tab_set]
  refine tab_congr fun a b _ _ => ?_
  have e : (fsts g H n).getD j 0 = y := by rw [List.getD_eq_getElem?_getD, hy]; rfl
  unfold upd mtxE
  by_cases hb : b = j
  · subst hb
    have e2 : actE n g H X a b = if r = a then 1 else 0 := by unfold actE; rw [e, hr]
    rw [if_pos (by omega : b < b + 1), if_neg (by omega : ¬ b < b), e2]
    by_cases ha : a = r
    · subst ha; simp
    · rw [if_neg (fun h => ha h.1), if_neg (fun h => ha h.symm)]
  · rw [if_neg (fun h => hb h.2)]
    by_cases h2 : b < j
    · rw [if_pos h2, if_pos (by omega)]
    · rw [if_neg h2, if_neg (by omega)]
theorem actT_succ (n : Nat) (g : Nat → Nat → Nat) (H : List Nat) (X : Nat) : actT n g H (X + 1) = actT n g H X ++ [tab (cnt g H n) (cnt g H n) (actE n g H X)] := vec_snoc _ _
theorem pts_all {n : Nat} {g : Nat → Nat → Nat} {H : List Nat} (s : Sg n g H) : vec n (pts g H n) = vec n fun z => (pnt g H z : Int) := vec_congr fun z hz => by unfold pts; rw [if_pos (s.lst_lt hz)]
set_option maxHeartbeats 1600000 in
set_option maxRecDepth 100000 in
theorem c_TransitiveAction (v u : Value) (xs hs : List Int) (w : World) (hv : Ints w v xs) (hu : Ints w u hs) :
    Calls Try.prog 15 #[v, u] w (RetRA (traN xs hs) w) := by
  have HV := Lib.hid hv
  have HU := Lib.hid hu
  clear hv
  cases hg : gOk xs
  · have H : Hid (traN xs hs = (([], []), 2)) := Lib.hid (by unfold traN; rw [hg]; rfl)
    have HG := Lib.hid hg
    clear hg hu
    go_enter Try.func15, Try.ntmps15
    go_wp2_with fail
    have HB0 : Hid (Below w.heap.size w ((w.alloc (.cells #[.slice none 0 0] 32)).alloc (.cells #[.slice none 0 0] 34))) := Lib.hid ((below_alloc w _).alloc (by simp) _)
    refine (c_isGroup _ xs _ (HV.out.keep HB0.out)).mono ?_
    rintro e w1 ⟨rfl, hb1⟩
    rw [HG.out]
    have hlt1 : w.heap.size < w1.heap.size := by have := hb1.size; simp at this; omega
    have hlt2 : w.heap.size + 1 < w1.heap.size := by have := hb1.size; simp at this; omega
    have hc0 : w1.cell? ⟨w.heap.size, 0, none⟩ = some (.slice none 0 0) := bcell hb1 (by simp)
    have hc1 : w1.cell? ⟨w.heap.size + 1, 0, none⟩ = some (.slice none 0 0) := bcell hb1 (by simp)
    have hf0 : w1.frozen? ⟨w.heap.size, 0, none⟩ = false := bfrozen hb1 (v := .slice none 0 0) (by simp) (by simp)
    have hf1 : w1.frozen? ⟨w.heap.size + 1, 0, none⟩ = false := bfrozen hb1 (v := .slice none 0 0) (by simp) (by simp)
    have HB1 := Lib.hid (HB0.out.trans (hb1.mono HB0.out.size))
    clear hb1
    go_wp2_with fail
    (try simp only [Exit.inBlock, Exit.then])
    refine bodyPost_ret (v := .tuple #[.agg #[.slice none 0 0], .agg #[.slice none 0 0], .int .i64 2]) (by rw [results_cct rfl]; go_simp) rfl ?_
    exact retRA_nil H.out (below_set (below_set HB1.out (by simp)) (by simp))
  · obtain ⟨_, hg1, hg2, hg3⟩ := gOk_true hg
    have HG := Lib.hid hg
    obtain ⟨n, hn⟩ : ∃ n, n = ordN xs := ⟨_, rfl⟩
    rw [← hn] at hg2 hg3
    have HN := Lib.hid hn
    obtain ⟨ua, uc, rfl, hul, huc⟩ := hu
    clear hg hg1 huc hn
    go_enter Try.func15, Try.ntmps15
    go_wp2_with fail
    have HB0 : Hid (Below w.heap.size w ((w.alloc (.cells #[.slice none 0 0] 32)).alloc (.cells #[.slice none 0 0] 34))) := Lib.hid ((below_alloc w _).alloc (by simp) _)
    refine (c_isGroup _ xs _ (HV.out.keep HB0.out)).mono ?_
    rintro e w1 ⟨rfl, hb1⟩
    rw [HG.out]
    have hlt1 : w.heap.size < w1.heap.size := by have := hb1.size; simp at this; omega
    have hlt2 : w.heap.size + 1 < w1.heap.size := by have := hb1.size; simp at this; omega
    have hc0 : w1.cell? ⟨w.heap.size, 0, none⟩ = some (.slice none 0 0) := bcell hb1 (by simp)
    have hc1 : w1.cell? ⟨w.heap.size + 1, 0, none⟩ = some (.slice none 0 0) := bcell hb1 (by simp)
    have hf0 : w1.frozen? ⟨w.heap.size, 0, none⟩ = false := bfrozen hb1 (v := .slice none 0 0) (by simp) (by simp)
    have hf1 : w1.frozen? ⟨w.heap.size + 1, 0, none⟩ = false := bfrozen hb1 (v := .slice none 0 0) (by simp) (by simp)
    have HB1 := Lib.hid (HB0.out.trans (hb1.mono HB0.out.size))
    clear hb1 HB0
    go_wp2_with fail
    refine (c_groupSize _ xs _ (HV.out.keep HB1.out)).mono ?_
    rintro e w2 ⟨rfl, rfl⟩
    rw [← HN.out]
    go_wp2_with fail
    go_loop [29] (fun i => ∃ k : Nat, k ≤ hs.length ∧ i = .int .i64 k ∧ Hid (okS n hs k)) (fun i => hs.length - (intOf i).toNat)
    case atStart => exact ⟨0, Nat.zero_le _, rfl, Lib.hid (okS_zero _ _)⟩
    case round =>
      obtain ⟨k, hk, rfl, HK⟩ := hrel
      by_cases hlt : k < hs.length
      · obtain ⟨x, hx⟩ : ∃ x, hs[k]? = some x := ⟨hs[k], by simp [hlt]⟩
        obtain ⟨_, _, e1, _, hcu⟩ := HU.out.keep HB1.out
        cases e1
        obtain ⟨b, off, rfl, hcell⟩ := hcu k x hx
        have HX := Lib.hid hx
        have HCU := Lib.hid hcu
        clear hcu hx
        have hnw : IntKind.i64.wrap ((n : Int) - 1) = (n : Int) - 1 := IntWalk.i64_in _ (by omega)
        cases hr : inR 0 ((n : Int) - 1) x
        · have H : Hid (traN xs hs = (([], []), 2)) := Lib.hid (by
            unfold traN
            rw [if_pos HG.out, if_neg]
            intro h
            have h1 := h k x hlt HX.out
            rw [← HN.out] at h1
            exact inR_false hr ⟨h1.1, by omega⟩)
          have HR := Lib.hid hr
          clear hr
          go_wp2_with fail
          refine (c_within _ _ _ _).mono ?_
          rintro e w2 ⟨rfl, rfl⟩
          rw [HR.out]
          go_wp2_with fail
          (try simp only [Exit.inBlock, Exit.then])
          refine bodyPost_ret (v := .tuple #[.agg #[.slice none 0 0], .agg #[.slice none 0 0], .int .i64 2]) (by rw [results_cct rfl]; go_simp) rfl ?_
          exact retRA_nil H.out (below_set (below_set HB1.out (by simp)) (by simp))
        · obtain ⟨hr1, hr2⟩ := inR_true hr
          have HR := Lib.hid hr
          clear hr
          cases k with
          | zero =>
            simp only [Nat.add_zero] at hcell
            have HK2 : Hid (okS n hs 1) := Lib.hid (okS_next HK.out HX.out hr1 (by omega) (fun y h => absurd h (by omega)))
            go_wp2_with fail
            refine (c_within _ _ _ _).mono ?_
            rintro e w2 ⟨rfl, rfl⟩
            rw [HR.out]
            go_wp2_with fail
            go_round
            case rel => exact ⟨1, by omega, by go_num, HK2⟩
            case measure => simp [intOf]; omega
          | succ k =>
            obtain ⟨y, hy⟩ : ∃ y, hs[k]? = some y := ⟨hs[k], by simp⟩
            obtain ⟨_, _, e2, hcell2⟩ := HCU.out k y hy
            cases e2
            have HY := Lib.hid hy
            have hk1 : ((k + 1 : Nat) : Int) - 1 = (k : Int) := by omega
            have hk2 : (k : Int) + 1 - 1 = (k : Int) := by omega
            have hk3 : IntKind.i64.wrap (k : Int) = (k : Int) := IntWalk.i64_in _ (by omega)
            clear hy
            by_cases hxy : y < x
            · have hxy2 : ¬ x ≤ y := by omega
              have HK2 : Hid (okS n hs (k + 1 + 1)) := Lib.hid (okS_next HK.out HX.out hr1 (by omega) (fun z _ h2 => by
                rw [Nat.add_sub_cancel, HY.out] at h2
                cases h2; exact hxy))
              go_wp2_with fail
              refine (c_within _ _ _ _).mono ?_
              rintro e w2 ⟨rfl, rfl⟩
              rw [HR.out]
              go_wp2_with fail
              go_round
              case rel => exact ⟨k + 1 + 1, by omega, by go_num, HK2⟩
              case measure => simp [intOf]; omega
            · have hxy2 : x ≤ y := by omega
              have H : Hid (traN xs hs = (([], []), 2)) := Lib.hid (by
                unfold traN
                rw [if_pos HG.out, if_neg]
                intro h
                exact hxy ((h (k + 1) x hlt HX.out).2.2 y (by omega) (by rw [Nat.add_sub_cancel]; exact HY.out)))
              go_wp2_with fail
              refine (c_within _ _ _ _).mono ?_
              rintro e w2 ⟨rfl, rfl⟩
              rw [HR.out]
              go_wp2_with fail
              (try simp only [Exit.inBlock, Exit.then])
              refine bodyPost_ret (v := .tuple #[.agg #[.slice none 0 0], .agg #[.slice none 0 0], .int .i64 2]) (by rw [results_cct rfl]; go_simp) rfl ?_
              exact retRA_nil H.out (below_set (below_set HB1.out (by simp)) (by simp))
      · obtain rfl : k = hs.length := by omega
        have HOK : Hid (okS (ordN xs) hs hs.length) := Lib.hid (by rw [← HN.out]; exact HK.out)
        have HZN := Lib.hid (zi_zn HOK.out)
        have HH := Lib.hid (zn_lt HOK.out)
        obtain ⟨Hn, hHn⟩ : ∃ Hn, Hn = zn hs := ⟨_, rfl⟩
        have HHN := Lib.hid hHn
        have HUZ : Hid (Ints w1 (.slice ua hs.length uc) (zi Hn)) := Lib.hid (by rw [hHn, HZN.out]; exact HU.out.keep HB1.out)
        have HSB := Lib.hid (c_isSubgroup v (.slice ua hs.length uc) xs Hn w1 (HV.out.keep HB1.out) HUZ.out HG.out (by rw [hHn]; exact HH.out))
        clear hHn
        go_wp2_with fail
        refine HSB.out.mono ?_
        rintro e w3 ⟨rfl, hb3⟩
        have hf0 : w3.frozen? ⟨w.heap.size, 0, none⟩ = false := bfrozen hb3 hc0 hf0
        have hf1 : w3.frozen? ⟨w.heap.size + 1, 0, none⟩ = false := bfrozen hb3 hc1 hf1
        have hc0 : w3.cell? ⟨w.heap.size, 0, none⟩ = some (.slice none 0 0) := bcell hb3 hc0
        have hc1 : w3.cell? ⟨w.heap.size + 1, 0, none⟩ = some (.slice none 0 0) := bcell hb3 hc1
        have hlt1 : w.heap.size < w3.heap.size := Nat.lt_of_lt_of_le hlt1 hb3.size
        have hlt2 : w.heap.size + 1 < w3.heap.size := Nat.lt_of_lt_of_le hlt2 hb3.size
        have HB3 := Lib.hid (HB1.out.trans (hb3.mono HB1.out.size))
        clear hb3
        cases hsb : (sgB (grpT xs) Hn && Hn.contains 0)
        · have H : Hid (traN xs hs = (([], []), 5)) := Lib.hid (by
            unfold traN
            rw [if_pos HG.out, if_pos HOK.out, ← HHN.out, hsb]
            rfl)
          clear hsb
          go_wp2_with fail
          (try simp only [Exit.inBlock, Exit.then])
          refine bodyPost_ret (v := .tuple #[.agg #[.slice none 0 0], .agg #[.slice none 0 0], .int .i64 5]) (by rw [results_cct rfl]; go_simp) rfl ?_
          exact retRA_nil H.out (below_set (below_set HB3.out (by simp)) (by simp))
        · have HT : Hid (traN xs hs = ((cub n (tabE n (grpT xs)), actT n (grpT xs) Hn n), 0)) := Lib.hid (by
            unfold traN
            rw [if_pos HG.out, if_pos HOK.out, ← HHN.out, if_pos hsb, HN.out])
          have hsb1 : sgB (grpT xs) Hn = true ∧ Hn.contains 0 = true := by simpa using hsb
          have HSG : Hid (Sg n (grpT xs) Hn) := Lib.hid (by
            have h := sg_of HG.out HOK.out (by rw [← HHN.out]; exact hsb1.1) (by
              rw [← HHN.out]
              intro e
              rw [e] at hsb1
              exact absurd hsb1.2 (by simp))
            rw [← HHN.out, ← HN.out] at h
            exact h)
          clear hsb hsb1
          go_wp2_with fail
          have hlit : Ints (w3.alloc (.cells #[.int .i64 (-1)] 2)) (.slice (some ⟨w3.heap.size, 0, none⟩) 1 1) [-1] := OwnI.ints (Own.lit (B := w3.heap.size) w3 2 [vi (-1)] (Nat.le_refl _) (by simp [maxLen])) (by simp)
          refine (c_Repeat _ (-1) n _ hlit hg2 hg3).mono ?_
          rintro e w4 ⟨pv, rfl, ho4, hb4⟩
          have hp4 : ∃ p c, pv = .slice (some ⟨p, 0, none⟩) n c ∧ w3.heap.size ≤ p ∧ p < w4.heap.size := by
            rcases Own.shape ho4 with ⟨_, e⟩ | ⟨g, cap, e1, e2, e3, _⟩
            · have e := congrArg List.length e
              simp at e
              omega
            · exact ⟨g, cap, by rw [e1]; simp, by simp at e2; omega, e3⟩
          obtain ⟨p, c, rfl, hp1, hp2⟩ := hp4
          have hB34 : Below w3.heap.size w3 w4 := (below_alloc w3 _).trans (hb4.mono (by simp))
          have h0 : Hid (TaIn w3 p w4.heap.size n c (.slice (some ⟨w4.heap.size, 0, none⟩) 0 0) (vec n (pts (grpT xs) Hn 0)) (zi (fsts (grpT xs) Hn 0)) (w4.alloc (.cells #[] 2))) := Lib.hid (by
            rw [pts_zero]
            exact ⟨Own.alloc (Own.mono ho4 (by simp)) _, Own.lit (B := w4.heap.size) w4 2 [] (Nat.le_refl _) (by simp), hp2, by simp, hB34.trans ((below_alloc _ _).mono hB34.size)⟩)
          clear ho4 hb4 hB34 hlit
          go_wp2_with fail
          generalize w4.heap.size = B at *
          go_loopw [11, 66] (fun fv i wr => ∃ X : Nat, X ≤ n ∧ i = .int .i64 X ∧ Hid (TaIn w3 p B n c fv (vec n (pts (grpT xs) Hn X)) (zi (fsts (grpT xs) Hn X)) wr)) (fun _ i _ => n - (intOf i).toNat)
          case atStart => exact ⟨0, Nat.zero_le _, rfl, h0⟩
          case round =>
            clear h0
            obtain ⟨X, hXn, rfl, HIN⟩ := hrel
            by_cases hX : X < n
            · have hcx : wr.cell? ⟨p, X, none⟩ = some (.int .i64 (pts (grpT xs) Hn X X)) := Own.cell HIN.out.pt (by rw [List.getElem?_map, vec_at _ hX]; rfl)
              have hfl : (zi (fsts (grpT xs) Hn X)).length = cnt (grpT xs) Hn X := zi_length _
              obtain ⟨fp, fc, rfl⟩ : ∃ fp fc, u11 = .slice fp (cnt (grpT xs) Hn X) fc := by
                rcases Own.shape HIN.out.fs with ⟨e1, e⟩ | ⟨g, cap, e1, _⟩
                · have e := congrArg List.length e
                  rw [List.length_map, hfl] at e
                  exact ⟨none, 0, by rw [e1, show cnt (grpT xs) Hn X = 0 by simpa using e]⟩
                · exact ⟨_, cap, by rw [e1, List.length_map, hfl]⟩
              have hcn := cnt_le (grpT xs) Hn X
              by_cases hx : lst (grpT xs) Hn X = X
              · have hq : pts (grpT xs) Hn X X = -1 := by unfold pts; rw [if_neg (by omega)]
                rw [hq] at hcx
                clear hq
                have h1 : Hid (TaIn w3 p B n c (.slice fp (cnt (grpT xs) Hn X) fc) (vec n (ptk (grpT xs) Hn X 0)) (zi (fsts (grpT xs) Hn X)) wr) := Lib.hid (by rw [ptk_zero]; exact HIN.out)
                have HE := Lib.hid (ptk_end HSG.out hX hx)
                have HFS : Hid (zi (fsts (grpT xs) Hn (X + 1)) = zi (fsts (grpT xs) Hn X) ++ [(X : Int)]) := Lib.hid (by rw [fsts_succ, if_pos hx]; simp [zi])
                have HHL : Hid (Hn.length = hs.length) := Lib.hid (by rw [HHN.out, zn_length])
                obtain ⟨cX, hcX⟩ : ∃ cX, cX = cnt (grpT xs) Hn X := ⟨_, rfl⟩
                rw [← hcX] at h1 hcn hfl
                rw [← hcX]
                have HCX := Lib.hid hcX
                have HFL := Lib.hid hfl
                clear hcX hfl hx HIN
                go_wp2_with fail
                obtain ⟨wo, rfl⟩ : ∃ wo : World, wo = wr := ⟨_, rfl⟩
                go_loopw [76] (fun i wr => ∃ l : Nat, l ≤ hs.length ∧ i = .int .i64 l ∧ Hid (TaIn w3 p B n c (.slice fp cX fc) (vec n (ptk (grpT xs) Hn X l)) (zi (fsts (grpT xs) Hn X)) wr)) (fun i _ => hs.length - (intOf i).toNat)
                case atStart => exact ⟨0, Nat.zero_le _, rfl, h1⟩
                case round =>
                  clear h1 hcx
                  obtain ⟨l, hl, rfl, HIN⟩ := hrel
                  by_cases hlt : l < hs.length
                  · have HBW : Hid (Below w.heap.size w wr) := Lib.hid (HB3.out.trans (HIN.out.below.mono HB3.out.size))
                    obtain ⟨y, hy, hyH, hym⟩ := zi_at (H := Hn) (k := l) (by rw [zi_length, HHL.out]; exact hlt)
                    have hyn : y < n := by have h := HH.out y (by rw [← HHN.out]; exact hym); rw [← HN.out] at h; exact h
                    have hy' : hs[l]? = some (y : Int) := by
                      have h := hy
                      rw [HHN.out, HZN.out] at h
                      exact h
                    obtain ⟨_, _, e1, _, hcu⟩ := HU.out.keep HBW.out
                    cases e1
                    obtain ⟨b, off, rfl, hcell⟩ := hcu l _ hy'
                    have HNX : Hid ((vec n (ptk (grpT xs) Hn X l)).set (grpT xs X y) (cX : Int) = vec n (ptk (grpT xs) Hn X (l + 1))) := Lib.hid (by rw [HCX.out]; exact ptk_next hyH)
                    have hzn : grpT xs X y < n := HSG.out.gp.lt X y
                    have HADD := Lib.hid (c_addG v xs X y wr (HV.out.keep HBW.out) HG.out (by omega) (by omega))
                    generalize grpT xs X y = z at *
                    clear hcu hy hy' hyH hym
                    go_wp2_with fail
                    refine HADD.out.mono ?_
                    rintro e w5 ⟨rfl, hb5⟩
                    have HIN5 := Lib.hid (HIN.out.keep hb5)
                    have hpz : (w5.cell? ⟨p, z, none⟩).isSome = true ∧ w5.frozen? ⟨p, z, none⟩ = false := by
                      refine ⟨?_, Own.frozen HIN5.out.pt z⟩
                      rw [Own.cell HIN5.out.pt (i := z) (by rw [List.getElem?_map, vec_at _ hzn]; rfl)]; rfl
                    obtain ⟨hpz1, hpz2⟩ := hpz
                    obtain ⟨oldv, hold⟩ := Option.isSome_iff_exists.1 hpz1
                    clear hpz1 hb5 hcell
                    go_wp2_with fail
                    go_roundw
                    case rel => exact ⟨l + 1, by omega, by go_num, Lib.hid (by rw [← HNX.out]; exact HIN5.out.store z cX)⟩
                    case measure => simp [intOf]; omega
                  · obtain rfl : l = hs.length := by omega
                    have hX1000 : (zi (fsts (grpT xs) Hn X)).length ≤ 1000000 := by rw [HFL.out]; omega
                    have hBs := HIN.out.size
                    go_wp2_with (at_builtin; refine wp_pushI (gx := wr.heap.size) (y := (X : Int)) HIN.out.fs rfl (.tmp 89) (.tmp 91) rfl rfl rfl rfl hBs hX1000 ?_; intro v' w6 ho6 hg6 hb6; obtain ⟨p6, n6, c6, rfl⟩ := ho6.slice)
                    have HNX : Hid (TaIn w3 p B n c (.slice p6 n6 c6) (vec n (pts (grpT xs) Hn (X + 1))) (zi (fsts (grpT xs) Hn (X + 1))) w6) := Lib.hid (by
                      rw [← HE.out, HFS.out, HHL.out]
                      exact HIN.out.push ho6 hb6 (Nat.le_trans (by simp) hg6.size))
                    clear ho6 hg6 hb6
                    go_roundw
                    case rel => exact ⟨X + 1, by omega, by go_num, HNX⟩
                    case measure => simp [intOf]; omega
              · have hq : 0 ≤ pts (grpT xs) Hn X X := (pts_at (HSG.out.lst_le X)).2 hx
                have HNX : Hid (TaIn w3 p B n c (.slice fp (cnt (grpT xs) Hn X) fc) (vec n (pts (grpT xs) Hn (X + 1))) (zi (fsts (grpT xs) Hn (X + 1))) wr) := Lib.hid (by
                  rw [pts_skipL HSG.out hx, fsts_succ, if_neg hx]
                  exact HIN.out)
                generalize pts (grpT xs) Hn X X = q at *
                generalize cnt (grpT xs) Hn X = cX at *
                go_wp2_with fail
                go_roundw
                case rel => exact ⟨X + 1, by omega, by go_num, HNX⟩
                case measure => simp [intOf]; omega
            · obtain rfl : X = n := by omega
              have hcN : 0 < cnt (grpT xs) Hn X := by have := HSG.out.pnt_lt (show 0 < X by omega); omega
              have hcn := cnt_le (grpT xs) Hn X
              have hfl : (zi (fsts (grpT xs) Hn X)).length = cnt (grpT xs) Hn X := zi_length _
              obtain ⟨fg, fc, rfl⟩ : ∃ fg fc, u11 = .slice (some ⟨fg, 0, none⟩) (cnt (grpT xs) Hn X) fc := by
                rcases Own.shape HIN.out.fs with ⟨e1, e⟩ | ⟨g, cap, e1, _⟩
                · have e := congrArg List.length e
                  rw [List.length_map, hfl] at e
                  simp at e
                  omega
                · exact ⟨g, cap, by rw [e1, List.length_map, hfl]⟩
              rw [pts_all HSG.out] at HIN
              have HM0 := Lib.hid (mtx_zero X (grpT xs) Hn)
              have HME := Lib.hid (mtx_end X (grpT xs) Hn)
              have HMN := Lib.hid (fun x j y r => @mtx_next X (grpT xs) Hn x j y r)
              have HMT : Hid (∀ x j r c, r < cnt (grpT xs) Hn X → c < cnt (grpT xs) Hn X → (mtx X (grpT xs) Hn x j)[r]? = some (vec (cnt (grpT xs) Hn X) (mtxE X (grpT xs) Hn x j r)) ∧ (vec (cnt (grpT xs) Hn X) (mtxE X (grpT xs) Hn x j r))[c]? = some (mtxE X (grpT xs) Hn x j r c)) := Lib.hid (fun x j r c h1 h2 => ⟨vec_at _ h1, vec_at _ h2⟩)
              have HML : Hid (∀ x j r, (vec (cnt (grpT xs) Hn X) (mtxE X (grpT xs) Hn x j r)).length = cnt (grpT xs) Hn X ∧ (mtx X (grpT xs) Hn x j).length = cnt (grpT xs) Hn X) := Lib.hid (fun x j r => ⟨vec_length _ _, vec_length _ _⟩)
              have HAS := Lib.hid (actT_succ X (grpT xs) Hn)
              have HPL : Hid (∀ z, z < X → pnt (grpT xs) Hn z < cnt (grpT xs) Hn X) := Lib.hid (fun z hz => HSG.out.pnt_lt hz)
              have HFI : Hid (∀ j, j < cnt (grpT xs) Hn X → ∃ y : Nat, (zi (fsts (grpT xs) Hn X))[j]? = some (y : Int) ∧ (fsts (grpT xs) Hn X)[j]? = some y ∧ y < X) := Lib.hid (fun j hj => by
                obtain ⟨y, h1, h2, _⟩ := zi_at (H := fsts (grpT xs) Hn X) (k := j) (by rw [hfl]; exact hj)
                exact ⟨y, h1, h2, (fsts_is h2).1⟩)
              generalize cnt (grpT xs) Hn X = cN at *
              clear hfl
              go_wp2_with fail
              obtain ⟨wo, rfl⟩ : ∃ wo : World, wo = wr := ⟨_, rfl⟩
              go_loopw [96] (fun i wr => ∃ (x : Nat) (ap : Option Addr) (an ac : Nat), x ≤ X ∧ i = .int .i64 x ∧ wr.cell? ⟨wo.heap.size, 0, none⟩ = some (.slice ap an ac) ∧ wr.frozen? ⟨wo.heap.size, 0, none⟩ = false ∧ Hid (wo.heap.size + 1 ≤ wr.heap.size) ∧ Hid (OwnCB wr (wo.heap.size + 1) wr.heap.size (.slice ap an ac) (actT X (grpT xs) Hn x)) ∧ Hid (Below wo.heap.size wo wr)) (fun i _ => X - (intOf i).toNat)
              case atStart => exact ⟨0, none, 0, 0, Nat.zero_le _, rfl, by simp, by simp, Lib.hid (by simp), Lib.hid (OwnCB.nil _ _ _), Lib.hid (below_alloc _ _)⟩
              case round =>
                obtain ⟨x, ap, an, ac, hxn, rfl, hbc, hbf, HBZ, HOC, HBL⟩ := hrel
                by_cases hx : x < X
                · obtain ⟨wq, rfl⟩ : ∃ wq : World, wq = wr := ⟨_, rfl⟩
                  go_wp2_with fail
                  refine (c_zeros cN cN _ (by omega) (by omega)).mono ?_
                  rintro e w5 ⟨mv, rfl, hm5, hb5⟩
                  rw [HM0.out x] at hm5
                  obtain ⟨mg, mc, rfl, hmg1, hmg2⟩ := hm5.shape' (by rw [(HML.out x 0 0).2]; exact hcN)
                  rw [(HML.out x 0 0).2] at hm5
                  rw [(HML.out x 0 0).2]
                  have hbf5 := bfrozen hb5 hbc hbf
                  have hbc5 := bcell hb5 hbc
                  have HMI := Lib.hid hm5
                  have HBM := Lib.hid hb5
                  clear hm5 hb5 hmg1 hmg2
                  go_wp2_with fail
                  obtain ⟨wp, rfl⟩ : ∃ wp : World, wp = w5 := ⟨_, rfl⟩
                  go_loopw [106] (fun i wr => ∃ j : Nat, j ≤ cN ∧ i = .int .i64 j ∧ Hid (OwnM wr wq.heap.size (.slice (some ⟨mg, 0, none⟩) cN mc) (mtx X (grpT xs) Hn x j)) ∧ Hid (Below wq.heap.size wq wr)) (fun i _ => cN - (intOf i).toNat)
                  case atStart => exact ⟨0, Nat.zero_le _, rfl, HMI, HBM⟩
                  case round =>
                    clear HMI HBM hbf5 hbc5
                    obtain ⟨j, hj, rfl, HMI, HBM⟩ := hrel
                    by_cases hjl : j < cN
                    · obtain ⟨y, hy, hyF, hyX⟩ := HFI.out j hjl
                      have HINr := Lib.hid (HIN.out.keep (HBL.out.trans (HBM.out.mono HBL.out.size)))
                      have HBW : Hid (Below w.heap.size w wr) := Lib.hid (HB3.out.trans (HINr.out.below.mono HB3.out.size))
                      have hcy : wr.cell? ⟨fg, j, none⟩ = some (.int .i64 y) := Own.cell HINr.out.fs (by rw [List.getElem?_map, hy]; rfl)
                      have HADD := Lib.hid (c_addG v xs x y wr (HV.out.keep HBW.out) HG.out (by omega) (by omega))
                      have hzX : grpT xs x y < X := HSG.out.gp.lt x y
                      have hr := HPL.out _ hzX
                      have HNX := Lib.hid (HMN.out x j y (pnt (grpT xs) Hn (grpT xs x y)) hyF rfl)
                      have hpv : ((vec X fun z => (pnt (grpT xs) Hn z : Int)).map vi)[grpT xs x y]? = some (.int .i64 (pnt (grpT xs) Hn (grpT xs x y))) := by rw [List.getElem?_map, vec_at _ hzX]; rfl
                      have HPV := Lib.hid (fun w' (h : TaIn w3 p B X c (.slice (some ⟨fg, 0, none⟩) cN fc) (vec X fun z => (pnt (grpT xs) Hn z : Int)) (zi (fsts (grpT xs) Hn X)) w') => (Own.cell h.pt hpv : w'.cell? ⟨p, grpT xs x y, none⟩ = _))
                      generalize pnt (grpT xs) Hn (grpT xs x y) = r at *
                      generalize grpT xs x y = z at *
                      obtain ⟨hm1, hm2⟩ := HMT.out x j r j hr hjl
                      clear hy hyF hpv
                      go_wp2_with fail
                      refine HADD.out.mono ?_
                      rintro e w6 ⟨rfl, hb6⟩
                      have hpz := HPV.out w6 (HINr.out.keep hb6)
                      obtain ⟨gk, ck, e1, e2, e3, e4, _, e6⟩ := (HMI.out.keep hb6).entry hm1 hm2
                      rw [(HML.out x j r).1] at e1
                      have HN6 : Hid (OwnM (w6.setCell ⟨gk, j, none⟩ (vi 1)) wq.heap.size (.slice (some ⟨mg, 0, none⟩) cN mc) (mtx X (grpT xs) Hn x (j + 1))) := Lib.hid (by rw [← HNX.out]; exact e6 1)
                      have HB6 : Hid (Below wq.heap.size wq (w6.setCell ⟨gk, j, none⟩ (vi 1))) := Lib.hid (below_set (HBM.out.trans (hb6.mono HBM.out.size)) e4)
                      clear hm1 hm2 e6 hb6 hcy
                      go_wp2_with fail
                      go_roundw
                      case rel => exact ⟨j + 1, by omega, by go_num, HN6, HB6⟩
                      case measure => simp [intOf]; omega
                    · obtain rfl : j = cN := by omega
                      rw [HME.out x] at HMI
                      have hbf6 := bfrozen HBM.out hbc hbf
                      have hbc6 := bcell HBM.out hbc
                      have hszw : wo.heap.size < wr.heap.size := Nat.lt_of_lt_of_le HBZ.out HBM.out.size
                      have hlen : (actT X (grpT xs) Hn x).length ≤ 1000000 := by unfold actT; rw [vec_length]; omega
                      go_wp2_with (at_builtin; refine wp_pushC (w0 := wq) (gx := wr.heap.size) (v := .slice ap an ac) (c := actT X (grpT xs) Hn x) HOC.out HBM.out HMI.out rfl (.tmp 125) (.tmp 127) rfl rfl rfl rfl HBZ.out hlen ?_; intro v' w7 ho7 hb7; obtain ⟨p7, n7, c7, rfl⟩ := ho7.slice; have hlt7 : wo.heap.size < wo.heap.size + 1 := Nat.lt_succ_self _; have hbc7 := cellOf2 hb7 hlt7 hbc6; have hbf7 := frozenOf2 hb7 hlt7 hbf6)
                      have HO8 : Hid (OwnCB (w7.setCell ⟨wo.heap.size, 0, none⟩ (.slice p7 n7 c7)) (wo.heap.size + 1) (w7.setCell ⟨wo.heap.size, 0, none⟩ (.slice p7 n7 c7)).heap.size (.slice p7 n7 c7) (actT X (grpT xs) Hn (x + 1))) := Lib.hid (by
                        rw [HAS.out x]
                        exact (ho7.same fun k h1 h2 => Below.heap_setCell _ _ _ _ (by show k ≠ wo.heap.size; omega)).mono (Nat.le_refl _) (by simp))
                      have HB8 : Hid (Below wo.heap.size wo (w7.setCell ⟨wo.heap.size, 0, none⟩ (.slice p7 n7 c7))) := Lib.hid (below_set (HBL.out.trans ((HBM.out.mono HBL.out.size).trans (hb7.mono (by omega)))) (Nat.le_refl _))
                      have HZ8 : Hid (wo.heap.size + 1 ≤ (w7.setCell ⟨wo.heap.size, 0, none⟩ (.slice p7 n7 c7)).heap.size) := Lib.hid (by rw [World.size_setCell]; exact Nat.le_trans hszw (Nat.le_trans (by simp) hb7.size))
                      go_roundw
                      case rel => exact ⟨x + 1, p7, n7, c7, by omega, by go_num, World.cell?_setCell_same _ _ _ hbc7, by rw [World.frozen?_setCell]; exact hbf7, HZ8, HO8, HB8⟩
                      case measure => simp [intOf]; omega
                · obtain rfl : x = X := by omega
                  have HINr := Lib.hid (HIN.out.keep HBL.out)
                  have hb3r : Below w3.heap.size w3 wr := HINr.out.below
                  have hbr : Below w.heap.size w wr := HB3.out.trans (hb3r.mono HB3.out.size)
                  have HBW := Lib.hid hbr
                  have hd0 := bcell hb3r hc0
                  have hd1 := bcell hb3r hc1
                  have hg0 := bfrozen hb3r hc0 hf0
                  have hg1 := bfrozen hb3r hc1 hf1
                  have hI : Ints wr.drew v xs := HV.out.keep HBW.out.drew
                  have HGR := Lib.hid (c_groupRing v xs wr.drew hI (gOk_true HG.out).2.1 (gOk_true HG.out).2.2.2)
                  rw [← HN.out] at HGR
                  have hwz : w3.heap.size ≤ wo.heap.size := HIN.out.below.size
                  have hl0 : w.heap.size < wr.heap.size := Nat.lt_of_lt_of_le hlt1 hb3r.size
                  have hl1 : w.heap.size + 1 < wr.heap.size := Nat.lt_of_lt_of_le hlt2 hb3r.size
                  have hlw : w.heap.size + 2 ≤ wo.heap.size + 1 := by omega
                  clear hb3r hbr hI
                  go_wp2_with fail
                  go_region_law (first
                    | (go_simp; go_at_call 42; refine HGR.out.mono ?_; rintro e w8 ⟨s8, rfl, ho8, hb8⟩; obtain ⟨p8, n8, c8, rfl⟩ := ho8.slice; have hbc8 := bcell hb8 hbc; have hd08 := bcell hb8 hd0; have hd18 := bcell hb8 hd1; have hg08 := bfrozen hb8 hd0 hg0; have hg18 := bfrozen hb8 hd1 hg1; have hl08 : w.heap.size < w8.heap.size := Nat.lt_of_lt_of_le hl0 hb8.size; have hl18 : w.heap.size + 1 < w8.heap.size := Nat.lt_of_lt_of_le hl1 hb8.size))
                  all_goals
                    go_wp2_with fail
                    (try simp only [Exit.inBlock, Exit.then])
                    refine bodyPost_ret (v := .tuple #[.agg #[.slice p8 n8 c8], .agg #[.slice ap an ac], .int .i64 0]) (by rw [results_cct rfl]; go_simp) rfl ?_
                    exact retRA_of HT.out (HOC.out.same fun k h1 h2 => hb8.block k h2) ho8 hlw HBZ.out hb8.size (HBW.out.trans ((below_drewed2 hb8).mono HBW.out.size))
end Go.Proofs.Ytckcjlophnehmaa
