/- Walks: inverse matrices by the program. -/
import Derived.Test.YtmbcncmmgfnlmaaAlg
import Derived.Test.YtmbcncmmgfnlmaaCct
import Derived.Test.YtmbcncmmgfnlmaaGrd
import Derived.Test.YtmbcncmmgfnlmaaGpw
import Derived.Test.YtmbcncmmgfnlmaaBas
import Derived.Test.YtmbcncmmgfnlmaaAps
import Derived.Deep.DrawnRows
import Derived.Deep.AppendLies
namespace Go.Proofs.Ytmbcncmmgfnlmaa
open Go.RowKit
open Fus (F Mx toI ofI toI_bd one wide invM invW wide_full wide_gap D redR)

theorem zl_append (n m : Nat) (f g : Nat → F) : zl n f ++ zl m g = zl (n + m) fun j => if j < n then f j else g (j - n) := by
  induction m with
  | zero => rw [show zl 0 g = [] from rfl, List.append_nil]; exact zl_congr fun j hj => by rw [if_pos (by simpa using hj)]
  | succ m ih =>
    rw [zl_snoc, ← List.append_assoc, ih, ← Nat.add_assoc, zl_snoc]
    show _ ++ [toI (g m)] = _ ++ [toI (if n + m < n then f (n + m) else g (n + m - n))]
    rw [if_neg (by omega), show n + m - n = m by omega]
theorem zl_wide (n : Nat) (f : Mx) (i : Nat) : zl n (f i) ++ zl n (one i) = zl (n + n) (wide n f i) := zl_append n n _ _
theorem two_cells (w : World) (u v : Value) (t : TypeId) : (w.alloc (.cells #[u, v] t)).cell? ⟨w.heap.size, 0, none⟩ = some u ∧ (w.alloc (.cells #[u, v] t)).cell? ⟨w.heap.size, 1, none⟩ = some v := by simp
theorem OwnI.dropI {w : World} {B g n cap d cap' : Nat} {xs : List Int} (h : OwnI w B (.slice (some ⟨g, 0, none⟩) n cap) xs) (hl : xs.length ≤ 1000000) : Ints w (.slice (some ⟨g, d, none⟩) (n - d) cap') (xs.drop d) := by
  obtain rfl : n = xs.length := by have := Own.len h; simpa using this
  refine ⟨some ⟨g, d, none⟩, cap', by rw [List.length_drop], by rw [List.length_drop]; omega, fun i x hx => ?_⟩
  rw [List.getElem?_drop] at hx
  exact ⟨g, d, rfl, Own.cell h (by rw [List.getElem?_map, hx]; rfl)⟩
theorem zl_drop (n : Nat) (f : Nat → F) : (zl (n + n) f).drop n = zl n fun j => f (n + j) := by
  have e := zl_append n n f fun j => f (n + j)
  have e2 : (zl (n + n) fun j => if j < n then f j else f (n + (j - n))) = zl (n + n) f := zl_congr fun j _ => by
    by_cases h : j < n
    · rw [if_pos h]
    · rw [if_neg h, show n + (j - n) = j by omega]
  rw [← e2, ← e, List.drop_append_of_le_length (by rw [zl_length]; omega), List.drop_of_length_le (by rw [zl_length]; omega), List.nil_append]
def RetInv (n : Nat) (f : Mx) (w : World) (e : Ending) (w' : World) : Prop := Below w.heap.size w w' ∧ ((D n f ≠ 0 ∧ ∃ v, e = .returned v ∧ OwnM w' w.heap.size v (tabF n n (invM n f))) ∨ (D n f = 0 ∧ e = .returned (.slice none 0 0)))
set_option maxHeartbeats 2000000 in
theorem c_inverse (v : Value) (n : Nat) (f : Mx) (w : World) (hv : IntRows w v (tabF n n f)) (hn1 : 0 < n) (hn2 : n ≤ 500) :
    Calls Try.prog 65 #[v] w (RetInv n f w) := by
  obtain ⟨a, cap, rfl, _, hc⟩ := hv
  have HC := Lib.hid hc
  clear hc
  rw [tabF_length]
  go_enter Try.func65, Try.ntmps65
  go_wp2_with fail
  refine (c_unitMatrix n _ (by omega)).mono ?_
  rintro e w1 ⟨v1, rfl, ho1, hb1⟩
  have HB1 := Lib.hid hb1
  have HU1 : Hid (IntRows w1 v1 (tabF n n one)) := Lib.hid (ho1.rows (by rw [tabF_length]; omega) (fun xs hx => by rw [tabF_mem hx]; omega))
  obtain ⟨a1, cap1, rfl, _, hq⟩ := HU1.out
  have HQ := Lib.hid hq
  clear ho1 hq hb1 HU1
  rw [tabF_length]
  go_wp2_with fail
  go_loopw [5, 21] (fun s i wr => ∃ k : Nat, k ≤ n ∧ i = .int .i64 k ∧ OwnM wr w1.heap.size s (tabF k (n + n) (wide n f)) ∧ Below w1.heap.size w1 wr) (fun _ i _ => n - (intOf i).toNat)
  case atStart => exact ⟨0, Nat.zero_le _, rfl, ownM_empty _ _ (Nat.le_refl _), below_alloc _ _⟩
  case round =>
    obtain ⟨k, hk, rfl, hown, hbel⟩ := hrel
    by_cases hlt : k < n
    · obtain ⟨b, off, q, rfl, hcell, hI⟩ := HC.out k _ (tabF_at n f hlt)
      obtain ⟨b2, off2, q2, rfl, hcell2, hI2⟩ := HQ.out k _ (tabF_at n one hlt)
      obtain ⟨qa, qc, hqe, _⟩ := id hI
      obtain ⟨ra, rc, hre, _⟩ := id hI2
      rw [zl_length] at hqe hre
      subst hqe hre
      have hcA := bkeep (HB1.out.trans (hbel.mono HB1.out.size)) (Ints.lt hcell) hcell
      have hcB := bcell hbel hcell2
      have HIA := Lib.hid ((hI.keep HB1.out).keep hbel)
      have HIB := Lib.hid (hI2.keep hbel)
      have HO := Lib.hid hown
      have HB := Lib.hid hbel
      have hsz := hbel.size
      clear hcell hcell2 hI hI2 hown hbel
      go_wp2_with fail
      refine (c_Concat _ _ _ _ (zl n (f k)) (zl n (one k)) _ (two_cells _ _ _ _).1 (two_cells _ _ _ _).2 (HIA.out.keep (below_alloc _ _)) (HIB.out.keep (below_alloc _ _)) (by rw [zl_length]; exact hn1) (by rw [zl_length]; exact hn1) (by rw [zl_length]; omega) (by rw [zl_length]; omega)).mono ?_
      rintro e w3 ⟨v3, rfl, ho3, hb3⟩
      rw [zl_wide] at ho3
      obtain ⟨p3, n3, c3, rfl⟩ := ho3.slice
      have HO3 := Lib.hid (ho3.mono (by simp : wr.heap.size ≤ (wr.alloc _).heap.size))
      have HB3 := Lib.hid ((below_alloc wr _).trans (hb3.mono (by simp)))
      clear ho3 hb3
      go_wp2_with (at_builtin; refine wp_pushM HO.out HB3.out HO3.out rfl _ _ rfl rfl rfl (by first | with_reducible rfl | simp) (by omega) (by rw [tabF_length]; omega) ?_; intro v' w4 ho4 hb4)
      go_roundw
      case rel => exact ⟨k + 1, by omega, by go_num, by rw [tabF_snoc]; exact ho4, (HB.out.trans (HB3.out.mono hsz)).trans hb4⟩
      case measure => simp [intOf]; omega
    · obtain rfl : n = k := by omega
      have HO := Lib.hid hown
      have HB := Lib.hid hbel
      have hsz := hbel.size
      clear hown hbel
      go_wp2_with fail
      refine (c_reduce _ n (n + n) (wide n f) _ (HO.out.rows (by rw [tabF_length]; omega) (fun xs hx => by rw [tabF_mem hx]; omega)) (by omega) (by omega) (by omega)).mono ?_
      rintro e w5 ⟨v5, rfl, ho5, hb5⟩
      have HB5 : Hid (Below w.heap.size w w5) := Lib.hid ((HB1.out.trans (HB.out.mono HB1.out.size)).trans (hb5.mono (Nat.le_trans HB1.out.size hsz)))
      have hsz5 := HB5.out.size
      obtain ⟨p, hp⟩ := Fus.red_redR n (wide n f) (n + n)
      have hdn := hp.le
      have HGAP : Hid (D n f = 0 → ∃ i, i < (redR n (wide n f) (n + n)).d ∧ (redR n (wide n f) (n + n)).f i i ≠ 1) := Lib.hid wide_gap
      have HFULL : Hid (D n f ≠ 0 → (redR n (wide n f) (n + n)).d = n ∧ ∀ i j, i < n → j < n + n → (redR n (wide n f) (n + n)).f i j = invW n f i j) := Lib.hid wide_full
      unfold basF at ho5
      clear hp hb5 HO HB
      generalize (redR n (wide n f) (n + n)).f = G at *
      generalize (redR n (wide n f) (n + n)).d = d at *
      by_cases hd0 : d = 0
      · exfalso
        by_cases hD : D n f = 0
        · obtain ⟨i, hi, _⟩ := HGAP.out hD; omega
        · have := (HFULL.out hD).1; omega
      · obtain ⟨g, cap, rfl, hg1, hg2⟩ := ho5.shape' (by rw [tabF_length]; omega)
        rw [tabF_length] at ho5
        have HO5 := Lib.hid ho5
        clear ho5
        rw [tabF_length]
        by_cases hdn' : d = n
        · subst hdn'
          go_wp2_with fail
          go_loopw [10, 45] (fun s i wr => ∃ k : Nat, k ≤ d ∧ i = .int .i64 k ∧ OwnM wr w5.heap.size s (tabF k d fun i j => G i (d + j)) ∧ Hid (∀ i, i < k → G i i = 1) ∧ Below w5.heap.size w5 wr) (fun _ i _ => d - (intOf i).toNat)
          case atStart => exact ⟨0, Nat.zero_le _, rfl, ownM_empty _ _ (Nat.le_refl _), fun i hi => by omega, below_alloc _ _⟩
          case round =>
            obtain ⟨k, hk, rfl, hown, HONE, hbel⟩ := hrel
            by_cases hlt : k < d
            · have hmat := HO5.out.keep hbel
              obtain ⟨gk, ck, hcellk, hok, hgkg, _, _⟩ := hmat.rowK (k := k) (tabF_at (d + d) G hlt) (by rw [zl_length]; omega)
              rw [zl_length] at hcellk hok
              have hck := Own.capLe hok
              have hx := Own.cell hok (i := k) (u := vi (toI (G k k))) (by rw [List.getElem?_map, zl_at _ (by omega)]; rfl)
              have HDR : Hid (Ints wr (.slice (some ⟨gk, d, none⟩) d (ck - d)) (zl d fun j => G k (d + j))) := Lib.hid (by
                have := OwnI.dropI (d := d) (cap' := ck - d) hok (by rw [zl_length]; omega)
                rwa [zl_drop, show d + d - d = d by omega] at this)
              have HO := Lib.hid hown
              have HB := Lib.hid hbel
              have hsz6 := hbel.size
              clear hmat hok hown hbel
              by_cases h1 : G k k = 1
              · rw [h1, Fus.toI_one] at hx
                have HON2 : Hid (∀ i, i < k + 1 → G i i = 1) := Lib.hid (fun i hi => by
                  by_cases e : i = k
                  · rw [e]; exact h1
                  · exact HONE.out i (by omega))
                clear h1 HONE
                go_wp2_with fail
                refine (c_Clone _ (zl d fun j => G k (d + j)) _ HDR.out (by rw [zl_length]; omega) (by rw [zl_length]; omega)).mono ?_
                rintro e w6 ⟨v6, rfl, ho6, hb6⟩
                obtain ⟨p6, n6, c6, rfl⟩ := ho6.slice
                have HO6 := Lib.hid ho6
                have HB6 := Lib.hid hb6
                clear ho6 hb6
                go_wp2_with (at_builtin; refine wp_pushM HO.out HB6.out HO6.out rfl _ _ rfl rfl rfl (by first | with_reducible rfl | simp) (by omega) (by rw [tabF_length]; omega) ?_; intro v' w7 ho7 hb7)
                go_roundw
                case rel => exact ⟨k + 1, by omega, by go_num, by rw [tabF_snoc]; exact ho7, HON2.out, (HB.out.trans (HB6.out.mono hsz6)).trans hb7⟩
                case measure => simp [intOf]; omega
              · have hne : ¬ toI (G k k) = 1 := fun e => h1 (Fus.toI_inj (e.trans Fus.toI_one.symm))
                have hneB : (toI (G k k) == 1) = false := by simpa using hne
                have HZ : Hid (D d f = 0) := Lib.hid (Decidable.byContradiction fun hD => h1 (by
                  rw [(HFULL.out hD).2 k k hlt (by omega)]; show invW d f k k = 1; unfold invW one; rw [if_pos hlt, if_pos rfl]))
                clear h1
                go_wp2_with fail
                go_ret
                exact ⟨HB5.out.trans (HB.out.mono hsz5), Or.inr ⟨HZ.out, rfl⟩⟩
            · obtain rfl : d = k := by omega
              have HNZ : Hid (D d f ≠ 0) := Lib.hid (fun hD => by obtain ⟨i, hi, hne⟩ := HGAP.out hD; exact hne (HONE.out i hi))
              have HEQ : Hid (tabF d d (fun i j => G i (d + j)) = tabF d d (invM d f)) := Lib.hid (tabF_congr fun i j hi hj => by
                show G i (d + j) = _
                rw [(HFULL.out HNZ.out).2 i (d + j) hi (by omega)]; unfold invW; rw [if_neg (by omega), show d + j - d = j by omega])
              rw [HEQ.out] at hown
              have HO := Lib.hid hown
              have HB := Lib.hid hbel
              clear hown hbel
              go_wp2_with fail
              go_ret
              exact ⟨HB5.out.trans (HB.out.mono hsz5), Or.inl ⟨HNZ.out, _, rfl, HO.out.mono hsz5⟩⟩
        · have HZ : Hid (D n f = 0) := Lib.hid (Decidable.byContradiction fun hD => hdn' (HFULL.out hD).1)
          have hlt : d < n := by omega
          have hltI : (d : Int) < n := by omega
          obtain ⟨gk, ck, hcellk, hok, hgkg, _, _⟩ := HO5.out.rowK (k := 0) (tabF_at (n + n) G (by omega : 0 < d)) (by rw [zl_length]; omega)
          rw [zl_length] at hcellk hok
          have hx := Own.cell hok (i := 0) (u := vi (toI (G 0 0))) (by rw [List.getElem?_map, zl_at _ (by omega)]; rfl)
          have hdI : (0 : Int) < d := by omega
          clear hok hdn'
          go_wp2_with fail
          go_loopw [10, 45] (fun s i wr => i = .int .i64 0 ∧ Below w5.heap.size w5 wr) (fun _ _ _ => 0)
          case atStart => exact ⟨rfl, below_alloc _ _⟩
          case round =>
            obtain ⟨rfl, hbel⟩ := hrel
            have hc1 := bcell hbel hcellk
            have hc2 := bcell hbel hx
            have HB := Lib.hid hbel
            clear hbel
            by_cases h1 : toI (G 0 0) = 1
            · rw [h1] at hc2
              go_wp2_with fail
              go_ret
              exact ⟨HB5.out.trans (HB.out.mono hsz5), Or.inr ⟨HZ.out, rfl⟩⟩
            · have hneB : (toI (G 0 0) == 1) = false := by simpa using h1
              go_wp2_with fail
              go_ret
              exact ⟨HB5.out.trans (HB.out.mono hsz5), Or.inr ⟨HZ.out, rfl⟩⟩
end Go.Proofs.Ytmbcncmmgfnlmaa

/- Walks: inverse matrices by the reference. -/
namespace Go.Proofs.Ytmbcncmmgfnlmaa
open Go.RowKit
open Fus (F Mx toI ofI toI_bd one wide invM invW wide_full wide_gap D redR)
attribute [local go_sem ↓] Go.wp_at_zero Go.wp_at_succ
set_option maxRecDepth 100000 in
set_option maxHeartbeats 4000000 in
theorem c_l02Inverse (v : Value) (n : Nat) (f : Mx) (w : World) (hv : IntRows w v (tabF n n f)) (hn1 : 0 < n) (hn2 : n ≤ 500) (hD : D n f ≠ 0) :
    Calls Try.prog 68 #[v] w (RetM (tabF n n (invM n f)) w) := by
  have HF := Lib.hid (wide_full hD)
  obtain ⟨a, cap, rfl, _, hc⟩ := hv
  have HC := Lib.hid hc
  clear hc hD
  rw [tabF_length]
  go_enter Try.func68, Try.ntmps68
  go_wp2_with fail
  refine (c_l02Unit n _ (by omega)).mono ?_
  rintro e w1 ⟨v1, rfl, ho1, hb1⟩
  have hsz0 := hb1.size
  have HB1 := Lib.hid hb1
  obtain ⟨g1, cap1, rfl, hg1, hg1'⟩ := ho1.shape' (by rw [tabF_length]; exact hn1)
  rw [tabF_length] at ho1
  rw [tabF_length]
  have HU1 := Lib.hid (ho1.mono (B' := w.heap.size + 1) (by simp))
  have hg1 : w.heap.size < g1 := by simp at hg1; omega
  clear ho1
  have HB01 : Hid (Below w.heap.size w w1) := Lib.hid ((below_alloc w _).trans (HB1.out.mono (by simp)))
  have hszA := HB01.out.size
  have hsz1 : w.heap.size < w1.heap.size := by omega
  have HE1 : Hid (OwnM w1 w.heap.size (.slice (some ⟨w.heap.size, 0, none⟩) 0 0) []) := Lib.hid ((ownM_empty w w.heap.size (Nat.le_refl _)).keep HB1.out)
  clear hsz0 HB1
  go_wp2_with fail
  go_loopw [3, 5] (fun s i wr => ∃ k : Nat, k ≤ n ∧ i = .int .i64 k ∧ OwnM wr w.heap.size s (tabF k (n + n) (wide n f)) ∧ Below w.heap.size w wr ∧ w1.heap.size ≤ wr.heap.size ∧ Hid (∀ g, w.heap.size < g → g < w1.heap.size → wr.heap[g]? = w1.heap[g]? ∧ s.ownBlock ≠ some g)) (fun _ i _ => n - (intOf i).toNat)
  case atStart => exact ⟨0, Nat.zero_le _, rfl, HE1.out, HB01.out, Nat.le_refl _, fun g h1 h2 => ⟨rfl, fun e => by simp [Value.ownBlock] at e; omega⟩⟩
  case round =>
    obtain ⟨k, hk, rfl, hown, hbel, hsz2, HS⟩ := hrel
    by_cases hlt : k < n
    · obtain ⟨b, off, q, rfl, hcell, hI⟩ := HC.out k _ (tabF_at n f hlt)
      obtain ⟨qa, qc, hqe, _⟩ := id hI
      rw [zl_length] at hqe
      subst hqe
      have hcA := bkeep hbel (Ints.lt hcell) hcell
      obtain ⟨gk, ck, hcellk, hok, hgkg, hgk1, hgk2⟩ := HU1.out.rowK (k := k) (tabF_at n one hlt) (by rw [zl_length]; exact hn1)
      have hS1 := HS.out g1 hg1 hg1'
      have hSk := HS.out gk hgk1 hgk2
      rw [zl_length] at hcellk hok
      have hcB := cell_same hS1.1 hcellk
      have HIB : Hid (∀ i y, (zl n (one k))[i]? = some y → wr.cell? ⟨gk, 0 + i, none⟩ = some (.int .i64 y)) := Lib.hid (fun i y hy => cell_same hSk.1 (by rw [Nat.zero_add]; exact Own.cell hok (by rw [List.getElem?_map, hy]; rfl)))
      have HIA : Hid (Ints wr.drew (.slice qa n qc) (zl n (f k))) := Lib.hid (Ints.ofHeap (w := wr) rfl (hI.keep hbel))
      have HO := Lib.hid hown
      have HB := Lib.hid hbel
      have hsz := hbel.size
      clear hcell hI hown hbel hcellk hok hS1 hSk
      go_wp2_with fail
      go_region_law
        (first
          | (refine step_appendI (b := gk) (off := 0) ho5 (fun i y hy => bcell hb5 (HIB.out i y hy)) (by rfl) _ _ (by rfl) (by rfl) (by rfl) (zl_length _ _).symm (by have := hb5.size; omega) (by rw [zl_length]; omega) (by rw [zl_length]; omega) ?_; intro v6 w6 ho6 hb6; obtain ⟨p6, n6, c6, rfl⟩ := ho6.slice)
          | (refine step_pushM3 (w0 := wr) HO.out (below_drewed (Below.refl _ _) (hb5.trans hb6)) ho6 (by rfl) _ _ (by rfl) (by rfl) (by rfl) (by first | with_reducible rfl | simp) hsz (by rw [tabF_length]; omega) ?_; intro v7 w7 ho7 hb7 hk7)
          | (go_simp; go_at_call 115; refine (c_l01Own _ (zl n (f k)) _ HIA.out (by rw [zl_length]; exact hn1) (by rw [zl_length]; omega)).mono ?_; rintro e w5 ⟨v5, rfl, ho5, hb5⟩; obtain ⟨p5, n5, c5, rfl⟩ := ho5.slice; have hcB5 := bcell hb5 hcB; have hcA5 := bcell hb5 hcA))
      all_goals
        have hb56 := hb5.trans hb6
        have HS2 : Hid (∀ g, w.heap.size < g → g < w1.heap.size → w7.heap[g]? = w1.heap[g]? ∧ v7.ownBlock ≠ some g) := Lib.hid (fun g h1 h2 => by
          obtain ⟨e1, e2⟩ := HS.out g h1 h2
          have hs56 := hb56.size
          have hlt2 : g < wr.heap.size := by omega
          obtain ⟨e3, e4⟩ := hk7 g (Nat.lt_of_lt_of_le hlt2 hs56) e2
          exact ⟨e3.trans ((hb56.block g hlt2).trans e1), e4⟩)
        have HO7 : Hid (OwnM w7 w.heap.size v7 (tabF (k + 1) (n + n) (wide n f))) := Lib.hid (by rw [tabF_snoc, ← zl_wide]; exact ho7)
        have HB7 : Hid (Below w.heap.size w w7) := Lib.hid ((below_drewed HB.out (hb56.mono hsz)).trans hb7)
        have hs7 : w1.heap.size ≤ w7.heap.size := Nat.le_trans hsz2 (Nat.le_trans hb56.size hb7.size)
        clear ho5 hb5 ho6 hb6 hb56 ho7 hb7 hk7 hcA hcB hcA5 hcB5 HS HO HB HIA HIB
        go_wp2_with fail
        go_roundw
        case rel => exact ⟨k + 1, by omega, by go_num, HO7.out, HB7.out, hs7, HS2.out⟩
        case measure => simp [intOf]; omega
    · obtain rfl : n = k := by omega
      have HI := Lib.hid (hown.rowsF (by omega) (by omega))
      have HB := Lib.hid hbel
      have hsz := hbel.size
      clear hown hbel HS
      go_wp2_with fail
      refine (c_l02Basis u3 n (n + n) (wide n f) _ HI.out (by omega) (by omega) (by omega)).mono ?_
      rintro e w5 ⟨v5, rfl, ho5, hb5⟩
      have e5 : basF n (n + n) (wide n f) = tabF n (n + n) (invW n f) := by unfold basF; rw [HF.out.1]; exact tabF_congr fun i j hi hj => HF.out.2 i j hi hj
      rw [e5] at ho5
      clear e5
      obtain ⟨g5, c5, rfl, _, _⟩ := ho5.shape' (by rw [tabF_length]; omega)
      rw [tabF_length] at ho5
      rw [tabF_length]
      have HO5 := Lib.hid ho5
      have HB5 : Hid (Below w.heap.size w w5) := Lib.hid (HB.out.trans (hb5.mono hsz))
      have hsz5 := HB5.out.size
      clear ho5 hb5 HB HI
      go_wp2_with fail
      go_loopw [6, 7] (fun s i wr => ∃ k : Nat, k ≤ n ∧ i = .int .i64 k ∧ OwnM wr w5.heap.size s (tabF k n fun i j => invW n f i (n + j)) ∧ Below w5.heap.size w5 wr) (fun _ i _ => n - (intOf i).toNat)
      case atStart => exact ⟨0, Nat.zero_le _, rfl, ownM_empty _ _ (Nat.le_refl _), below_alloc _ _⟩
      case round =>
        obtain ⟨k, hk, rfl, hown, hbel⟩ := hrel
        by_cases hlt : k < n
        · have hmat := HO5.out.keep hbel
          obtain ⟨gk, ck, hcellk, hok, hgkg, _, _⟩ := hmat.rowK (k := k) (tabF_at (n + n) (invW n f) hlt) (by rw [zl_length]; omega)
          rw [zl_length] at hcellk hok
          have hck := Own.capLe hok
          have HDR : Hid (Ints wr (.slice (some ⟨gk, n, none⟩) n (ck - n)) (zl n fun j => invW n f k (n + j))) := Lib.hid (by
            have := OwnI.dropI (d := n) (cap' := ck - n) hok (by rw [zl_length]; omega)
            rwa [zl_drop, show n + n - n = n by omega] at this)
          have HO := Lib.hid hown
          have HB := Lib.hid hbel
          have hsz6 := hbel.size
          clear hmat hok hown hbel
          go_wp2_with fail
          refine (c_l01Own _ (zl n fun j => invW n f k (n + j)) _ HDR.out (by rw [zl_length]; omega) (by rw [zl_length]; omega)).mono ?_
          rintro e w6 ⟨v6, rfl, ho6, hb6⟩
          obtain ⟨p6, n6, c6, rfl⟩ := ho6.slice
          have HO6 := Lib.hid ho6
          have HB6 := Lib.hid hb6
          clear ho6 hb6
          go_wp2_with (at_builtin; refine wp_pushM HO.out HB6.out HO6.out rfl _ _ rfl rfl rfl (by first | with_reducible rfl | simp) (by omega) (by rw [tabF_length]; omega) ?_; intro v' w7 ho7 hb7)
          go_roundw
          case rel => exact ⟨k + 1, by omega, by go_num, by rw [tabF_snoc]; exact ho7, (HB.out.trans (HB6.out.mono hsz6)).trans hb7⟩
          case measure => simp [intOf]; omega
        · obtain rfl : n = k := by omega
          have HEQ : Hid (tabF n n (fun i j => invW n f i (n + j)) = tabF n n (invM n f)) := Lib.hid (tabF_congr fun i j hi hj => by
            show invW n f i (n + j) = _
            unfold invW; rw [if_neg (by omega), show n + j - n = j by omega])
          rw [HEQ.out] at hown
          have HO := Lib.hid hown
          have HB := Lib.hid hbel
          clear hown hbel
          go_wp2_with fail
          go_ret
          exact ⟨_, rfl, HO.out.mono hsz5, HB5.out.trans (HB.out.mono hsz5)⟩
end Go.Proofs.Ytmbcncmmgfnlmaa
