/- Walks: inverse matrices by the reference. -/
import Derived.Test.YtjjoicbgnchkdaaInw
import Derived.Test.YtjjoicbgnchkdaaBas
import Derived.Test.YtjjoicbgnchkdaaAps
import Derived.Deep.DrawnRows
import Derived.Deep.AppendLies
namespace Go.Proofs.Ytjjoicbgnchkdaa
open Go.RowKit
open Fus (F Mx toI ofI toI_bd one wide invM invW wide_full wide_gap D redR)
attribute [local go_sem ↓] Go.wp_at_zero Go.wp_at_succ
set_option maxRecDepth 100000 in
set_option maxHeartbeats 4000000 in
theorem c_l02Inverse (v : Value) (n : Nat) (f : Mx) (w : World) (hv : IntRows w v (tabF n n f)) (hn1 : 0 < n) (hn2 : n ≤ 500) (hD : D n f ≠ 0) :
    Calls Try.prog 68 #[v] w (RetM (tabF n n (invM n f)) w) := by
  have HF := Lib.hid (wide_full hD)
  obtain ⟨a, cap, rfl, _, hc⟩ := hv
  have HC := Lib.hid hc
  clear hc hD
  rw [tabF_length]
  go_enter Try.func68, Try.ntmps68
  go_wp2_with fail
  refine (c_l02Unit n _ (by omega)).mono ?_
  rintro e w1 ⟨v1, rfl, ho1, hb1⟩
  have hsz0 := hb1.size
  have HB1 := Lib.hid hb1
  obtain ⟨g1, cap1, rfl, hg1, hg1'⟩ := ho1.shape' (by rw [tabF_length]; exact hn1)
  rw [tabF_length] at ho1
  rw [tabF_length]
  have HU1 := Lib.hid (ho1.mono (B' := w.heap.size + 1) (by simp))
  have hg1 : w.heap.size < g1 := by simp at hg1; omega
  clear ho1
  have HB01 : Hid (Below w.heap.size w w1) := Lib.hid ((below_alloc w _).trans (HB1.out.mono (by simp)))
  have hszA := HB01.out.size
  have hsz1 : w.heap.size < w1.heap.size := by omega
  have HE1 : Hid (OwnM w1 w.heap.size (.slice (some ⟨w.heap.size, 0, none⟩) 0 0) []) := Lib.hid ((ownM_empty w w.heap.size (Nat.le_refl _)).keep HB1.out)
  clear hsz0 HB1
  go_wp2_with fail
  go_loopw [3, 5] (fun s i wr => ∃ k : Nat, k ≤ n ∧ i = .int .i64 k ∧ OwnM wr w.heap.size s (tabF k (n + n) (wide n f)) ∧ Below w.heap.size w wr ∧ w1.heap.size ≤ wr.heap.size ∧ Hid (∀ g, w.heap.size < g → g < w1.heap.size → wr.heap[g]? = w1.heap[g]? ∧ s.ownBlock ≠ some g)) (fun _ i _ => n - (intOf i).toNat)
  case atStart => exact ⟨0, Nat.zero_le _, rfl, HE1.out, HB01.out, Nat.le_refl _, fun g h1 h2 => ⟨rfl, fun e => by simp [Value.ownBlock] at e; omega⟩⟩
  case round =>
    obtain ⟨k, hk, rfl, hown, hbel, hsz2, HS⟩ := hrel
    by_cases hlt : k < n
    · obtain ⟨b, off, q, rfl, hcell, hI⟩ := HC.out k _ (tabF_at n f hlt)
      obtain ⟨qa, qc, hqe, _⟩ := id hI
      rw [zl_length] at hqe
      subst hqe
      have hcA := bkeep hbel (Ints.lt hcell) hcell
      obtain ⟨gk, ck, hcellk, hok, hgkg, hgk1, hgk2⟩ := HU1.out.rowK (k := k) (tabF_at n one hlt) (by rw [zl_length]; exact hn1)
      have hS1 := HS.out g1 hg1 hg1'
      have hSk := HS.out gk hgk1 hgk2
      rw [zl_length] at hcellk hok
      have hcB := cell_same hS1.1 hcellk
      have HIB : Hid (∀ i y, (zl n (one k))[i]? = some y → wr.cell? ⟨gk, 0 + i, none⟩ = some (.int .i64 y)) := Lib.hid (fun i y hy => cell_same hSk.1 (by rw [Nat.zero_add]; exact Own.cell hok (by rw [List.getElem?_map, hy]; rfl)))
      have HIA : Hid (Ints wr.drew (.slice qa n qc) (zl n (f k))) := Lib.hid (Ints.ofHeap (w := wr) rfl (hI.keep hbel))
      have HO := Lib.hid hown
      have HB := Lib.hid hbel
      have hsz := hbel.size
      clear hcell hI hown hbel hcellk hok hS1 hSk
      go_wp2_with fail
      go_region_law
        (first
          | (refine step_appendI (b := gk) (off := 0) ho5 (fun i y hy => bcell hb5 (HIB.out i y hy)) (by rfl) _ _ (by rfl) (by rfl) (by rfl) (zl_length _ _).symm (by have := hb5.size; omega) (by rw [zl_length]; omega) (by rw [zl_length]; omega) ?_; intro v6 w6 ho6 hb6; obtain ⟨p6, n6, c6, rfl⟩ := ho6.slice)
          | (refine step_pushM3 (w0 := wr) HO.out (below_drewed (Below.refl _ _) (hb5.trans hb6)) ho6 (by rfl) _ _ (by rfl) (by rfl) (by rfl) (by first | with_reducible rfl | simp) hsz (by rw [tabF_length]; omega) ?_; intro v7 w7 ho7 hb7 hk7)
          | (go_simp; go_at_call 115; refine (c_l01Own _ (zl n (f k)) _ HIA.out (by rw [zl_length]; exact hn1) (by rw [zl_length]; omega)).mono ?_; rintro e w5 ⟨v5, rfl, ho5, hb5⟩; obtain ⟨p5, n5, c5, rfl⟩ := ho5.slice; have hcB5 := bcell hb5 hcB; have hcA5 := bcell hb5 hcA))
      all_goals
        have hb56 := hb5.trans hb6
        have HS2 : Hid (∀ g, w.heap.size < g → g < w1.heap.size → w7.heap[g]? = w1.heap[g]? ∧ v7.ownBlock ≠ some g) := Lib.hid (fun g h1 h2 => by
          obtain ⟨e1, e2⟩ := HS.out g h1 h2
          have hs56 := hb56.size
          have hlt2 : g < wr.heap.size := by omega
          obtain ⟨e3, e4⟩ := hk7 g (Nat.lt_of_lt_of_le hlt2 hs56) e2
          exact ⟨e3.trans ((hb56.block g hlt2).trans e1), e4⟩)
        have HO7 : Hid (OwnM w7 w.heap.size v7 (tabF (k + 1) (n + n) (wide n f))) := Lib.hid (by rw [tabF_snoc, ← zl_wide]; exact ho7)
        have HB7 : Hid (Below w.heap.size w w7) := Lib.hid ((below_drewed HB.out (hb56.mono hsz)).trans hb7)
        have hs7 : w1.heap.size ≤ w7.heap.size := Nat.le_trans hsz2 (Nat.le_trans hb56.size hb7.size)
        clear ho5 hb5 ho6 hb6 hb56 ho7 hb7 hk7 hcA hcB hcA5 hcB5 HS HO HB HIA HIB
        go_wp2_with fail
        go_roundw
        case rel => exact ⟨k + 1, by omega, by go_num, HO7.out, HB7.out, hs7, HS2.out⟩
        case measure => simp [intOf]; omega
    · obtain rfl : n = k := by omega
      have HI := Lib.hid (hown.rowsF (by omega) (by omega))
      have HB := Lib.hid hbel
      have hsz := hbel.size
      clear hown hbel HS
      go_wp2_with fail
      refine (c_l02Basis u3 n (n + n) (wide n f) _ HI.out (by omega) (by omega) (by omega)).mono ?_
      rintro e w5 ⟨v5, rfl, ho5, hb5⟩
      have e5 : basF n (n + n) (wide n f) = tabF n (n + n) (invW n f) := by unfold basF; rw [HF.out.1]; exact tabF_congr fun i j hi hj => HF.out.2 i j hi hj
      rw [e5] at ho5
      clear e5
      obtain ⟨g5, c5, rfl, _, _⟩ := ho5.shape' (by rw [tabF_length]; omega)
      rw [tabF_length] at ho5
      rw [tabF_length]
      have HO5 := Lib.hid ho5
      have HB5 : Hid (Below w.heap.size w w5) := Lib.hid (HB.out.trans (hb5.mono hsz))
      have hsz5 := HB5.out.size
      clear ho5 hb5 HB HI
      go_wp2_with fail
      go_loopw [6, 7] (fun s i wr => ∃ k : Nat, k ≤ n ∧ i = .int .i64 k ∧ OwnM wr w5.heap.size s (tabF k n fun i j => invW n f i (n + j)) ∧ Below w5.heap.size w5 wr) (fun _ i _ => n - (intOf i).toNat)
      case atStart => exact ⟨0, Nat.zero_le _, rfl, ownM_empty _ _ (Nat.le_refl _), below_alloc _ _⟩
      case round =>
        obtain ⟨k, hk, rfl, hown, hbel⟩ := hrel
        by_cases hlt : k < n
        · have hmat := HO5.out.keep hbel
          obtain ⟨gk, ck, hcellk, hok, hgkg, _, _⟩ := hmat.rowK (k := k) (tabF_at (n + n) (invW n f) hlt) (by rw [zl_length]; omega)
          rw [zl_length] at hcellk hok
          have hck := Own.capLe hok
          have HDR : Hid (Ints wr (.slice (some ⟨gk, n, none⟩) n (ck - n)) (zl n fun j => invW n f k (n + j))) := Lib.hid (by
            have := OwnI.dropI (d := n) (cap' := ck - n) hok (by rw [zl_length]; omega)
            rwa [zl_drop, show n + n - n = n by omega] at this)
          have HO := Lib.hid hown
          have HB := Lib.hid hbel
          have hsz6 := hbel.size
          clear hmat hok hown hbel
          go_wp2_with fail
          refine (c_l01Own _ (zl n fun j => invW n f k (n + j)) _ HDR.out (by rw [zl_length]; omega) (by rw [zl_length]; omega)).mono ?_
          rintro e w6 ⟨v6, rfl, ho6, hb6⟩
          obtain ⟨p6, n6, c6, rfl⟩ := ho6.slice
          have HO6 := Lib.hid ho6
          have HB6 := Lib.hid hb6
          clear ho6 hb6
          go_wp2_with (at_builtin; refine wp_pushM HO.out HB6.out HO6.out rfl _ _ rfl rfl rfl (by first | with_reducible rfl | simp) (by omega) (by rw [tabF_length]; omega) ?_; intro v' w7 ho7 hb7)
          go_roundw
          case rel => exact ⟨k + 1, by omega, by go_num, by rw [tabF_snoc]; exact ho7, (HB.out.trans (HB6.out.mono hsz6)).trans hb7⟩
          case measure => simp [intOf]; omega
        · obtain rfl : n = k := by omega
          have HEQ : Hid (tabF n n (fun i j => invW n f i (n + j)) = tabF n n (invM n f)) := Lib.hid (tabF_congr fun i j hi hj => by
            show invW n f i (n + j) = _
            unfold invW; rw [if_neg (by omega), show n + j - n = j by omega])
          rw [HEQ.out] at hown
          have HO := Lib.hid hown
          have HB := Lib.hid hbel
          clear hown hbel
          go_wp2_with fail
          go_ret
          exact ⟨_, rfl, HO.out.mono hsz5, HB5.out.trans (HB.out.mono hsz5)⟩
end Go.Proofs.Ytjjoicbgnchkdaa
