/- The laws' walks of near-group rings. -/
import Derived.Test.YtnhdnogcglmjdaaRnc
namespace Go.Proofs.Ytnhdnogcglmjdaa
open Go.RowKit
set_option maxHeartbeats 4000000 in
theorem w_FnExactNearGroup (u : Value) (xs : List Int) (q : Int) (w : World) (hu : Ints w u xs) :
    Calls Try.prog 10 #[u, .int .i64 q] w fun e w' => e = .returned (.bool true) ∧ Below w.heap.size w w' := by
  obtain ⟨⟨SL, SR⟩, SN, SC, SM⟩ := nearN_small xs q
  have SR := Lib.hid SR
  have SM := Lib.hid SM
  obtain ⟨r, hr⟩ : ∃ r, r = nearN xs q := ⟨_, rfl⟩
  rw [← hr] at SL SR SN SC SM
  have HR := Lib.hid hr
  clear hr
  have HU := Lib.hid hu
  obtain ⟨pu, cu, rfl, lu, _⟩ := hu
  have HB : Hid (Below w.heap.size w w) := Lib.hid (Below.refl _ _)
  by_cases lx : xs.length ≤ 1048576
  case neg =>
    go_enter Try.func10, Try.ntmps10
    go_wp2_with fail
    go_ret
    exact ⟨rfl, Below.refl _ _⟩
  go_enter Try.func10, Try.ntmps10
  go_wp2_with fail
  refine (c_toInt64S _ xs _ (HU.out.keep HB.out)).mono ?_
  rintro e w1 ⟨v1, rfl, ho1, hb1⟩
  have X1 := Lib.hid ho1.bound
  clear ho1
  have hz1 : w.heap.size ≤ w1.heap.size := hb1.size
  have HB := Lib.hid (HB.out.trans (hb1.mono HB.out.size))
  clear hb1
  go_wp2_with fail
  refine (c_SNearGroup _ xs q _ (X1.out.ints (by omega))).mono ?_
  rw [← HR.out]
  rintro e w2 ⟨s2, rfl, ho2, hb2⟩
  obtain ⟨sp2, sn2, sc2, rfl⟩ := ho2.slice
  have OW := Lib.hid ho2
  clear ho2
  have hz2 : w1.heap.size ≤ w2.heap.size := hb2.size
  have HB := Lib.hid (HB.out.trans (hb2.mono HB.out.size))
  have X1 := Lib.hid (X1.out.keep hb2 (by first | omega | (simp; done) | (simp; omega)))
  clear hb2
  have HB := Lib.hid (HB.out.alloc (by omega) (.cells #[.slice sp2 sn2 sc2] 31))
  have X1 := Lib.hid (X1.out.keep (below_alloc _ (.cells #[.slice sp2 sn2 sc2] 31)) (by omega))
  have OW := Lib.hid (OW.out.alloc (by omega) (.cells #[.slice sp2 sn2 sc2] 31))
  go_wp2_with fail
  clear X1
  refine (c_toInt64S _ xs _ (HU.out.keep HB.out)).mono ?_
  rintro e w3 ⟨v3, rfl, ho3, hb3⟩
  simp only [World.size_alloc] at ho3
  have X2 := Lib.hid ho3.bound
  clear ho3
  have hz3 : w2.heap.size + 1 ≤ w3.heap.size := by have := hb3.size; simpa using this
  have hcw : w3.cell? ⟨w2.heap.size, 0, none⟩ = some (.slice sp2 sn2 sc2) := bcell hb3 (by simp)
  have hcwl : w2.heap.size < w3.heap.size := by omega
  have HB := Lib.hid (HB.out.trans (hb3.mono HB.out.size))
  have OW := Lib.hid (OW.out.keep hb3 (by first | omega | (simp; done) | (simp; omega)))
  clear hb3
  go_wp2_with fail
  refine (c_NearGroup _ xs q _ (X2.out.ints (by omega))).mono ?_
  rw [← HR.out]
  rintro e w4 ⟨s4, rfl, ho4, hb4⟩
  obtain ⟨sp4, sn4, sc4, rfl⟩ := ho4.slice
  have OG := Lib.hid ho4
  clear ho4
  have hz4 : w3.heap.size ≤ w4.heap.size := hb4.size
  have hcw : w4.cell? ⟨w2.heap.size, 0, none⟩ = some (.slice sp2 sn2 sc2) := bcell hb4 hcw
  have hcwl : w2.heap.size < w4.heap.size := by omega
  have HB := Lib.hid (HB.out.trans (hb4.mono HB.out.size))
  have OW := Lib.hid (OW.out.keep hb4 (by first | omega | (simp; done) | (simp; omega)))
  have X2 := Lib.hid (X2.out.keep hb4 (by first | omega | (simp; done) | (simp; omega)))
  clear hb4
  have HB := Lib.hid (HB.out.alloc (by omega) (.cells #[.slice sp4 sn4 sc4] 31))
  have OW := Lib.hid (OW.out.alloc (by omega) (.cells #[.slice sp4 sn4 sc4] 31))
  have X2 := Lib.hid (X2.out.keep (below_alloc _ (.cells #[.slice sp4 sn4 sc4] 31)) (by omega))
  have OG := Lib.hid (OG.out.alloc (by omega) (.cells #[.slice sp4 sn4 sc4] 31))
  go_wp2_with fail
  refine (c_eqRing _ _ _ _ (OG.out.cubes SL SR.out) (OW.out.cubes SL SR.out)).mono ?_
  rintro e w5 ⟨rfl, hb5⟩
  have hz5 : w4.heap.size + 1 ≤ w5.heap.size := by have := hb5.size; simpa using this
  have hcw : w5.cell? ⟨w2.heap.size, 0, none⟩ = some (.slice sp2 sn2 sc2) := bcell hb5 (bcell (below_alloc _ _) hcw)
  have hcwl : w2.heap.size < w5.heap.size := by omega
  have hcg : w5.cell? ⟨w4.heap.size, 0, none⟩ = some (.slice sp4 sn4 sc4) := bcell hb5 (by simp)
  have hcgl : w4.heap.size < w5.heap.size := by omega
  have HB := Lib.hid (HB.out.trans (hb5.mono HB.out.size))
  have OW := Lib.hid (OW.out.keep hb5 (by first | omega | (simp; done) | (simp; omega)))
  have X2 := Lib.hid (X2.out.keep hb5 (by first | omega | (simp; done) | (simp; omega)))
  have OG := Lib.hid (OG.out.keep hb5 (by first | omega | (simp; done) | (simp; omega)))
  clear hb5
  go_wp2_with fail
  refine (c_toInt64S _ xs _ (HU.out.keep HB.out)).mono ?_
  rintro e w6 ⟨v6, rfl, ho6, hb6⟩
  have X3 := Lib.hid ho6.bound
  clear ho6
  have hz6 : w5.heap.size ≤ w6.heap.size := hb6.size
  have hcw : w6.cell? ⟨w2.heap.size, 0, none⟩ = some (.slice sp2 sn2 sc2) := bcell hb6 hcw
  have hcwl : w2.heap.size < w6.heap.size := by omega
  have hcg : w6.cell? ⟨w4.heap.size, 0, none⟩ = some (.slice sp4 sn4 sc4) := bcell hb6 hcg
  have hcgl : w4.heap.size < w6.heap.size := by omega
  have HB := Lib.hid (HB.out.trans (hb6.mono HB.out.size))
  have OW := Lib.hid (OW.out.keep hb6 (by first | omega | (simp; done) | (simp; omega)))
  have X2 := Lib.hid (X2.out.keep hb6 (by first | omega | (simp; done) | (simp; omega)))
  have OG := Lib.hid (OG.out.keep hb6 (by first | omega | (simp; done) | (simp; omega)))
  clear hb6
  go_wp2_with fail
  refine (c_eqInt64S _ _ xs xs _ (X2.out.ints (by omega)) (X3.out.ints (by omega))).mono ?_
  rintro e w7 ⟨rfl, hb7⟩
  rw [eqL_self]
  have hz7 : w6.heap.size ≤ w7.heap.size := hb7.size
  have hcw : w7.cell? ⟨w2.heap.size, 0, none⟩ = some (.slice sp2 sn2 sc2) := bcell hb7 hcw
  have hcwl : w2.heap.size < w7.heap.size := by omega
  have hcg : w7.cell? ⟨w4.heap.size, 0, none⟩ = some (.slice sp4 sn4 sc4) := bcell hb7 hcg
  have hcgl : w4.heap.size < w7.heap.size := by omega
  have HB := Lib.hid (HB.out.trans (hb7.mono HB.out.size))
  have OW := Lib.hid (OW.out.keep hb7 (by first | omega | (simp; done) | (simp; omega)))
  have X2 := Lib.hid (X2.out.keep hb7 (by first | omega | (simp; done) | (simp; omega)))
  have OG := Lib.hid (OG.out.keep hb7 (by first | omega | (simp; done) | (simp; omega)))
  have X3 := Lib.hid (X3.out.keep hb7 (by first | omega | (simp; done) | (simp; omega)))
  clear hb7
  go_wp2_with fail
  clear X3
  refine (c_markIB _ _ 1 _ _ _ X2.out (by omega) (by omega) (by omega)).mono ?_
  rintro e w8 ⟨rfl, ho8, ht8⟩
  clear ho8
  have hz8 : w8.heap.size = w7.heap.size := ht8.size
  have hcw : w8.cell? ⟨w2.heap.size, 0, none⟩ = some (.slice sp2 sn2 sc2) := cell_sameD (ht8.block _ (fun hk => by have h1 := hk.1; have h2 := hk.2; (try simp at h1 h2); omega)) hcw
  have hcwl : w2.heap.size < w8.heap.size := by omega
  have hcg : w8.cell? ⟨w4.heap.size, 0, none⟩ = some (.slice sp4 sn4 sc4) := cell_sameD (ht8.block _ (fun hk => by have h1 := hk.1; have h2 := hk.2; (try simp at h1 h2); omega)) hcg
  have hcgl : w4.heap.size < w8.heap.size := by omega
  have HB := Lib.hid (Touch.below HB.out ht8 (fun k hk => by have h1 := hk.1; (try simp at h1); omega))
  have OW := Lib.hid (OW.out.touch ht8 (fun k hk => by have h1 := hk.1; have h2 := hk.2; (try simp at h1 h2); omega))
  have OG := Lib.hid (OG.out.touch ht8 (fun k hk => by have h1 := hk.1; have h2 := hk.2; (try simp at h1 h2); omega))
  clear ht8 X2
  go_wp2_with fail
  refine (c_eqRing _ _ _ _ (OG.out.cubes SL SR.out) (OW.out.cubes SL SR.out)).mono ?_
  rintro e w9 ⟨rfl, hb9⟩
  have hz9 : w8.heap.size ≤ w9.heap.size := hb9.size
  have hcw : w9.cell? ⟨w2.heap.size, 0, none⟩ = some (.slice sp2 sn2 sc2) := bcell hb9 hcw
  have hcwl : w2.heap.size < w9.heap.size := by omega
  have hcg : w9.cell? ⟨w4.heap.size, 0, none⟩ = some (.slice sp4 sn4 sc4) := bcell hb9 hcg
  have hcgl : w4.heap.size < w9.heap.size := by omega
  have HB := Lib.hid (HB.out.trans (hb9.mono HB.out.size))
  have OW := Lib.hid (OW.out.keep hb9 (by first | omega | (simp; done) | (simp; omega)))
  have OG := Lib.hid (OG.out.keep hb9 (by first | omega | (simp; done) | (simp; omega)))
  clear hb9
  go_wp2_with fail
  refine (c_markRing _ _ 1 _ _ _ OG.out (by omega) (by omega) SL SR.out (by omega) (by omega)).mono ?_
  rintro e w10 ⟨rfl, ho10, hb10, hx10⟩
  have hz10 := hb10.size
  have hcw : w10.cell? ⟨w2.heap.size, 0, none⟩ = some (.slice sp2 sn2 sc2) := cell_sameD (hb10.block _ (by omega)) hcw
  have hcg : w10.cell? ⟨w4.heap.size, 0, none⟩ = some (.slice sp4 sn4 sc4) := cell_sameD (hx10 _ (Nat.le_refl _) (by omega)) hcg
  have hcwl : w2.heap.size < w10.heap.size := by omega
  have hcgl : w4.heap.size < w10.heap.size := by omega
  have HB := Lib.hid (HB.out.trans (hb10.mono (by omega)))
  have OW := Lib.hid (OW.out.keep hb10 (by omega))
  have OG := Lib.hid ho10
  clear hb10 ho10 hx10
  go_wp2_with fail
  refine (c_heldRing _ _ 1 _ (OG.out.cubes (SM.out 1).1 (SM.out 1).2) (by omega) (by omega)).mono ?_
  rintro e w11 ⟨rfl, hb11⟩
  have hz11 : w10.heap.size ≤ w11.heap.size := hb11.size
  have hcw : w11.cell? ⟨w2.heap.size, 0, none⟩ = some (.slice sp2 sn2 sc2) := bcell hb11 hcw
  have hcwl : w2.heap.size < w11.heap.size := by omega
  have hcg : w11.cell? ⟨w4.heap.size, 0, none⟩ = some (.slice sp4 sn4 sc4) := bcell hb11 hcg
  have hcgl : w4.heap.size < w11.heap.size := by omega
  have HB := Lib.hid (HB.out.trans (hb11.mono HB.out.size))
  have OW := Lib.hid (OW.out.keep hb11 (by first | omega | (simp; done) | (simp; omega)))
  have OG := Lib.hid (OG.out.keep hb11 (by first | omega | (simp; done) | (simp; omega)))
  clear hb11
  go_wp2_with fail
  refine (c_toInt64S _ xs _ (HU.out.keep HB.out)).mono ?_
  rintro e w12 ⟨v12, rfl, ho12, hb12⟩
  have X4 := Lib.hid ho12.bound
  clear ho12
  have hz12 : w11.heap.size ≤ w12.heap.size := hb12.size
  have hcw : w12.cell? ⟨w2.heap.size, 0, none⟩ = some (.slice sp2 sn2 sc2) := bcell hb12 hcw
  have hcwl : w2.heap.size < w12.heap.size := by omega
  have hcg : w12.cell? ⟨w4.heap.size, 0, none⟩ = some (.slice sp4 sn4 sc4) := bcell hb12 hcg
  have hcgl : w4.heap.size < w12.heap.size := by omega
  have HB := Lib.hid (HB.out.trans (hb12.mono HB.out.size))
  have OW := Lib.hid (OW.out.keep hb12 (by first | omega | (simp; done) | (simp; omega)))
  have OG := Lib.hid (OG.out.keep hb12 (by first | omega | (simp; done) | (simp; omega)))
  clear hb12
  go_wp2_with fail
  refine (c_NearGroup _ xs q _ (X4.out.ints (by omega))).mono ?_
  rw [← HR.out]
  rintro e w13 ⟨s13, rfl, ho13, hb13⟩
  obtain ⟨sp13, sn13, sc13, rfl⟩ := ho13.slice
  have OH := Lib.hid ho13
  clear ho13
  have hz13 : w12.heap.size ≤ w13.heap.size := hb13.size
  have hcw : w13.cell? ⟨w2.heap.size, 0, none⟩ = some (.slice sp2 sn2 sc2) := bcell hb13 hcw
  have hcwl : w2.heap.size < w13.heap.size := by omega
  have hcg : w13.cell? ⟨w4.heap.size, 0, none⟩ = some (.slice sp4 sn4 sc4) := bcell hb13 hcg
  have hcgl : w4.heap.size < w13.heap.size := by omega
  have HB := Lib.hid (HB.out.trans (hb13.mono HB.out.size))
  have OW := Lib.hid (OW.out.keep hb13 (by first | omega | (simp; done) | (simp; omega)))
  have OG := Lib.hid (OG.out.keep hb13 (by first | omega | (simp; done) | (simp; omega)))
  have X4 := Lib.hid (X4.out.keep hb13 (by first | omega | (simp; done) | (simp; omega)))
  clear hb13
  have HB := Lib.hid (HB.out.alloc (by omega) (.cells #[.slice sp13 sn13 sc13] 31))
  have OW := Lib.hid (OW.out.alloc (by omega) (.cells #[.slice sp13 sn13 sc13] 31))
  have OG := Lib.hid (OG.out.alloc (by omega) (.cells #[.slice sp13 sn13 sc13] 31))
  have X4 := Lib.hid (X4.out.keep (below_alloc _ (.cells #[.slice sp13 sn13 sc13] 31)) (by omega))
  have OH := Lib.hid (OH.out.alloc (by omega) (.cells #[.slice sp13 sn13 sc13] 31))
  go_wp2_with fail
  clear X4
  refine (c_eqRing _ _ _ _ (OH.out.cubes SL SR.out) (OW.out.cubes SL SR.out)).mono ?_
  rintro e w14 ⟨rfl, hb14⟩
  have hz14 : w13.heap.size + 1 ≤ w14.heap.size := by have := hb14.size; simpa using this
  have hcw : w14.cell? ⟨w2.heap.size, 0, none⟩ = some (.slice sp2 sn2 sc2) := bcell hb14 (bcell (below_alloc _ _) hcw)
  have hcwl : w2.heap.size < w14.heap.size := by omega
  have hcg : w14.cell? ⟨w4.heap.size, 0, none⟩ = some (.slice sp4 sn4 sc4) := bcell hb14 (bcell (below_alloc _ _) hcg)
  have hcgl : w4.heap.size < w14.heap.size := by omega
  have hch : w14.cell? ⟨w13.heap.size, 0, none⟩ = some (.slice sp13 sn13 sc13) := bcell hb14 (by simp)
  have hchl : w13.heap.size < w14.heap.size := by omega
  have HB := Lib.hid (HB.out.trans (hb14.mono HB.out.size))
  have OW := Lib.hid (OW.out.keep hb14 (by first | omega | (simp; done) | (simp; omega)))
  have OG := Lib.hid (OG.out.keep hb14 (by first | omega | (simp; done) | (simp; omega)))
  have OH := Lib.hid (OH.out.keep hb14 (by first | omega | (simp; done) | (simp; omega)))
  clear hb14
  go_wp2_with fail
  clear OH
  clear OW
  refine (c_heldRing _ _ 1 _ (OG.out.cubes (SM.out 1).1 (SM.out 1).2) (by omega) (by omega)).mono ?_
  rintro e w15 ⟨rfl, hb15⟩
  have hz15 : w14.heap.size ≤ w15.heap.size := hb15.size
  have hcw : w15.cell? ⟨w2.heap.size, 0, none⟩ = some (.slice sp2 sn2 sc2) := bcell hb15 hcw
  have hcwl : w2.heap.size < w15.heap.size := by omega
  have hcg : w15.cell? ⟨w4.heap.size, 0, none⟩ = some (.slice sp4 sn4 sc4) := bcell hb15 hcg
  have hcgl : w4.heap.size < w15.heap.size := by omega
  have hch : w15.cell? ⟨w13.heap.size, 0, none⟩ = some (.slice sp13 sn13 sc13) := bcell hb15 hch
  have hchl : w13.heap.size < w15.heap.size := by omega
  have HB := Lib.hid (HB.out.trans (hb15.mono HB.out.size))
  have OG := Lib.hid (OG.out.keep hb15 (by first | omega | (simp; done) | (simp; omega)))
  clear hb15
  go_wp2_with fail
  go_ret
  exact ⟨rfl, HB.out⟩
set_option maxHeartbeats 4000000 in
theorem w_FnExactTambaraYamagami (u : Value) (xs : List Int) (w : World) (hu : Ints w u xs) :
    Calls Try.prog 11 #[u] w fun e w' => e = .returned (.bool true) ∧ Below w.heap.size w w' := by
  obtain ⟨⟨SL, SR⟩, SN, SC, SM⟩ := nearN_small xs 0
  have SR := Lib.hid SR
  have SM := Lib.hid SM
  obtain ⟨r, hr⟩ : ∃ r, r = nearN xs 0 := ⟨_, rfl⟩
  rw [← hr] at SL SR SN SC SM
  have HR := Lib.hid hr
  clear hr
  have HU := Lib.hid hu
  obtain ⟨pu, cu, rfl, lu, _⟩ := hu
  have HB : Hid (Below w.heap.size w w) := Lib.hid (Below.refl _ _)
  by_cases lx : xs.length ≤ 1048576
  case neg =>
    go_enter Try.func11, Try.ntmps11
    go_wp2_with fail
    go_ret
    exact ⟨rfl, Below.refl _ _⟩
  go_enter Try.func11, Try.ntmps11
  go_wp2_with fail
  refine (c_toInt64S _ xs _ (HU.out.keep HB.out)).mono ?_
  rintro e w1 ⟨v1, rfl, ho1, hb1⟩
  have X1 := Lib.hid ho1.bound
  clear ho1
  have hz1 : w.heap.size ≤ w1.heap.size := hb1.size
  have HB := Lib.hid (HB.out.trans (hb1.mono HB.out.size))
  clear hb1
  go_wp2_with fail
  refine (c_STambaraYamagami _ xs _ (X1.out.ints (by omega))).mono ?_
  rw [← HR.out]
  rintro e w2 ⟨s2, rfl, ho2, hb2⟩
  obtain ⟨sp2, sn2, sc2, rfl⟩ := ho2.slice
  have OW := Lib.hid ho2
  clear ho2
  have hz2 : w1.heap.size ≤ w2.heap.size := hb2.size
  have HB := Lib.hid (HB.out.trans (hb2.mono HB.out.size))
  have X1 := Lib.hid (X1.out.keep hb2 (by first | omega | (simp; done) | (simp; omega)))
  clear hb2
  have HB := Lib.hid (HB.out.alloc (by omega) (.cells #[.slice sp2 sn2 sc2] 31))
  have X1 := Lib.hid (X1.out.keep (below_alloc _ (.cells #[.slice sp2 sn2 sc2] 31)) (by omega))
  have OW := Lib.hid (OW.out.alloc (by omega) (.cells #[.slice sp2 sn2 sc2] 31))
  go_wp2_with fail
  clear X1
  refine (c_toInt64S _ xs _ (HU.out.keep HB.out)).mono ?_
  rintro e w3 ⟨v3, rfl, ho3, hb3⟩
  simp only [World.size_alloc] at ho3
  have X2 := Lib.hid ho3.bound
  clear ho3
  have hz3 : w2.heap.size + 1 ≤ w3.heap.size := by have := hb3.size; simpa using this
  have hcw : w3.cell? ⟨w2.heap.size, 0, none⟩ = some (.slice sp2 sn2 sc2) := bcell hb3 (by simp)
  have hcwl : w2.heap.size < w3.heap.size := by omega
  have HB := Lib.hid (HB.out.trans (hb3.mono HB.out.size))
  have OW := Lib.hid (OW.out.keep hb3 (by first | omega | (simp; done) | (simp; omega)))
  clear hb3
  go_wp2_with fail
  refine (c_TambaraYamagami _ xs _ (X2.out.ints (by omega))).mono ?_
  rw [← HR.out]
  rintro e w4 ⟨s4, rfl, ho4, hb4⟩
  obtain ⟨sp4, sn4, sc4, rfl⟩ := ho4.slice
  have OG := Lib.hid ho4
  clear ho4
  have hz4 : w3.heap.size ≤ w4.heap.size := hb4.size
  have hcw : w4.cell? ⟨w2.heap.size, 0, none⟩ = some (.slice sp2 sn2 sc2) := bcell hb4 hcw
  have hcwl : w2.heap.size < w4.heap.size := by omega
  have HB := Lib.hid (HB.out.trans (hb4.mono HB.out.size))
  have OW := Lib.hid (OW.out.keep hb4 (by first | omega | (simp; done) | (simp; omega)))
  have X2 := Lib.hid (X2.out.keep hb4 (by first | omega | (simp; done) | (simp; omega)))
  clear hb4
  have HB := Lib.hid (HB.out.alloc (by omega) (.cells #[.slice sp4 sn4 sc4] 31))
  have OW := Lib.hid (OW.out.alloc (by omega) (.cells #[.slice sp4 sn4 sc4] 31))
  have X2 := Lib.hid (X2.out.keep (below_alloc _ (.cells #[.slice sp4 sn4 sc4] 31)) (by omega))
  have OG := Lib.hid (OG.out.alloc (by omega) (.cells #[.slice sp4 sn4 sc4] 31))
  go_wp2_with fail
  refine (c_eqRing _ _ _ _ (OG.out.cubes SL SR.out) (OW.out.cubes SL SR.out)).mono ?_
  rintro e w5 ⟨rfl, hb5⟩
  have hz5 : w4.heap.size + 1 ≤ w5.heap.size := by have := hb5.size; simpa using this
  have hcw : w5.cell? ⟨w2.heap.size, 0, none⟩ = some (.slice sp2 sn2 sc2) := bcell hb5 (bcell (below_alloc _ _) hcw)
  have hcwl : w2.heap.size < w5.heap.size := by omega
  have hcg : w5.cell? ⟨w4.heap.size, 0, none⟩ = some (.slice sp4 sn4 sc4) := bcell hb5 (by simp)
  have hcgl : w4.heap.size < w5.heap.size := by omega
  have HB := Lib.hid (HB.out.trans (hb5.mono HB.out.size))
  have OW := Lib.hid (OW.out.keep hb5 (by first | omega | (simp; done) | (simp; omega)))
  have X2 := Lib.hid (X2.out.keep hb5 (by first | omega | (simp; done) | (simp; omega)))
  have OG := Lib.hid (OG.out.keep hb5 (by first | omega | (simp; done) | (simp; omega)))
  clear hb5
  go_wp2_with fail
  refine (c_toInt64S _ xs _ (HU.out.keep HB.out)).mono ?_
  rintro e w6 ⟨v6, rfl, ho6, hb6⟩
  have X3 := Lib.hid ho6.bound
  clear ho6
  have hz6 : w5.heap.size ≤ w6.heap.size := hb6.size
  have hcw : w6.cell? ⟨w2.heap.size, 0, none⟩ = some (.slice sp2 sn2 sc2) := bcell hb6 hcw
  have hcwl : w2.heap.size < w6.heap.size := by omega
  have hcg : w6.cell? ⟨w4.heap.size, 0, none⟩ = some (.slice sp4 sn4 sc4) := bcell hb6 hcg
  have hcgl : w4.heap.size < w6.heap.size := by omega
  have HB := Lib.hid (HB.out.trans (hb6.mono HB.out.size))
  have OW := Lib.hid (OW.out.keep hb6 (by first | omega | (simp; done) | (simp; omega)))
  have X2 := Lib.hid (X2.out.keep hb6 (by first | omega | (simp; done) | (simp; omega)))
  have OG := Lib.hid (OG.out.keep hb6 (by first | omega | (simp; done) | (simp; omega)))
  clear hb6
  go_wp2_with fail
  refine (c_eqInt64S _ _ xs xs _ (X2.out.ints (by omega)) (X3.out.ints (by omega))).mono ?_
  rintro e w7 ⟨rfl, hb7⟩
  rw [eqL_self]
  have hz7 : w6.heap.size ≤ w7.heap.size := hb7.size
  have hcw : w7.cell? ⟨w2.heap.size, 0, none⟩ = some (.slice sp2 sn2 sc2) := bcell hb7 hcw
  have hcwl : w2.heap.size < w7.heap.size := by omega
  have hcg : w7.cell? ⟨w4.heap.size, 0, none⟩ = some (.slice sp4 sn4 sc4) := bcell hb7 hcg
  have hcgl : w4.heap.size < w7.heap.size := by omega
  have HB := Lib.hid (HB.out.trans (hb7.mono HB.out.size))
  have OW := Lib.hid (OW.out.keep hb7 (by first | omega | (simp; done) | (simp; omega)))
  have X2 := Lib.hid (X2.out.keep hb7 (by first | omega | (simp; done) | (simp; omega)))
  have OG := Lib.hid (OG.out.keep hb7 (by first | omega | (simp; done) | (simp; omega)))
  have X3 := Lib.hid (X3.out.keep hb7 (by first | omega | (simp; done) | (simp; omega)))
  clear hb7
  go_wp2_with fail
  clear X3
  refine (c_markIB _ _ 1 _ _ _ X2.out (by omega) (by omega) (by omega)).mono ?_
  rintro e w8 ⟨rfl, ho8, ht8⟩
  clear ho8
  have hz8 : w8.heap.size = w7.heap.size := ht8.size
  have hcw : w8.cell? ⟨w2.heap.size, 0, none⟩ = some (.slice sp2 sn2 sc2) := cell_sameD (ht8.block _ (fun hk => by have h1 := hk.1; have h2 := hk.2; (try simp at h1 h2); omega)) hcw
  have hcwl : w2.heap.size < w8.heap.size := by omega
  have hcg : w8.cell? ⟨w4.heap.size, 0, none⟩ = some (.slice sp4 sn4 sc4) := cell_sameD (ht8.block _ (fun hk => by have h1 := hk.1; have h2 := hk.2; (try simp at h1 h2); omega)) hcg
  have hcgl : w4.heap.size < w8.heap.size := by omega
  have HB := Lib.hid (Touch.below HB.out ht8 (fun k hk => by have h1 := hk.1; (try simp at h1); omega))
  have OW := Lib.hid (OW.out.touch ht8 (fun k hk => by have h1 := hk.1; have h2 := hk.2; (try simp at h1 h2); omega))
  have OG := Lib.hid (OG.out.touch ht8 (fun k hk => by have h1 := hk.1; have h2 := hk.2; (try simp at h1 h2); omega))
  clear ht8 X2
  go_wp2_with fail
  refine (c_eqRing _ _ _ _ (OG.out.cubes SL SR.out) (OW.out.cubes SL SR.out)).mono ?_
  rintro e w9 ⟨rfl, hb9⟩
  have hz9 : w8.heap.size ≤ w9.heap.size := hb9.size
  have hcw : w9.cell? ⟨w2.heap.size, 0, none⟩ = some (.slice sp2 sn2 sc2) := bcell hb9 hcw
  have hcwl : w2.heap.size < w9.heap.size := by omega
  have hcg : w9.cell? ⟨w4.heap.size, 0, none⟩ = some (.slice sp4 sn4 sc4) := bcell hb9 hcg
  have hcgl : w4.heap.size < w9.heap.size := by omega
  have HB := Lib.hid (HB.out.trans (hb9.mono HB.out.size))
  have OW := Lib.hid (OW.out.keep hb9 (by first | omega | (simp; done) | (simp; omega)))
  have OG := Lib.hid (OG.out.keep hb9 (by first | omega | (simp; done) | (simp; omega)))
  clear hb9
  go_wp2_with fail
  refine (c_markRing _ _ 1 _ _ _ OG.out (by omega) (by omega) SL SR.out (by omega) (by omega)).mono ?_
  rintro e w10 ⟨rfl, ho10, hb10, hx10⟩
  have hz10 := hb10.size
  have hcw : w10.cell? ⟨w2.heap.size, 0, none⟩ = some (.slice sp2 sn2 sc2) := cell_sameD (hb10.block _ (by omega)) hcw
  have hcg : w10.cell? ⟨w4.heap.size, 0, none⟩ = some (.slice sp4 sn4 sc4) := cell_sameD (hx10 _ (Nat.le_refl _) (by omega)) hcg
  have hcwl : w2.heap.size < w10.heap.size := by omega
  have hcgl : w4.heap.size < w10.heap.size := by omega
  have HB := Lib.hid (HB.out.trans (hb10.mono (by omega)))
  have OW := Lib.hid (OW.out.keep hb10 (by omega))
  have OG := Lib.hid ho10
  clear hb10 ho10 hx10
  go_wp2_with fail
  refine (c_heldRing _ _ 1 _ (OG.out.cubes (SM.out 1).1 (SM.out 1).2) (by omega) (by omega)).mono ?_
  rintro e w11 ⟨rfl, hb11⟩
  have hz11 : w10.heap.size ≤ w11.heap.size := hb11.size
  have hcw : w11.cell? ⟨w2.heap.size, 0, none⟩ = some (.slice sp2 sn2 sc2) := bcell hb11 hcw
  have hcwl : w2.heap.size < w11.heap.size := by omega
  have hcg : w11.cell? ⟨w4.heap.size, 0, none⟩ = some (.slice sp4 sn4 sc4) := bcell hb11 hcg
  have hcgl : w4.heap.size < w11.heap.size := by omega
  have HB := Lib.hid (HB.out.trans (hb11.mono HB.out.size))
  have OW := Lib.hid (OW.out.keep hb11 (by first | omega | (simp; done) | (simp; omega)))
  have OG := Lib.hid (OG.out.keep hb11 (by first | omega | (simp; done) | (simp; omega)))
  clear hb11
  go_wp2_with fail
  refine (c_toInt64S _ xs _ (HU.out.keep HB.out)).mono ?_
  rintro e w12 ⟨v12, rfl, ho12, hb12⟩
  have X4 := Lib.hid ho12.bound
  clear ho12
  have hz12 : w11.heap.size ≤ w12.heap.size := hb12.size
  have hcw : w12.cell? ⟨w2.heap.size, 0, none⟩ = some (.slice sp2 sn2 sc2) := bcell hb12 hcw
  have hcwl : w2.heap.size < w12.heap.size := by omega
  have hcg : w12.cell? ⟨w4.heap.size, 0, none⟩ = some (.slice sp4 sn4 sc4) := bcell hb12 hcg
  have hcgl : w4.heap.size < w12.heap.size := by omega
  have HB := Lib.hid (HB.out.trans (hb12.mono HB.out.size))
  have OW := Lib.hid (OW.out.keep hb12 (by first | omega | (simp; done) | (simp; omega)))
  have OG := Lib.hid (OG.out.keep hb12 (by first | omega | (simp; done) | (simp; omega)))
  clear hb12
  go_wp2_with fail
  refine (c_TambaraYamagami _ xs _ (X4.out.ints (by omega))).mono ?_
  rw [← HR.out]
  rintro e w13 ⟨s13, rfl, ho13, hb13⟩
  obtain ⟨sp13, sn13, sc13, rfl⟩ := ho13.slice
  have OH := Lib.hid ho13
  clear ho13
  have hz13 : w12.heap.size ≤ w13.heap.size := hb13.size
  have hcw : w13.cell? ⟨w2.heap.size, 0, none⟩ = some (.slice sp2 sn2 sc2) := bcell hb13 hcw
  have hcwl : w2.heap.size < w13.heap.size := by omega
  have hcg : w13.cell? ⟨w4.heap.size, 0, none⟩ = some (.slice sp4 sn4 sc4) := bcell hb13 hcg
  have hcgl : w4.heap.size < w13.heap.size := by omega
  have HB := Lib.hid (HB.out.trans (hb13.mono HB.out.size))
  have OW := Lib.hid (OW.out.keep hb13 (by first | omega | (simp; done) | (simp; omega)))
  have OG := Lib.hid (OG.out.keep hb13 (by first | omega | (simp; done) | (simp; omega)))
  have X4 := Lib.hid (X4.out.keep hb13 (by first | omega | (simp; done) | (simp; omega)))
  clear hb13
  have HB := Lib.hid (HB.out.alloc (by omega) (.cells #[.slice sp13 sn13 sc13] 31))
  have OW := Lib.hid (OW.out.alloc (by omega) (.cells #[.slice sp13 sn13 sc13] 31))
  have OG := Lib.hid (OG.out.alloc (by omega) (.cells #[.slice sp13 sn13 sc13] 31))
  have X4 := Lib.hid (X4.out.keep (below_alloc _ (.cells #[.slice sp13 sn13 sc13] 31)) (by omega))
  have OH := Lib.hid (OH.out.alloc (by omega) (.cells #[.slice sp13 sn13 sc13] 31))
  go_wp2_with fail
  clear X4
  refine (c_eqRing _ _ _ _ (OH.out.cubes SL SR.out) (OW.out.cubes SL SR.out)).mono ?_
  rintro e w14 ⟨rfl, hb14⟩
  have hz14 : w13.heap.size + 1 ≤ w14.heap.size := by have := hb14.size; simpa using this
  have hcw : w14.cell? ⟨w2.heap.size, 0, none⟩ = some (.slice sp2 sn2 sc2) := bcell hb14 (bcell (below_alloc _ _) hcw)
  have hcwl : w2.heap.size < w14.heap.size := by omega
  have hcg : w14.cell? ⟨w4.heap.size, 0, none⟩ = some (.slice sp4 sn4 sc4) := bcell hb14 (bcell (below_alloc _ _) hcg)
  have hcgl : w4.heap.size < w14.heap.size := by omega
  have hch : w14.cell? ⟨w13.heap.size, 0, none⟩ = some (.slice sp13 sn13 sc13) := bcell hb14 (by simp)
  have hchl : w13.heap.size < w14.heap.size := by omega
  have HB := Lib.hid (HB.out.trans (hb14.mono HB.out.size))
  have OW := Lib.hid (OW.out.keep hb14 (by first | omega | (simp; done) | (simp; omega)))
  have OG := Lib.hid (OG.out.keep hb14 (by first | omega | (simp; done) | (simp; omega)))
  have OH := Lib.hid (OH.out.keep hb14 (by first | omega | (simp; done) | (simp; omega)))
  clear hb14
  go_wp2_with fail
  clear OH
  clear OW
  refine (c_heldRing _ _ 1 _ (OG.out.cubes (SM.out 1).1 (SM.out 1).2) (by omega) (by omega)).mono ?_
  rintro e w15 ⟨rfl, hb15⟩
  have hz15 : w14.heap.size ≤ w15.heap.size := hb15.size
  have hcw : w15.cell? ⟨w2.heap.size, 0, none⟩ = some (.slice sp2 sn2 sc2) := bcell hb15 hcw
  have hcwl : w2.heap.size < w15.heap.size := by omega
  have hcg : w15.cell? ⟨w4.heap.size, 0, none⟩ = some (.slice sp4 sn4 sc4) := bcell hb15 hcg
  have hcgl : w4.heap.size < w15.heap.size := by omega
  have hch : w15.cell? ⟨w13.heap.size, 0, none⟩ = some (.slice sp13 sn13 sc13) := bcell hb15 hch
  have hchl : w13.heap.size < w15.heap.size := by omega
  have HB := Lib.hid (HB.out.trans (hb15.mono HB.out.size))
  have OG := Lib.hid (OG.out.keep hb15 (by first | omega | (simp; done) | (simp; omega)))
  clear hb15
  go_wp2_with fail
  go_ret
  exact ⟨rfl, HB.out⟩
end Go.Proofs.Ytnhdnogcglmjdaa
