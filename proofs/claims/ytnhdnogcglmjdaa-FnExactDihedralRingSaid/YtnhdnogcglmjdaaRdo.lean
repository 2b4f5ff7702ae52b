/- Dihedral rings: the calls of both sides and the law's walk. -/
import Derived.Test.YtnhdnogcglmjdaaRdj
import Derived.Test.YtnhdnogcglmjdaaRdn
namespace Go.Proofs.Ytnhdnogcglmjdaa
open Go.RowKit

def sN (n : Nat) : Nat := if n % 2 = 1 then 2 else 4
/-- what the calls answer -/
def dgN (k : Int) : List (List (List Int)) × Int := if inR 1 18 k = true then (cub (sN k.toNat + (k.toNat - 1) / 2) (dgF k.toNat (sN k.toNat)), 0) else ([], 2)
theorem dgN_small (k : Int) : SmallC (dgN k).1 := by
  unfold dgN
  split
  · rename_i h
    obtain ⟨h1, h2⟩ := inR_true h
    refine smallC_cub _ ?_
    unfold sN
    split <;> omega
  · exact smallC_nil
theorem c_DihedralRing (k : Int) (w : World) : Calls Try.prog 35 #[.int .i64 k] w (RetR (dgN k) w) := by
  cases h : inR 1 18 k
  · have H : Hid (dgN k = ([], 2)) := Lib.hid (if_neg (by rw [h]; decide))
    go_enter Try.func35, Try.ntmps35
    go_wp2_with fail
    refine (c_within _ _ _ _).mono ?_
    rintro e w1 ⟨rfl, rfl⟩
    rw [h]
    go_wp2_with fail
    (try simp only [Exit.inBlock, Exit.then])
    refine bodyPost_ret (v := .tuple #[.agg #[.slice none 0 0], .int .i64 2]) (by rw [results_cell_tmp rfl]; go_simp) rfl ?_
    exact ⟨_, by rw [H.out], by rw [H.out]; exact OwnCB.nil _ _ _, below_alloc w _⟩
  · obtain ⟨hk1, hk2⟩ := inR_true h
    obtain ⟨n, rfl⟩ : ∃ L : Nat, k = L := ⟨k.toNat, by omega⟩
    by_cases hp : n % 2 = 1
    · have H : dgN n = (cub (2 + (n - 1) / 2) (dgF n 2), 0) := by
        unfold dgN sN
        rw [if_pos h, Int.toNat_natCast, if_pos hp]
      rw [H]
      exact c_DihedralRing_2 n w (by omega) (by omega) hp
    · have H : dgN n = (cub (4 + (n - 1) / 2) (dgF n 4), 0) := by
        unfold dgN sN
        rw [if_pos h, Int.toNat_natCast, if_neg hp]
      rw [H]
      exact c_DihedralRing_4 n w (by omega) (by omega) (by omega)
theorem c_l06Dihedral (n : Nat) (w : World) (hn1 : 1 ≤ n) (hn2 : n ≤ 18) : Calls Try.prog 66 #[.int .i64 n] w (RetC (cub (sN n + (n - 1) / 2) (dgF n (sN n))) w) := by
  by_cases hp : n % 2 = 1
  · have e : sN n = 2 := if_pos hp
    rw [e]
    exact c_l06Dihedral_2 n w hn1 hn2 hp
  · have e : sN n = 4 := if_neg hp
    rw [e]
    exact c_l06Dihedral_4 n w hn1 hn2 (by omega)
theorem c_SDihedralRing (k : Int) (w : World) : Calls Try.prog 34 #[.int .i64 k] w (RetR (dgN k) w) := by
  cases h : inR 1 18 k
  · have H : Hid (dgN k = ([], 2)) := Lib.hid (if_neg (by rw [h]; decide))
    go_enter Try.func34, Try.ntmps34
    go_wp2_with fail
    refine (c_l01In _ _ _ _).mono ?_
    rintro e w1 ⟨rfl, rfl⟩
    rw [h]
    go_wp2_with fail
    (try simp only [Exit.inBlock, Exit.then])
    refine bodyPost_ret (v := .tuple #[.agg #[.slice none 0 0], .int .i64 2]) (by rw [results_cell_tmp rfl]; go_simp) rfl ?_
    exact ⟨_, by rw [H.out], by rw [H.out]; exact OwnCB.nil _ _ _, below_alloc w _⟩
  · obtain ⟨hk1, hk2⟩ := inR_true h
    obtain ⟨m, rfl⟩ : ∃ L : Nat, k = L := ⟨k.toNat, by omega⟩
    have H : Hid (dgN m = (cub (sN m + (m - 1) / 2) (dgF m (sN m)), 0)) := Lib.hid (by unfold dgN; rw [if_pos h, Int.toNat_natCast])
    obtain ⟨C, hC⟩ : ∃ C, C = cub (sN m + (m - 1) / 2) (dgF m (sN m)) := ⟨_, rfl⟩
    rw [← hC] at H
    have HC := Lib.hid hC
    clear hC
    go_enter Try.func34, Try.ntmps34
    go_wp2_with fail
    refine (c_l01In _ _ _ _).mono ?_
    rintro e w1 ⟨rfl, rfl⟩
    rw [h]
    clear h
    go_wp2_with fail
    refine (c_l06Dihedral m _ (by omega) (by omega)).mono ?_
    rw [← HC.out]
    rintro e w2 ⟨v2, rfl, ho2, hb2⟩
    obtain ⟨p, n, cc, rfl⟩ := ho2.slice
    have hlt : w.heap.size < w2.heap.size := by have := hb2.size; simp at this; omega
    have hc0 : w2.cell? ⟨w.heap.size, 0, none⟩ = some (.slice none 0 0) := bcell hb2 (by simp)
    have hf0 : w2.frozen? ⟨w.heap.size, 0, none⟩ = false := bfrozen hb2 (v := .slice none 0 0) (by simp) (by simp)
    have HO : Hid (OwnCB (w2.setCell ⟨w.heap.size, 0, none⟩ (.slice p n cc)) (w.heap.size + 1) w2.heap.size (.slice p n cc) C) := Lib.hid ((ho2.mono (by simp) (Nat.le_refl _)).same fun x h1 h2 => Below.heap_setCell w2 ⟨w.heap.size, 0, none⟩ _ _ (fun e => by have e' : x = w.heap.size := e; omega))
    have HB : Hid (Below w.heap.size w (w2.setCell ⟨w.heap.size, 0, none⟩ (.slice p n cc))) := Lib.hid (below_set (below_after hb2) (Nat.le_refl _))
    clear ho2 hb2
    go_wp2_with fail
    (try simp only [Exit.inBlock, Exit.then])
    refine bodyPost_ret (v := .tuple #[.agg #[.slice p n cc], .int .i64 0]) (by rw [results_cell_tmp rfl]; go_simp) rfl ?_
    exact ⟨_, by rw [H.out], by rw [H.out]; exact HO.out.mono (by omega) (by simp), HB.out⟩
set_option maxHeartbeats 2000000 in
theorem w_FnExactDihedralRing (xa : Int) (w : World) :
    Calls Try.prog 9 #[.int .i64 xa] w fun e w' => e = .returned (.bool true) ∧ Below w.heap.size w w' := by
  obtain ⟨⟨SL, SR⟩, SN, SC, SM⟩ := dgN_small xa
  have SR := Lib.hid SR
  have SM := Lib.hid SM
  obtain ⟨r, hr⟩ : ∃ r, r = dgN xa := ⟨_, rfl⟩
  rw [← hr] at SL SR SN SC SM
  have HR := Lib.hid hr
  clear hr
  go_enter Try.func9, Try.ntmps9
  go_wp2_with fail
  refine (c_SDihedralRing xa _).mono ?_
  rw [← HR.out]
  rintro e w1 ⟨s1, rfl, ho1, hb1⟩
  obtain ⟨sp1, sn1, sc1, rfl⟩ := ho1.slice
  have hz1 := hb1.size
  have HB1 := Lib.hid (hb1.alloc hz1 (.cells #[.slice sp1 sn1 sc1] 31))
  have O1 := Lib.hid (ho1.alloc (Nat.le_refl _) (.cells #[.slice sp1 sn1 sc1] 31))
  clear hb1 ho1
  go_wp2_with fail
  refine (c_DihedralRing xa _).mono ?_
  rw [← HR.out]
  rintro e w2 ⟨s2, rfl, ho2, hb2⟩
  obtain ⟨sp2, sn2, sc2, rfl⟩ := ho2.slice
  simp only [World.size_alloc] at ho2
  have hz2 : w1.heap.size + 1 ≤ w2.heap.size := by have := hb2.size; simpa using this
  have hlt2 : w1.heap.size < w2.heap.size := by omega
  have hc1 : w2.cell? ⟨w1.heap.size, 0, none⟩ = some (.slice sp1 sn1 sc1) := bcell hb2 (by simp)
  have HB2 := Lib.hid ((HB1.out.trans (hb2.mono HB1.out.size)).alloc (by omega) (.cells #[.slice sp2 sn2 sc2] 31))
  have O1 := Lib.hid ((O1.out.keep hb2 (by simp)).alloc (by omega) (.cells #[.slice sp2 sn2 sc2] 31))
  have O2 := Lib.hid (ho2.alloc (Nat.le_refl _) (.cells #[.slice sp2 sn2 sc2] 31))
  clear hb2 ho2
  go_wp2_with fail
  refine (c_eqRing _ _ _ _ (O2.out.cubes SL SR.out) (O1.out.cubes SL SR.out)).mono ?_
  rintro e w3 ⟨rfl, hb3⟩
  have hz3 : w2.heap.size + 1 ≤ w3.heap.size := by have := hb3.size; simpa using this
  have hc1 : w3.cell? ⟨w1.heap.size, 0, none⟩ = some (.slice sp1 sn1 sc1) := bcell hb3 (bcell (below_alloc w2 _) hc1)
  have hd1 : w3.cell? ⟨w2.heap.size, 0, none⟩ = some (.slice sp2 sn2 sc2) := bcell hb3 (by simp)
  have HB3 := Lib.hid (HB2.out.trans (hb3.mono HB2.out.size))
  have O1 := Lib.hid (O1.out.keep hb3 (by simp; omega))
  have O2 := Lib.hid (O2.out.keep hb3 (by simp))
  clear hb3 HB1 HB2
  go_wp2_with fail
  refine (c_markRing _ _ 1 _ _ _ O2.out (by omega) (by omega) SL SR.out (by omega) (by omega)).mono ?_
  rintro e w4 ⟨rfl, ho2, hb4, hx4⟩
  have hz4 := hb4.size
  have hc1 : w4.cell? ⟨w1.heap.size, 0, none⟩ = some (.slice sp1 sn1 sc1) := cell_sameD (hb4.block _ (by omega)) hc1
  have hd1 : w4.cell? ⟨w2.heap.size, 0, none⟩ = some (.slice sp2 sn2 sc2) := cell_sameD (hx4 _ (Nat.le_refl _) (by omega)) hd1
  have HB4 := Lib.hid (HB3.out.trans (hb4.mono (by omega)))
  have O1 := Lib.hid (O1.out.keep hb4 (by omega))
  have O2 := Lib.hid ho2
  clear hb4 HB3 ho2 hx4
  go_wp2_with fail
  refine (c_heldRing _ _ 1 _ (O2.out.cubes (SM.out 1).1 (SM.out 1).2) (by omega) (by omega)).mono ?_
  rintro e w5 ⟨rfl, hb5⟩
  have hz5 := hb5.size
  have hc1 : w5.cell? ⟨w1.heap.size, 0, none⟩ = some (.slice sp1 sn1 sc1) := bcell hb5 hc1
  have hd1 : w5.cell? ⟨w2.heap.size, 0, none⟩ = some (.slice sp2 sn2 sc2) := bcell hb5 hd1
  have HB5 := Lib.hid (HB4.out.trans (hb5.mono HB4.out.size))
  have O1 := Lib.hid (O1.out.keep hb5 (by omega))
  have O2 := Lib.hid (O2.out.keep hb5 (by omega))
  clear hb5 HB4
  go_wp2_with fail
  refine (c_DihedralRing xa _).mono ?_
  rw [← HR.out]
  rintro e w6 ⟨s3, rfl, ho3, hb6⟩
  obtain ⟨sp3, sn3, sc3, rfl⟩ := ho3.slice
  have hz6 := hb6.size
  have hc1 : w6.cell? ⟨w1.heap.size, 0, none⟩ = some (.slice sp1 sn1 sc1) := bcell hb6 hc1
  have hd1 : w6.cell? ⟨w2.heap.size, 0, none⟩ = some (.slice sp2 sn2 sc2) := bcell hb6 hd1
  have HB6 := Lib.hid ((HB5.out.trans (hb6.mono HB5.out.size)).alloc (by omega) (.cells #[.slice sp3 sn3 sc3] 31))
  have O1 := Lib.hid ((O1.out.keep hb6 (by omega)).alloc (by omega) (.cells #[.slice sp3 sn3 sc3] 31))
  have O2 := Lib.hid ((O2.out.keep hb6 (by omega)).alloc (by omega) (.cells #[.slice sp3 sn3 sc3] 31))
  have O3 := Lib.hid (ho3.alloc (Nat.le_refl _) (.cells #[.slice sp3 sn3 sc3] 31))
  have hl1 : w1.heap.size < w6.heap.size := by omega
  have hl2 : w2.heap.size < w6.heap.size := by omega
  clear hb6 HB5 ho3
  go_wp2_with fail
  refine (c_eqRing _ _ _ _ (O3.out.cubes SL SR.out) (O1.out.cubes SL SR.out)).mono ?_
  rintro e w7 ⟨rfl, hb7⟩
  have hd1 : w7.cell? ⟨w2.heap.size, 0, none⟩ = some (.slice sp2 sn2 sc2) := bcell hb7 (bcell (below_alloc w6 _) hd1)
  have HB7 := Lib.hid (HB6.out.trans (hb7.mono HB6.out.size))
  have O2 := Lib.hid (O2.out.keep hb7 (by simp; omega))
  clear hb7 HB6 O1 O3
  go_wp2_with fail
  refine (c_heldRing _ _ 1 _ (O2.out.cubes (SM.out 1).1 (SM.out 1).2) (by omega) (by omega)).mono ?_
  rintro e w8 ⟨rfl, hb8⟩
  have HB8 := Lib.hid (HB7.out.trans (hb8.mono HB7.out.size))
  clear hb8 HB7
  go_wp2_with fail
  go_ret
  exact ⟨rfl, HB8.out⟩
end Go.Proofs.Ytnhdnogcglmjdaa
