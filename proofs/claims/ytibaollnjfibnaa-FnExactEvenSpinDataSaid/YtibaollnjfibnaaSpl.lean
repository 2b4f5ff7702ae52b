/- Spin data: the laws' walks. -/
import Derived.Test.YtibaollnjfibnaaSpc
namespace Go.Proofs.Ytibaollnjfibnaa
open Go.RowKit
set_option maxHeartbeats 2000000 in
theorem w_FnExactSpinData (xa xb : Int) (w : World) :
    Calls Try.prog 4 #[.int .i64 xa, .int .i64 xb] w fun e w' => e = .returned (.bool true) ∧ Below w.heap.size w w' := by
  obtain ⟨SM, SL⟩ := spin1_small xa xb
  have ST := SM.total
  have SN := totK_nonneg (spin1 xa xb).1.1 (spin1 xa xb).1.1.length
  have SL' : (spin1 xa xb).1.2.length ≤ 17592186043904 := by omega
  go_enter Try.func4, Try.ntmps4
  go_wp2_with fail
  refine (c_SSpinData xa xb _).mono ?_
  rintro e w1 ⟨s1, t1, rfl, ho1, hb1⟩
  obtain ⟨⟨sp1, sn1, sc1, rfl⟩, ⟨tp1, tn1, tc1, rfl⟩⟩ := ho1.slices
  have hz1 := hb1.size
  have HB1 := Lib.hid (hb1.alloc hz1 (.cells #[.slice sp1 sn1 sc1, .slice tp1 tn1 tc1] 25))
  have O1 := Lib.hid (ho1.alloc (Nat.le_refl _) (.cells #[.slice sp1 sn1 sc1, .slice tp1 tn1 tc1] 25))
  clear hb1 ho1
  go_wp2_with fail
  refine (c_SpinData xa xb _).mono ?_
  rintro e w2 ⟨s2, t2, rfl, ho2, hb2⟩
  obtain ⟨⟨sp2, sn2, sc2, rfl⟩, ⟨tp2, tn2, tc2, rfl⟩⟩ := ho2.slices
  simp only [World.size_alloc] at ho2
  have hz2 : w1.heap.size + 1 ≤ w2.heap.size := by have := hb2.size; simpa using this
  have hlt2 : w1.heap.size < w2.heap.size := by omega
  have hc1 : w2.cell? ⟨w1.heap.size, 0, none⟩ = some (.slice sp1 sn1 sc1) := bcell hb2 (by simp)
  have hc2 : w2.cell? ⟨w1.heap.size, 1, none⟩ = some (.slice tp1 tn1 tc1) := bcell hb2 (by simp)
  have HB2 := Lib.hid ((HB1.out.trans (hb2.mono HB1.out.size)).alloc (by omega) (.cells #[.slice sp2 sn2 sc2, .slice tp2 tn2 tc2] 25))
  have O1 := Lib.hid ((O1.out.keep hb2 (by simp <;> omega)).alloc (by omega) (.cells #[.slice sp2 sn2 sc2, .slice tp2 tn2 tc2] 25))
  have O2 := Lib.hid (ho2.alloc (Nat.le_refl _) (.cells #[.slice sp2 sn2 sc2, .slice tp2 tn2 tc2] 25))
  clear hb2 ho2
  go_wp2_with fail
  refine (c_eqData _ _ _ _ _ _ _ (O2.out.rows SM.len SM.row) (O2.out.ints SL') (O1.out.rows SM.len SM.row) (O1.out.ints SL')).mono ?_
  rintro e w3 ⟨rfl, hb3⟩
  have hz3 : w2.heap.size + 1 ≤ w3.heap.size := by have := hb3.size; simpa using this
  have hc1 : w3.cell? ⟨w1.heap.size, 0, none⟩ = some (.slice sp1 sn1 sc1) := bcell hb3 (bcell (below_alloc w2 _) hc1)
  have hc2 : w3.cell? ⟨w1.heap.size, 1, none⟩ = some (.slice tp1 tn1 tc1) := bcell hb3 (bcell (below_alloc w2 _) hc2)
  have hd1 : w3.cell? ⟨w2.heap.size, 0, none⟩ = some (.slice sp2 sn2 sc2) := bcell hb3 (by simp)
  have hd2 : w3.cell? ⟨w2.heap.size, 1, none⟩ = some (.slice tp2 tn2 tc2) := bcell hb3 (by simp)
  have HB3 := Lib.hid (HB2.out.trans (hb3.mono HB2.out.size))
  have O1 := Lib.hid (O1.out.keep hb3 (by simp <;> omega))
  have O2 := Lib.hid (O2.out.keep hb3 (by simp <;> omega))
  clear hb3 HB1 HB2
  go_wp2_with fail
  refine (c_markDataX _ _ _ _ 1 _ _ _ O2.out hz2 (by omega) SM SL (by omega) (by omega)).mono ?_
  rintro e w4 ⟨rfl, ho2, hb4, hx4⟩
  have hz4 := hb4.size
  have hc1 : w4.cell? ⟨w1.heap.size, 0, none⟩ = some (.slice sp1 sn1 sc1) := cell_sameD (hb4.block _ (by omega)) hc1
  have hc2 : w4.cell? ⟨w1.heap.size, 1, none⟩ = some (.slice tp1 tn1 tc1) := cell_sameD (hb4.block _ (by omega)) hc2
  have hd1 : w4.cell? ⟨w2.heap.size, 0, none⟩ = some (.slice sp2 sn2 sc2) := cell_sameD (hx4 _ (Nat.le_refl _) (by omega)) hd1
  have hd2 : w4.cell? ⟨w2.heap.size, 1, none⟩ = some (.slice tp2 tn2 tc2) := cell_sameD (hx4 _ (Nat.le_refl _) (by omega)) hd2
  have HB4 := Lib.hid (HB3.out.trans (hb4.mono (by omega)))
  have O1 := Lib.hid (O1.out.keep hb4 (by omega))
  have O2 := Lib.hid ho2
  clear hb4 HB3 ho2 hx4
  go_wp2_with fail
  refine (c_heldData _ _ _ (spin1 xa xb).1.2.length 1 _ (O2.out.rows (marks_len SM.len) (marks_row SM.row)) (O2.out.ints (by rw [upFrom_length]; exact SL')) SM SL (by omega) (by omega)).mono ?_
  rintro e w5 ⟨rfl, hb5⟩
  have hz5 := hb5.size
  have hc1 : w5.cell? ⟨w1.heap.size, 0, none⟩ = some (.slice sp1 sn1 sc1) := bcell hb5 hc1
  have hc2 : w5.cell? ⟨w1.heap.size, 1, none⟩ = some (.slice tp1 tn1 tc1) := bcell hb5 hc2
  have hd1 : w5.cell? ⟨w2.heap.size, 0, none⟩ = some (.slice sp2 sn2 sc2) := bcell hb5 hd1
  have hd2 : w5.cell? ⟨w2.heap.size, 1, none⟩ = some (.slice tp2 tn2 tc2) := bcell hb5 hd2
  have HB5 := Lib.hid (HB4.out.trans (hb5.mono HB4.out.size))
  have O1 := Lib.hid (O1.out.keep hb5 (by omega))
  have O2 := Lib.hid (O2.out.keep hb5 (by omega))
  clear hb5 HB4
  go_wp2_with fail
  refine (c_SpinData xa xb _).mono ?_
  rintro e w6 ⟨s3, t3, rfl, ho3, hb6⟩
  obtain ⟨⟨sp3, sn3, sc3, rfl⟩, ⟨tp3, tn3, tc3, rfl⟩⟩ := ho3.slices
  have hz6 := hb6.size
  have hc1 : w6.cell? ⟨w1.heap.size, 0, none⟩ = some (.slice sp1 sn1 sc1) := bcell hb6 hc1
  have hc2 : w6.cell? ⟨w1.heap.size, 1, none⟩ = some (.slice tp1 tn1 tc1) := bcell hb6 hc2
  have hd1 : w6.cell? ⟨w2.heap.size, 0, none⟩ = some (.slice sp2 sn2 sc2) := bcell hb6 hd1
  have hd2 : w6.cell? ⟨w2.heap.size, 1, none⟩ = some (.slice tp2 tn2 tc2) := bcell hb6 hd2
  have HB6 := Lib.hid ((HB5.out.trans (hb6.mono HB5.out.size)).alloc (by omega) (.cells #[.slice sp3 sn3 sc3, .slice tp3 tn3 tc3] 25))
  have O1 := Lib.hid ((O1.out.keep hb6 (by omega)).alloc (by omega) (.cells #[.slice sp3 sn3 sc3, .slice tp3 tn3 tc3] 25))
  have O2 := Lib.hid ((O2.out.keep hb6 (by omega)).alloc (by omega) (.cells #[.slice sp3 sn3 sc3, .slice tp3 tn3 tc3] 25))
  have O3 := Lib.hid (ho3.alloc (Nat.le_refl _) (.cells #[.slice sp3 sn3 sc3, .slice tp3 tn3 tc3] 25))
  have hl1 : w1.heap.size < w6.heap.size := by omega
  have hl2 : w2.heap.size < w6.heap.size := by omega
  clear hb6 HB5 ho3
  go_wp2_with fail
  refine (c_eqData _ _ _ _ _ _ _ (O3.out.rows SM.len SM.row) (O3.out.ints SL') (O1.out.rows SM.len SM.row) (O1.out.ints SL')).mono ?_
  rintro e w7 ⟨rfl, hb7⟩
  have hd1 : w7.cell? ⟨w2.heap.size, 0, none⟩ = some (.slice sp2 sn2 sc2) := bcell hb7 (bcell (below_alloc w6 _) hd1)
  have hd2 : w7.cell? ⟨w2.heap.size, 1, none⟩ = some (.slice tp2 tn2 tc2) := bcell hb7 (bcell (below_alloc w6 _) hd2)
  have HB7 := Lib.hid (HB6.out.trans (hb7.mono HB6.out.size))
  have O2 := Lib.hid (O2.out.keep hb7 (by simp <;> omega))
  clear hb7 HB6 O1 O3
  go_wp2_with fail
  refine (c_heldData _ _ _ (spin1 xa xb).1.2.length 1 _ (O2.out.rows (marks_len SM.len) (marks_row SM.row)) (O2.out.ints (by rw [upFrom_length]; exact SL')) SM SL (by omega) (by omega)).mono ?_
  rintro e w8 ⟨rfl, hb8⟩
  have HB8 := Lib.hid (HB7.out.trans (hb8.mono HB7.out.size))
  clear hb8 HB7
  go_wp2_with fail
  go_ret
  exact ⟨rfl, HB8.out⟩
set_option maxHeartbeats 2000000 in
theorem w_FnExactEvenSpinData (xa xb : Int) (w : World) :
    Calls Try.prog 3 #[.int .i64 xa, .int .i64 xb] w fun e w' => e = .returned (.bool true) ∧ Below w.heap.size w w' := by
  obtain ⟨SM, SL⟩ := even1_small xa xb
  have ST := SM.total
  have SN := totK_nonneg (even1 xa xb).1.1 (even1 xa xb).1.1.length
  have SL' : (even1 xa xb).1.2.length ≤ 17592186043904 := by omega
  go_enter Try.func3, Try.ntmps3
  go_wp2_with fail
  refine (c_SEvenSpinData xa xb _).mono ?_
  rintro e w1 ⟨s1, t1, rfl, ho1, hb1⟩
  obtain ⟨⟨sp1, sn1, sc1, rfl⟩, ⟨tp1, tn1, tc1, rfl⟩⟩ := ho1.slices
  have hz1 := hb1.size
  have HB1 := Lib.hid (hb1.alloc hz1 (.cells #[.slice sp1 sn1 sc1, .slice tp1 tn1 tc1] 25))
  have O1 := Lib.hid (ho1.alloc (Nat.le_refl _) (.cells #[.slice sp1 sn1 sc1, .slice tp1 tn1 tc1] 25))
  clear hb1 ho1
  go_wp2_with fail
  refine (c_EvenSpinData xa xb _).mono ?_
  rintro e w2 ⟨s2, t2, rfl, ho2, hb2⟩
  obtain ⟨⟨sp2, sn2, sc2, rfl⟩, ⟨tp2, tn2, tc2, rfl⟩⟩ := ho2.slices
  simp only [World.size_alloc] at ho2
  have hz2 : w1.heap.size + 1 ≤ w2.heap.size := by have := hb2.size; simpa using this
  have hlt2 : w1.heap.size < w2.heap.size := by omega
  have hc1 : w2.cell? ⟨w1.heap.size, 0, none⟩ = some (.slice sp1 sn1 sc1) := bcell hb2 (by simp)
  have hc2 : w2.cell? ⟨w1.heap.size, 1, none⟩ = some (.slice tp1 tn1 tc1) := bcell hb2 (by simp)
  have HB2 := Lib.hid ((HB1.out.trans (hb2.mono HB1.out.size)).alloc (by omega) (.cells #[.slice sp2 sn2 sc2, .slice tp2 tn2 tc2] 25))
  have O1 := Lib.hid ((O1.out.keep hb2 (by simp <;> omega)).alloc (by omega) (.cells #[.slice sp2 sn2 sc2, .slice tp2 tn2 tc2] 25))
  have O2 := Lib.hid (ho2.alloc (Nat.le_refl _) (.cells #[.slice sp2 sn2 sc2, .slice tp2 tn2 tc2] 25))
  clear hb2 ho2
  go_wp2_with fail
  refine (c_eqData _ _ _ _ _ _ _ (O2.out.rows SM.len SM.row) (O2.out.ints SL') (O1.out.rows SM.len SM.row) (O1.out.ints SL')).mono ?_
  rintro e w3 ⟨rfl, hb3⟩
  have hz3 : w2.heap.size + 1 ≤ w3.heap.size := by have := hb3.size; simpa using this
  have hc1 : w3.cell? ⟨w1.heap.size, 0, none⟩ = some (.slice sp1 sn1 sc1) := bcell hb3 (bcell (below_alloc w2 _) hc1)
  have hc2 : w3.cell? ⟨w1.heap.size, 1, none⟩ = some (.slice tp1 tn1 tc1) := bcell hb3 (bcell (below_alloc w2 _) hc2)
  have hd1 : w3.cell? ⟨w2.heap.size, 0, none⟩ = some (.slice sp2 sn2 sc2) := bcell hb3 (by simp)
  have hd2 : w3.cell? ⟨w2.heap.size, 1, none⟩ = some (.slice tp2 tn2 tc2) := bcell hb3 (by simp)
  have HB3 := Lib.hid (HB2.out.trans (hb3.mono HB2.out.size))
  have O1 := Lib.hid (O1.out.keep hb3 (by simp <;> omega))
  have O2 := Lib.hid (O2.out.keep hb3 (by simp <;> omega))
  clear hb3 HB1 HB2
  go_wp2_with fail
  refine (c_markDataX _ _ _ _ 1 _ _ _ O2.out hz2 (by omega) SM SL (by omega) (by omega)).mono ?_
  rintro e w4 ⟨rfl, ho2, hb4, hx4⟩
  have hz4 := hb4.size
  have hc1 : w4.cell? ⟨w1.heap.size, 0, none⟩ = some (.slice sp1 sn1 sc1) := cell_sameD (hb4.block _ (by omega)) hc1
  have hc2 : w4.cell? ⟨w1.heap.size, 1, none⟩ = some (.slice tp1 tn1 tc1) := cell_sameD (hb4.block _ (by omega)) hc2
  have hd1 : w4.cell? ⟨w2.heap.size, 0, none⟩ = some (.slice sp2 sn2 sc2) := cell_sameD (hx4 _ (Nat.le_refl _) (by omega)) hd1
  have hd2 : w4.cell? ⟨w2.heap.size, 1, none⟩ = some (.slice tp2 tn2 tc2) := cell_sameD (hx4 _ (Nat.le_refl _) (by omega)) hd2
  have HB4 := Lib.hid (HB3.out.trans (hb4.mono (by omega)))
  have O1 := Lib.hid (O1.out.keep hb4 (by omega))
  have O2 := Lib.hid ho2
  clear hb4 HB3 ho2 hx4
  go_wp2_with fail
  refine (c_heldData _ _ _ (even1 xa xb).1.2.length 1 _ (O2.out.rows (marks_len SM.len) (marks_row SM.row)) (O2.out.ints (by rw [upFrom_length]; exact SL')) SM SL (by omega) (by omega)).mono ?_
  rintro e w5 ⟨rfl, hb5⟩
  have hz5 := hb5.size
  have hc1 : w5.cell? ⟨w1.heap.size, 0, none⟩ = some (.slice sp1 sn1 sc1) := bcell hb5 hc1
  have hc2 : w5.cell? ⟨w1.heap.size, 1, none⟩ = some (.slice tp1 tn1 tc1) := bcell hb5 hc2
  have hd1 : w5.cell? ⟨w2.heap.size, 0, none⟩ = some (.slice sp2 sn2 sc2) := bcell hb5 hd1
  have hd2 : w5.cell? ⟨w2.heap.size, 1, none⟩ = some (.slice tp2 tn2 tc2) := bcell hb5 hd2
  have HB5 := Lib.hid (HB4.out.trans (hb5.mono HB4.out.size))
  have O1 := Lib.hid (O1.out.keep hb5 (by omega))
  have O2 := Lib.hid (O2.out.keep hb5 (by omega))
  clear hb5 HB4
  go_wp2_with fail
  refine (c_EvenSpinData xa xb _).mono ?_
  rintro e w6 ⟨s3, t3, rfl, ho3, hb6⟩
  obtain ⟨⟨sp3, sn3, sc3, rfl⟩, ⟨tp3, tn3, tc3, rfl⟩⟩ := ho3.slices
  have hz6 := hb6.size
  have hc1 : w6.cell? ⟨w1.heap.size, 0, none⟩ = some (.slice sp1 sn1 sc1) := bcell hb6 hc1
  have hc2 : w6.cell? ⟨w1.heap.size, 1, none⟩ = some (.slice tp1 tn1 tc1) := bcell hb6 hc2
  have hd1 : w6.cell? ⟨w2.heap.size, 0, none⟩ = some (.slice sp2 sn2 sc2) := bcell hb6 hd1
  have hd2 : w6.cell? ⟨w2.heap.size, 1, none⟩ = some (.slice tp2 tn2 tc2) := bcell hb6 hd2
  have HB6 := Lib.hid ((HB5.out.trans (hb6.mono HB5.out.size)).alloc (by omega) (.cells #[.slice sp3 sn3 sc3, .slice tp3 tn3 tc3] 25))
  have O1 := Lib.hid ((O1.out.keep hb6 (by omega)).alloc (by omega) (.cells #[.slice sp3 sn3 sc3, .slice tp3 tn3 tc3] 25))
  have O2 := Lib.hid ((O2.out.keep hb6 (by omega)).alloc (by omega) (.cells #[.slice sp3 sn3 sc3, .slice tp3 tn3 tc3] 25))
  have O3 := Lib.hid (ho3.alloc (Nat.le_refl _) (.cells #[.slice sp3 sn3 sc3, .slice tp3 tn3 tc3] 25))
  have hl1 : w1.heap.size < w6.heap.size := by omega
  have hl2 : w2.heap.size < w6.heap.size := by omega
  clear hb6 HB5 ho3
  go_wp2_with fail
  refine (c_eqData _ _ _ _ _ _ _ (O3.out.rows SM.len SM.row) (O3.out.ints SL') (O1.out.rows SM.len SM.row) (O1.out.ints SL')).mono ?_
  rintro e w7 ⟨rfl, hb7⟩
  have hd1 : w7.cell? ⟨w2.heap.size, 0, none⟩ = some (.slice sp2 sn2 sc2) := bcell hb7 (bcell (below_alloc w6 _) hd1)
  have hd2 : w7.cell? ⟨w2.heap.size, 1, none⟩ = some (.slice tp2 tn2 tc2) := bcell hb7 (bcell (below_alloc w6 _) hd2)
  have HB7 := Lib.hid (HB6.out.trans (hb7.mono HB6.out.size))
  have O2 := Lib.hid (O2.out.keep hb7 (by simp <;> omega))
  clear hb7 HB6 O1 O3
  go_wp2_with fail
  refine (c_heldData _ _ _ (even1 xa xb).1.2.length 1 _ (O2.out.rows (marks_len SM.len) (marks_row SM.row)) (O2.out.ints (by rw [upFrom_length]; exact SL')) SM SL (by omega) (by omega)).mono ?_
  rintro e w8 ⟨rfl, hb8⟩
  have HB8 := Lib.hid (HB7.out.trans (hb8.mono HB7.out.size))
  clear hb8 HB7
  go_wp2_with fail
  go_ret
  exact ⟨rfl, HB8.out⟩
end Go.Proofs.Ytibaollnjfibnaa
