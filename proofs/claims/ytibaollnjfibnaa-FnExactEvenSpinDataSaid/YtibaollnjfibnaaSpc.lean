/- Spin data: the calls. -/
import Derived.Test.YtibaollnjfibnaaSph
namespace Go.Proofs.Ytibaollnjfibnaa
open Go.RowKit
def spin1 (k m : Int) : (List (List Int) × List Int) × Int :=
  if inR 0 15 k = true then (if inR 1 1000 m = true then spinN k m 1 else (([], []), 2)) else (([], []), 2)
def even1 (k m : Int) : (List (List Int) × List Int) × Int :=
  if inR 1 31 k = true then (if k % 2 = 0 then (([], []), 2) else (if inR 1 1000 m = true then spinN k m 2 else (([], []), 2))) else (([], []), 2)
theorem OwnD.raise {w : World} {lo hi hi' : Nat} {s t : Value} {S : List (List Int)} {T : List Int} (h : OwnD w lo hi s t S T) (hl : hi ≤ hi') : OwnD w lo hi' s t S T := by
  obtain ⟨us, h1, h2, h3, h4, h5, h6, h7, h8, h9⟩ := h
  exact ⟨us, h1, h2, h3, h4, h5, h6, fun g hg => Nat.lt_of_lt_of_le (h7 g hg) hl, fun g hg => Nat.lt_of_lt_of_le (h8 g hg) hl, fun g hg => Nat.lt_of_lt_of_le (h9 g hg) hl⟩
theorem retX_of {w w3 : World} {s t : Value} {lo hi : Nat} {D : List (List Int) × List Int} {c : Int} {r : (List (List Int) × List Int) × Int} (hr : r = (D, c)) (ho : OwnD w3 lo hi s t D.1 D.2) (hlt : w.heap.size < lo) (hle : hi ≤ w3.heap.size) (hb : Below w.heap.size w w3) :
    RetX r w (.returned (.tuple #[.agg #[s, t], .int .i64 c])) ((w3.setCell ⟨w.heap.size, 0, none⟩ s).setCell ⟨w.heap.size, 1, none⟩ t) := by
  subst hr
  refine ⟨s, t, rfl, ?_, below_set (below_set hb (Nat.le_refl _)) (Nat.le_refl _)⟩
  rw [World.size_setCell, World.size_setCell]
  refine ((ho.same (fun k h1 h2 => ?_)).lower (by omega)).raise hle
  rw [Below.heap_setCell _ _ _ _ (by show k ≠ w.heap.size; omega), Below.heap_setCell _ _ _ _ (by show k ≠ w.heap.size; omega)]
theorem RetX.alloc {r : (List (List Int) × List Int) × Int} {w w' : World} {e : Ending} (h : RetX r w e w') (o : Obj) : RetX r w e (w'.alloc o) := by
  obtain ⟨s, t, rfl, ho, hb⟩ := h
  exact ⟨s, t, rfl, (ho.alloc (Nat.le_refl _) o).raise (by simp), hb.trans ((below_alloc _ _).mono hb.size)⟩
theorem spN_small (k m st : Int) (hk : 0 ≤ k) (hk' : k ≤ 31) (hst : st = 1 ∨ st = 2) : Small 4096 (spinN k m st).1.1 ∧ (spinN k m st).1.2.length ≤ 4096 := by
  have hn := spn_le hk hk' hst
  unfold spinN
  split
  · refine ⟨⟨?_, fun xs hx => ?_⟩, ?_⟩
    · show (spS _ _ _ _).length ≤ _
      rw [spS_len]; omega
    · have hx : xs ∈ spS (spQ k m) st (spn k st) (spn k st) := hx
      simp only [spS, List.mem_map] at hx
      obtain ⟨x, _, rfl⟩ := hx
      rw [spR_len]; omega
    · show (spT _ _ _).length ≤ _
      rw [spT_len]; omega
  · exact ⟨⟨by simp, fun xs hx => by simp at hx⟩, by simp⟩
theorem nil_small : Small 4096 (([], []) : List (List Int) × List Int).1 ∧ (([], []) : List (List Int) × List Int).2.length ≤ 4096 := ⟨⟨by simp, fun xs hx => by simp at hx⟩, by simp⟩
theorem spin1_small (k m : Int) : Small 4096 (spin1 k m).1.1 ∧ (spin1 k m).1.2.length ≤ 4096 := by
  unfold spin1
  split
  · rename_i h
    obtain ⟨h1, h2⟩ := inR_true h
    split
    · exact spN_small k m 1 (by omega) (by omega) (by omega)
    · exact nil_small
  · exact nil_small
theorem even1_small (k m : Int) : Small 4096 (even1 k m).1.1 ∧ (even1 k m).1.2.length ≤ 4096 := by
  unfold even1
  split
  · rename_i h
    obtain ⟨h1, h2⟩ := inR_true h
    split
    · exact nil_small
    · split
      · exact spN_small k m 2 (by omega) (by omega) (by omega)
      · exact nil_small
  · exact nil_small
set_option maxHeartbeats 1000000 in
theorem c_SSpinData (k m : Int) (w : World) : Calls Try.prog 10 #[.int .i64 k, .int .i64 m] w (RetX (spin1 k m) w) := by
  cases h1 : inR 0 15 k
  · have H : Hid (spin1 k m = (([], []), 2)) := Lib.hid (by unfold spin1; rw [h1]; rfl)
    go_enter Try.func10, Try.ntmps10
    go_wp2_with fail
    refine (c_l01In _ _ _ _).mono ?_
    rintro e w1 ⟨rfl, rfl⟩
    rw [h1]
    go_wp2_with fail
    (try simp only [Exit.inBlock, Exit.then])
    refine bodyPost_ret (v := .tuple #[.agg #[.slice none 0 0, .slice none 0 0], .int .i64 2]) (by rw [results_cell_tmp rfl]; go_simp) rfl ?_
    exact retX_nil H.out (below_alloc w _)
  · obtain ⟨hk1, hk2⟩ := inR_true h1
    cases h2 : inR 1 1000 m
    · have H : Hid (spin1 k m = (([], []), 2)) := Lib.hid (by unfold spin1; rw [if_pos h1, h2]; rfl)
      go_enter Try.func10, Try.ntmps10
      go_wp2_with fail
      refine (c_l01In _ _ _ _).mono ?_
      rintro e w1 ⟨rfl, rfl⟩
      rw [h1]
      go_wp2_with fail
      refine (c_l01In _ _ _ _).mono ?_
      rintro e w1 ⟨rfl, rfl⟩
      rw [h2]
      go_wp2_with fail
      (try simp only [Exit.inBlock, Exit.then])
      refine bodyPost_ret (v := .tuple #[.agg #[.slice none 0 0, .slice none 0 0], .int .i64 2]) (by rw [results_cell_tmp rfl]; go_simp) rfl ?_
      exact retX_nil H.out (below_alloc w _)
    · obtain ⟨hm1, hm2⟩ := inR_true h2
      have H : Hid (spin1 k m = spinN k m 1) := Lib.hid (by unfold spin1; rw [if_pos h1, if_pos h2])
      have HSP := Lib.hid (fun w => c_l13Spin k m 1 w (by omega) (by omega) (by omega) (by omega) (by omega))
      generalize spinN k m 1 = DD at *
      obtain ⟨DD, cc⟩ := DD
      go_enter Try.func10, Try.ntmps10
      go_wp2_with fail
      refine (c_l01In _ _ _ _).mono ?_
      rintro e w1 ⟨rfl, rfl⟩
      rw [h1]
      go_wp2_with fail
      refine (c_l01In _ _ _ _).mono ?_
      rintro e w1 ⟨rfl, rfl⟩
      rw [h2]
      go_wp2_with fail
      refine (HSP.out _).mono ?_
      rintro e w3 ⟨s, t, rfl, ho, hb3⟩
      obtain ⟨⟨sp, sn, sc, rfl⟩, ⟨tp, tn, tc, rfl⟩⟩ := ho.slices
      have hlt3 : w.heap.size < w3.heap.size := by have := hb3.size; simp at this; omega
      have hlt4 : w.heap.size < w3.heap.size + 1 := by omega
      have hc0 : w3.cell? ⟨w.heap.size, 0, none⟩ = some (.slice none 0 0) := bcell hb3 (by simp)
      have hc1 : w3.cell? ⟨w.heap.size, 1, none⟩ = some (.slice none 0 0) := bcell hb3 (by simp)
      have hf0 : w3.frozen? ⟨w.heap.size, 0, none⟩ = false := bfrozen hb3 (v := .slice none 0 0) (by simp) (by simp)
      have hf1 : w3.frozen? ⟨w.heap.size, 1, none⟩ = false := bfrozen hb3 (v := .slice none 0 0) (by simp) (by simp)
      have HBB := Lib.hid (below_after hb3)
      have HO := Lib.hid ho
      clear hb3 ho
      go_wp2_with fail
      (try simp only [Exit.inBlock, Exit.then])
      refine bodyPost_ret (v := .tuple #[.agg #[.slice sp sn sc, .slice tp tn tc], .int .i64 cc]) (by rw [results_cell_tmp rfl]; go_simp) rfl ?_
      exact (retX_of H.out HO.out (by simp) (Nat.le_refl _) HBB.out).alloc _
set_option maxHeartbeats 1000000 in
theorem c_SpinData (k m : Int) (w : World) : Calls Try.prog 11 #[.int .i64 k, .int .i64 m] w (RetX (spin1 k m) w) := by
  cases h1 : inR 0 15 k
  · have H : Hid (spin1 k m = (([], []), 2)) := Lib.hid (by unfold spin1; rw [h1]; rfl)
    go_enter Try.func11, Try.ntmps11
    go_wp2_with fail
    refine (c_within _ _ _ _).mono ?_
    rintro e w1 ⟨rfl, rfl⟩
    rw [h1]
    go_wp2_with fail
    (try simp only [Exit.inBlock, Exit.then])
    refine bodyPost_ret (v := .tuple #[.agg #[.slice none 0 0, .slice none 0 0], .int .i64 2]) (by rw [results_cell_tmp rfl]; go_simp) rfl ?_
    exact retX_nil H.out (below_alloc w _)
  · obtain ⟨hk1, hk2⟩ := inR_true h1
    cases h2 : inR 1 1000 m
    · have H : Hid (spin1 k m = (([], []), 2)) := Lib.hid (by unfold spin1; rw [if_pos h1, h2]; rfl)
      go_enter Try.func11, Try.ntmps11
      go_wp2_with fail
      refine (c_within _ _ _ _).mono ?_
      rintro e w1 ⟨rfl, rfl⟩
      rw [h1]
      go_wp2_with fail
      refine (c_within _ _ _ _).mono ?_
      rintro e w1 ⟨rfl, rfl⟩
      rw [h2]
      go_wp2_with fail
      (try simp only [Exit.inBlock, Exit.then])
      refine bodyPost_ret (v := .tuple #[.agg #[.slice none 0 0, .slice none 0 0], .int .i64 2]) (by rw [results_cell_tmp rfl]; go_simp) rfl ?_
      exact retX_nil H.out (below_alloc w _)
    · obtain ⟨hm1, hm2⟩ := inR_true h2
      cases h3 : spOk k m
      · have H : Hid (spin1 k m = (([], []), 5)) := Lib.hid (by unfold spin1; rw [if_pos h1, if_pos h2]; unfold spinN; rw [h3]; rfl)
        go_enter Try.func11, Try.ntmps11
        go_wp2_with fail
        refine (c_within _ _ _ _).mono ?_
        rintro e w1 ⟨rfl, rfl⟩
        rw [h1]
        go_wp2_with fail
        refine (c_within _ _ _ _).mono ?_
        rintro e w1 ⟨rfl, rfl⟩
        rw [h2]
        go_wp2_with fail
        refine (c_isSpin k m _ (by omega) (by omega) (by omega) (by omega)).mono ?_
        rintro e w2 ⟨rfl, hb2⟩
        rw [h3]
        have hlt : w.heap.size < w2.heap.size := by have := hb2.size; simp at this; omega
        have hc0 : w2.cell? ⟨w.heap.size, 0, none⟩ = some (.slice none 0 0) := bcell hb2 (by simp)
        have hc1 : w2.cell? ⟨w.heap.size, 1, none⟩ = some (.slice none 0 0) := bcell hb2 (by simp)
        have hf0 : w2.frozen? ⟨w.heap.size, 0, none⟩ = false := bfrozen hb2 (v := .slice none 0 0) (by simp) (by simp)
        have hf1 : w2.frozen? ⟨w.heap.size, 1, none⟩ = false := bfrozen hb2 (v := .slice none 0 0) (by simp) (by simp)
        have HB2 := Lib.hid hb2
        clear hb2
        go_wp2_with fail
        (try simp only [Exit.inBlock, Exit.then])
        refine bodyPost_ret (v := .tuple #[.agg #[.slice none 0 0, .slice none 0 0], .int .i64 5]) (by rw [results_cell_tmp rfl]; go_simp) rfl ?_
        exact retX_nil H.out (below_set (below_set (below_after HB2.out) (Nat.le_refl _)) (Nat.le_refl _))
      · have H : Hid (spin1 k m = ((spinN k m 1).1, 0)) := Lib.hid (by unfold spin1; rw [if_pos h1, if_pos h2]; unfold spinN; rw [if_pos h3])
        have HSP := Lib.hid (fun w => c_spinData k m 1 w (by omega) (by omega) (by omega) (by omega) (by omega) h3)
        generalize (spinN k m 1).1 = DD at *
        go_enter Try.func11, Try.ntmps11
        go_wp2_with fail
        refine (c_within _ _ _ _).mono ?_
        rintro e w1 ⟨rfl, rfl⟩
        rw [h1]
        go_wp2_with fail
        refine (c_within _ _ _ _).mono ?_
        rintro e w1 ⟨rfl, rfl⟩
        rw [h2]
        go_wp2_with fail
        refine (c_isSpin k m _ (by omega) (by omega) (by omega) (by omega)).mono ?_
        rintro e w2 ⟨rfl, hb2⟩
        rw [h3]
        have hlt : w.heap.size < w2.heap.size := by have := hb2.size; simp at this; omega
        have hc0 : w2.cell? ⟨w.heap.size, 0, none⟩ = some (.slice none 0 0) := bcell hb2 (by simp)
        have hc1 : w2.cell? ⟨w.heap.size, 1, none⟩ = some (.slice none 0 0) := bcell hb2 (by simp)
        have hf0 : w2.frozen? ⟨w.heap.size, 0, none⟩ = false := bfrozen hb2 (v := .slice none 0 0) (by simp) (by simp)
        have hf1 : w2.frozen? ⟨w.heap.size, 1, none⟩ = false := bfrozen hb2 (v := .slice none 0 0) (by simp) (by simp)
        have HB2 := Lib.hid hb2
        clear hb2
        go_wp2_with fail
        refine (HSP.out _).mono ?_
        rintro e w3 ⟨s, t, rfl, ho, hb3⟩
        obtain ⟨⟨sp, sn, sc, rfl⟩, ⟨tp, tn, tc, rfl⟩⟩ := ho.slices
        have hc0x : w3.cell? ⟨w.heap.size, 0, none⟩ = some (.slice none 0 0) := bcell hb3 hc0
        have hc1x : w3.cell? ⟨w.heap.size, 1, none⟩ = some (.slice none 0 0) := bcell hb3 hc1
        have hf0x : w3.frozen? ⟨w.heap.size, 0, none⟩ = false := bfrozen hb3 hc0 hf0
        have hf1x : w3.frozen? ⟨w.heap.size, 1, none⟩ = false := bfrozen hb3 hc1 hf1
        have HBB := Lib.hid ((below_after HB2.out).trans (hb3.mono (Nat.le_of_lt hlt)))
        have HO := Lib.hid ho
        have hlt3 : w.heap.size < w3.heap.size := Nat.lt_of_lt_of_le hlt hb3.size
        clear hb3 ho hc0 hc1 hf0 hf1
        go_wp2_with fail
        (try simp only [Exit.inBlock, Exit.then])
        refine bodyPost_ret (v := .tuple #[.agg #[.slice sp sn sc, .slice tp tn tc], .int .i64 0]) (by rw [results_cell_tmp rfl]; go_simp) rfl ?_
        exact retX_of H.out HO.out hlt (Nat.le_refl _) HBB.out
set_option maxHeartbeats 1000000 in
theorem c_SEvenSpinData (k m : Int) (w : World) : Calls Try.prog 5 #[.int .i64 k, .int .i64 m] w (RetX (even1 k m) w) := by
  cases h1 : inR 1 31 k
  · have H : Hid (even1 k m = (([], []), 2)) := Lib.hid (by unfold even1; rw [h1]; rfl)
    go_enter Try.func5, Try.ntmps5
    go_wp2_with fail
    refine (c_l01In _ _ _ _).mono ?_
    rintro e w1 ⟨rfl, rfl⟩
    rw [h1]
    go_wp2_with fail
    (try simp only [Exit.inBlock, Exit.then])
    refine bodyPost_ret (v := .tuple #[.agg #[.slice none 0 0, .slice none 0 0], .int .i64 2]) (by rw [results_cell_tmp rfl]; go_simp) rfl ?_
    exact retX_nil H.out (below_alloc w _)
  · obtain ⟨hk1, hk2⟩ := inR_true h1
    by_cases hev : k % 2 = 0
    · have H : Hid (even1 k m = (([], []), 2)) := Lib.hid (by unfold even1; rw [if_pos h1, if_pos hev])
      go_enter Try.func5, Try.ntmps5
      go_wp2_with fail
      refine (c_l01In _ _ _ _).mono ?_
      rintro e w1 ⟨rfl, rfl⟩
      rw [h1]
      go_wp2_with fail
      (try simp only [Exit.inBlock, Exit.then])
      refine bodyPost_ret (v := .tuple #[.agg #[.slice none 0 0, .slice none 0 0], .int .i64 2]) (by rw [results_cell_tmp rfl]; go_simp) rfl ?_
      exact retX_nil H.out (below_alloc w _)
    · have hev2 : ((k % 2 : Int) == 0) = false := by simpa using hev
      cases h2 : inR 1 1000 m
      · have H : Hid (even1 k m = (([], []), 2)) := Lib.hid (by unfold even1; rw [if_pos h1, if_neg hev, h2]; rfl)
        go_enter Try.func5, Try.ntmps5
        go_wp2_with fail
        refine (c_l01In _ _ _ _).mono ?_
        rintro e w1 ⟨rfl, rfl⟩
        rw [h1]
        go_wp2_with fail
        refine (c_l01In _ _ _ _).mono ?_
        rintro e w1 ⟨rfl, rfl⟩
        rw [h2]
        go_wp2_with fail
        (try simp only [Exit.inBlock, Exit.then])
        refine bodyPost_ret (v := .tuple #[.agg #[.slice none 0 0, .slice none 0 0], .int .i64 2]) (by rw [results_cell_tmp rfl]; go_simp) rfl ?_
        exact retX_nil H.out (below_alloc w _)
      · obtain ⟨hm1, hm2⟩ := inR_true h2
        have H : Hid (even1 k m = spinN k m 2) := Lib.hid (by unfold even1; rw [if_pos h1, if_neg hev, if_pos h2])
        have HSP := Lib.hid (fun w => c_l13Spin k m 2 w (by omega) (by omega) (by omega) (by omega) (by omega))
        generalize spinN k m 2 = DD at *
        obtain ⟨DD, cc⟩ := DD
        go_enter Try.func5, Try.ntmps5
        go_wp2_with fail
        refine (c_l01In _ _ _ _).mono ?_
        rintro e w1 ⟨rfl, rfl⟩
        rw [h1]
        go_wp2_with fail
        refine (c_l01In _ _ _ _).mono ?_
        rintro e w1 ⟨rfl, rfl⟩
        rw [h2]
        go_wp2_with fail
        refine (HSP.out _).mono ?_
        rintro e w3 ⟨s, t, rfl, ho, hb3⟩
        obtain ⟨⟨sp, sn, sc, rfl⟩, ⟨tp, tn, tc, rfl⟩⟩ := ho.slices
        have hlt3 : w.heap.size < w3.heap.size := by have := hb3.size; simp at this; omega
        have hlt4 : w.heap.size < w3.heap.size + 1 := by omega
        have hc0 : w3.cell? ⟨w.heap.size, 0, none⟩ = some (.slice none 0 0) := bcell hb3 (by simp)
        have hc1 : w3.cell? ⟨w.heap.size, 1, none⟩ = some (.slice none 0 0) := bcell hb3 (by simp)
        have hf0 : w3.frozen? ⟨w.heap.size, 0, none⟩ = false := bfrozen hb3 (v := .slice none 0 0) (by simp) (by simp)
        have hf1 : w3.frozen? ⟨w.heap.size, 1, none⟩ = false := bfrozen hb3 (v := .slice none 0 0) (by simp) (by simp)
        have HBB := Lib.hid (below_after hb3)
        have HO := Lib.hid ho
        clear hb3 ho
        go_wp2_with fail
        (try simp only [Exit.inBlock, Exit.then])
        refine bodyPost_ret (v := .tuple #[.agg #[.slice sp sn sc, .slice tp tn tc], .int .i64 cc]) (by rw [results_cell_tmp rfl]; go_simp) rfl ?_
        exact (retX_of H.out HO.out (by simp) (Nat.le_refl _) HBB.out).alloc _
set_option maxHeartbeats 1000000 in
theorem c_EvenSpinData (k m : Int) (w : World) : Calls Try.prog 6 #[.int .i64 k, .int .i64 m] w (RetX (even1 k m) w) := by
  cases h1 : inR 1 31 k
  · have H : Hid (even1 k m = (([], []), 2)) := Lib.hid (by unfold even1; rw [h1]; rfl)
    go_enter Try.func6, Try.ntmps6
    go_wp2_with fail
    refine (c_within _ _ _ _).mono ?_
    rintro e w1 ⟨rfl, rfl⟩
    rw [h1]
    go_wp2_with fail
    (try simp only [Exit.inBlock, Exit.then])
    refine bodyPost_ret (v := .tuple #[.agg #[.slice none 0 0, .slice none 0 0], .int .i64 2]) (by rw [results_cell_tmp rfl]; go_simp) rfl ?_
    exact retX_nil H.out (below_alloc w _)
  · obtain ⟨hk1, hk2⟩ := inR_true h1
    by_cases hev : k % 2 = 0
    · have H : Hid (even1 k m = (([], []), 2)) := Lib.hid (by unfold even1; rw [if_pos h1, if_pos hev])
      cases h2 : inR 1 1000 m
      · go_enter Try.func6, Try.ntmps6
        go_wp2_with fail
        refine (c_within _ _ _ _).mono ?_
        rintro e w1 ⟨rfl, rfl⟩
        rw [h1]
        go_wp2_with fail
        refine (c_within _ _ _ _).mono ?_
        rintro e w1 ⟨rfl, rfl⟩
        rw [h2]
        go_wp2_with fail
        (try simp only [Exit.inBlock, Exit.then])
        refine bodyPost_ret (v := .tuple #[.agg #[.slice none 0 0, .slice none 0 0], .int .i64 2]) (by rw [results_cell_tmp rfl]; go_simp) rfl ?_
        exact retX_nil H.out (below_alloc w _)
      · go_enter Try.func6, Try.ntmps6
        go_wp2_with fail
        refine (c_within _ _ _ _).mono ?_
        rintro e w1 ⟨rfl, rfl⟩
        rw [h1]
        go_wp2_with fail
        refine (c_within _ _ _ _).mono ?_
        rintro e w1 ⟨rfl, rfl⟩
        rw [h2]
        go_wp2_with fail
        (try simp only [Exit.inBlock, Exit.then])
        refine bodyPost_ret (v := .tuple #[.agg #[.slice none 0 0, .slice none 0 0], .int .i64 2]) (by rw [results_cell_tmp rfl]; go_simp) rfl ?_
        exact retX_nil H.out (below_alloc w _)
    · have hev2 : ((k % 2 : Int) == 0) = false := by simpa using hev
      cases h2 : inR 1 1000 m
      · have H : Hid (even1 k m = (([], []), 2)) := Lib.hid (by unfold even1; rw [if_pos h1, if_neg hev, h2]; rfl)
        go_enter Try.func6, Try.ntmps6
        go_wp2_with fail
        refine (c_within _ _ _ _).mono ?_
        rintro e w1 ⟨rfl, rfl⟩
        rw [h1]
        go_wp2_with fail
        refine (c_within _ _ _ _).mono ?_
        rintro e w1 ⟨rfl, rfl⟩
        rw [h2]
        go_wp2_with fail
        (try simp only [Exit.inBlock, Exit.then])
        refine bodyPost_ret (v := .tuple #[.agg #[.slice none 0 0, .slice none 0 0], .int .i64 2]) (by rw [results_cell_tmp rfl]; go_simp) rfl ?_
        exact retX_nil H.out (below_alloc w _)
      · obtain ⟨hm1, hm2⟩ := inR_true h2
        cases h3 : spOk k m
        · have H : Hid (even1 k m = (([], []), 5)) := Lib.hid (by unfold even1; rw [if_pos h1, if_neg hev, if_pos h2]; unfold spinN; rw [h3]; rfl)
          go_enter Try.func6, Try.ntmps6
          go_wp2_with fail
          refine (c_within _ _ _ _).mono ?_
          rintro e w1 ⟨rfl, rfl⟩
          rw [h1]
          go_wp2_with fail
          refine (c_within _ _ _ _).mono ?_
          rintro e w1 ⟨rfl, rfl⟩
          rw [h2]
          go_wp2_with fail
          refine (c_isSpin k m _ (by omega) (by omega) (by omega) (by omega)).mono ?_
          rintro e w2 ⟨rfl, hb2⟩
          rw [h3]
          have hlt : w.heap.size < w2.heap.size := by have := hb2.size; simp at this; omega
          have hc0 : w2.cell? ⟨w.heap.size, 0, none⟩ = some (.slice none 0 0) := bcell hb2 (by simp)
          have hc1 : w2.cell? ⟨w.heap.size, 1, none⟩ = some (.slice none 0 0) := bcell hb2 (by simp)
          have hf0 : w2.frozen? ⟨w.heap.size, 0, none⟩ = false := bfrozen hb2 (v := .slice none 0 0) (by simp) (by simp)
          have hf1 : w2.frozen? ⟨w.heap.size, 1, none⟩ = false := bfrozen hb2 (v := .slice none 0 0) (by simp) (by simp)
          have HB2 := Lib.hid hb2
          clear hb2
          go_wp2_with fail
          (try simp only [Exit.inBlock, Exit.then])
          refine bodyPost_ret (v := .tuple #[.agg #[.slice none 0 0, .slice none 0 0], .int .i64 5]) (by rw [results_cell_tmp rfl]; go_simp) rfl ?_
          exact retX_nil H.out (below_set (below_set (below_after HB2.out) (Nat.le_refl _)) (Nat.le_refl _))
        · have H : Hid (even1 k m = ((spinN k m 2).1, 0)) := Lib.hid (by unfold even1; rw [if_pos h1, if_neg hev, if_pos h2]; unfold spinN; rw [if_pos h3])
          have HSP := Lib.hid (fun w => c_spinData k m 2 w (by omega) (by omega) (by omega) (by omega) (by omega) h3)
          generalize (spinN k m 2).1 = DD at *
          go_enter Try.func6, Try.ntmps6
          go_wp2_with fail
          refine (c_within _ _ _ _).mono ?_
          rintro e w1 ⟨rfl, rfl⟩
          rw [h1]
          go_wp2_with fail
          refine (c_within _ _ _ _).mono ?_
          rintro e w1 ⟨rfl, rfl⟩
          rw [h2]
          go_wp2_with fail
          refine (c_isSpin k m _ (by omega) (by omega) (by omega) (by omega)).mono ?_
          rintro e w2 ⟨rfl, hb2⟩
          rw [h3]
          have hlt : w.heap.size < w2.heap.size := by have := hb2.size; simp at this; omega
          have hc0 : w2.cell? ⟨w.heap.size, 0, none⟩ = some (.slice none 0 0) := bcell hb2 (by simp)
          have hc1 : w2.cell? ⟨w.heap.size, 1, none⟩ = some (.slice none 0 0) := bcell hb2 (by simp)
          have hf0 : w2.frozen? ⟨w.heap.size, 0, none⟩ = false := bfrozen hb2 (v := .slice none 0 0) (by simp) (by simp)
          have hf1 : w2.frozen? ⟨w.heap.size, 1, none⟩ = false := bfrozen hb2 (v := .slice none 0 0) (by simp) (by simp)
          have HB2 := Lib.hid hb2
          clear hb2
          go_wp2_with fail
          refine (HSP.out _).mono ?_
          rintro e w3 ⟨s, t, rfl, ho, hb3⟩
          obtain ⟨⟨sp, sn, sc, rfl⟩, ⟨tp, tn, tc, rfl⟩⟩ := ho.slices
          have hc0x : w3.cell? ⟨w.heap.size, 0, none⟩ = some (.slice none 0 0) := bcell hb3 hc0
          have hc1x : w3.cell? ⟨w.heap.size, 1, none⟩ = some (.slice none 0 0) := bcell hb3 hc1
          have hf0x : w3.frozen? ⟨w.heap.size, 0, none⟩ = false := bfrozen hb3 hc0 hf0
          have hf1x : w3.frozen? ⟨w.heap.size, 1, none⟩ = false := bfrozen hb3 hc1 hf1
          have HBB := Lib.hid ((below_after HB2.out).trans (hb3.mono (Nat.le_of_lt hlt)))
          have HO := Lib.hid ho
          have hlt3 : w.heap.size < w3.heap.size := Nat.lt_of_lt_of_le hlt hb3.size
          clear hb3 ho hc0 hc1 hf0 hf1
          go_wp2_with fail
          (try simp only [Exit.inBlock, Exit.then])
          refine bodyPost_ret (v := .tuple #[.agg #[.slice sp sn sc, .slice tp tn tc], .int .i64 0]) (by rw [results_cell_tmp rfl]; go_simp) rfl ?_
          exact retX_of H.out HO.out hlt (Nat.le_refl _) HBB.out
end Go.Proofs.Ytibaollnjfibnaa
