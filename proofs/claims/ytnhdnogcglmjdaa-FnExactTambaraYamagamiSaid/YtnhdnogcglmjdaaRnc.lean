/- Near-group rings and those of Tambara and Yamagami: the calls of both sides. -/
import Derived.Test.YtnhdnogcglmjdaaRnr
namespace Go.Proofs.Ytnhdnogcglmjdaa
open Go.RowKit

/-- what the calls answer -/
noncomputable def nearN (xs : List Int) (q : Int) : List (List (List Int)) × Int :=
  if codeN (ordN xs) 15 = 1 then ([], 1) else if inR 0 1000 q = false then ([], 2) else if codeN (ordN xs) 15 = 0 then (cub (ordN xs + 1) (nearE (ordN xs) (grpT xs) q), 0) else ([], codeN (ordN xs) 15)
theorem nearN_small (xs : List Int) (q : Int) : SmallC (nearN xs q).1 := by
  unfold nearN
  split
  · exact smallC_nil
  · split
    · exact smallC_nil
    · split
      · rename_i h
        exact smallC_cub _ (by have := (codeN_ok h).2; omega)
      · exact smallC_nil
theorem c_NearGroup (v : Value) (xs : List Int) (q : Int) (w : World) (hv : Ints w v xs) : Calls Try.prog 37 #[v, .int .i64 q] w (RetR (nearN xs q) w) := by
  obtain ⟨hcb1, hcb2⟩ := codeN_bd (ordN xs) 15
  have HCI : Hid (∀ w1, Ints w1 v xs → Calls Try.prog 64 #[v, .int .i64 15] w1 fun e w' => e = .returned (.int .i64 (codeN (ordN xs) 15)) ∧ w1 = w') := Lib.hid (fun w1 h1 => c_ordersCode v xs 15 w1 h1 (by omega))
  have HB0 := Lib.hid (hv.keep (below_alloc w (.cells #[.slice none 0 0] 31)))
  clear hv
  have HNR : Hid (nearN xs q = if codeN (ordN xs) 15 = 1 then ([], 1) else if inR 0 1000 q = false then ([], 2) else if codeN (ordN xs) 15 = 0 then (cub (ordN xs + 1) (nearE (ordN xs) (grpT xs) q), 0) else ([], codeN (ordN xs) 15)) := Lib.hid rfl
  by_cases h : codeN (ordN xs) 15 = 0
  · have HO := Lib.hid (codeN_ok h)
    rw [h] at HCI HNR
    clear h hcb1 hcb2
    cases hq : inR 0 1000 q
    · have H : Hid (nearN xs q = ([], 2)) := Lib.hid (by rw [HNR.out, if_neg (by omega), if_pos hq])
      go_enter Try.func37, Try.ntmps37
      go_wp2_with fail
      refine (HCI.out _ HB0.out).mono ?_
      rintro e w1 ⟨rfl, rfl⟩
      go_wp2_with fail
      refine (c_within _ _ _ _).mono ?_
      rintro e w1 ⟨rfl, rfl⟩
      rw [hq]
      go_wp2_with fail
      (try simp only [Exit.inBlock, Exit.then])
      refine bodyPost_ret (v := .tuple #[.agg #[.slice none 0 0], .int .i64 2]) (by rw [results_cell_tmp rfl]; go_simp) rfl ?_
      exact ⟨_, by rw [H.out], by rw [H.out]; exact OwnCB.nil _ _ _, below_alloc w _⟩
    · have H : Hid (nearN xs q = (cub (ordN xs + 1) (nearE (ordN xs) (grpT xs) q), 0)) := Lib.hid (by rw [HNR.out, if_neg (by omega), if_neg (by rw [hq]; decide), if_pos rfl])
      go_enter Try.func37, Try.ntmps37
      go_wp2_with fail
      refine (HCI.out _ HB0.out).mono ?_
      rintro e w1 ⟨rfl, rfl⟩
      go_wp2_with fail
      refine (c_within _ _ _ _).mono ?_
      rintro e w1 ⟨rfl, rfl⟩
      rw [hq]
      clear hq
      go_wp2_with fail
      refine (c_nearGroup v xs q _ HB0.out HO.out.1 HO.out.2).mono ?_
      rintro e w2 ⟨v2, rfl, ho2, hb2⟩
      obtain ⟨p, n, cc, rfl⟩ := ho2.slice
      have hlt : w.heap.size < w2.heap.size := by have := hb2.size; simp at this; omega
      have hc0 : w2.cell? ⟨w.heap.size, 0, none⟩ = some (.slice none 0 0) := bcell hb2 (by simp)
      have hf0 : w2.frozen? ⟨w.heap.size, 0, none⟩ = false := bfrozen hb2 (v := .slice none 0 0) (by simp) (by simp)
      have HO2 : Hid (OwnCB (w2.setCell ⟨w.heap.size, 0, none⟩ (.slice p n cc)) (w.heap.size + 1) w2.heap.size (.slice p n cc) (cub (ordN xs + 1) (nearE (ordN xs) (grpT xs) q))) := Lib.hid ((ho2.mono (by simp) (Nat.le_refl _)).same fun x h1 h2 => Below.heap_setCell w2 ⟨w.heap.size, 0, none⟩ _ _ (fun e => by have e' : x = w.heap.size := e; omega))
      have HB : Hid (Below w.heap.size w (w2.setCell ⟨w.heap.size, 0, none⟩ (.slice p n cc))) := Lib.hid (below_set (below_after hb2) (Nat.le_refl _))
      clear ho2 hb2
      go_wp2_with fail
      (try simp only [Exit.inBlock, Exit.then])
      refine bodyPost_ret (v := .tuple #[.agg #[.slice p n cc], .int .i64 0]) (by rw [results_cell_tmp rfl]; go_simp) rfl ?_
      exact ⟨_, by rw [H.out], by rw [H.out]; exact HO2.out.mono (by omega) (by simp), HB.out⟩
  · obtain ⟨C, hC⟩ : ∃ C, C = codeN (ordN xs) 15 := ⟨_, rfl⟩
    rw [← hC] at HCI HNR h hcb1 hcb2
    clear hC
    by_cases h1 : C = 1
    · subst h1
      have H : Hid (nearN xs q = ([], 1)) := Lib.hid (by rw [HNR.out, if_pos rfl])
      go_enter Try.func37, Try.ntmps37
      go_wp2_with fail
      refine (HCI.out _ HB0.out).mono ?_
      rintro e w1 ⟨rfl, rfl⟩
      go_wp2_with fail
      (try simp only [Exit.inBlock, Exit.then])
      refine bodyPost_ret (v := .tuple #[.agg #[.slice none 0 0], .int .i64 1]) (by rw [results_cell_tmp rfl]; go_simp) rfl ?_
      exact ⟨_, by rw [H.out], by rw [H.out]; exact OwnCB.nil _ _ _, below_alloc w _⟩
    · have hB : (C == 0) = false := by rw [beq_eq_false_iff_ne]; exact h
      have hB2 : (C != 0) = true := by rw [bne_iff_ne]; exact h
      have hB3 : (C == 1) = false := by rw [beq_eq_false_iff_ne]; exact h1
      have hB4 : (C != 1) = true := by rw [bne_iff_ne]; exact h1
      cases hq : inR 0 1000 q
      · have H : Hid (nearN xs q = ([], 2)) := Lib.hid (by rw [HNR.out, if_neg h1, if_pos hq])
        go_enter Try.func37, Try.ntmps37
        go_wp2_with fail
        refine (HCI.out _ HB0.out).mono ?_
        rintro e w1 ⟨rfl, rfl⟩
        go_wp2_with fail
        refine (c_within _ _ _ _).mono ?_
        rintro e w1 ⟨rfl, rfl⟩
        rw [hq]
        go_wp2_with fail
        (try simp only [Exit.inBlock, Exit.then])
        refine bodyPost_ret (v := .tuple #[.agg #[.slice none 0 0], .int .i64 2]) (by rw [results_cell_tmp rfl]; go_simp) rfl ?_
        exact ⟨_, by rw [H.out], by rw [H.out]; exact OwnCB.nil _ _ _, below_alloc w _⟩
      · have H : Hid (nearN xs q = ([], C)) := Lib.hid (by rw [HNR.out, if_neg h1, if_neg (by rw [hq]; decide), if_neg h])
        go_enter Try.func37, Try.ntmps37
        go_wp2_with fail
        refine (HCI.out _ HB0.out).mono ?_
        rintro e w1 ⟨rfl, rfl⟩
        go_wp2_with fail
        refine (c_within _ _ _ _).mono ?_
        rintro e w1 ⟨rfl, rfl⟩
        rw [hq]
        go_wp2_with fail
        (try simp only [Exit.inBlock, Exit.then])
        refine bodyPost_ret (v := .tuple #[.agg #[.slice none 0 0], .int .i64 C]) (by rw [results_cell_tmp rfl]; go_simp) rfl ?_
        exact ⟨_, by rw [H.out], by rw [H.out]; exact OwnCB.nil _ _ _, below_alloc w _⟩
theorem c_SNearGroup (v : Value) (xs : List Int) (q : Int) (w : World) (hv : Ints w v xs) : Calls Try.prog 36 #[v, .int .i64 q] w (RetR (nearN xs q) w) := by
  obtain ⟨hcb1, hcb2⟩ := codeN_bd (ordN xs) 15
  have HCI : Hid (∀ w1, Ints w1 v xs → Calls Try.prog 62 #[v, .int .i64 1] w1 fun e w' => e = .returned (.int .i64 (codeN (ordN xs) 15)) ∧ w1 = w') := Lib.hid (fun w1 h1 => c_l06Code v xs 1 w1 h1 (by omega))
  have HB0 := Lib.hid (hv.keep (below_alloc w (.cells #[.slice none 0 0] 31)))
  clear hv
  have HNR : Hid (nearN xs q = if codeN (ordN xs) 15 = 1 then ([], 1) else if inR 0 1000 q = false then ([], 2) else if codeN (ordN xs) 15 = 0 then (cub (ordN xs + 1) (nearE (ordN xs) (grpT xs) q), 0) else ([], codeN (ordN xs) 15)) := Lib.hid rfl
  by_cases h : codeN (ordN xs) 15 = 0
  · have HO := Lib.hid (codeN_ok h)
    rw [h] at HCI HNR
    clear h hcb1 hcb2
    cases hq : inR 0 1000 q
    · have H : Hid (nearN xs q = ([], 2)) := Lib.hid (by rw [HNR.out, if_neg (by omega), if_pos hq])
      go_enter Try.func36, Try.ntmps36
      go_wp2_with fail
      refine (HCI.out _ HB0.out).mono ?_
      rintro e w1 ⟨rfl, rfl⟩
      go_wp2_with fail
      refine (c_l01In _ _ _ _).mono ?_
      rintro e w1 ⟨rfl, rfl⟩
      rw [hq]
      go_wp2_with fail
      (try simp only [Exit.inBlock, Exit.then])
      refine bodyPost_ret (v := .tuple #[.agg #[.slice none 0 0], .int .i64 2]) (by rw [results_cell_tmp rfl]; go_simp) rfl ?_
      exact ⟨_, by rw [H.out], by rw [H.out]; exact OwnCB.nil _ _ _, below_alloc w _⟩
    · have H : Hid (nearN xs q = (cub (ordN xs + 1) (nearE (ordN xs) (grpT xs) q), 0)) := Lib.hid (by rw [HNR.out, if_neg (by omega), if_neg (by rw [hq]; decide), if_pos rfl])
      go_enter Try.func36, Try.ntmps36
      go_wp2_with fail
      refine (HCI.out _ HB0.out).mono ?_
      rintro e w1 ⟨rfl, rfl⟩
      go_wp2_with fail
      refine (c_l01In _ _ _ _).mono ?_
      rintro e w1 ⟨rfl, rfl⟩
      rw [hq]
      clear hq
      go_wp2_with fail
      refine (c_l06Near v xs q _ HB0.out HO.out.1 HO.out.2).mono ?_
      rintro e w2 ⟨v2, rfl, ho2, hb2⟩
      obtain ⟨p, n, cc, rfl⟩ := ho2.slice
      have hlt : w.heap.size < w2.heap.size := by have := hb2.size; simp at this; omega
      have hc0 : w2.cell? ⟨w.heap.size, 0, none⟩ = some (.slice none 0 0) := bcell hb2 (by simp)
      have hf0 : w2.frozen? ⟨w.heap.size, 0, none⟩ = false := bfrozen hb2 (v := .slice none 0 0) (by simp) (by simp)
      have HO2 : Hid (OwnCB (w2.setCell ⟨w.heap.size, 0, none⟩ (.slice p n cc)) (w.heap.size + 1) w2.heap.size (.slice p n cc) (cub (ordN xs + 1) (nearE (ordN xs) (grpT xs) q))) := Lib.hid ((ho2.mono (by simp) (Nat.le_refl _)).same fun x h1 h2 => Below.heap_setCell w2 ⟨w.heap.size, 0, none⟩ _ _ (fun e => by have e' : x = w.heap.size := e; omega))
      have HB : Hid (Below w.heap.size w (w2.setCell ⟨w.heap.size, 0, none⟩ (.slice p n cc))) := Lib.hid (below_set (below_after hb2) (Nat.le_refl _))
      clear ho2 hb2
      go_wp2_with fail
      (try simp only [Exit.inBlock, Exit.then])
      refine bodyPost_ret (v := .tuple #[.agg #[.slice p n cc], .int .i64 0]) (by rw [results_cell_tmp rfl]; go_simp) rfl ?_
      exact ⟨_, by rw [H.out], by rw [H.out]; exact HO2.out.mono (by omega) (by simp), HB.out⟩
  · obtain ⟨C, hC⟩ : ∃ C, C = codeN (ordN xs) 15 := ⟨_, rfl⟩
    rw [← hC] at HCI HNR h hcb1 hcb2
    clear hC
    by_cases h1 : C = 1
    · subst h1
      have H : Hid (nearN xs q = ([], 1)) := Lib.hid (by rw [HNR.out, if_pos rfl])
      go_enter Try.func36, Try.ntmps36
      go_wp2_with fail
      refine (HCI.out _ HB0.out).mono ?_
      rintro e w1 ⟨rfl, rfl⟩
      go_wp2_with fail
      (try simp only [Exit.inBlock, Exit.then])
      refine bodyPost_ret (v := .tuple #[.agg #[.slice none 0 0], .int .i64 1]) (by rw [results_cell_tmp rfl]; go_simp) rfl ?_
      exact ⟨_, by rw [H.out], by rw [H.out]; exact OwnCB.nil _ _ _, below_alloc w _⟩
    · have hB : (C == 0) = false := by rw [beq_eq_false_iff_ne]; exact h
      have hB2 : (C != 0) = true := by rw [bne_iff_ne]; exact h
      have hB3 : (C == 1) = false := by rw [beq_eq_false_iff_ne]; exact h1
      have hB4 : (C != 1) = true := by rw [bne_iff_ne]; exact h1
      cases hq : inR 0 1000 q
      · have H : Hid (nearN xs q = ([], 2)) := Lib.hid (by rw [HNR.out, if_neg h1, if_pos hq])
        go_enter Try.func36, Try.ntmps36
        go_wp2_with fail
        refine (HCI.out _ HB0.out).mono ?_
        rintro e w1 ⟨rfl, rfl⟩
        go_wp2_with fail
        refine (c_l01In _ _ _ _).mono ?_
        rintro e w1 ⟨rfl, rfl⟩
        rw [hq]
        go_wp2_with fail
        (try simp only [Exit.inBlock, Exit.then])
        refine bodyPost_ret (v := .tuple #[.agg #[.slice none 0 0], .int .i64 2]) (by rw [results_cell_tmp rfl]; go_simp) rfl ?_
        exact ⟨_, by rw [H.out], by rw [H.out]; exact OwnCB.nil _ _ _, below_alloc w _⟩
      · have H : Hid (nearN xs q = ([], C)) := Lib.hid (by rw [HNR.out, if_neg h1, if_neg (by rw [hq]; decide), if_neg h])
        go_enter Try.func36, Try.ntmps36
        go_wp2_with fail
        refine (HCI.out _ HB0.out).mono ?_
        rintro e w1 ⟨rfl, rfl⟩
        go_wp2_with fail
        refine (c_l01In _ _ _ _).mono ?_
        rintro e w1 ⟨rfl, rfl⟩
        rw [hq]
        go_wp2_with fail
        (try simp only [Exit.inBlock, Exit.then])
        refine bodyPost_ret (v := .tuple #[.agg #[.slice none 0 0], .int .i64 C]) (by rw [results_cell_tmp rfl]; go_simp) rfl ?_
        exact ⟨_, by rw [H.out], by rw [H.out]; exact OwnCB.nil _ _ _, below_alloc w _⟩
theorem c_TambaraYamagami (v : Value) (xs : List Int) (w : World) (hv : Ints w v xs) : Calls Try.prog 39 #[v] w (RetR (nearN xs 0) w) := by
  have HB0 := Lib.hid (hv.keep (below_alloc w (.cells #[.slice none 0 0] 31)))
  clear hv
  go_enter Try.func39, Try.ntmps39
  go_wp2_with fail
  refine (c_NearGroup v xs 0 _ HB0.out).mono ?_
  obtain ⟨r, hr⟩ : ∃ r, r = nearN xs 0 := ⟨_, rfl⟩
  rw [← hr]
  have HRr := Lib.hid hr
  clear hr
  rintro e w2 ⟨v2, rfl, ho2, hb2⟩
  obtain ⟨p, n, cc, rfl⟩ := ho2.slice
  have hlt : w.heap.size < w2.heap.size := by have := hb2.size; simp at this; omega
  have hc0 : w2.cell? ⟨w.heap.size, 0, none⟩ = some (.slice none 0 0) := bcell hb2 (by simp)
  have hf0 : w2.frozen? ⟨w.heap.size, 0, none⟩ = false := bfrozen hb2 (v := .slice none 0 0) (by simp) (by simp)
  have HO2 : Hid (OwnCB (w2.setCell ⟨w.heap.size, 0, none⟩ (.slice p n cc)) (w.heap.size + 1) w2.heap.size (.slice p n cc) r.1) := Lib.hid ((ho2.mono (by simp) (Nat.le_refl _)).same fun x h1 h2 => Below.heap_setCell w2 ⟨w.heap.size, 0, none⟩ _ _ (fun e => by have e' : x = w.heap.size := e; omega))
  have HB : Hid (Below w.heap.size w (w2.setCell ⟨w.heap.size, 0, none⟩ (.slice p n cc))) := Lib.hid (below_set (below_after hb2) (Nat.le_refl _))
  clear ho2 hb2
  go_wp2_with fail
  (try simp only [Exit.inBlock, Exit.then])
  refine bodyPost_ret (v := .tuple #[.agg #[.slice p n cc], .int .i64 r.2]) (by rw [results_cell_tmp rfl]; go_simp) rfl ?_
  rw [← HRr.out]
  exact ⟨_, rfl, HO2.out.mono (by omega) (by simp), HB.out⟩
theorem c_STambaraYamagami (v : Value) (xs : List Int) (w : World) (hv : Ints w v xs) : Calls Try.prog 38 #[v] w (RetR (nearN xs 0) w) := by
  have HB0 := Lib.hid (hv.keep (below_alloc w (.cells #[.slice none 0 0] 31)))
  clear hv
  go_enter Try.func38, Try.ntmps38
  go_wp2_with fail
  refine (c_SNearGroup v xs 0 _ HB0.out).mono ?_
  obtain ⟨r, hr⟩ : ∃ r, r = nearN xs 0 := ⟨_, rfl⟩
  rw [← hr]
  have HRr := Lib.hid hr
  clear hr
  rintro e w2 ⟨v2, rfl, ho2, hb2⟩
  obtain ⟨p, n, cc, rfl⟩ := ho2.slice
  have hlt : w.heap.size < w2.heap.size := by have := hb2.size; simp at this; omega
  have hc0 : w2.cell? ⟨w.heap.size, 0, none⟩ = some (.slice none 0 0) := bcell hb2 (by simp)
  have hf0 : w2.frozen? ⟨w.heap.size, 0, none⟩ = false := bfrozen hb2 (v := .slice none 0 0) (by simp) (by simp)
  have HO2 : Hid (OwnCB (w2.setCell ⟨w.heap.size, 0, none⟩ (.slice p n cc)) (w.heap.size + 1) w2.heap.size (.slice p n cc) r.1) := Lib.hid ((ho2.mono (by simp) (Nat.le_refl _)).same fun x h1 h2 => Below.heap_setCell w2 ⟨w.heap.size, 0, none⟩ _ _ (fun e => by have e' : x = w.heap.size := e; omega))
  have HB : Hid (Below w.heap.size w (w2.setCell ⟨w.heap.size, 0, none⟩ (.slice p n cc))) := Lib.hid (below_set (below_after hb2) (Nat.le_refl _))
  clear ho2 hb2
  go_wp2_with fail
  (try simp only [Exit.inBlock, Exit.then])
  refine bodyPost_ret (v := .tuple #[.agg #[.slice p n cc], .int .i64 r.2]) (by rw [results_cell_tmp rfl]; go_simp) rfl ?_
  rw [← HRr.out]
  exact ⟨_, rfl, (HO2.out.alloc (by simp) _).mono (by omega) (by simp), HB.out.alloc HB.out.size _⟩
end Go.Proofs.Ytnhdnogcglmjdaa
