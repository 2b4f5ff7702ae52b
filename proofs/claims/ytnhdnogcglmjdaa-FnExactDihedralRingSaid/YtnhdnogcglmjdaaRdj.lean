/- Dihedral rings: the program's table for even n. -/
import Derived.Test.YtnhdnogcglmjdaaRdi
namespace Go.Proofs.Ytnhdnogcglmjdaa
open Go.RowKit
set_option maxRecDepth 100000 in
set_option maxHeartbeats 8000000 in
theorem c_DihedralRing_4 (n : Nat) (w : World) (hn1 : 1 ≤ n) (hn2 : n ≤ 18) (hpar : n % 2 = 0) :
    Calls Try.prog 35 #[.int .i64 n] w (RetR (cub (4 + (n - 1) / 2) (dgF n 4), 0) w) := by
  have hq : inR 1 18 (n : Int) = true := by simp [inR]; omega
  obtain ⟨L, hL⟩ : ∃ L, L = 4 + (n - 1) / 2 := ⟨_, rfl⟩
  have hLL : Hid ((n % 2 = 1 ∧ L = 2 + (n - 1) / 2) ∨ (n % 2 = 0 ∧ L = 4 + (n - 1) / 2)) := Lib.hid (by omega)
  have hLn : L ≤ 12 ∧ 4 ≤ L ∧ 2 * (L - 4) ≤ n - 1 := by omega
  obtain ⟨hL1, hL2, hL3⟩ := hLn
  have HLE : Hid ((4 : Int) + ((n : Int) - 1) / 2 = (L : Int)) := Lib.hid (by omega)
  rw [← hL]
  have HL := Lib.hid hL
  clear hL
  have hpB : (((n : Int) % 2) == 0) = true := by rw [beq_iff_eq]; omega
  go_enter Try.func35, Try.ntmps35
  go_wp2_with fail
  refine (c_within _ _ _ _).mono ?_
  rintro e w0 ⟨rfl, rfl⟩
  rw [hq]
  clear hq
  go_wp2_with fail
  rw [HLE.out]
  refine (c_emptyCube L _ (by omega)).mono ?_
  rintro e w1 ⟨v1, rfl, ho1, hb1⟩
  obtain ⟨g, cap, rfl, hg1, hg2⟩ := ho1.shape' (by rw [cub_length]; omega)
  rw [cub_length] at ho1 ⊢
  have hsz1 : w.heap.size + 1 ≤ w1.heap.size := by have := hb1.size; simpa using this
  have hlt1 : w.heap.size < w1.heap.size := by omega
  have HIN : Hid (InBox w w.heap.size w1.heap.size (w.heap.size + 1) (.slice (some ⟨g, 0, none⟩) L cap) (cub L (genG L (dgF n 4) 0 0)) (w1.alloc (.cells #[.slice (some ⟨g, 0, none⟩) L cap] 31))) := Lib.hid
    ⟨bcell (below_alloc _ _) (bcell hb1 (v := .slice none 0 0) (by simp)), bfrozen (below_alloc _ _) (bcell hb1 (v := .slice none 0 0) (by simp)) (bfrozen hb1 (v := .slice none 0 0) (by simp) (by simp)), by simp, by simp, by rw [gn_start]; exact (ho1.mono (by simp) (Nat.le_refl _)).alloc (Nat.le_refl _) _, below_after (hb1.alloc hb1.size _)⟩
  clear ho1 hb1
  go_wp2_with fail
  go_loopw [27] (fun i wr => ∃ k : Nat, k ≤ L ∧ i = .int .i64 k ∧ Hid (InBox w w.heap.size w1.heap.size (w.heap.size + 1) (.slice (some ⟨g, 0, none⟩) L cap) (cub L (genG L (dgF n 4) k 0)) wr)) (fun i _ => L - (intOf i).toNat)
  case atStart => exact ⟨0, Nat.zero_le _, rfl, HIN⟩
  case round =>
    obtain ⟨i, hi, rfl, hin⟩ := hrel
    have hc0 := hin.out.c0
    have hf0 := hin.out.f0
    have hc1 := hin.out.c1
    have hsz := hin.out.size
    by_cases hlt : i < L
    · go_wp2_with fail
      go_loopw [31] (fun j wr => ∃ k : Nat, k ≤ L ∧ j = .int .i64 k ∧ Hid (InBox w w.heap.size w1.heap.size (w.heap.size + 1) (.slice (some ⟨g, 0, none⟩) L cap) (cub L (genG L (dgF n 4) i k)) wr)) (fun j _ => L - (intOf j).toNat)
      case atStart => exact ⟨0, Nat.zero_le _, rfl, hin⟩
      case round =>
        clear hin hc0 hf0 hc1 hsz
        obtain ⟨j, hj, rfl, hin⟩ := hrel
        have hc1 := hin.out.c1
        have hsz := hin.out.size
        by_cases hlt2 : j < L
        · obtain ⟨g1, c1, g2, c2, e1, e2, _, _, e5, e6, e7, e8, _⟩ := hin.out.own.at hlt hlt2 (show 0 < L by omega)
          by_cases his : i < 4
          · by_cases hjs : j < 4
            · skip
              have fx := xor_bits i (by omega) j (by omega)
              have hq := xor_lt4 i his j hjs
              obtain ⟨t, ht⟩ : ∃ t, t = i ^^^ j := ⟨_, rfl⟩
              rw [← ht] at fx hq
              have hqL : t < L := by omega
              obtain ⟨g3, c3, g4, c4, a1, a2, a3, a4, _, _, _, _, a9⟩ := hin.out.own.at hlt hlt2 hqL
              rw [e1] at a1; cases a1
              rw [e2] at a2; cases a2
              have hnew : Hid (InBox w w.heap.size w1.heap.size (w.heap.size + 1) (.slice (some ⟨g, 0, none⟩) L cap) (cub L (genG L (dgF n 4) i (j + 1))) (wr.setCell ⟨g2, t, none⟩ (vi 1))) := Lib.hid (by
                have h := a9 1
                rw [gn_one hlt2 (fun k hk => by unfold dgF; rw [if_pos ⟨his, hjs⟩, ← ht])] at h
                exact hin.out.set (by omega) (by omega) e5 e6 h)
              clear a9 ht
              go_wp2_with fail
              exact ⟨⟨j + 1, by omega, by go_num, hnew⟩, by simp [intOf]; omega⟩
            · by_cases hi2 : i < 2
              · skip
                go_wp2_with fail
                refine (c_spreadV n L (j + 1 - 4) _ _ (by omega) hn1 hn2 (by omega) hLL.out).mono ?_
                rintro e w5 ⟨v5, rfl, ho5, hb5⟩
                have hbw : Below wr.heap.size wr w5 := hb5
                have k1 := bcell hbw e1
                have k2 := bcell hbw e2
                have HV5 := Lib.hid ho5
                have h5 := Lib.hid (hin.out.call hbw)
                clear ho5 hb5
                go_wp2_with fail
                refine (c_addTo (genG L (dgF n 4) i j) (spF n (j + 1 - 4)) v5 _ hlt hlt2 (by omega) e7 e8 h5.out.own k1 k2 (fun w' hk => own_ints_off HV5.out (by omega) (by omega) hk) (fun k => by rw [gn_here]; omega) (fun k => spF_bd _ _ _)).mono ?_
                rintro e w6 ⟨⟨u6, rfl⟩, ho6, ht6⟩
                have hnew : Hid (InBox w w.heap.size w1.heap.size (w.heap.size + 1) (.slice (some ⟨g, 0, none⟩) L cap) (cub L (genG L (dgF n 4) i (j + 1))) w6) := Lib.hid (by
                  rw [gn_add hlt2 (fun k hk => by unfold dgF; rw [if_neg (by omega), if_pos his, if_pos hi2])] at ho6
                  exact h5.out.touch (by omega) (by omega) e5 e6 ho6 ht6)
                clear ho6 ht6 h5 hbw k1 k2
                go_wp2_with fail
                exact ⟨⟨j + 1, by omega, by go_num, hnew⟩, by simp [intOf]; omega⟩
              · skip
                go_wp2_with fail
                all_goals
                  refine (c_spreadV n L (df (n / 2) (j + 1 - 4)) _ _ (by unfold df; omega) hn1 hn2 (by unfold df; omega) hLL.out).mono ?_
                  rintro e w5 ⟨v5, rfl, ho5, hb5⟩
                  have hbw : Below wr.heap.size wr w5 := hb5
                  have k1 := bcell hbw e1
                  have k2 := bcell hbw e2
                  have HV5 := Lib.hid ho5
                  have h5 := Lib.hid (hin.out.call hbw)
                  clear ho5 hb5
                  go_wp2_with fail
                  refine (c_addTo (genG L (dgF n 4) i j) (spF n (df (n / 2) (j + 1 - 4))) v5 _ hlt hlt2 (by omega) e7 e8 h5.out.own k1 k2 (fun w' hk => own_ints_off HV5.out (by omega) (by omega) hk) (fun k => by rw [gn_here]; omega) (fun k => spF_bd _ _ _)).mono ?_
                  rintro e w6 ⟨⟨u6, rfl⟩, ho6, ht6⟩
                  have hnew : Hid (InBox w w.heap.size w1.heap.size (w.heap.size + 1) (.slice (some ⟨g, 0, none⟩) L cap) (cub L (genG L (dgF n 4) i (j + 1))) w6) := Lib.hid (by
                    rw [gn_add hlt2 (fun k hk => by unfold dgF; rw [if_neg (by omega), if_pos his, if_neg hi2])] at ho6
                    exact h5.out.touch (by omega) (by omega) e5 e6 ho6 ht6)
                  clear ho6 ht6 h5 hbw k1 k2
                  go_wp2_with fail
                  exact ⟨⟨j + 1, by omega, by go_num, hnew⟩, by simp [intOf]; omega⟩
          · by_cases hjs : j < 4
            · by_cases hj2 : j < 2
              · skip
                go_wp2_with fail
                refine (c_spreadV n L (i + 1 - 4) _ _ (by omega) hn1 hn2 (by omega) hLL.out).mono ?_
                rintro e w5 ⟨v5, rfl, ho5, hb5⟩
                have hbw : Below wr.heap.size wr w5 := hb5
                have k1 := bcell hbw e1
                have k2 := bcell hbw e2
                have HV5 := Lib.hid ho5
                have h5 := Lib.hid (hin.out.call hbw)
                clear ho5 hb5
                go_wp2_with fail
                refine (c_addTo (genG L (dgF n 4) i j) (spF n (i + 1 - 4)) v5 _ hlt hlt2 (by omega) e7 e8 h5.out.own k1 k2 (fun w' hk => own_ints_off HV5.out (by omega) (by omega) hk) (fun k => by rw [gn_here]; omega) (fun k => spF_bd _ _ _)).mono ?_
                rintro e w6 ⟨⟨u6, rfl⟩, ho6, ht6⟩
                have hnew : Hid (InBox w w.heap.size w1.heap.size (w.heap.size + 1) (.slice (some ⟨g, 0, none⟩) L cap) (cub L (genG L (dgF n 4) i (j + 1))) w6) := Lib.hid (by
                  rw [gn_add hlt2 (fun k hk => by unfold dgF; rw [if_neg (by omega), if_neg his, if_pos hjs, if_pos hj2])] at ho6
                  exact h5.out.touch (by omega) (by omega) e5 e6 ho6 ht6)
                clear ho6 ht6 h5 hbw k1 k2
                go_wp2_with fail
                exact ⟨⟨j + 1, by omega, by go_num, hnew⟩, by simp [intOf]; omega⟩
              · skip
                go_wp2_with fail
                all_goals
                  refine (c_spreadV n L (df (n / 2) (i + 1 - 4)) _ _ (by unfold df; omega) hn1 hn2 (by unfold df; omega) hLL.out).mono ?_
                  rintro e w5 ⟨v5, rfl, ho5, hb5⟩
                  have hbw : Below wr.heap.size wr w5 := hb5
                  have k1 := bcell hbw e1
                  have k2 := bcell hbw e2
                  have HV5 := Lib.hid ho5
                  have h5 := Lib.hid (hin.out.call hbw)
                  clear ho5 hb5
                  go_wp2_with fail
                  refine (c_addTo (genG L (dgF n 4) i j) (spF n (df (n / 2) (i + 1 - 4))) v5 _ hlt hlt2 (by omega) e7 e8 h5.out.own k1 k2 (fun w' hk => own_ints_off HV5.out (by omega) (by omega) hk) (fun k => by rw [gn_here]; omega) (fun k => spF_bd _ _ _)).mono ?_
                  rintro e w6 ⟨⟨u6, rfl⟩, ho6, ht6⟩
                  have hnew : Hid (InBox w w.heap.size w1.heap.size (w.heap.size + 1) (.slice (some ⟨g, 0, none⟩) L cap) (cub L (genG L (dgF n 4) i (j + 1))) w6) := Lib.hid (by
                    rw [gn_add hlt2 (fun k hk => by unfold dgF; rw [if_neg (by omega), if_neg his, if_pos hjs, if_neg hj2])] at ho6
                    exact h5.out.touch (by omega) (by omega) e5 e6 ho6 ht6)
                  clear ho6 ht6 h5 hbw k1 k2
                  go_wp2_with fail
                  exact ⟨⟨j + 1, by omega, by go_num, hnew⟩, by simp [intOf]; omega⟩
            · skip
              go_wp2_with fail
              refine (c_spreadV n L ((i + 1 - 4) + (j + 1 - 4)) _ _ (by omega) hn1 hn2 (by omega) hLL.out).mono ?_
              rintro e w5 ⟨v5, rfl, ho5, hb5⟩
              have hbw : Below wr.heap.size wr w5 := hb5
              have k1 := bcell hbw e1
              have k2 := bcell hbw e2
              have HV5 := Lib.hid ho5
              have h5 := Lib.hid (hin.out.call hbw)
              clear ho5 hb5
              go_wp2_with fail
              refine (c_addTo (genG L (dgF n 4) i j) (spF n ((i + 1 - 4) + (j + 1 - 4))) v5 _ hlt hlt2 (by omega) e7 e8 h5.out.own k1 k2 (fun w' hk => own_ints_off HV5.out (by omega) (by omega) hk) (fun k => by rw [gn_here]; omega) (fun k => spF_bd _ _ _)).mono ?_
              rintro e w6 ⟨⟨u6, rfl⟩, ho6, ht6⟩
              have h6 := Lib.hid (h5.out.touch (by omega) (by omega) e5 e6 ho6 ht6)
              have k3 := cell_sameD (ht6.block g (fun e => e7 e.symm)) k1
              have hz6 : w5.heap.size = w6.heap.size := ht6.size.symm
              have k4 : w6.cell? ⟨g1, j, none⟩ = some (.slice (some ⟨g2, 0, none⟩) L c2) := cell_sameD (ht6.block g1 (fun e => e8 e.symm)) k2
              have hz5 := hbw.size
              clear ho6 ht6 h5 hbw k1 k2
              have hwp : w6.heap.size ≥ wr.heap.size := by omega
              go_wp2_with fail
              all_goals
                refine (c_spreadV n L (df (i + 1 - 4) (j + 1 - 4)) _ _ (by unfold df; omega) hn1 hn2 (by unfold df; omega) hLL.out).mono ?_
                rintro e w7 ⟨v7, rfl, ho7, hb7⟩
                have hbw : Below w6.heap.size w6 w7 := hb7
                have k5 := bcell hbw k3
                have k6 := bcell hbw k4
                have HV7 := Lib.hid ho7
                have h7 := Lib.hid (h6.out.call hbw)
                clear ho7 hb7
                go_wp2_with fail
                refine (c_addTo (addR (genG L (dgF n 4) i j) i j (spF n ((i + 1 - 4) + (j + 1 - 4))) L) (spF n (df (i + 1 - 4) (j + 1 - 4))) v7 _ hlt hlt2 (by omega) e7 e8 h7.out.own k5 k6 (fun w' hk => own_ints_off HV7.out (by omega) (by omega) hk) (addR_bd (fun k => spF_bd _ _ _)) (fun k => spF_bd _ _ _)).mono ?_
                rintro e w8 ⟨⟨u8, rfl⟩, ho8, ht8⟩
                have hnew : Hid (InBox w w.heap.size w1.heap.size (w.heap.size + 1) (.slice (some ⟨g, 0, none⟩) L cap) (cub L (genG L (dgF n 4) i (j + 1))) w8) := Lib.hid (by
                  rw [gn_add2 hlt2 (fun k hk => by unfold dgF; rw [if_neg (by omega), if_neg (by omega), if_neg (by omega)])] at ho8
                  exact h7.out.touch (by omega) (by omega) e5 e6 ho8 ht8)
                clear ho8 ht8 h7 hbw k5 k6
                go_wp2_with fail
                exact ⟨⟨j + 1, by omega, by go_num, hnew⟩, by simp [intOf]; omega⟩

        · obtain rfl : L = j := by omega
          go_wp2_with fail
          go_roundw
          case rel => exact ⟨i + 1, by omega, by go_num, Lib.hid (by rw [← gn_row]; exact hin.out)⟩
          case measure => simp [intOf]; omega
    · obtain rfl : L = i := by omega
      go_wp2_with fail
      (try simp only [Exit.inBlock, Exit.then])
      refine bodyPost_ret (v := .tuple #[.agg #[.slice (some ⟨g, 0, none⟩) L cap], .int .i64 0]) (by rw [results_cell_tmp rfl]; go_simp) rfl ?_
      refine ⟨_, rfl, ?_, below_set hin.out.below (Nat.le_refl _)⟩
      have h := hin.out.own
      rw [gn_end] at h
      have h2 : OwnCB (wr.setCell ⟨w.heap.size, 0, none⟩ (.slice (some ⟨g, 0, none⟩) L cap)) (w.heap.size + 1) w1.heap.size (.slice (some ⟨g, 0, none⟩) L cap) (cub L (dgF n 4)) := h.same fun x h1 h2 => Below.heap_setCell wr ⟨w.heap.size, 0, none⟩ _ _ (fun e => by have e' : x = w.heap.size := e; omega)
      exact h2.mono (by omega) (Nat.le_trans (Nat.le_of_lt hsz) (by simp))
end Go.Proofs.Ytnhdnogcglmjdaa
