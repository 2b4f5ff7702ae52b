/- Dihedral rings: the program's table. -/
import Derived.Test.YtnhdnogcglmjdaaRdr
namespace Go.Proofs.Ytnhdnogcglmjdaa
open Go.RowKit

def df (a b : Nat) : Nat := (a - b) + (b - a)
/-- an entry of the dihedral ring of n with s labels of dimension 1 -/
def dgF (n s i j k : Nat) : Int :=
  if i < s ∧ j < s then (if k = i ^^^ j then 1 else 0)
  else if i < s then spF n (if i < 2 then j + 1 - s else df (n / 2) (j + 1 - s)) k
  else if j < s then spF n (if j < 2 then i + 1 - s else df (n / 2) (i + 1 - s)) k
  else spF n ((i + 1 - s) + (j + 1 - s)) k + spF n (df (i + 1 - s) (j + 1 - s)) k
def genG (L : Nat) (F : Nat → Nat → Nat → Int) (i j : Nat) (a b k : Nat) : Int := if (a < i ∧ b < L) ∨ (a = i ∧ b < j) then F a b k else 0
theorem gn_start (L : Nat) (F : Nat → Nat → Nat → Int) : cub L (genG L F 0 0) = cub L fun _ _ _ => 0 :=
  cub_congr fun a b k _ _ _ => by unfold genG; rw [if_neg (by omega)]
theorem gn_row (L : Nat) (F : Nat → Nat → Nat → Int) (i : Nat) : cub L (genG L F i L) = cub L (genG L F (i + 1) 0) := by
  refine cub_congr fun a b k _ _ _ => ?_
  unfold genG
  by_cases e2 : (a < i ∧ b < L) ∨ (a = i ∧ b < L)
  · have e3 : (a < i + 1 ∧ b < L) ∨ (a = i + 1 ∧ b < 0) := by omega
    rw [if_pos e2, if_pos e3]
  · have e3 : ¬ ((a < i + 1 ∧ b < L) ∨ (a = i + 1 ∧ b < 0)) := by omega
    rw [if_neg e2, if_neg e3]
theorem gn_end (L : Nat) (F : Nat → Nat → Nat → Int) : cub L (genG L F L 0) = cub L F :=
  cub_congr fun a b k ha hb _ => by unfold genG; rw [if_pos (by omega)]
/-- a change of one row -/
theorem gn_next (L : Nat) (F f' : Nat → Nat → Nat → Int) (i j : Nat) (hj : j < L) (h1 : ∀ a b k, ¬ (a = i ∧ b = j) → f' a b k = genG L F i j a b k) (h2 : ∀ k, k < L → f' i j k = F i j k) : cub L f' = cub L (genG L F i (j + 1)) := by
  refine cub_congr fun a b k _ _ hk => ?_
  by_cases e : a = i ∧ b = j
  · obtain ⟨rfl, rfl⟩ := e
    rw [h2 k hk]
    unfold genG
    rw [if_pos (by omega)]
  · rw [h1 a b k e]
    unfold genG
    by_cases e2 : (a < i ∧ b < L) ∨ (a = i ∧ b < j)
    · have e3 : (a < i ∧ b < L) ∨ (a = i ∧ b < j + 1) := by omega
      rw [if_pos e2, if_pos e3]
    · have e3 : ¬ ((a < i ∧ b < L) ∨ (a = i ∧ b < j + 1)) := by omega
      rw [if_neg e2, if_neg e3]
theorem gn_here (L : Nat) (F : Nat → Nat → Nat → Int) (i j k : Nat) : genG L F i j i j k = 0 := by
  unfold genG; rw [if_neg (by omega)]
theorem gn_one {L : Nat} {F : Nat → Nat → Nat → Int} {i j t : Nat} (hj : j < L) (h : ∀ k, k < L → F i j k = if k = t then 1 else 0) : cub L (upd3 (genG L F i j) i j t 1) = cub L (genG L F i (j + 1)) := by
  refine gn_next L F _ i j hj (fun a b k e => ?_) (fun k hk => ?_)
  · unfold upd3; rw [if_neg (fun h => e ⟨h.1, h.2.1⟩)]
  · unfold upd3
    rw [h k hk]
    by_cases e : k = t
    · rw [if_pos ⟨rfl, rfl, e⟩, if_pos e]
    · rw [if_neg (fun h => e h.2.2), if_neg e, gn_here]
theorem gn_add {L : Nat} {F : Nat → Nat → Nat → Int} {i j : Nat} {x : Nat → Int} (hj : j < L) (h : ∀ k, k < L → F i j k = x k) : cub L (addR (genG L F i j) i j x L) = cub L (genG L F i (j + 1)) := by
  refine gn_next L F _ i j hj (fun a b k e => ?_) (fun k hk => ?_)
  · unfold addR; rw [if_neg (fun h => e ⟨h.1, h.2.1⟩)]
  · unfold addR; rw [if_pos ⟨rfl, rfl, hk⟩, gn_here, h k hk, Int.zero_add]
theorem gn_add2 {L : Nat} {F : Nat → Nat → Nat → Int} {i j : Nat} {x y : Nat → Int} (hj : j < L) (h : ∀ k, k < L → F i j k = x k + y k) : cub L (addR (addR (genG L F i j) i j x L) i j y L) = cub L (genG L F i (j + 1)) := by
  refine gn_next L F _ i j hj (fun a b k e => ?_) (fun k hk => ?_)
  · unfold addR; rw [if_neg (fun h => e ⟨h.1, h.2.1⟩), if_neg (fun h => e ⟨h.1, h.2.1⟩)]
  · unfold addR; rw [if_pos ⟨rfl, rfl, hk⟩, if_pos ⟨rfl, rfl, hk⟩, gn_here, h k hk, Int.zero_add]
theorem xor_bits : ∀ i, i < 4 → ∀ j, j < 4 → bits BinOp.xor IntKind.i64 ((i : Nat) : Int) ((j : Nat) : Int) = ((i ^^^ j : Nat) : Int) := by decide
theorem xor_lt4 : ∀ i, i < 4 → ∀ j, j < 4 → i ^^^ j < 4 := by decide
theorem xor_lt2 : ∀ i, i < 2 → ∀ j, j < 2 → i ^^^ j < 2 := by decide
theorem spF_bd (n h k : Nat) : 0 ≤ spF n h k ∧ spF n h k ≤ 1000 := by
  unfold spF
  (repeat' split) <;> omega
theorem addR_bd {L : Nat} {F : Nat → Nat → Nat → Int} {i j : Nat} {x : Nat → Int} (hx : ∀ k, 0 ≤ x k ∧ x k ≤ 1000) (k : Nat) : 0 ≤ addR (genG L F i j) i j x L i j k ∧ addR (genG L F i j) i j x L i j k ≤ 1000 := by
  unfold addR
  rw [gn_here]
  split
  · have := hx k; omega
  · omega
theorem InBox.touch {w wr wr' : World} {b0 b1 lo g2 : Nat} {v : Value} {c c' : List (List (List Int))} (h : InBox w b0 b1 lo v c wr) (h0 : b0 < lo) (hw : w.heap.size ≤ lo) (h1 : lo ≤ g2) (h2 : g2 < b1) (ho : OwnCB wr' lo b1 v c') (ht : Touch (fun k => k = g2) wr wr') : InBox w b0 b1 lo v c' wr' :=
  ⟨cell_sameD (ht.block _ (fun e => by omega)) h.c0, frozen_sameD (ht.block _ (fun e => by omega)) h.c0 h.f0, cell_sameD (ht.block _ (fun e => by omega)) h.c1, by rw [ht.size]; exact h.size, ho, Touch.below h.below ht (fun k hk => by omega)⟩
theorem own_ints_off {w5 wr w' : World} {g2 L : Nat} {v : Value} {x : Nat → Int} (ho : OwnI w5 wr.heap.size v (vec L x)) (hg : g2 < wr.heap.size) (hL : L ≤ 1000) (h : ∀ k, k ≠ g2 → w'.heap[k]? = w5.heap[k]?) : Ints w' v (vec L x) :=
  OwnI.ints (Own.of_block ho fun b hb => h b (by have := (Own.lt ho hb).1; omega)) (by rw [vec_length]; omega)
set_option maxRecDepth 100000 in
set_option maxHeartbeats 8000000 in
theorem c_DihedralRing_2 (n : Nat) (w : World) (hn1 : 1 ≤ n) (hn2 : n ≤ 18) (hpar : n % 2 = 1) :
    Calls Try.prog 35 #[.int .i64 n] w (RetR (cub (2 + (n - 1) / 2) (dgF n 2), 0) w) := by
  have hq : inR 1 18 (n : Int) = true := by simp [inR]; omega
  obtain ⟨L, hL⟩ : ∃ L, L = 2 + (n - 1) / 2 := ⟨_, rfl⟩
  have hLL : Hid ((n % 2 = 1 ∧ L = 2 + (n - 1) / 2) ∨ (n % 2 = 0 ∧ L = 4 + (n - 1) / 2)) := Lib.hid (by omega)
  have hLn : L ≤ 12 ∧ 2 ≤ L ∧ 2 * (L - 2) ≤ n - 1 := by omega
  obtain ⟨hL1, hL2, hL3⟩ := hLn
  have HLE : Hid ((2 : Int) + ((n : Int) - 1) / 2 = (L : Int)) := Lib.hid (by omega)
  rw [← hL]
  have HL := Lib.hid hL
  clear hL
  have hpB : (((n : Int) % 2) == 0) = false := by rw [beq_eq_false_iff_ne]; omega
  go_enter Try.func35, Try.ntmps35
  go_wp2_with fail
  refine (c_within _ _ _ _).mono ?_
  rintro e w0 ⟨rfl, rfl⟩
  rw [hq]
  clear hq
  go_wp2_with fail
  rw [HLE.out]
  refine (c_emptyCube L _ (by omega)).mono ?_
  rintro e w1 ⟨v1, rfl, ho1, hb1⟩
  obtain ⟨g, cap, rfl, hg1, hg2⟩ := ho1.shape' (by rw [cub_length]; omega)
  rw [cub_length] at ho1 ⊢
  have hsz1 : w.heap.size + 1 ≤ w1.heap.size := by have := hb1.size; simpa using this
  have hlt1 : w.heap.size < w1.heap.size := by omega
  have HIN : Hid (InBox w w.heap.size w1.heap.size (w.heap.size + 1) (.slice (some ⟨g, 0, none⟩) L cap) (cub L (genG L (dgF n 2) 0 0)) (w1.alloc (.cells #[.slice (some ⟨g, 0, none⟩) L cap] 31))) := Lib.hid
    ⟨bcell (below_alloc _ _) (bcell hb1 (v := .slice none 0 0) (by simp)), bfrozen (below_alloc _ _) (bcell hb1 (v := .slice none 0 0) (by simp)) (bfrozen hb1 (v := .slice none 0 0) (by simp) (by simp)), by simp, by simp, by rw [gn_start]; exact (ho1.mono (by simp) (Nat.le_refl _)).alloc (Nat.le_refl _) _, below_after (hb1.alloc hb1.size _)⟩
  clear ho1 hb1
  go_wp2_with fail
  go_loopw [27] (fun i wr => ∃ k : Nat, k ≤ L ∧ i = .int .i64 k ∧ Hid (InBox w w.heap.size w1.heap.size (w.heap.size + 1) (.slice (some ⟨g, 0, none⟩) L cap) (cub L (genG L (dgF n 2) k 0)) wr)) (fun i _ => L - (intOf i).toNat)
  case atStart => exact ⟨0, Nat.zero_le _, rfl, HIN⟩
  case round =>
    obtain ⟨i, hi, rfl, hin⟩ := hrel
    have hc0 := hin.out.c0
    have hf0 := hin.out.f0
    have hc1 := hin.out.c1
    have hsz := hin.out.size
    by_cases hlt : i < L
    · go_wp2_with fail
      go_loopw [31] (fun j wr => ∃ k : Nat, k ≤ L ∧ j = .int .i64 k ∧ Hid (InBox w w.heap.size w1.heap.size (w.heap.size + 1) (.slice (some ⟨g, 0, none⟩) L cap) (cub L (genG L (dgF n 2) i k)) wr)) (fun j _ => L - (intOf j).toNat)
      case atStart => exact ⟨0, Nat.zero_le _, rfl, hin⟩
      case round =>
        clear hin hc0 hf0 hc1 hsz
        obtain ⟨j, hj, rfl, hin⟩ := hrel
        have hc1 := hin.out.c1
        have hsz := hin.out.size
        by_cases hlt2 : j < L
        · obtain ⟨g1, c1, g2, c2, e1, e2, _, _, e5, e6, e7, e8, _⟩ := hin.out.own.at hlt hlt2 (show 0 < L by omega)
          by_cases his : i < 2
          · by_cases hjs : j < 2
            · skip
              have fx := xor_bits i (by omega) j (by omega)
              have hq := xor_lt2 i his j hjs
              obtain ⟨t, ht⟩ : ∃ t, t = i ^^^ j := ⟨_, rfl⟩
              rw [← ht] at fx hq
              have hqL : t < L := by omega
              obtain ⟨g3, c3, g4, c4, a1, a2, a3, a4, _, _, _, _, a9⟩ := hin.out.own.at hlt hlt2 hqL
              rw [e1] at a1; cases a1
              rw [e2] at a2; cases a2
              have hnew : Hid (InBox w w.heap.size w1.heap.size (w.heap.size + 1) (.slice (some ⟨g, 0, none⟩) L cap) (cub L (genG L (dgF n 2) i (j + 1))) (wr.setCell ⟨g2, t, none⟩ (vi 1))) := Lib.hid (by
                have h := a9 1
                rw [gn_one hlt2 (fun k hk => by unfold dgF; rw [if_pos ⟨his, hjs⟩, ← ht])] at h
                exact hin.out.set (by omega) (by omega) e5 e6 h)
              clear a9 ht
              go_wp2_with fail
              exact ⟨⟨j + 1, by omega, by go_num, hnew⟩, by simp [intOf]; omega⟩
            · skip
              go_wp2_with fail
              refine (c_spreadV n L (j + 1 - 2) _ _ (by omega) hn1 hn2 (by omega) hLL.out).mono ?_
              rintro e w5 ⟨v5, rfl, ho5, hb5⟩
              have hbw : Below wr.heap.size wr w5 := hb5
              have k1 := bcell hbw e1
              have k2 := bcell hbw e2
              have HV5 := Lib.hid ho5
              have h5 := Lib.hid (hin.out.call hbw)
              clear ho5 hb5
              go_wp2_with fail
              refine (c_addTo (genG L (dgF n 2) i j) (spF n (j + 1 - 2)) v5 _ hlt hlt2 (by omega) e7 e8 h5.out.own k1 k2 (fun w' hk => own_ints_off HV5.out (by omega) (by omega) hk) (fun k => by rw [gn_here]; omega) (fun k => spF_bd _ _ _)).mono ?_
              rintro e w6 ⟨⟨u6, rfl⟩, ho6, ht6⟩
              have hnew : Hid (InBox w w.heap.size w1.heap.size (w.heap.size + 1) (.slice (some ⟨g, 0, none⟩) L cap) (cub L (genG L (dgF n 2) i (j + 1))) w6) := Lib.hid (by
                rw [gn_add hlt2 (fun k hk => by unfold dgF; rw [if_neg (by omega), if_pos his, if_pos his])] at ho6
                exact h5.out.touch (by omega) (by omega) e5 e6 ho6 ht6)
              clear ho6 ht6 h5 hbw k1 k2
              go_wp2_with fail
              exact ⟨⟨j + 1, by omega, by go_num, hnew⟩, by simp [intOf]; omega⟩
          · by_cases hjs : j < 2
            · skip
              go_wp2_with fail
              refine (c_spreadV n L (i + 1 - 2) _ _ (by omega) hn1 hn2 (by omega) hLL.out).mono ?_
              rintro e w5 ⟨v5, rfl, ho5, hb5⟩
              have hbw : Below wr.heap.size wr w5 := hb5
              have k1 := bcell hbw e1
              have k2 := bcell hbw e2
              have HV5 := Lib.hid ho5
              have h5 := Lib.hid (hin.out.call hbw)
              clear ho5 hb5
              go_wp2_with fail
              refine (c_addTo (genG L (dgF n 2) i j) (spF n (i + 1 - 2)) v5 _ hlt hlt2 (by omega) e7 e8 h5.out.own k1 k2 (fun w' hk => own_ints_off HV5.out (by omega) (by omega) hk) (fun k => by rw [gn_here]; omega) (fun k => spF_bd _ _ _)).mono ?_
              rintro e w6 ⟨⟨u6, rfl⟩, ho6, ht6⟩
              have hnew : Hid (InBox w w.heap.size w1.heap.size (w.heap.size + 1) (.slice (some ⟨g, 0, none⟩) L cap) (cub L (genG L (dgF n 2) i (j + 1))) w6) := Lib.hid (by
                rw [gn_add hlt2 (fun k hk => by unfold dgF; rw [if_neg (by omega), if_neg his, if_pos hjs, if_pos hjs])] at ho6
                exact h5.out.touch (by omega) (by omega) e5 e6 ho6 ht6)
              clear ho6 ht6 h5 hbw k1 k2
              go_wp2_with fail
              exact ⟨⟨j + 1, by omega, by go_num, hnew⟩, by simp [intOf]; omega⟩
            · skip
              go_wp2_with fail
              refine (c_spreadV n L ((i + 1 - 2) + (j + 1 - 2)) _ _ (by omega) hn1 hn2 (by omega) hLL.out).mono ?_
              rintro e w5 ⟨v5, rfl, ho5, hb5⟩
              have hbw : Below wr.heap.size wr w5 := hb5
              have k1 := bcell hbw e1
              have k2 := bcell hbw e2
              have HV5 := Lib.hid ho5
              have h5 := Lib.hid (hin.out.call hbw)
              clear ho5 hb5
              go_wp2_with fail
              refine (c_addTo (genG L (dgF n 2) i j) (spF n ((i + 1 - 2) + (j + 1 - 2))) v5 _ hlt hlt2 (by omega) e7 e8 h5.out.own k1 k2 (fun w' hk => own_ints_off HV5.out (by omega) (by omega) hk) (fun k => by rw [gn_here]; omega) (fun k => spF_bd _ _ _)).mono ?_
              rintro e w6 ⟨⟨u6, rfl⟩, ho6, ht6⟩
              have h6 := Lib.hid (h5.out.touch (by omega) (by omega) e5 e6 ho6 ht6)
              have k3 := cell_sameD (ht6.block g (fun e => e7 e.symm)) k1
              have hz6 : w5.heap.size = w6.heap.size := ht6.size.symm
              have k4 : w6.cell? ⟨g1, j, none⟩ = some (.slice (some ⟨g2, 0, none⟩) L c2) := cell_sameD (ht6.block g1 (fun e => e8 e.symm)) k2
              have hz5 := hbw.size
              clear ho6 ht6 h5 hbw k1 k2
              have hwp : w6.heap.size ≥ wr.heap.size := by omega
              go_wp2_with fail
              all_goals
                refine (c_spreadV n L (df (i + 1 - 2) (j + 1 - 2)) _ _ (by unfold df; omega) hn1 hn2 (by unfold df; omega) hLL.out).mono ?_
                rintro e w7 ⟨v7, rfl, ho7, hb7⟩
                have hbw : Below w6.heap.size w6 w7 := hb7
                have k5 := bcell hbw k3
                have k6 := bcell hbw k4
                have HV7 := Lib.hid ho7
                have h7 := Lib.hid (h6.out.call hbw)
                clear ho7 hb7
                go_wp2_with fail
                refine (c_addTo (addR (genG L (dgF n 2) i j) i j (spF n ((i + 1 - 2) + (j + 1 - 2))) L) (spF n (df (i + 1 - 2) (j + 1 - 2))) v7 _ hlt hlt2 (by omega) e7 e8 h7.out.own k5 k6 (fun w' hk => own_ints_off HV7.out (by omega) (by omega) hk) (addR_bd (fun k => spF_bd _ _ _)) (fun k => spF_bd _ _ _)).mono ?_
                rintro e w8 ⟨⟨u8, rfl⟩, ho8, ht8⟩
                have hnew : Hid (InBox w w.heap.size w1.heap.size (w.heap.size + 1) (.slice (some ⟨g, 0, none⟩) L cap) (cub L (genG L (dgF n 2) i (j + 1))) w8) := Lib.hid (by
                  rw [gn_add2 hlt2 (fun k hk => by unfold dgF; rw [if_neg (by omega), if_neg (by omega), if_neg (by omega)])] at ho8
                  exact h7.out.touch (by omega) (by omega) e5 e6 ho8 ht8)
                clear ho8 ht8 h7 hbw k5 k6
                go_wp2_with fail
                exact ⟨⟨j + 1, by omega, by go_num, hnew⟩, by simp [intOf]; omega⟩

        · obtain rfl : L = j := by omega
          go_wp2_with fail
          go_roundw
          case rel => exact ⟨i + 1, by omega, by go_num, Lib.hid (by rw [← gn_row]; exact hin.out)⟩
          case measure => simp [intOf]; omega
    · obtain rfl : L = i := by omega
      go_wp2_with fail
      (try simp only [Exit.inBlock, Exit.then])
      refine bodyPost_ret (v := .tuple #[.agg #[.slice (some ⟨g, 0, none⟩) L cap], .int .i64 0]) (by rw [results_cell_tmp rfl]; go_simp) rfl ?_
      refine ⟨_, rfl, ?_, below_set hin.out.below (Nat.le_refl _)⟩
      have h := hin.out.own
      rw [gn_end] at h
      have h2 : OwnCB (wr.setCell ⟨w.heap.size, 0, none⟩ (.slice (some ⟨g, 0, none⟩) L cap)) (w.heap.size + 1) w1.heap.size (.slice (some ⟨g, 0, none⟩) L cap) (cub L (dgF n 2)) := h.same fun x h1 h2 => Below.heap_setCell wr ⟨w.heap.size, 0, none⟩ _ _ (fun e => by have e' : x = w.heap.size := e; omega)
      exact h2.mono (by omega) (Nat.le_trans (Nat.le_of_lt hsz) (by simp))
end Go.Proofs.Ytnhdnogcglmjdaa
