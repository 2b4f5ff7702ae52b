/- Group rings: sizes and codes of orders, tables of both sides. -/
import Derived.Test.YtckcjlophnehmaaRbk
namespace Go.Proofs.Ytckcjlophnehmaa
open Go.RowKit

/-! orders -/
def ordM (xs : List Int) (j : Nat) : Nat := (xs.getD j 0).toNat
/-- the size as both sides reckon it, over the first k orders -/
def capI (m : Nat → Nat) : Nat → Nat
  | 0 => 1
  | k + 1 => min 17 (capI m k * min (m k) 17)
def okO (xs : List Int) (k : Nat) : Prop := ∀ j x, j < k → xs[j]? = some x → 1 ≤ x
theorem capI_min {m : Nat → Nat} : ∀ k, (∀ j, j < k → 1 ≤ m j) → capI m k = min 17 (prodI m k)
  | 0, _ => rfl
  | k + 1, h => by
    have ih := capI_min k fun j hj => h j (by omega)
    have h1 := h k (by omega)
    have h2 := prodI_pos k (m := m) fun j hj => h j (by omega)
    simp only [capI, prodI]
    rw [ih]
    generalize prodI m k = P at *
    generalize m k = M at *
    by_cases hP : 17 ≤ P
    · rw [Nat.min_eq_left hP]
      have h3 : 17 * 1 ≤ 17 * min M 17 := Nat.mul_le_mul_left _ (by omega)
      have h4 : 1 * P ≤ M * P := Nat.mul_le_mul_right _ h1
      rw [Nat.min_eq_left (by omega), Nat.min_eq_left (by omega)]
    · rw [Nat.min_eq_right (by omega : P ≤ 17)]
      by_cases hM : 17 ≤ M
      · rw [Nat.min_eq_right hM]
        have h3 : 1 * 17 ≤ P * 17 := Nat.mul_le_mul_right _ h2
        have h4 : M * 1 ≤ M * P := Nat.mul_le_mul_left _ h2
        rw [Nat.min_eq_left (by omega), Nat.min_eq_left (by omega)]
      · rw [Nat.min_eq_left (by omega : M ≤ 17), Nat.mul_comm]
theorem capI_pos {m : Nat → Nat} : ∀ k, (∀ j, j < k → 1 ≤ m j) → 1 ≤ capI m k := fun k h => by
  rw [capI_min k h]; have := prodI_pos k h; omega
theorem capI_le {m : Nat → Nat} : ∀ k, capI m k ≤ 17
  | 0 => by simp [capI]
  | k + 1 => by simp only [capI]; omega
open Classical in
/-- the size of the group of orders, 0 if they are none, 17 if it is too great -/
noncomputable def ordN (xs : List Int) : Nat := if 0 < xs.length ∧ okO xs xs.length then capI (ordM xs) xs.length else 0
theorem ordM_at {xs : List Int} {j : Nat} {x : Int} (h : xs[j]? = some x) (hx : 0 ≤ x) : (ordM xs j : Int) = x := by
  simp [ordM, List.getD_eq_getElem?_getD, h]; omega
theorem okO_m {xs : List Int} {k : Nat} (h : okO xs k) (hk : k ≤ xs.length) : ∀ j, j < k → 1 ≤ ordM xs j := fun j hj => by
  have e : xs[j]? = some xs[j] := List.getElem?_eq_getElem (by omega)
  have h1 := h j _ hj e
  have h2 := ordM_at e (by omega)
  omega
theorem ordN_pos {xs : List Int} (h : ordN xs ≠ 0) : 0 < xs.length ∧ okO xs xs.length ∧ ordN xs = capI (ordM xs) xs.length := by
  unfold ordN at *
  split at h
  · rename_i hc
    exact ⟨hc.1, hc.2, by rw [if_pos hc]⟩
  · exact absurd rfl h
theorem ordN_le (xs : List Int) : ordN xs ≤ 17 := by
  unfold ordN
  split
  · exact capI_le _
  · omega
theorem ordN_prod {xs : List Int} (h : ordN xs ≠ 0) (h2 : ordN xs ≤ 16) : prodI (ordM xs) xs.length = ordN xs := by
  obtain ⟨h3, h4, h5⟩ := ordN_pos h
  rw [capI_min _ (okO_m h4 (Nat.le_refl _))] at h5
  omega
def codeN (n : Nat) (most : Nat) : Int := if n = 0 then 1 else if most < n then 3 else 0

set_option maxHeartbeats 1000000 in
theorem c_groupSize (v : Value) (xs : List Int) (w : World) (hv : Ints w v xs) :
    Calls Try.prog 37 #[v] w fun e w' => e = .returned (.int .i64 (ordN xs)) ∧ w = w' := by
  obtain ⟨a, cap, rfl, hl, hc⟩ := hv
  have HC := Lib.hid hc
  clear hc
  go_enter Try.func37, Try.ntmps37
  go_wp2_with fail
  go_loop [3, 8] (fun s i => ∃ k : Nat, k ≤ xs.length ∧ i = .int .i64 k ∧ s = .int .i64 (capI (ordM xs) k) ∧ Hid (okO xs k)) (fun _ i => xs.length - (intOf i).toNat)
  case atStart => exact ⟨0, Nat.zero_le _, rfl, rfl, fun j x hj => absurd hj (Nat.not_lt_zero _)⟩
  case round =>
    obtain ⟨k, hk, rfl, rfl, H⟩ := hrel
    by_cases hlt : k < xs.length
    · obtain ⟨x, hx⟩ : ∃ x, xs[k]? = some x := ⟨xs[k], by simp [hlt]⟩
      obtain ⟨b, off, rfl, hcell⟩ := HC.out k x hx
      have HX := Lib.hid hx
      clear hx
      by_cases h1 : x < 1
      · go_wp2_with fail
        go_ret
        refine ⟨ret_int ?_, rfl⟩
        have h0 : ordN xs = 0 := by unfold ordN; exact if_neg (fun h => by have := h.2 k x hlt HX.out; omega)
        rw [h0]; rfl
      · have hcp := capI_le (m := ordM xs) k
        have hmx := ordM_at HX.out (by omega)
        obtain ⟨C, hC⟩ : ∃ C, C = capI (ordM xs) k := ⟨_, rfl⟩
        have HK := Lib.hid hC
        rw [← hC] at hcp ⊢
        clear hC
        obtain ⟨M, hM⟩ : ∃ M : Nat, (M : Int) = min x 17 := ⟨(min x 17).toNat, by omega⟩
        have hM17 : M ≤ 17 := by omega
        obtain ⟨P, hP⟩ : ∃ P : Nat, P = C * M := ⟨_, rfl⟩
        have hPl : P ≤ 17 * 17 := by rw [hP]; exact Nat.mul_le_mul hcp hM17
        have hPI : (C : Int) * (M : Int) = (P : Int) := by rw [hP]; exact (Int.natCast_mul _ _).symm
        have HNX : Hid (capI (ordM xs) (k + 1) = min 17 P) := Lib.hid (by
          simp only [capI]
          rw [← HK.out, hP, show min (ordM xs k) 17 = M by omega])
        have HOK : Hid (okO xs (k + 1)) := Lib.hid (fun j y hj hy => by
          by_cases e : j = k
          · subst e; rw [HX.out] at hy; cases hy; omega
          · exact H.out j y (by omega) hy)
        clear hP hmx H
        by_cases hx17 : x ≤ 17
        · obtain rfl : x = (M : Int) := by omega
          clear hM
          go_wp2_with fail
          all_goals exact ⟨⟨k + 1, by omega, by go_num, by rw [HNX.out]; congr 1; (try split) <;> omega, HOK⟩, by simp [intOf]; omega⟩
        · obtain rfl : M = 17 := by omega
          clear hM
          have hPI2 : (C : Int) * 17 = (P : Int) := hPI
          clear hPI
          go_wp2_with fail
          all_goals exact ⟨⟨k + 1, by omega, by go_num, by rw [HNX.out]; congr 1; (try split) <;> omega, HOK⟩, by simp [intOf]; omega⟩
    · obtain rfl : k = xs.length := by omega
      by_cases h0 : xs.length = 0
      · have HZ : Hid (ordN xs = 0) := Lib.hid (by unfold ordN; exact if_neg (fun h => by omega))
        have h0B : ((xs.length : Int) == 0) = true := by simp [h0]
        go_wp2_with fail
        go_ret
        exact ⟨ret_int (by rw [HZ.out]; rfl), rfl⟩
      · have HZ : Hid (ordN xs = capI (ordM xs) xs.length) := Lib.hid (by unfold ordN; exact if_pos ⟨by omega, H.out⟩)
        have h0B : ((xs.length : Int) == 0) = false := by rw [beq_eq_false_iff_ne]; omega
        go_wp2_with fail
        go_ret
        exact ⟨ret_int (by rw [HZ.out]), rfl⟩
theorem prodI_mono {m : Nat → Nat} {k : Nat} : ∀ n, k ≤ n → (∀ j, j < n → 1 ≤ m j) → prodI m k ≤ prodI m n := by
  intro n hn h
  induction n with
  | zero => obtain rfl : k = 0 := by omega
            exact Nat.le_refl _
  | succ n ih =>
    by_cases e : k = n + 1
    · subst e; exact Nat.le_refl _
    · have h1 := ih (by omega) fun j hj => h j (by omega)
      have h2 : 1 * prodI m n ≤ m n * prodI m n := Nat.mul_le_mul_right _ (h n (by omega))
      simp only [prodI]
      omega

theorem ord_cells {xs : List Int} (ho : ordN xs ≠ 0) : ∀ j, j < xs.length → xs[j]? = some (ordM xs j : Int) ∧ 1 ≤ ordM xs j := fun j hj => by
  obtain ⟨h1, h2, _⟩ := ordN_pos ho
  have e : xs[j]? = some xs[j] := List.getElem?_eq_getElem hj
  have h3 := h2 j _ hj e
  have h4 := ordM_at e (by omega)
  exact ⟨by rw [h4]; exact e, okO_m h2 (Nat.le_refl _) j hj⟩
def grpT (xs : List Int) (i j : Nat) : Nat := addI (ordM xs) xs.length i j
theorem grpT_lt {xs : List Int} (ho : ordN xs ≠ 0) (h2 : ordN xs ≤ 16) (i j : Nat) : grpT xs i j < ordN xs := by
  have := addI_lt xs.length i j (fun j hj => (ord_cells ho j hj).2)
  rw [ordN_prod ho h2] at this
  exact this
theorem c_grp1 (xs : List Int) (v : Value) (x y : Nat) (p : Addr) (w : World) (hp : w.cell? p = some v) (hv : Ints w v xs) (ho : ordN xs ≠ 0) (h16 : ordN xs ≤ 16) (hx : x ≤ 1000) (hy : y ≤ 1000) :
    Calls Try.prog 54 #[.int .i64 x, .int .i64 y, .pointer (some p)] w fun e w' => e = .returned (.int .i64 (grpT xs x y)) ∧ Below w.heap.size w w' := by
  have HV := Lib.hid hv
  obtain ⟨a, cap, rfl, hl, hc⟩ := hv
  have HO := Lib.hid ho
  clear hc ho
  go_enter Try.func54, Try.ntmps54
  go_wp2_with fail
  refine (c_addElements _ xs (ordM xs) (ordN xs) x y _ HV.out (ordN_pos HO.out).1 (ord_cells HO.out) (ordN_prod HO.out h16) (by omega) hx hy).mono ?_
  rintro e w1 ⟨rfl, hb1⟩
  have HB := Lib.hid hb1
  clear hb1
  go_wp2_with fail
  go_ret
  exact ⟨rfl, HB.out⟩
set_option maxRecDepth 100000 in
set_option maxHeartbeats 2000000 in
theorem c_fromTable_grp (n : Nat) (p : Addr) (T : Nat → Nat → Nat) (w : World) (hn1 : 0 < n) (hn : n ≤ 100) (hT : ∀ i j, i < n → j < n → T i j < n)
    (hφ : ∀ w', Below w.heap.size w w' → ∀ i j : Nat, i < n → j < n → Calls Try.prog 54 #[.int .i64 i, .int .i64 j, .pointer (some p)] w' fun e w'' => e = .returned (.int .i64 (T i j)) ∧ Below w'.heap.size w' w'') :
    Calls Try.prog 53 #[.int .i64 n, .func (.func 54) #[] #[.pointer (some p)]] w (RetR1 (cub n (tabE n T)) w) := by
  have HT := Lib.hid hT
  have HF := Lib.hid hφ
  clear hT hφ
  go_enter Try.func53, Try.ntmps53
  go_wp2_with fail
  refine (c_emptyCube n _ (by omega)).mono ?_
  rintro e w1 ⟨v1, rfl, ho1, hb1⟩
  obtain ⟨g, cap, rfl, hg1, hg2⟩ := ho1.shape' (by rw [cub_length]; omega)
  rw [cub_length] at ho1 ⊢
  have hsz1 : w.heap.size + 1 ≤ w1.heap.size := by have := hb1.size; simpa using this
  have hlt1 : w.heap.size < w1.heap.size := by omega
  have HIN : Hid (InBox w w.heap.size w1.heap.size (w.heap.size + 1) (.slice (some ⟨g, 0, none⟩) n cap) (cub n (tabG n T 0 0)) (w1.alloc (.cells #[.slice (some ⟨g, 0, none⟩) n cap] 32))) := Lib.hid
    ⟨bcell (below_alloc _ _) (bcell hb1 (v := .slice none 0 0) (by simp)), bfrozen (below_alloc _ _) (bcell hb1 (v := .slice none 0 0) (by simp)) (bfrozen hb1 (v := .slice none 0 0) (by simp) (by simp)), by simp, by simp, by rw [tb_start]; exact (ho1.mono (by simp) (Nat.le_refl _)).alloc (Nat.le_refl _) _, below_after (hb1.alloc hb1.size _)⟩
  clear ho1 hb1
  go_wp2_with fail
  go_loopw [11] (fun i wr => ∃ k : Nat, k ≤ n ∧ i = .int .i64 k ∧ Hid (InBox w w.heap.size w1.heap.size (w.heap.size + 1) (.slice (some ⟨g, 0, none⟩) n cap) (cub n (tabG n T k 0)) wr)) (fun i _ => n - (intOf i).toNat)
  case atStart => exact ⟨0, Nat.zero_le _, rfl, HIN⟩
  case round =>
    obtain ⟨i, hi, rfl, hin⟩ := hrel
    have hc0 := hin.out.c0
    have hf0 := hin.out.f0
    have hc1 := hin.out.c1
    have hsz := hin.out.size
    by_cases hlt : i < n
    · go_wp2_with fail
      go_loopw [15] (fun j wr => ∃ k : Nat, k ≤ n ∧ j = .int .i64 k ∧ Hid (InBox w w.heap.size w1.heap.size (w.heap.size + 1) (.slice (some ⟨g, 0, none⟩) n cap) (cub n (tabG n T i k)) wr)) (fun j _ => n - (intOf j).toNat)
      case atStart => exact ⟨0, Nat.zero_le _, rfl, hin⟩
      case round =>
        clear hin hc0 hf0 hc1 hsz
        obtain ⟨j, hj, rfl, hin⟩ := hrel
        have hc0 := hin.out.c0
        have hf0 := hin.out.f0
        have hc1 := hin.out.c1
        have hsz := hin.out.size
        by_cases hlt2 : j < n
        · obtain ⟨t, ht⟩ : ∃ t, t = T i j := ⟨_, rfl⟩
          have hq : t < n := by rw [ht]; exact HT.out i j hlt hlt2
          have HTT := Lib.hid ht
          clear ht
          obtain ⟨g1, c1, g2, c2, e1, e2, e3, e4, e5, e6, e7, e8, _⟩ := hin.out.own.at hlt hlt2 hq
          go_wp2_with fail
          go_region_law
            (go_simp; go_at_call 54; refine (HF.out _ hin.out.drew.below i j hlt hlt2).mono ?_; rintro e w5 ⟨rfl, hb5⟩; rw [← HTT.out]; have hB5 : Below wr.heap.size wr w5 := below_drewed (Below.refl _ _) hb5; have k1 := bcell hB5 hc1; have k2 := bcell hB5 e1; have k3 := bcell hB5 e2; have k4 := bcell hB5 e3; have k5 := bfrozen hB5 e3 e4)
          all_goals
            have hnew : Hid (InBox w w.heap.size w1.heap.size (w.heap.size + 1) (.slice (some ⟨g, 0, none⟩) n cap) (cub n (tabG n T i (j + 1))) (w5.setCell ⟨g2, t, none⟩ (vi 1))) := Lib.hid (by
              have h1 := hin.out.call hB5
              have h2 := h1.own.setAt hlt hlt2 hq k2 k3 1
              rw [HTT.out, tb_next n n T i j hlt2] at h2
              rw [HTT.out]
              exact h1.set (by omega) (by omega) e5 e6 h2)
            clear hin k1 k2 k3 k4 k5 hb5 hB5 e1 e2 e3 e4 hc0 hc1 hf0
            go_wp2_with fail
            go_roundw
            case rel => exact ⟨j + 1, by omega, by go_num, hnew⟩
            case measure => simp [intOf]; omega
        · obtain rfl : n = j := by omega
          go_wp2_with fail
          go_roundw
          case rel => exact ⟨i + 1, by omega, by go_num, Lib.hid (by rw [← tb_row]; exact hin.out)⟩
          case measure => simp [intOf]; omega
    · obtain rfl : n = i := by omega
      go_wp2_with fail
      (try simp only [Exit.inBlock, Exit.then])
      refine bodyPost_ret (v := .agg #[.slice (some ⟨g, 0, none⟩) n cap]) (by rw [results_cell1 rfl]; go_simp) rfl ?_
      refine ⟨_, rfl, ?_, below_set hin.out.below (Nat.le_refl _)⟩
      have h := hin.out.own
      rw [tb_end] at h
      have h2 : OwnCB (wr.setCell ⟨w.heap.size, 0, none⟩ (.slice (some ⟨g, 0, none⟩) n cap)) (w.heap.size + 1) w1.heap.size (.slice (some ⟨g, 0, none⟩) n cap) (cub n (tabE n T)) := h.same fun x h1 h2 => Below.heap_setCell wr ⟨w.heap.size, 0, none⟩ _ _ (fun e => by have e' : x = w.heap.size := e; omega)
      exact h2.mono (by omega) (Nat.le_trans (Nat.le_of_lt hsz) (by simp))

theorem c_groupRing (v : Value) (xs : List Int) (w : World) (hv : Ints w v xs) (ho : ordN xs ≠ 0) (h16 : ordN xs ≤ 16) :
    Calls Try.prog 42 #[v] w (RetR1 (cub (ordN xs) (tabE (ordN xs) (grpT xs))) w) := by
  have HV := Lib.hid hv
  obtain ⟨a, cap, rfl, hl, hc⟩ := hv
  have HO := Lib.hid ho
  have hpos : 0 < ordN xs := by omega
  obtain ⟨n, hn⟩ : ∃ n, n = ordN xs := ⟨_, rfl⟩
  have HN := Lib.hid hn
  rw [← hn] at h16 hpos ⊢
  clear hc hn ho
  go_enter Try.func42, Try.ntmps42
  go_wp2_with fail
  refine (c_groupSize _ xs _ (HV.out.keep (((Below.refl _ w).alloc (Nat.le_refl _) (.cells #[.slice a xs.length cap] 29)).alloc (by simp) (.cells #[.slice none 0 0] 32)))).mono ?_
  rw [← HN.out]
  rintro e w1 ⟨rfl, rfl⟩
  have HVB : Hid (∀ w', Below ((w.alloc (.cells #[.slice a xs.length cap] 29)).alloc (.cells #[.slice none 0 0] 32)).heap.size ((w.alloc (.cells #[.slice a xs.length cap] 29)).alloc (.cells #[.slice none 0 0] 32)) w' → Ints w' (.slice a xs.length cap) xs ∧ w'.cell? ⟨w.heap.size, 0, none⟩ = some (.slice a xs.length cap)) := Lib.hid (fun w' hb =>
    ⟨(HV.out.keep (((Below.refl _ w).alloc (Nat.le_refl _) (.cells #[.slice a xs.length cap] 29)).alloc (by simp) (.cells #[.slice none 0 0] 32))).keep hb, bcell hb (by simp)⟩)
  go_wp2_with fail
  refine (c_fromTable_grp n _ (grpT xs) _ hpos (by omega) (fun i j _ _ => by rw [HN.out]; exact grpT_lt HO.out (by rw [← HN.out]; exact h16) i j)
    (fun w' hb i j hi hj => c_grp1 xs _ i j _ w' (HVB.out w' hb).2 (HVB.out w' hb).1 HO.out (by rw [← HN.out]; exact h16) (by omega) (by omega))).mono ?_
  rintro e w2 ⟨v2, rfl, ho2, hb2⟩
  obtain ⟨p, m, cc, rfl⟩ := ho2.slice
  have hlt : w.heap.size + 1 < w2.heap.size := by have := hb2.size; simp at this; omega
  have hc0 : w2.cell? ⟨w.heap.size + 1, 0, none⟩ = some (.slice none 0 0) := bcell hb2 (by simp)
  have hf0 : w2.frozen? ⟨w.heap.size + 1, 0, none⟩ = false := bfrozen hb2 (v := .slice none 0 0) (by simp) (by simp)
  have HO2 : Hid (OwnCB (w2.setCell ⟨w.heap.size + 1, 0, none⟩ (.slice p m cc)) (w.heap.size + 1 + 1) w2.heap.size (.slice p m cc) (cub n (tabE n (grpT xs)))) := Lib.hid ((ho2.mono (by simp) (Nat.le_refl _)).same fun x h1 h2 => Below.heap_setCell w2 ⟨w.heap.size + 1, 0, none⟩ _ _ (fun e => by have e' : x = w.heap.size + 1 := e; omega))
  have HB : Hid (Below w.heap.size w (w2.setCell ⟨w.heap.size + 1, 0, none⟩ (.slice p m cc))) := Lib.hid (below_set (below_after (below_after hb2)) (Nat.le_succ _))
  clear ho2 hb2
  go_wp2_with fail
  (try simp only [Exit.inBlock, Exit.then])
  refine bodyPost_ret (v := .agg #[.slice p m cc]) (by rw [results_cell1 rfl]; go_simp) rfl ?_
  exact ⟨_, rfl, HO2.out.mono (by omega) (by simp), HB.out⟩
noncomputable def grpN (xs : List Int) : List (List (List Int)) × Int := if codeN (ordN xs) 16 = 0 then (cub (ordN xs) (tabE (ordN xs) (grpT xs)), 0) else ([], codeN (ordN xs) 16)
theorem codeN_ok {n most : Nat} (h : codeN n most = 0) : n ≠ 0 ∧ n ≤ most := by
  unfold codeN at h
  split at h
  · cases h
  · split at h
    · cases h
    · omega
theorem codeN_bd (n most : Nat) : 0 ≤ codeN n most ∧ codeN n most ≤ 3 := by
  unfold codeN
  (repeat' split) <;> omega
theorem grpN_small (xs : List Int) : SmallC (grpN xs).1 := by
  unfold grpN
  split
  · rename_i h
    exact smallC_cub _ (by have := (codeN_ok h).2; omega)
  · exact smallC_nil
end Go.Proofs.Ytckcjlophnehmaa
