/- Group rings: sizes and codes of orders, tables of both sides. -/
import Derived.Test.YtnhdnogcglmjdaaRbk
namespace Go.Proofs.Ytnhdnogcglmjdaa
open Go.RowKit

/-! orders -/
def ordM (xs : List Int) (j : Nat) : Nat := (xs.getD j 0).toNat
/-- the size as both sides reckon it, over the first k orders -/
def capI (m : Nat → Nat) : Nat → Nat
  | 0 => 1
  | k + 1 => min 17 (capI m k * min (m k) 17)
def okO (xs : List Int) (k : Nat) : Prop := ∀ j x, j < k → xs[j]? = some x → 1 ≤ x
theorem capI_min {m : Nat → Nat} : ∀ k, (∀ j, j < k → 1 ≤ m j) → capI m k = min 17 (prodI m k)
  | 0, _ => rfl
  | k + 1, h => by
    have ih := capI_min k fun j hj => h j (by omega)
    have h1 := h k (by omega)
    have h2 := prodI_pos k (m := m) fun j hj => h j (by omega)
    simp only [capI, prodI]
    rw [ih]
    generalize prodI m k = P at *
    generalize m k = M at *
    by_cases hP : 17 ≤ P
    · rw [Nat.min_eq_left hP]
      have h3 : 17 * 1 ≤ 17 * min M 17 := Nat.mul_le_mul_left _ (by omega)
      have h4 : 1 * P ≤ M * P := Nat.mul_le_mul_right _ h1
      rw [Nat.min_eq_left (by omega), Nat.min_eq_left (by omega)]
    · rw [Nat.min_eq_right (by omega : P ≤ 17)]
      by_cases hM : 17 ≤ M
      · rw [Nat.min_eq_right hM]
        have h3 : 1 * 17 ≤ P * 17 := Nat.mul_le_mul_right _ h2
        have h4 : M * 1 ≤ M * P := Nat.mul_le_mul_left _ h2
        rw [Nat.min_eq_left (by omega), Nat.min_eq_left (by omega)]
      · rw [Nat.min_eq_left (by omega : M ≤ 17), Nat.mul_comm]
theorem capI_pos {m : Nat → Nat} : ∀ k, (∀ j, j < k → 1 ≤ m j) → 1 ≤ capI m k := fun k h => by
  rw [capI_min k h]; have := prodI_pos k h; omega
theorem capI_le {m : Nat → Nat} : ∀ k, capI m k ≤ 17
  | 0 => by simp [capI]
  | k + 1 => by simp only [capI]; omega
open Classical in
/-- the size of the group of orders, 0 if they are none, 17 if it is too great -/
noncomputable def ordN (xs : List Int) : Nat := if 0 < xs.length ∧ okO xs xs.length then capI (ordM xs) xs.length else 0
theorem ordM_at {xs : List Int} {j : Nat} {x : Int} (h : xs[j]? = some x) (hx : 0 ≤ x) : (ordM xs j : Int) = x := by
  simp [ordM, List.getD_eq_getElem?_getD, h]; omega
theorem okO_m {xs : List Int} {k : Nat} (h : okO xs k) (hk : k ≤ xs.length) : ∀ j, j < k → 1 ≤ ordM xs j := fun j hj => by
  have e : xs[j]? = some xs[j] := List.getElem?_eq_getElem (by omega)
  have h1 := h j _ hj e
  have h2 := ordM_at e (by omega)
  omega
theorem ordN_pos {xs : List Int} (h : ordN xs ≠ 0) : 0 < xs.length ∧ okO xs xs.length ∧ ordN xs = capI (ordM xs) xs.length := by
  unfold ordN at *
  split at h
  · rename_i hc
    exact ⟨hc.1, hc.2, by rw [if_pos hc]⟩
  · exact absurd rfl h
theorem ordN_le (xs : List Int) : ordN xs ≤ 17 := by
  unfold ordN
  split
  · exact capI_le _
  · omega
theorem ordN_prod {xs : List Int} (h : ordN xs ≠ 0) (h2 : ordN xs ≤ 16) : prodI (ordM xs) xs.length = ordN xs := by
  obtain ⟨h3, h4, h5⟩ := ordN_pos h
  rw [capI_min _ (okO_m h4 (Nat.le_refl _))] at h5
  omega
def codeN (n : Nat) (most : Nat) : Int := if n = 0 then 1 else if most < n then 3 else 0

set_option maxHeartbeats 1000000 in
theorem c_groupSize (v : Value) (xs : List Int) (w : World) (hv : Ints w v xs) :
    Calls Try.prog 76 #[v] w fun e w' => e = .returned (.int .i64 (ordN xs)) ∧ w = w' := by
  obtain ⟨a, cap, rfl, hl, hc⟩ := hv
  have HC := Lib.hid hc
  clear hc
  go_enter Try.func76, Try.ntmps76
  go_wp2_with fail
  go_loop [3, 8] (fun s i => ∃ k : Nat, k ≤ xs.length ∧ i = .int .i64 k ∧ s = .int .i64 (capI (ordM xs) k) ∧ Hid (okO xs k)) (fun _ i => xs.length - (intOf i).toNat)
  case atStart => exact ⟨0, Nat.zero_le _, rfl, rfl, fun j x hj => absurd hj (Nat.not_lt_zero _)⟩
  case round =>
    obtain ⟨k, hk, rfl, rfl, H⟩ := hrel
    by_cases hlt : k < xs.length
    · obtain ⟨x, hx⟩ : ∃ x, xs[k]? = some x := ⟨xs[k], by simp [hlt]⟩
      obtain ⟨b, off, rfl, hcell⟩ := HC.out k x hx
      have HX := Lib.hid hx
      clear hx
      by_cases h1 : x < 1
      · go_wp2_with fail
        go_ret
        refine ⟨ret_int ?_, rfl⟩
        have h0 : ordN xs = 0 := by unfold ordN; exact if_neg (fun h => by have := h.2 k x hlt HX.out; omega)
        rw [h0]; rfl
      · have hcp := capI_le (m := ordM xs) k
        have hmx := ordM_at HX.out (by omega)
        obtain ⟨C, hC⟩ : ∃ C, C = capI (ordM xs) k := ⟨_, rfl⟩
        have HK := Lib.hid hC
        rw [← hC] at hcp ⊢
        clear hC
        obtain ⟨M, hM⟩ : ∃ M : Nat, (M : Int) = min x 17 := ⟨(min x 17).toNat, by omega⟩
        have hM17 : M ≤ 17 := by omega
        obtain ⟨P, hP⟩ : ∃ P : Nat, P = C * M := ⟨_, rfl⟩
        have hPl : P ≤ 17 * 17 := by rw [hP]; exact Nat.mul_le_mul hcp hM17
        have hPI : (C : Int) * (M : Int) = (P : Int) := by rw [hP]; exact (Int.natCast_mul _ _).symm
        have HNX : Hid (capI (ordM xs) (k + 1) = min 17 P) := Lib.hid (by
          simp only [capI]
          rw [← HK.out, hP, show min (ordM xs k) 17 = M by omega])
        have HOK : Hid (okO xs (k + 1)) := Lib.hid (fun j y hj hy => by
          by_cases e : j = k
          · subst e; rw [HX.out] at hy; cases hy; omega
          · exact H.out j y (by omega) hy)
        clear hP hmx H
        by_cases hx17 : x ≤ 17
        · obtain rfl : x = (M : Int) := by omega
          clear hM
          go_wp2_with fail
          all_goals exact ⟨⟨k + 1, by omega, by go_num, by rw [HNX.out]; congr 1; (try split) <;> omega, HOK⟩, by simp [intOf]; omega⟩
        · obtain rfl : M = 17 := by omega
          clear hM
          have hPI2 : (C : Int) * 17 = (P : Int) := hPI
          clear hPI
          go_wp2_with fail
          all_goals exact ⟨⟨k + 1, by omega, by go_num, by rw [HNX.out]; congr 1; (try split) <;> omega, HOK⟩, by simp [intOf]; omega⟩
    · obtain rfl : k = xs.length := by omega
      by_cases h0 : xs.length = 0
      · have HZ : Hid (ordN xs = 0) := Lib.hid (by unfold ordN; exact if_neg (fun h => by omega))
        have h0B : ((xs.length : Int) == 0) = true := by simp [h0]
        go_wp2_with fail
        go_ret
        exact ⟨ret_int (by rw [HZ.out]; rfl), rfl⟩
      · have HZ : Hid (ordN xs = capI (ordM xs) xs.length) := Lib.hid (by unfold ordN; exact if_pos ⟨by omega, H.out⟩)
        have h0B : ((xs.length : Int) == 0) = false := by rw [beq_eq_false_iff_ne]; omega
        go_wp2_with fail
        go_ret
        exact ⟨ret_int (by rw [HZ.out]), rfl⟩
theorem c_ordersCode (v : Value) (xs : List Int) (most : Nat) (w : World) (hv : Ints w v xs) (hm : most ≤ 16) :
    Calls Try.prog 64 #[v, .int .i64 most] w fun e w' => e = .returned (.int .i64 (codeN (ordN xs) most)) ∧ w = w' := by
  have hle := ordN_le xs
  have HV := Lib.hid hv
  obtain ⟨n, hn⟩ : ∃ n, n = ordN xs := ⟨_, rfl⟩
  have HN := Lib.hid hn
  rw [← hn] at hle ⊢
  clear hv hn
  by_cases h0 : n = 0
  · have H : Hid (codeN n most = 1) := Lib.hid (if_pos h0)
    subst h0
    go_enter Try.func64, Try.ntmps64
    go_wp2_with fail
    refine (c_groupSize v xs _ HV.out).mono ?_
    rw [← HN.out]
    rintro e w1 ⟨rfl, rfl⟩
    go_wp2_with fail
    go_ret
    exact ⟨ret_int H.out.symm, rfl⟩
  · by_cases h1 : most < n
    · have H : Hid (codeN n most = 3) := Lib.hid (by unfold codeN; rw [if_neg h0, if_pos h1])
      go_enter Try.func64, Try.ntmps64
      go_wp2_with fail
      refine (c_groupSize v xs _ HV.out).mono ?_
      rw [← HN.out]
      rintro e w1 ⟨rfl, rfl⟩
      have h0B : ((n : Int) == 0) = false := by rw [beq_eq_false_iff_ne]; omega
      go_wp2_with fail
      go_ret
      exact ⟨ret_int H.out.symm, rfl⟩
    · have H : Hid (codeN n most = 0) := Lib.hid (by unfold codeN; rw [if_neg h0, if_neg h1])
      go_enter Try.func64, Try.ntmps64
      go_wp2_with fail
      refine (c_groupSize v xs _ HV.out).mono ?_
      rw [← HN.out]
      rintro e w1 ⟨rfl, rfl⟩
      have h0B : ((n : Int) == 0) = false := by rw [beq_eq_false_iff_ne]; omega
      go_wp2_with fail
      go_ret
      exact ⟨ret_int H.out.symm, rfl⟩
theorem c_l06Orders (v : Value) (xs : List Int) (w : World) (hv : Ints w v xs) :
    Calls Try.prog 88 #[v] w fun e w' => e = .returned (.bool (!decide (ordN xs = 0))) ∧ w = w' := by
  obtain ⟨a, cap, rfl, hl, hc⟩ := hv
  have HC := Lib.hid hc
  clear hc
  go_enter Try.func88, Try.ntmps88
  go_wp2_with fail
  go_loop [3] (fun i => ∃ k : Nat, k ≤ xs.length ∧ i = .int .i64 k ∧ Hid (okO xs k)) (fun i => xs.length - (intOf i).toNat)
  case atStart => exact ⟨0, Nat.zero_le _, rfl, fun j x hj => absurd hj (Nat.not_lt_zero _)⟩
  case round =>
    obtain ⟨k, hk, rfl, H⟩ := hrel
    by_cases hlt : k < xs.length
    · obtain ⟨x, hx⟩ : ∃ x, xs[k]? = some x := ⟨xs[k], by simp [hlt]⟩
      obtain ⟨b, off, rfl, hcell⟩ := HC.out k x hx
      have HX := Lib.hid hx
      clear hx
      by_cases h1 : x < 1
      · go_wp2_with fail
        go_ret
        refine ⟨?_, rfl⟩
        have h0 : ordN xs = 0 := by unfold ordN; exact if_neg (fun h => by have := h.2 k x hlt HX.out; omega)
        rw [h0]; rfl
      · have HOK : Hid (okO xs (k + 1)) := Lib.hid (fun j y hj hy => by
          by_cases e : j = k
          · subst e; rw [HX.out] at hy; cases hy; omega
          · exact H.out j y (by omega) hy)
        clear H
        go_wp2_with fail
        go_round
        case rel => exact ⟨k + 1, by omega, by go_num, HOK⟩
        case measure => simp [intOf]; omega
    · obtain rfl : k = xs.length := by omega
      go_wp2_with fail
      go_ret
      refine ⟨congrArg (fun b => Ending.returned (.bool b)) (?_ : decide (0 < xs.length) = !decide (ordN xs = 0)), rfl⟩
      by_cases h0 : 0 < xs.length
      · have h1 : ordN xs = capI (ordM xs) xs.length := by unfold ordN; exact if_pos ⟨h0, H.out⟩
        have h2 := capI_pos _ (okO_m H.out (Nat.le_refl _))
        rw [decide_eq_false (by omega : ¬ ordN xs = 0), decide_eq_true h0]
        rfl
      · have h1 : ordN xs = 0 := by unfold ordN; exact if_neg (fun h => h0 h.1)
        rw [h1, decide_eq_false h0]
        rfl
theorem prodI_mono {m : Nat → Nat} {k : Nat} : ∀ n, k ≤ n → (∀ j, j < n → 1 ≤ m j) → prodI m k ≤ prodI m n := by
  intro n hn h
  induction n with
  | zero => obtain rfl : k = 0 := by omega
            exact Nat.le_refl _
  | succ n ih =>
    by_cases e : k = n + 1
    · subst e; exact Nat.le_refl _
    · have h1 := ih (by omega) fun j hj => h j (by omega)
      have h2 : 1 * prodI m n ≤ m n * prodI m n := Nat.mul_le_mul_right _ (h n (by omega))
      simp only [prodI]
      omega
set_option maxHeartbeats 1000000 in
theorem c_l06Size (v : Value) (xs : List Int) (w : World) (hv : Ints w v xs) (ho : ordN xs ≠ 0) :
    Calls Try.prog 89 #[v, .int .i64 16] w fun e w' => e = .returned (.int .i64 (ordN xs)) ∧ w = w' := by
  obtain ⟨a, cap, rfl, hl, hc⟩ := hv
  have HC := Lib.hid hc
  obtain ⟨hp, hok, hN⟩ := ordN_pos ho
  have HOK := Lib.hid hok
  have hM1 := okO_m hok (Nat.le_refl _)
  have HM1 := Lib.hid hM1
  have HN : Hid (ordN xs = min 17 (prodI (ordM xs) xs.length)) := Lib.hid (by rw [hN, capI_min _ hM1])
  clear hc hok hN ho hM1
  go_enter Try.func89, Try.ntmps89
  go_wp2_with fail
  go_loop [5, 6] (fun s i => ∃ k P : Nat, k ≤ xs.length ∧ i = .int .i64 k ∧ s = .int .i64 P ∧ P ≤ 16 ∧ Hid (P = prodI (ordM xs) k)) (fun _ i => xs.length - (intOf i).toNat)
  case atStart => exact ⟨0, 1, Nat.zero_le _, rfl, rfl, by omega, rfl⟩
  case round =>
    obtain ⟨k, P, hk, rfl, rfl, hP, H⟩ := hrel
    by_cases hlt : k < xs.length
    · obtain ⟨x, hx⟩ : ∃ x, xs[k]? = some x := ⟨xs[k], by simp [hlt]⟩
      obtain ⟨b, off, rfl, hcell⟩ := HC.out k x hx
      have hx1 := HOK.out k x hlt hx
      have hmx := ordM_at hx (by omega)
      have hmono := prodI_mono (m := ordM xs) (k := k + 1) xs.length (by omega) HM1.out
      simp only [prodI] at hmono
      rw [← H.out] at hmono
      have hpos := prodI_pos k (m := ordM xs) fun j hj => HM1.out j (by omega)
      rw [← H.out] at hpos
      obtain ⟨M, hM⟩ : ∃ M, M = ordM xs k := ⟨_, rfl⟩
      rw [← hM] at hmx hmono
      obtain ⟨R, hR⟩ : ∃ R, R = M * P := ⟨_, rfl⟩
      rw [← hR] at hmono
      have hMR : M * 1 ≤ M * P := Nat.mul_le_mul_left _ hpos
      rw [← hR] at hMR
      have hPI : (P : Int) * (M : Int) = (R : Int) := by rw [hR, Nat.mul_comm]; exact (Int.natCast_mul _ _).symm
      have HRP : Hid (R = prodI (ordM xs) (k + 1)) := Lib.hid (by simp only [prodI]; rw [hR, hM, ← H.out])
      have hMP : M ≤ 16 → R ≤ 16 * 16 := fun h => by rw [hR]; exact Nat.mul_le_mul h hP
      obtain rfl : (M : Int) = x := hmx
      have HMN := Lib.hid hmono
      clear hmono hR hM H hx
      by_cases h16 : 16 < M
      · go_wp2_with fail
        go_ret
        exact ⟨ret_int (by rw [HN.out]; have := HMN.out; omega), rfl⟩
      · have hR2 := hMP (by omega)
        clear hMP
        by_cases hr : 16 < R
        · go_wp2_with fail
          go_ret
          exact ⟨ret_int (by rw [HN.out]; have := HMN.out; omega), rfl⟩
        · go_wp2_with fail
          go_round
          case rel => exact ⟨k + 1, R, by omega, by go_num, rfl, by omega, HRP⟩
          case measure => simp [intOf]; omega
    · obtain rfl : k = xs.length := by omega
      go_wp2_with fail
      go_ret
      exact ⟨ret_int (by rw [HN.out, ← H.out]; omega), rfl⟩
theorem c_l06Code (v : Value) (xs : List Int) (more : Nat) (w : World) (hv : Ints w v xs) (hm : more ≤ 1) :
    Calls Try.prog 62 #[v, .int .i64 more] w fun e w' => e = .returned (.int .i64 (codeN (ordN xs) (16 - more))) ∧ w = w' := by
  have hle := ordN_le xs
  have HV := Lib.hid hv
  clear hv
  by_cases h0 : ordN xs = 0
  · have H : Hid (codeN (ordN xs) (16 - more) = 1) := Lib.hid (if_pos h0)
    have hd : (!decide (ordN xs = 0)) = false := by simp [h0]
    clear h0
    go_enter Try.func62, Try.ntmps62
    go_wp2_with fail
    refine (c_l06Orders v xs _ HV.out).mono ?_
    rw [hd]
    rintro e w1 ⟨rfl, rfl⟩
    go_wp2_with fail
    go_ret
    exact ⟨ret_int H.out.symm, rfl⟩
  · have hd : (!decide (ordN xs = 0)) = true := by simp [h0]
    have HS := Lib.hid (fun w1 (h1 : Ints w1 v xs) => c_l06Size v xs w1 h1 h0)
    have HD := Lib.hid hd
    have H : Hid (codeN (ordN xs) (16 - more) = if 16 < ordN xs + more then 3 else 0) := Lib.hid (by unfold codeN; rw [if_neg h0]; (repeat' split) <;> omega)
    clear h0 hd
    obtain ⟨n, hn⟩ : ∃ n, n = ordN xs := ⟨_, rfl⟩
    rw [← hn] at H hle ⊢
    have HN := Lib.hid hn
    clear hn
    by_cases h1 : 16 < n + more
    · go_enter Try.func62, Try.ntmps62
      go_wp2_with fail
      refine (c_l06Orders v xs _ HV.out).mono ?_
      rw [HD.out]
      rintro e w1 ⟨rfl, rfl⟩
      go_wp2_with fail
      refine (HS.out _ HV.out).mono ?_
      rw [← HN.out]
      rintro e w1 ⟨rfl, rfl⟩
      go_wp2_with fail
      go_ret
      exact ⟨ret_int (by rw [H.out, if_pos h1]), rfl⟩
    · go_enter Try.func62, Try.ntmps62
      go_wp2_with fail
      refine (c_l06Orders v xs _ HV.out).mono ?_
      rw [HD.out]
      rintro e w1 ⟨rfl, rfl⟩
      go_wp2_with fail
      refine (HS.out _ HV.out).mono ?_
      rw [← HN.out]
      rintro e w1 ⟨rfl, rfl⟩
      go_wp2_with fail
      go_ret
      exact ⟨ret_int (by rw [H.out, if_neg h1]), rfl⟩

theorem ord_cells {xs : List Int} (ho : ordN xs ≠ 0) : ∀ j, j < xs.length → xs[j]? = some (ordM xs j : Int) ∧ 1 ≤ ordM xs j := fun j hj => by
  obtain ⟨h1, h2, _⟩ := ordN_pos ho
  have e : xs[j]? = some xs[j] := List.getElem?_eq_getElem hj
  have h3 := h2 j _ hj e
  have h4 := ordM_at e (by omega)
  exact ⟨by rw [h4]; exact e, okO_m h2 (Nat.le_refl _) j hj⟩
def grpT (xs : List Int) (i j : Nat) : Nat := addI (ordM xs) xs.length i j
theorem grpT_lt {xs : List Int} (ho : ordN xs ≠ 0) (h2 : ordN xs ≤ 16) (i j : Nat) : grpT xs i j < ordN xs := by
  have := addI_lt xs.length i j (fun j hj => (ord_cells ho j hj).2)
  rw [ordN_prod ho h2] at this
  exact this
set_option maxRecDepth 100000 in
set_option maxHeartbeats 2000000 in
theorem c_l06Add (v : Value) (xs : List Int) (x y : Nat) (w : World) (hv : Ints w v xs) (ho : ordN xs ≠ 0) (h16 : ordN xs ≤ 16) (hx : x ≤ 1000) (hy : y ≤ 1000) :
    Calls Try.prog 90 #[v, .int .i64 x, .int .i64 y] w fun e w' => e = .returned (.int .i64 (grpT xs x y)) ∧ Below w.heap.size w w' := by
  obtain ⟨a, cap, rfl, hl, hc⟩ := hv
  have HC := Lib.hid hc
  have HO := Lib.hid (ord_cells ho)
  have hA0 : AddAt (ordM xs) xs.length (grpT xs x y) (ordN xs) 0 1 x y := ⟨by rw [Nat.zero_add, Nat.one_mul]; rfl, by rw [Nat.one_mul]; exact ordN_prod ho h16, Nat.le_refl _, hx, hy⟩
  have hT := grpT_lt ho h16 x y
  obtain ⟨n, hn⟩ : ∃ n, n = ordN xs := ⟨_, rfl⟩
  obtain ⟨T, hTT⟩ : ∃ T, T = grpT xs x y := ⟨_, rfl⟩
  rw [← hn, ← hTT] at hA0
  rw [← hn, ← hTT] at hT
  rw [← hn] at h16
  rw [← hTT]
  have HA := Lib.hid hA0
  clear hc hn hTT ho hA0
  go_enter Try.func90, Try.ntmps90
  go_wp2_with fail
  go_loopw [1, 2, 7, 8, 9] (fun xv yv sv pv iv wr => ∃ k s p a b : Nat, k ≤ xs.length ∧ iv = .int .i64 ((k : Int) - 1) ∧ sv = .int .i64 s ∧ pv = .int .i64 p ∧ xv = .int .i64 a ∧ yv = .int .i64 b ∧ Hid (AddAt (ordM xs) k T n s p a b) ∧ Drew w wr) (fun _ _ _ _ iv _ => (intOf iv + 1).toNat)
  case atStart => exact ⟨xs.length, 0, 1, x, y, Nat.le_refl _, rfl, rfl, rfl, rfl, rfl, HA, Drew.refl _⟩
  case round =>
    obtain ⟨k, s, p, a, b, hk, rfl, rfl, rfl, rfl, rfl, hat, hd⟩ := hrel
    cases k with
    | zero =>
      have hs : s = T := by have h := hat.out.sum; simpa [addI] using h
      subst hs
      rw [show ((0 : Nat) : Int) - 1 = -1 from rfl]
      go_wp2_with fail
      go_ret
      exact ⟨rfl, hd.below _⟩
    | succ k =>
      rw [show (((k + 1 : Nat) : Int) - 1) = (k : Int) by omega]
      obtain ⟨hx, hm1⟩ := HO.out k (by omega)
      obtain ⟨bb, off, rfl, hcell⟩ := HC.out k _ hx
      have hcell' := hd.cell hcell
      have hnx := hat.out.next fun j hj => (HO.out j (by omega)).2
      obtain ⟨d1, d2, d3, d4⟩ := hat.out.bd fun j hj => (HO.out j (by omega)).2
      obtain ⟨M, hM⟩ : ∃ M, M = ordM xs k := ⟨_, rfl⟩
      rw [← hM] at hm1 hcell' hnx d1 d2 d3
      have hha := hat.out.ha
      have hhb := hat.out.hb
      have hsb : s ≤ 16 := by omega
      have l1 : a % M ≤ a := Nat.mod_le _ _
      have l2 : b % M ≤ b := Nat.mod_le _ _
      have l3 : a / M ≤ a := Nat.div_le_self _ _
      have l4 : b / M ≤ b := Nat.div_le_self _ _
      have l5 := Nat.mod_lt (a % M + b % M) hm1
      have f1 : (a : Int).tmod (M : Int) = ((a % M : Nat) : Int) := rfl
      have f2 : (b : Int).tmod (M : Int) = ((b % M : Nat) : Int) := rfl
      have f3 : (a : Int).tdiv (M : Int) = ((a / M : Nat) : Int) := rfl
      have f4 : (b : Int).tdiv (M : Int) = ((b / M : Nat) : Int) := rfl
      have f5 : (((a % M : Nat) : Int) + ((b % M : Nat) : Int)).tmod (M : Int) = (((a % M + b % M) % M : Nat) : Int) := rfl
      have f6 : (((a % M + b % M) % M : Nat) : Int) * (p : Int) = (((a % M + b % M) % M * p : Nat) : Int) := (Int.natCast_mul _ _).symm
      have f7 : (p : Int) * (M : Int) = ((p * M : Nat) : Int) := (Int.natCast_mul _ _).symm
      clear hM hcell hx d4
      generalize (a % M + b % M) % M * p = D at *
      generalize (a % M + b % M) % M = E at *
      generalize a % M = A at *
      generalize b % M = B at *
      generalize a / M = A2 at *
      generalize b / M = B2 at *
      generalize p * M = P2 at *
      have HNX := Lib.hid hnx
      clear hnx hat
      go_wp2_with fail
      go_region
      go_wp2_with fail
      exact ⟨⟨k, s + D, P2, A2, B2, by omega, rfl, by go_num, rfl, rfl, rfl, HNX, hd.more 1⟩, by simp [intOf]⟩
theorem c_grp1 (xs : List Int) (v : Value) (x y : Nat) (p : Addr) (w : World) (hp : w.cell? p = some v) (hv : Ints w v xs) (ho : ordN xs ≠ 0) (h16 : ordN xs ≤ 16) (hx : x ≤ 1000) (hy : y ≤ 1000) :
    Calls Try.prog 91 #[.int .i64 x, .int .i64 y, .pointer (some p)] w fun e w' => e = .returned (.int .i64 (grpT xs x y)) ∧ Below w.heap.size w w' := by
  have HV := Lib.hid hv
  obtain ⟨a, cap, rfl, hl, hc⟩ := hv
  have HO := Lib.hid ho
  clear hc ho
  go_enter Try.func91, Try.ntmps91
  go_wp2_with fail
  refine (c_addElements _ xs (ordM xs) (ordN xs) x y _ HV.out (ordN_pos HO.out).1 (ord_cells HO.out) (ordN_prod HO.out h16) (by omega) hx hy).mono ?_
  rintro e w1 ⟨rfl, hb1⟩
  have HB := Lib.hid hb1
  clear hb1
  go_wp2_with fail
  go_ret
  exact ⟨rfl, HB.out⟩
set_option maxRecDepth 100000 in
set_option maxHeartbeats 2000000 in
theorem c_fromTable_grp (n : Nat) (p : Addr) (T : Nat → Nat → Nat) (w : World) (hn1 : 0 < n) (hn : n ≤ 100) (hT : ∀ i j, i < n → j < n → T i j < n)
    (hφ : ∀ w', Below w.heap.size w w' → ∀ i j : Nat, i < n → j < n → Calls Try.prog 91 #[.int .i64 i, .int .i64 j, .pointer (some p)] w' fun e w'' => e = .returned (.int .i64 (T i j)) ∧ Below w'.heap.size w' w'') :
    Calls Try.prog 60 #[.int .i64 n, .func (.func 91) #[] #[.pointer (some p)]] w (RetR1 (cub n (tabE n T)) w) := by
  have HT := Lib.hid hT
  have HF := Lib.hid hφ
  clear hT hφ
  go_enter Try.func60, Try.ntmps60
  go_wp2_with fail
  refine (c_emptyCube n _ (by omega)).mono ?_
  rintro e w1 ⟨v1, rfl, ho1, hb1⟩
  obtain ⟨g, cap, rfl, hg1, hg2⟩ := ho1.shape' (by rw [cub_length]; omega)
  rw [cub_length] at ho1 ⊢
  have hsz1 : w.heap.size + 1 ≤ w1.heap.size := by have := hb1.size; simpa using this
  have hlt1 : w.heap.size < w1.heap.size := by omega
  have HIN : Hid (InBox w w.heap.size w1.heap.size (w.heap.size + 1) (.slice (some ⟨g, 0, none⟩) n cap) (cub n (tabG n T 0 0)) (w1.alloc (.cells #[.slice (some ⟨g, 0, none⟩) n cap] 31))) := Lib.hid
    ⟨bcell (below_alloc _ _) (bcell hb1 (v := .slice none 0 0) (by simp)), bfrozen (below_alloc _ _) (bcell hb1 (v := .slice none 0 0) (by simp)) (bfrozen hb1 (v := .slice none 0 0) (by simp) (by simp)), by simp, by simp, by rw [tb_start]; exact (ho1.mono (by simp) (Nat.le_refl _)).alloc (Nat.le_refl _) _, below_after (hb1.alloc hb1.size _)⟩
  clear ho1 hb1
  go_wp2_with fail
  go_loopw [11] (fun i wr => ∃ k : Nat, k ≤ n ∧ i = .int .i64 k ∧ Hid (InBox w w.heap.size w1.heap.size (w.heap.size + 1) (.slice (some ⟨g, 0, none⟩) n cap) (cub n (tabG n T k 0)) wr)) (fun i _ => n - (intOf i).toNat)
  case atStart => exact ⟨0, Nat.zero_le _, rfl, HIN⟩
  case round =>
    obtain ⟨i, hi, rfl, hin⟩ := hrel
    have hc0 := hin.out.c0
    have hf0 := hin.out.f0
    have hc1 := hin.out.c1
    have hsz := hin.out.size
    by_cases hlt : i < n
    · go_wp2_with fail
      go_loopw [15] (fun j wr => ∃ k : Nat, k ≤ n ∧ j = .int .i64 k ∧ Hid (InBox w w.heap.size w1.heap.size (w.heap.size + 1) (.slice (some ⟨g, 0, none⟩) n cap) (cub n (tabG n T i k)) wr)) (fun j _ => n - (intOf j).toNat)
      case atStart => exact ⟨0, Nat.zero_le _, rfl, hin⟩
      case round =>
        clear hin hc0 hf0 hc1 hsz
        obtain ⟨j, hj, rfl, hin⟩ := hrel
        have hc0 := hin.out.c0
        have hf0 := hin.out.f0
        have hc1 := hin.out.c1
        have hsz := hin.out.size
        by_cases hlt2 : j < n
        · obtain ⟨t, ht⟩ : ∃ t, t = T i j := ⟨_, rfl⟩
          have hq : t < n := by rw [ht]; exact HT.out i j hlt hlt2
          have HTT := Lib.hid ht
          clear ht
          obtain ⟨g1, c1, g2, c2, e1, e2, e3, e4, e5, e6, e7, e8, _⟩ := hin.out.own.at hlt hlt2 hq
          go_wp2_with fail
          go_region_law
            (go_simp; go_at_call 91; refine (HF.out _ hin.out.drew.below i j hlt hlt2).mono ?_; rintro e w5 ⟨rfl, hb5⟩; rw [← HTT.out]; have hB5 : Below wr.heap.size wr w5 := below_drewed (Below.refl _ _) hb5; have k1 := bcell hB5 hc1; have k2 := bcell hB5 e1; have k3 := bcell hB5 e2; have k4 := bcell hB5 e3; have k5 := bfrozen hB5 e3 e4)
          all_goals
            have hnew : Hid (InBox w w.heap.size w1.heap.size (w.heap.size + 1) (.slice (some ⟨g, 0, none⟩) n cap) (cub n (tabG n T i (j + 1))) (w5.setCell ⟨g2, t, none⟩ (vi 1))) := Lib.hid (by
              have h1 := hin.out.call hB5
              have h2 := h1.own.setAt hlt hlt2 hq k2 k3 1
              rw [HTT.out, tb_next n n T i j hlt2] at h2
              rw [HTT.out]
              exact h1.set (by omega) (by omega) e5 e6 h2)
            clear hin k1 k2 k3 k4 k5 hb5 hB5 e1 e2 e3 e4 hc0 hc1 hf0
            go_wp2_with fail
            go_roundw
            case rel => exact ⟨j + 1, by omega, by go_num, hnew⟩
            case measure => simp [intOf]; omega
        · obtain rfl : n = j := by omega
          go_wp2_with fail
          go_roundw
          case rel => exact ⟨i + 1, by omega, by go_num, Lib.hid (by rw [← tb_row]; exact hin.out)⟩
          case measure => simp [intOf]; omega
    · obtain rfl : n = i := by omega
      go_wp2_with fail
      (try simp only [Exit.inBlock, Exit.then])
      refine bodyPost_ret (v := .agg #[.slice (some ⟨g, 0, none⟩) n cap]) (by rw [results_cell1 rfl]; go_simp) rfl ?_
      refine ⟨_, rfl, ?_, below_set hin.out.below (Nat.le_refl _)⟩
      have h := hin.out.own
      rw [tb_end] at h
      have h2 : OwnCB (wr.setCell ⟨w.heap.size, 0, none⟩ (.slice (some ⟨g, 0, none⟩) n cap)) (w.heap.size + 1) w1.heap.size (.slice (some ⟨g, 0, none⟩) n cap) (cub n (tabE n T)) := h.same fun x h1 h2 => Below.heap_setCell wr ⟨w.heap.size, 0, none⟩ _ _ (fun e => by have e' : x = w.heap.size := e; omega)
      exact h2.mono (by omega) (Nat.le_trans (Nat.le_of_lt hsz) (by simp))

theorem c_groupRing (v : Value) (xs : List Int) (w : World) (hv : Ints w v xs) (ho : ordN xs ≠ 0) (h16 : ordN xs ≤ 16) :
    Calls Try.prog 65 #[v] w (RetR1 (cub (ordN xs) (tabE (ordN xs) (grpT xs))) w) := by
  have HV := Lib.hid hv
  obtain ⟨a, cap, rfl, hl, hc⟩ := hv
  have HO := Lib.hid ho
  have hpos : 0 < ordN xs := by omega
  obtain ⟨n, hn⟩ : ∃ n, n = ordN xs := ⟨_, rfl⟩
  have HN := Lib.hid hn
  rw [← hn] at h16 hpos ⊢
  clear hc hn ho
  go_enter Try.func65, Try.ntmps65
  go_wp2_with fail
  refine (c_groupSize _ xs _ (HV.out.keep (((Below.refl _ w).alloc (Nat.le_refl _) (.cells #[.slice a xs.length cap] 37)).alloc (by simp) (.cells #[.slice none 0 0] 31)))).mono ?_
  rw [← HN.out]
  rintro e w1 ⟨rfl, rfl⟩
  have HVB : Hid (∀ w', Below ((w.alloc (.cells #[.slice a xs.length cap] 37)).alloc (.cells #[.slice none 0 0] 31)).heap.size ((w.alloc (.cells #[.slice a xs.length cap] 37)).alloc (.cells #[.slice none 0 0] 31)) w' → Ints w' (.slice a xs.length cap) xs ∧ w'.cell? ⟨w.heap.size, 0, none⟩ = some (.slice a xs.length cap)) := Lib.hid (fun w' hb =>
    ⟨(HV.out.keep (((Below.refl _ w).alloc (Nat.le_refl _) (.cells #[.slice a xs.length cap] 37)).alloc (by simp) (.cells #[.slice none 0 0] 31))).keep hb, bcell hb (by simp)⟩)
  go_wp2_with fail
  refine (c_fromTable_grp n _ (grpT xs) _ hpos (by omega) (fun i j _ _ => by rw [HN.out]; exact grpT_lt HO.out (by rw [← HN.out]; exact h16) i j)
    (fun w' hb i j hi hj => c_grp1 xs _ i j _ w' (HVB.out w' hb).2 (HVB.out w' hb).1 HO.out (by rw [← HN.out]; exact h16) (by omega) (by omega))).mono ?_
  rintro e w2 ⟨v2, rfl, ho2, hb2⟩
  obtain ⟨p, m, cc, rfl⟩ := ho2.slice
  have hlt : w.heap.size + 1 < w2.heap.size := by have := hb2.size; simp at this; omega
  have hc0 : w2.cell? ⟨w.heap.size + 1, 0, none⟩ = some (.slice none 0 0) := bcell hb2 (by simp)
  have hf0 : w2.frozen? ⟨w.heap.size + 1, 0, none⟩ = false := bfrozen hb2 (v := .slice none 0 0) (by simp) (by simp)
  have HO2 : Hid (OwnCB (w2.setCell ⟨w.heap.size + 1, 0, none⟩ (.slice p m cc)) (w.heap.size + 1 + 1) w2.heap.size (.slice p m cc) (cub n (tabE n (grpT xs)))) := Lib.hid ((ho2.mono (by simp) (Nat.le_refl _)).same fun x h1 h2 => Below.heap_setCell w2 ⟨w.heap.size + 1, 0, none⟩ _ _ (fun e => by have e' : x = w.heap.size + 1 := e; omega))
  have HB : Hid (Below w.heap.size w (w2.setCell ⟨w.heap.size + 1, 0, none⟩ (.slice p m cc))) := Lib.hid (below_set (below_after (below_after hb2)) (Nat.le_succ _))
  clear ho2 hb2
  go_wp2_with fail
  (try simp only [Exit.inBlock, Exit.then])
  refine bodyPost_ret (v := .agg #[.slice p m cc]) (by rw [results_cell1 rfl]; go_simp) rfl ?_
  exact ⟨_, rfl, HO2.out.mono (by omega) (by simp), HB.out⟩
set_option maxRecDepth 100000 in
set_option maxHeartbeats 2000000 in
theorem c_l06Group (v : Value) (xs : List Int) (more : Nat) (w : World) (hv : Ints w v xs) (ho : ordN xs ≠ 0) (h16 : ordN xs ≤ 16) (hm : more ≤ 100) :
    Calls Try.prog 63 #[v, .int .i64 more] w (RetC (cub (ordN xs + more) (tabE (ordN xs) (grpT xs))) w) := by
  have HV := Lib.hid hv
  have HO := Lib.hid ho
  have HT := Lib.hid (fun i j => grpT_lt ho h16 i j)
  have H16 := Lib.hid h16
  obtain ⟨n, hn⟩ : ∃ n, n = ordN xs := ⟨_, rfl⟩
  have HN := Lib.hid hn
  rw [← hn] at h16 ⊢
  have hpos : 0 < n := by omega
  clear hn ho hv
  obtain ⟨N, hNN⟩ : ∃ N, N = n + more := ⟨_, rfl⟩
  have HNN := Lib.hid hNN
  have HNE : Hid ((n : Int) + (more : Int) = (N : Int)) := Lib.hid (by omega)
  have hNb : N ≤ 116 := by omega
  have hNn : n ≤ N := by omega
  rw [← hNN]
  clear hNN
  go_enter Try.func63, Try.ntmps63
  go_wp2_with fail
  refine (c_l06Size _ xs _ HV.out HO.out).mono ?_
  rw [← HN.out]
  rintro e w0 ⟨rfl, rfl⟩
  go_wp2_with fail
  rw [HNE.out]
  refine (c_l06Empty N _ (by omega)).mono ?_
  rintro e w1 ⟨v1, rfl, ho1, hb1⟩
  obtain ⟨g, cap, rfl, hg1, hg2⟩ := ho1.shape' (by rw [cub_length]; omega)
  rw [cub_length] at ho1 ⊢
  have HIN : Hid (InOne w w1.heap.size (.slice (some ⟨g, 0, none⟩) N cap) (cub N (tabG n (grpT xs) 0 0)) w1) := Lib.hid ⟨Nat.le_refl _, by rw [tb_start]; exact ho1, hb1⟩
  clear ho1 hb1
  go_wp2_with fail
  go_loopw [7] (fun i wr => ∃ k : Nat, k ≤ n ∧ i = .int .i64 k ∧ Hid (InOne w w1.heap.size (.slice (some ⟨g, 0, none⟩) N cap) (cub N (tabG n (grpT xs) k 0)) wr)) (fun i _ => n - (intOf i).toNat)
  case atStart => exact ⟨0, Nat.zero_le _, rfl, HIN⟩
  case round =>
    obtain ⟨i, hi, rfl, hin⟩ := hrel
    by_cases hlt : i < n
    · go_wp2_with fail
      go_loopw [8] (fun j wr => ∃ k : Nat, k ≤ n ∧ j = .int .i64 k ∧ Hid (InOne w w1.heap.size (.slice (some ⟨g, 0, none⟩) N cap) (cub N (tabG n (grpT xs) i k)) wr)) (fun j _ => n - (intOf j).toNat)
      case atStart => exact ⟨0, Nat.zero_le _, rfl, hin⟩
      case round =>
        clear hin
        obtain ⟨j, hj, rfl, hin⟩ := hrel
        by_cases hlt2 : j < n
        · obtain ⟨t, ht⟩ : ∃ t, t = grpT xs i j := ⟨_, rfl⟩
          have hq : t < N := by have := HT.out i j; rw [← HN.out, ← ht] at this; omega
          have HTT := Lib.hid ht
          clear ht
          have hiN : i < N := by omega
          have hjN : j < N := by omega
          obtain ⟨g1, c1, g2, c2, e1, e2, e3, e4, e5, e6, e7, e8, _⟩ := hin.out.own.at hiN hjN hq
          have HVW := Lib.hid (HV.out.keep hin.out.drew.below)
          go_wp2_with fail
          go_region_law
            (go_simp; go_at_call 90; refine (c_l06Add _ xs i j _ HVW.out HO.out H16.out (by omega) (by omega)).mono ?_; rintro e w5 ⟨rfl, hb5⟩; rw [← HTT.out]; have hB5 : Below wr.heap.size wr w5 := below_drewed (Below.refl _ _) hb5; have k2 := bcell hB5 e1; have k3 := bcell hB5 e2; have k4 := bcell hB5 e3; have k5 := bfrozen hB5 e3 e4)
          all_goals
            have hnew : Hid (InOne w w1.heap.size (.slice (some ⟨g, 0, none⟩) N cap) (cub N (tabG n (grpT xs) i (j + 1))) (w5.setCell ⟨g2, t, none⟩ (vi 1))) := Lib.hid (by
              have h1 := hin.out.call hB5
              have h2 := h1.own.setAt (show i < N by omega) (show j < N by omega) hq k2 k3 1
              rw [HTT.out, tb_next N n (grpT xs) i j hlt2] at h2
              rw [HTT.out]
              exact h1.set e5 h2)
            clear hin k2 k3 k4 k5 hb5 hB5 e1 e2 e3 e4
            go_wp2_with fail
            go_roundw
            case rel => exact ⟨j + 1, by omega, by go_num, hnew⟩
            case measure => simp [intOf]; omega
        · obtain rfl : n = j := by omega
          go_wp2_with fail
          go_roundw
          case rel => exact ⟨i + 1, by omega, by go_num, Lib.hid (by rw [← tb_row]; exact hin.out)⟩
          case measure => simp [intOf]; omega
    · obtain rfl : n = i := by omega
      go_wp2_with fail
      go_ret
      refine ⟨_, rfl, ?_, hin.out.below⟩
      have h := hin.out.own
      rw [tb_end] at h
      exact h.mono (Nat.le_refl _) hin.out.size
noncomputable def grpN (xs : List Int) : List (List (List Int)) × Int := if codeN (ordN xs) 16 = 0 then (cub (ordN xs) (tabE (ordN xs) (grpT xs)), 0) else ([], codeN (ordN xs) 16)
theorem codeN_ok {n most : Nat} (h : codeN n most = 0) : n ≠ 0 ∧ n ≤ most := by
  unfold codeN at h
  split at h
  · cases h
  · split at h
    · cases h
    · omega
theorem codeN_bd (n most : Nat) : 0 ≤ codeN n most ∧ codeN n most ≤ 3 := by
  unfold codeN
  (repeat' split) <;> omega
theorem grpN_small (xs : List Int) : SmallC (grpN xs).1 := by
  unfold grpN
  split
  · rename_i h
    exact smallC_cub _ (by have := (codeN_ok h).2; omega)
  · exact smallC_nil
theorem c_GroupRing (v : Value) (xs : List Int) (w : World) (hv : Ints w v xs) : Calls Try.prog 31 #[v] w (RetR (grpN xs) w) := by
  have HV := Lib.hid hv
  obtain ⟨hcb1, hcb2⟩ := codeN_bd (ordN xs) 16
  have HCI : Hid (∀ w1, Ints w1 v xs → Calls Try.prog 64 #[v, .int .i64 16] w1 fun e w' => e = .returned (.int .i64 (codeN (ordN xs) 16)) ∧ w1 = w') := Lib.hid (fun w1 h1 => c_ordersCode v xs 16 w1 h1 (by omega))
  have HB0 := Lib.hid (hv.keep (below_alloc w (.cells #[.slice none 0 0] 31)))
  clear hv
  by_cases h : codeN (ordN xs) 16 = 0
  · have H : Hid (grpN xs = (cub (ordN xs) (tabE (ordN xs) (grpT xs)), 0)) := Lib.hid (if_pos h)
    have HO := Lib.hid (codeN_ok h)
    rw [h] at HCI
    clear h hcb1 hcb2
    go_enter Try.func31, Try.ntmps31
    go_wp2_with fail
    refine (HCI.out _ HB0.out).mono ?_
    rintro e w1 ⟨rfl, rfl⟩
    go_wp2_with fail
    refine (c_groupRing v xs _ HB0.out HO.out.1 HO.out.2).mono ?_
    rintro e w2 ⟨v2, rfl, ho2, hb2⟩
    obtain ⟨p, n, cc, rfl⟩ := ho2.slice
    have hlt : w.heap.size < w2.heap.size := by have := hb2.size; simp at this; omega
    have hc0 : w2.cell? ⟨w.heap.size, 0, none⟩ = some (.slice none 0 0) := bcell hb2 (by simp)
    have hf0 : w2.frozen? ⟨w.heap.size, 0, none⟩ = false := bfrozen hb2 (v := .slice none 0 0) (by simp) (by simp)
    have HO2 : Hid (OwnCB (w2.setCell ⟨w.heap.size, 0, none⟩ (.slice p n cc)) (w.heap.size + 1) w2.heap.size (.slice p n cc) (cub (ordN xs) (tabE (ordN xs) (grpT xs)))) := Lib.hid ((ho2.mono (by simp) (Nat.le_refl _)).same fun x h1 h2 => Below.heap_setCell w2 ⟨w.heap.size, 0, none⟩ _ _ (fun e => by have e' : x = w.heap.size := e; omega))
    have HB : Hid (Below w.heap.size w (w2.setCell ⟨w.heap.size, 0, none⟩ (.slice p n cc))) := Lib.hid (below_set (below_after hb2) (Nat.le_refl _))
    clear ho2 hb2
    go_wp2_with fail
    (try simp only [Exit.inBlock, Exit.then])
    refine bodyPost_ret (v := .tuple #[.agg #[.slice p n cc], .int .i64 0]) (by rw [results_cell_tmp rfl]; go_simp) rfl ?_
    exact ⟨_, by rw [H.out], by rw [H.out]; exact HO2.out.mono (by omega) (by simp), HB.out⟩
  · have H : Hid (grpN xs = ([], codeN (ordN xs) 16)) := Lib.hid (if_neg h)
    obtain ⟨C, hC⟩ : ∃ C, C = codeN (ordN xs) 16 := ⟨_, rfl⟩
    rw [← hC] at HCI H h hcb1 hcb2
    clear hC
    have hB : (C == 0) = false := by rw [beq_eq_false_iff_ne]; exact h
    have hB2 : (C != 0) = true := by rw [bne_iff_ne]; exact h
    clear h
    go_enter Try.func31, Try.ntmps31
    go_wp2_with fail
    refine (HCI.out _ HB0.out).mono ?_
    rintro e w1 ⟨rfl, rfl⟩
    go_wp2_with fail
    (try simp only [Exit.inBlock, Exit.then])
    refine bodyPost_ret (v := .tuple #[.agg #[.slice none 0 0], .int .i64 C]) (by rw [results_cell_tmp rfl]; go_simp) rfl ?_
    exact ⟨_, by rw [H.out], by rw [H.out]; exact OwnCB.nil _ _ _, below_alloc w _⟩
theorem c_SGroupRing (v : Value) (xs : List Int) (w : World) (hv : Ints w v xs) : Calls Try.prog 29 #[v] w (RetR (grpN xs) w) := by
  have HV := Lib.hid hv
  obtain ⟨hcb1, hcb2⟩ := codeN_bd (ordN xs) 16
  have HCI : Hid (∀ w1, Ints w1 v xs → Calls Try.prog 62 #[v, .int .i64 0] w1 fun e w' => e = .returned (.int .i64 (codeN (ordN xs) 16)) ∧ w1 = w') := Lib.hid (fun w1 h1 => c_l06Code v xs 0 w1 h1 (by omega))
  have HB0 := Lib.hid (hv.keep (below_alloc w (.cells #[.slice none 0 0] 31)))
  clear hv
  by_cases h : codeN (ordN xs) 16 = 0
  · have H : Hid (grpN xs = (cub (ordN xs) (tabE (ordN xs) (grpT xs)), 0)) := Lib.hid (if_pos h)
    have HO := Lib.hid (codeN_ok h)
    rw [h] at HCI
    clear h hcb1 hcb2
    go_enter Try.func29, Try.ntmps29
    go_wp2_with fail
    refine (HCI.out _ HB0.out).mono ?_
    rintro e w1 ⟨rfl, rfl⟩
    go_wp2_with fail
    refine (c_l06Group v xs 0 _ HB0.out HO.out.1 HO.out.2 (by omega)).mono ?_
    rintro e w2 ⟨v2, rfl, ho2, hb2⟩
    obtain ⟨p, n, cc, rfl⟩ := ho2.slice
    have hlt : w.heap.size < w2.heap.size := by have := hb2.size; simp at this; omega
    have hc0 : w2.cell? ⟨w.heap.size, 0, none⟩ = some (.slice none 0 0) := bcell hb2 (by simp)
    have hf0 : w2.frozen? ⟨w.heap.size, 0, none⟩ = false := bfrozen hb2 (v := .slice none 0 0) (by simp) (by simp)
    have HO2 : Hid (OwnCB (w2.setCell ⟨w.heap.size, 0, none⟩ (.slice p n cc)) (w.heap.size + 1) w2.heap.size (.slice p n cc) (cub (ordN xs) (tabE (ordN xs) (grpT xs)))) := Lib.hid ((ho2.mono (by simp) (Nat.le_refl _)).same fun x h1 h2 => Below.heap_setCell w2 ⟨w.heap.size, 0, none⟩ _ _ (fun e => by have e' : x = w.heap.size := e; omega))
    have HB : Hid (Below w.heap.size w (w2.setCell ⟨w.heap.size, 0, none⟩ (.slice p n cc))) := Lib.hid (below_set (below_after hb2) (Nat.le_refl _))
    clear ho2 hb2
    go_wp2_with fail
    (try simp only [Exit.inBlock, Exit.then])
    refine bodyPost_ret (v := .tuple #[.agg #[.slice p n cc], .int .i64 0]) (by rw [results_cell_tmp rfl]; go_simp) rfl ?_
    exact ⟨_, by rw [H.out], by rw [H.out]; exact HO2.out.mono (by omega) (by simp), HB.out⟩
  · have H : Hid (grpN xs = ([], codeN (ordN xs) 16)) := Lib.hid (if_neg h)
    obtain ⟨C, hC⟩ : ∃ C, C = codeN (ordN xs) 16 := ⟨_, rfl⟩
    rw [← hC] at HCI H h hcb1 hcb2
    clear hC
    have hB : (C == 0) = false := by rw [beq_eq_false_iff_ne]; exact h
    have hB2 : (C != 0) = true := by rw [bne_iff_ne]; exact h
    clear h
    go_enter Try.func29, Try.ntmps29
    go_wp2_with fail
    refine (HCI.out _ HB0.out).mono ?_
    rintro e w1 ⟨rfl, rfl⟩
    go_wp2_with fail
    (try simp only [Exit.inBlock, Exit.then])
    refine bodyPost_ret (v := .tuple #[.agg #[.slice none 0 0], .int .i64 C]) (by rw [results_cell_tmp rfl]; go_simp) rfl ?_
    exact ⟨_, by rw [H.out], by rw [H.out]; exact OwnCB.nil _ _ _, below_alloc w _⟩
end Go.Proofs.Ytnhdnogcglmjdaa
