/- Transitive actions: orders of a group, on both sides; subgroups. -/
import Derived.Test.YtckcjlophnehmaaTap
import Derived.Test.YtckcjlophnehmaaHas
namespace Go.Proofs.Ytckcjlophnehmaa
open Go.RowKit
/-- orders that an action takes -/
noncomputable def gOk (xs : List Int) : Bool := decide (xs.length ≤ 4) && (xs.all (inR 2 16) && inR 2 16 (ordN xs : Int))
theorem gOk_true {xs : List Int} (h : gOk xs = true) : xs.length ≤ 4 ∧ ordN xs ≠ 0 ∧ 2 ≤ ordN xs ∧ ordN xs ≤ 16 := by
  unfold gOk at h
  simp only [Bool.and_eq_true, decide_eq_true_eq] at h
  obtain ⟨h1, _, h3⟩ := h
  obtain ⟨h4, h5⟩ := inR_true h3
  exact ⟨h1, by omega, by omega, by omega⟩
theorem prodI_ge {m : Nat → Nat} : ∀ k, (∀ j, j < k → 2 ≤ m j) → 1 ≤ k → 2 ≤ prodI m k
  | 0, _, h => absurd h (by omega)
  | k + 1, h, _ => by
    have h1 := prodI_pos k (m := m) fun j hj => by have := h j (by omega); omega
    have h2 := h k (by omega)
    have h3 : 2 * 1 ≤ m k * prodI m k := Nat.mul_le_mul h2 h1
    exact h3
theorem prodI_le {m : Nat → Nat} : ∀ k, (∀ j, j < k → m j ≤ 16) → prodI m k ≤ 16 ^ k
  | 0, _ => Nat.le_refl _
  | k + 1, h => by
    have h1 := prodI_le k fun j hj => h j (by omega)
    have h2 := h k (by omega)
    have h3 : m k * prodI m k ≤ 16 * 16 ^ k := Nat.mul_le_mul h2 h1
    simp only [prodI]
    rw [Nat.pow_succ, Nat.mul_comm (16 ^ k)]
    exact h3
/-- the first k orders are between 2 and 16 -/
def inO (xs : List Int) (k : Nat) : Prop := ∀ j x, j < k → xs[j]? = some x → 2 ≤ x ∧ x ≤ 16
theorem inO_m {xs : List Int} {k : Nat} (h : inO xs k) (hk : k ≤ xs.length) : ∀ j, j < k → 2 ≤ ordM xs j ∧ ordM xs j ≤ 16 := fun j hj => by
  have e : xs[j]? = some xs[j] := List.getElem?_eq_getElem (by omega)
  have h1 := h j _ hj e
  have h2 := ordM_at e (by omega)
  omega
theorem inO_all {xs : List Int} (h : inO xs xs.length) : xs.all (inR 2 16) = true := by
  rw [List.all_eq_true]
  intro x hx
  obtain ⟨j, hj, e⟩ := List.mem_iff_getElem.1 hx
  have := h j x hj (by rw [List.getElem?_eq_getElem hj, e])
  exact inR_yes this.1 this.2
theorem gOk_bad {xs : List Int} {k : Nat} {x : Int} (hx : xs[k]? = some x) (h : inR 2 16 x = false) : gOk xs = false := by
  unfold gOk
  have : xs.all (inR 2 16) = false := by
    rw [List.all_eq_false]
    exact ⟨x, List.mem_of_getElem? hx, by rw [h]; simp⟩
  rw [this]; simp
theorem gOk_end {xs : List Int} (h : inO xs xs.length) (h1 : 1 ≤ xs.length) (h4 : xs.length ≤ 4) : gOk xs = decide (prodI (ordM xs) xs.length ≤ 16) := by
  have hm := inO_m h (Nat.le_refl _)
  have hok : okO xs xs.length := fun j x hj e => by have := h j x hj e; omega
  have e : ordN xs = capI (ordM xs) xs.length := by unfold ordN; exact if_pos ⟨by omega, hok⟩
  rw [capI_min _ (fun j hj => by have := hm j hj; omega)] at e
  have g := prodI_ge xs.length (fun j hj => (hm j hj).1) h1
  unfold gOk
  rw [inO_all h, decide_eq_true h4, Bool.true_and, Bool.true_and, e]
  generalize prodI (ordM xs) xs.length = P at *
  by_cases hp : P ≤ 16
  · rw [decide_eq_true hp]; exact inR_yes (by omega) (by omega)
  · rw [decide_eq_false hp]
    simp [inR]; omega
theorem gOk_len {xs : List Int} (h : ¬ (1 ≤ xs.length ∧ xs.length ≤ 4)) : gOk xs = false := by
  unfold gOk
  by_cases h4 : xs.length ≤ 4
  · have h0 : xs = [] := List.length_eq_zero_iff.1 (by omega)
    have e : ordN xs = 0 := by unfold ordN; rw [if_neg (by rw [h0]; simp)]
    rw [e]; simp [inR]
  · rw [decide_eq_false h4]; rfl
set_option maxHeartbeats 1000000 in
theorem c_l09Orders (v : Value) (xs : List Int) (w : World) (hv : Ints w v xs) :
    Calls Try.prog 32 #[v, .int .i64 16] w fun e w' => e = .returned (.bool (gOk xs)) ∧ w = w' := by
  obtain ⟨a, cap, rfl, hl, hc⟩ := hv
  have HC := Lib.hid hc
  clear hc
  by_cases hln : 1 ≤ xs.length ∧ xs.length ≤ 4
  · obtain ⟨hl1, hl4⟩ := hln
    have hl5 : (xs.length : Int) ≤ 4 := by omega
    have hl6 : ¬ (xs.length : Int) < 1 := by omega
    go_enter Try.func32, Try.ntmps32
    go_wp2_with fail
    go_loop [5, 6] (fun s i => ∃ k P : Nat, k ≤ xs.length ∧ i = .int .i64 k ∧ s = .int .i64 P ∧ Hid (P = prodI (ordM xs) k) ∧ Hid (inO xs k)) (fun _ i => xs.length - (intOf i).toNat)
    case atStart => exact ⟨0, 1, Nat.zero_le _, rfl, rfl, rfl, fun j x hj => absurd hj (Nat.not_lt_zero _)⟩
    case round =>
      obtain ⟨k, P, hk, rfl, rfl, HP, HI⟩ := hrel
      by_cases hlt : k < xs.length
      · obtain ⟨x, hx⟩ : ∃ x, xs[k]? = some x := ⟨xs[k], by simp [hlt]⟩
        obtain ⟨b, off, rfl, hcell⟩ := HC.out k x hx
        have HX := Lib.hid hx
        clear hx
        cases hr : inR 2 16 x
        · have HG := Lib.hid (gOk_bad HX.out hr)
          have HR := Lib.hid hr
          clear hr
          go_wp2_with fail
          refine (c_l01In _ _ _ _).mono ?_
          rintro e w1 ⟨rfl, rfl⟩
          rw [HR.out]
          go_wp2_with fail
          go_ret
          exact ⟨by rw [HG.out]; rfl, rfl⟩
        · obtain ⟨hr1, hr2⟩ := inR_true hr
          have HI2 : Hid (inO xs (k + 1)) := Lib.hid (fun j y hj hy => by
            by_cases e : j = k
            · subst e; rw [HX.out] at hy; cases hy; exact ⟨hr1, hr2⟩
            · exact HI.out j y (by omega) hy)
          have hmx := ordM_at HX.out (by omega)
          have hPb := prodI_le (m := ordM xs) k (fun j hj => (inO_m HI.out (by omega) j hj).2)
          rw [← HP.out] at hPb
          have hp3 : 16 ^ k ≤ 16 ^ 3 := Nat.pow_le_pow_right (by omega) (by omega)
          have hP4 : P ≤ 4096 := Nat.le_trans hPb hp3
          obtain ⟨M, hM⟩ : ∃ M, M = ordM xs k := ⟨_, rfl⟩
          rw [← hM] at hmx
          obtain ⟨R, hR⟩ : ∃ R, R = M * P := ⟨_, rfl⟩
          obtain rfl : (M : Int) = x := hmx
          have hRb : R ≤ 16 * 4096 := by rw [hR]; exact Nat.mul_le_mul (by omega) hP4
          have hPI : (P : Int) * (M : Int) = (R : Int) := by rw [hR, Nat.mul_comm]; exact (Int.natCast_mul _ _).symm
          have HRP : Hid (R = prodI (ordM xs) (k + 1)) := Lib.hid (by simp only [prodI]; rw [hR, hM, ← HP.out])
          have HR := Lib.hid hr
          clear hr hR hM hPb hp3
          go_wp2_with fail
          refine (c_l01In _ _ _ _).mono ?_
          rintro e w1 ⟨rfl, rfl⟩
          rw [HR.out]
          go_wp2_with fail
          go_round
          case rel => exact ⟨k + 1, R, by omega, by go_num, rfl, HRP, HI2⟩
          case measure => simp [intOf]; omega
      · obtain rfl : k = xs.length := by omega
        have HE := Lib.hid (gOk_end HI.out hl1 hl4)
        rw [← HP.out] at HE
        go_wp2_with fail
        go_ret
        exact ⟨by rw [HE.out]; exact congrArg (fun b => Ending.returned (.bool b)) (decide_eq_decide.2 (by omega)), rfl⟩
  · have HG := Lib.hid (gOk_len hln)
    by_cases h1 : xs.length < 1
    · have h2 : (xs.length : Int) < 1 := by omega
      clear hln
      go_enter Try.func32, Try.ntmps32
      go_wp2_with fail
      go_ret
      exact ⟨by rw [HG.out]; rfl, rfl⟩
    · have h2 : ¬ (xs.length : Int) < 1 := by omega
      have h3 : ¬ (xs.length : Int) ≤ 4 := by omega
      clear hln
      go_enter Try.func32, Try.ntmps32
      go_wp2_with fail
      go_ret
      exact ⟨by rw [HG.out]; rfl, rfl⟩
theorem c_l09Group (v : Value) (xs : List Int) (w : World) (hv : Ints w v xs) (hg : gOk xs = true) :
    Calls Try.prog 33 #[v] w fun e w' => e = .returned (.int .i64 (ordN xs)) ∧ w = w' := by
  obtain ⟨a, cap, rfl, hl, hc⟩ := hv
  have HC := Lib.hid hc
  obtain ⟨_, hg1, hg2, hg3⟩ := gOk_true hg
  have HO := Lib.hid (ord_cells hg1)
  have HN := Lib.hid (ordN_prod hg1 hg3)
  obtain ⟨n, hn⟩ : ∃ n, n = ordN xs := ⟨_, rfl⟩
  rw [← hn] at HN hg3
  rw [← hn]
  clear hc hg hg1 hg2 hn
  go_enter Try.func33, Try.ntmps33
  go_wp2_with fail
  go_loop [3, 4] (fun s i => ∃ k P : Nat, k ≤ xs.length ∧ i = .int .i64 k ∧ s = .int .i64 P ∧ Hid (P = prodI (ordM xs) k)) (fun _ i => xs.length - (intOf i).toNat)
  case atStart => exact ⟨0, 1, Nat.zero_le _, rfl, rfl, rfl⟩
  case round =>
    obtain ⟨k, P, hk, rfl, rfl, H⟩ := hrel
    by_cases hlt : k < xs.length
    · obtain ⟨hx, hm1⟩ := HO.out k hlt
      obtain ⟨b, off, rfl, hcell⟩ := HC.out k _ hx
      have hmono := prodI_mono (m := ordM xs) (k := k + 1) xs.length (by omega) (fun j hj => (HO.out j hj).2)
      rw [HN.out] at hmono
      simp only [prodI] at hmono
      rw [← H.out] at hmono
      obtain ⟨M, hM⟩ : ∃ M, M = ordM xs k := ⟨_, rfl⟩
      rw [← hM] at hm1 hcell hmono
      obtain ⟨R, hR⟩ : ∃ R, R = M * P := ⟨_, rfl⟩
      rw [← hR] at hmono
      have hPI : (P : Int) * (M : Int) = (R : Int) := by rw [hR, Nat.mul_comm]; exact (Int.natCast_mul _ _).symm
      have HRP : Hid (R = prodI (ordM xs) (k + 1)) := Lib.hid (by simp only [prodI]; rw [hR, hM, ← H.out])
      clear hR hM hx H
      go_wp2_with fail
      go_round
      case rel => exact ⟨k + 1, R, by omega, by go_num, rfl, HRP⟩
      case measure => simp [intOf]; omega
    · obtain rfl : k = xs.length := by omega
      go_wp2_with fail
      go_ret
      exact ⟨ret_int (by rw [H.out, HN.out]), rfl⟩
set_option maxRecDepth 100000 in
set_option maxHeartbeats 2000000 in
theorem c_l09Add (v : Value) (xs : List Int) (x y : Nat) (w : World) (hv : Ints w v xs) (ho : ordN xs ≠ 0) (h16 : ordN xs ≤ 16) (hx : x ≤ 1000) (hy : y ≤ 1000) :
    Calls Try.prog 35 #[v, .int .i64 x, .int .i64 y] w fun e w' => e = .returned (.int .i64 (grpT xs x y)) ∧ Below w.heap.size w w' := by
  obtain ⟨a, cap, rfl, hl, hc⟩ := hv
  have HC := Lib.hid hc
  have HO := Lib.hid (ord_cells ho)
  have hA0 : AddAt (ordM xs) xs.length (grpT xs x y) (ordN xs) 0 1 x y := ⟨by rw [Nat.zero_add, Nat.one_mul]; rfl, by rw [Nat.one_mul]; exact ordN_prod ho h16, Nat.le_refl _, hx, hy⟩
  have hT := grpT_lt ho h16 x y
  obtain ⟨n, hn⟩ : ∃ n, n = ordN xs := ⟨_, rfl⟩
  obtain ⟨T, hTT⟩ : ∃ T, T = grpT xs x y := ⟨_, rfl⟩
  rw [← hn, ← hTT] at hA0
  rw [← hn, ← hTT] at hT
  rw [← hn] at h16
  rw [← hTT]
  have HA := Lib.hid hA0
  clear hc hn hTT ho hA0
  go_enter Try.func35, Try.ntmps35
  go_wp2_with fail
  go_loopw [1, 2, 7, 8, 9] (fun xv yv sv pv iv wr => ∃ k s p a b : Nat, k ≤ xs.length ∧ iv = .int .i64 ((k : Int) - 1) ∧ sv = .int .i64 s ∧ pv = .int .i64 p ∧ xv = .int .i64 a ∧ yv = .int .i64 b ∧ Hid (AddAt (ordM xs) k T n s p a b) ∧ Drew w wr) (fun _ _ _ _ iv _ => (intOf iv + 1).toNat)
  case atStart => exact ⟨xs.length, 0, 1, x, y, Nat.le_refl _, rfl, rfl, rfl, rfl, rfl, HA, Drew.refl _⟩
  case round =>
    obtain ⟨k, s, p, a, b, hk, rfl, rfl, rfl, rfl, rfl, hat, hd⟩ := hrel
    cases k with
    | zero =>
      have hs : s = T := by have h := hat.out.sum; simpa [addI] using h
      subst hs
      rw [show ((0 : Nat) : Int) - 1 = -1 from rfl]
      go_wp2_with fail
      go_ret
      exact ⟨rfl, hd.below _⟩
    | succ k =>
      rw [show (((k + 1 : Nat) : Int) - 1) = (k : Int) by omega]
      obtain ⟨hx, hm1⟩ := HO.out k (by omega)
      obtain ⟨bb, off, rfl, hcell⟩ := HC.out k _ hx
      have hcell' := hd.cell hcell
      have hnx := hat.out.next fun j hj => (HO.out j (by omega)).2
      obtain ⟨d1, d2, d3, d4⟩ := hat.out.bd fun j hj => (HO.out j (by omega)).2
      obtain ⟨M, hM⟩ : ∃ M, M = ordM xs k := ⟨_, rfl⟩
      rw [← hM] at hm1 hcell' hnx d1 d2 d3
      have hha := hat.out.ha
      have hhb := hat.out.hb
      have hsb : s ≤ 16 := by omega
      have l1 : a % M ≤ a := Nat.mod_le _ _
      have l2 : b % M ≤ b := Nat.mod_le _ _
      have l3 : a / M ≤ a := Nat.div_le_self _ _
      have l4 : b / M ≤ b := Nat.div_le_self _ _
      have l5 := Nat.mod_lt (a % M + b % M) hm1
      have f1 : (a : Int).tmod (M : Int) = ((a % M : Nat) : Int) := rfl
      have f2 : (b : Int).tmod (M : Int) = ((b % M : Nat) : Int) := rfl
      have f3 : (a : Int).tdiv (M : Int) = ((a / M : Nat) : Int) := rfl
      have f4 : (b : Int).tdiv (M : Int) = ((b / M : Nat) : Int) := rfl
      have f5 : (((a % M : Nat) : Int) + ((b % M : Nat) : Int)).tmod (M : Int) = (((a % M + b % M) % M : Nat) : Int) := rfl
      have f6 : (((a % M + b % M) % M : Nat) : Int) * (p : Int) = (((a % M + b % M) % M * p : Nat) : Int) := (Int.natCast_mul _ _).symm
      have f7 : (p : Int) * (M : Int) = ((p * M : Nat) : Int) := (Int.natCast_mul _ _).symm
      clear hM hcell hx d4
      generalize (a % M + b % M) % M * p = D at *
      generalize (a % M + b % M) % M = E at *
      generalize a % M = A at *
      generalize b % M = B at *
      generalize a / M = A2 at *
      generalize b / M = B2 at *
      generalize p * M = P2 at *
      have HNX := Lib.hid hnx
      clear hnx hat
      go_wp2_with fail
      go_region
      go_wp2_with fail
      exact ⟨⟨k, s + D, P2, A2, B2, by omega, rfl, by go_num, rfl, rfl, rfl, HNX, hd.more 1⟩, by simp [intOf]⟩
theorem c_isGroup (v : Value) (xs : List Int) (w : World) (hv : Ints w v xs) :
    Calls Try.prog 36 #[v] w fun e w' => e = .returned (.bool (gOk xs)) ∧ Below w.heap.size w w' := by
  have HV := Lib.hid hv
  obtain ⟨a, cap, rfl, hl, hc⟩ := hv
  clear hc
  have hg : gOk xs = (decide (xs.length ≤ 4) && (xs.all (inR 2 16) && inR 2 16 (ordN xs : Int))) := rfl
  by_cases h4 : xs.length ≤ 4
  · have h5 : (xs.length : Int) ≤ 4 := by omega
    rw [decide_eq_true h4, Bool.true_and] at hg
    cases ha : xs.all (inR 2 16)
    · rw [ha, Bool.false_and] at hg
      have HG := Lib.hid hg
      have HA := Lib.hid ha
      clear hg ha
      go_enter Try.func36, Try.ntmps36
      go_wp2_with fail
      refine (c_allWithin _ xs 2 16 _ HV.out).mono ?_
      rintro e w1 ⟨rfl, hb⟩
      rw [HA.out]
      have HB := Lib.hid hb
      clear hb
      go_wp2_with fail
      go_ret
      exact ⟨by rw [HG.out]; rfl, HB.out⟩
    · rw [ha, Bool.true_and] at hg
      have HG := Lib.hid hg
      have HA := Lib.hid ha
      clear hg ha
      go_enter Try.func36, Try.ntmps36
      go_wp2_with fail
      refine (c_allWithin _ xs 2 16 _ HV.out).mono ?_
      rintro e w1 ⟨rfl, hb⟩
      rw [HA.out]
      have HB := Lib.hid hb
      clear hb
      go_wp2_with fail
      refine (c_groupSize _ xs _ (HV.out.keep HB.out)).mono ?_
      rintro e w2 ⟨rfl, rfl⟩
      go_wp2_with fail
      refine (c_within _ _ _ _).mono ?_
      rintro e w2 ⟨rfl, rfl⟩
      rw [← HG.out]
      go_wp2_with fail
      go_ret
      exact ⟨rfl, HB.out⟩
  · have h5 : ¬ (xs.length : Int) ≤ 4 := by omega
    rw [decide_eq_false h4, Bool.false_and] at hg
    have HG := Lib.hid hg
    clear hg
    go_enter Try.func36, Try.ntmps36
    go_wp2_with fail
    go_ret
    exact ⟨by rw [HG.out]; rfl, Below.refl _ _⟩
end Go.Proofs.Ytckcjlophnehmaa
