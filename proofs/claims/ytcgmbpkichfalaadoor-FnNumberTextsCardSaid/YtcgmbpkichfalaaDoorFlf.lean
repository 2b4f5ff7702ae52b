/- Walks of the prime field's functions, fifth part: short fractions, greatest common divisors, logarithms, orders. -/
import Derived.Test.YtcgmbpkichfalaaDoorFle
namespace Go.Proofs.YtcgmbpkichfalaaDoor
open Go.RowKit

theorem gcd_step (a b : Int) : Int.gcd b (a.tmod b) = Int.gcd a b := by
  have h := Int.mul_tdiv_add_tmod a b
  rw [Int.gcd_comm a b]
  conv => rhs; rw [← h]
  rw [Int.add_comm, Int.gcd_add_mul_left_right]
theorem tmod_natAbs (a b : Int) (hb : b ≠ 0) : (a.tmod b).natAbs < b.natAbs := by
  have h := Int.natAbs_tmod a b
  rw [h]; exact Nat.mod_lt _ (by omega)
theorem tmod_le (a b : Int) (hb : b ≠ 0) : -b.natAbs < a.tmod b ∧ a.tmod b < b.natAbs := by
  have := tmod_natAbs a b hb
  omega
theorem c_gcd (a0 b0 : Int) (w : World) (ha : -1000000000000 ≤ a0) (ha' : a0 ≤ 1000000000000) (hb : -1000000000000 ≤ b0) (hb' : b0 ≤ 1000000000000) :
    Calls Tryd.prog 41 #[.int .i64 a0, .int .i64 b0] w fun e w' => e = .returned (.int .i64 (Int.gcd a0 b0 : Nat)) ∧ Below w.heap.size w w' := by
  go_enter Tryd.func41, Tryd.ntmps41
  go_wp2_with fail
  go_loopw [0, 1] (fun x y wr => ∃ a b : Int, -1000000000000 ≤ a ∧ a ≤ 1000000000000 ∧ -1000000000000 ≤ b ∧ b ≤ 1000000000000 ∧ x = .int .i64 a ∧ y = .int .i64 b ∧ Int.gcd a b = Int.gcd a0 b0 ∧ Below w.heap.size w wr) (fun _ y _ => (intOf y).natAbs)
  case atStart => exact ⟨a0, b0, ha, ha', hb, hb', rfl, rfl, rfl, Below.refl _ _⟩
  case round =>
    obtain ⟨a, b, h1, h2, h3, h4, rfl, rfl, hg, hbel⟩ := hrel
    have HG := Lib.hid hg
    clear hg
    by_cases h0 : b = 0
    · subst h0
      go_wp2_with fail
      all_goals
        go_ret
        exact ⟨ret_int (by have := HG.out; rw [Int.gcd_zero_right] at this; omega), hbel⟩
    · have h0B : (b != 0) = true := by rw [bne_iff_ne]; exact h0
      have ht := tmod_natAbs a b h0
      have hb3 := tmod_le a b h0
      obtain ⟨hb31, hb32⟩ := hb3
      have HS := Lib.hid (gcd_step a b)
      go_wp2_with fail
      go_quiet (fail)
      go_wp2_with fail
      go_roundw
      case rel => exact ⟨b, a.tmod b, h3, h4, by omega, by omega, rfl, rfl, HS.out.trans HG.out, hbel.trans (below_toDrewN _ _ _)⟩
      case measure => exact ht

theorem okQ_eq (a : Int) (i : Nat) : Fus.okQ a i = (inR (-166) 166 (Fus.cres a (i + 1)) && decide (Int.gcd (Fus.cres a (i + 1)) (i + 1) = 1)) := by
  unfold Fus.okQ Fus.okS inR; rfl
theorem okS_eq (a : Int) (i : Nat) : Fus.okS a i = inR (-166) 166 (Fus.cres a (i + 1)) := by unfold Fus.okS inR; rfl
theorem cres_hi {a q : Int} (h : 27720 < a * q % 55441) : Fus.cres a q = a * q % 55441 - 55441 := by unfold Fus.cres; rw [if_pos h]
theorem cres_lo {a q : Int} (h : ¬ 27720 < a * q % 55441) : Fus.cres a q = a * q % 55441 := by unfold Fus.cres; rw [if_neg h]
theorem short_found {a q : Int} (h1 : 1 ≤ q) (h2 : q ≤ 166) (hj : ∀ j : Nat, (j : Int) + 1 < q → Fus.okQ a j = false) (h : Fus.okQ a (q - 1).toNat = true) : Fus.shortF a = (Fus.cres a q, q) := by
  rw [Fus.shortF_Q, Fus.least_some (k := (q - 1).toNat) (by omega) h (fun j hj' => hj j (by omega))]
  unfold Fus.shortOf
  simp only [show (((q - 1).toNat : Nat) : Int) + 1 = q from by omega]
theorem short_none {a : Int} (hj : ∀ j : Nat, (j : Int) + 1 < 167 → Fus.okQ a j = false) : Fus.shortF a = (0, 0) := by
  rw [Fus.shortF_Q, Fus.least_none (fun j hj' => hj j (by omega))]; rfl
theorem short_foundS {a q : Int} (h1 : 1 ≤ q) (h2 : q ≤ 166) (hj : ∀ j : Nat, (j : Int) + 1 < q → Fus.okS a j = false) (h : Fus.okS a (q - 1).toNat = true) : Fus.shortF a = (Fus.cres a q, q) := by
  unfold Fus.shortF
  rw [Fus.least_some (k := (q - 1).toNat) (by omega) h (fun j hj' => hj j (by omega))]
  unfold Fus.shortOf
  simp only [show (((q - 1).toNat : Nat) : Int) + 1 = q from by omega]
theorem short_noneS {a : Int} (hj : ∀ j : Nat, (j : Int) + 1 < 167 → Fus.okS a j = false) : Fus.shortF a = (0, 0) := by
  unfold Fus.shortF; rw [Fus.least_none (fun j hj' => hj j (by omega))]; rfl
theorem prod_bd2 {x y : Int} (h1 : 0 ≤ x) (h2 : x < 55441) (h3 : 0 ≤ y) (h4 : y ≤ 167) : 0 ≤ x * y ∧ x * y ≤ 9258480 :=
  ⟨Int.mul_nonneg h1 h3, Int.le_trans (Int.mul_le_mul (show x ≤ 55440 by omega) h4 h3 (by omega)) (by omega)⟩
theorem pred_cast {q : Int} (h : 1 ≤ q) : (((q - 1).toNat : Nat) : Int) + 1 = q := by omega

set_option maxHeartbeats 1000000 in
theorem c_shortFraction (a : Int) (w : World) (ha1 : 0 ≤ a) (ha2 : a < 55441) :
    Calls Tryd.prog 27 #[.int .i64 a] w fun e w' => e = .returned (two (Fus.shortF a)) ∧ Below w.heap.size w w' := by
  go_enter Tryd.func27, Tryd.ntmps27
  go_wp2_with fail
  go_loopw [4] (fun i wr => ∃ q : Int, 1 ≤ q ∧ q ≤ 167 ∧ i = .int .i64 q ∧ Hid (∀ j : Nat, (j : Int) + 1 < q → Fus.okQ a j = false) ∧ Below w.heap.size w wr) (fun i _ => (167 - intOf i).toNat)
  case atStart => exact ⟨1, by omega, by omega, rfl, fun j hj => by omega, Below.refl _ _⟩
  case round =>
    obtain ⟨q, hq1, hq2, rfl, H, hbel⟩ := hrel
    by_cases hlt : q < 167
    · have hpr := prod_bd2 ha1 ha2 (show 0 ≤ q by omega) hq2
      obtain ⟨hpr1, hpr2⟩ := hpr
      have hcb := Fus.cres_bd a q
      obtain ⟨hcb1, hcb2⟩ := hcb
      -- the test, for whatever p the two ways have made
      have HN : Hid (Fus.okQ a (q - 1).toNat = (inR (-166) 166 (Fus.cres a q) && decide (Int.gcd (Fus.cres a q) q = 1))) := Lib.hid (by rw [okQ_eq, pred_cast hq1])
      have HK : Hid (Fus.okQ a (q - 1).toNat = false → ∀ j : Nat, (j : Int) + 1 < q + 1 → Fus.okQ a j = false) := Lib.hid (fun h j hj => by
        by_cases e : j = (q - 1).toNat
        · subst e; exact h
        · exact H.out j (by omega))
      by_cases hhi : 27720 < a * q % 55441
      · have hc := cres_hi hhi
        cases h1 : inR (-166) 166 (a * q % 55441 - 55441)
        · have HF := Lib.hid (HK.out (by rw [HN.out, hc, h1]; rfl))
          clear hc
          go_wp2_with (go_at_call 38; refine (c_within _ _ _ _).mono ?_; rintro e w' ⟨rfl, rfl⟩)
          go_roundw
          case rel => exact ⟨q + 1, by omega, by omega, rfl, HF.out, hbel⟩
          case measure => simp [intOf]; omega
        · by_cases h2 : Int.gcd (a * q % 55441 - 55441) q = 1
          · have h2B : (((Int.gcd (a * q % 55441 - 55441) q : Nat) : Int) == 1) = true := by simp [h2]
            have HF := Lib.hid (short_found hq1 (by omega) H.out (by rw [HN.out, hc, h1, h2]; rfl))
            have HC := Lib.hid hc
            clear hc h2
            go_wp2_with (first | (go_at_call 38; refine (c_within _ _ _ _).mono ?_; rintro e w' ⟨rfl, rfl⟩) | (go_at_call 41; refine (c_gcd _ _ _ (by omega) (by omega) (by omega) (by omega)).mono ?_; rintro e w' ⟨rfl, hb⟩))
            go_ret2
            exact ⟨ret_two (by rw [HF.out, HC.out]), hbel.trans (hb.mono hbel.size)⟩
          · have h2B : (((Int.gcd (a * q % 55441 - 55441) q : Nat) : Int) == 1) = false := by simp only [beq_eq_false_iff_ne]; omega
            have HF := Lib.hid (HK.out (by rw [HN.out, hc, h1]; simp [h2]))
            clear hc h2
            go_wp2_with (first | (go_at_call 38; refine (c_within _ _ _ _).mono ?_; rintro e w' ⟨rfl, rfl⟩) | (go_at_call 41; refine (c_gcd _ _ _ (by omega) (by omega) (by omega) (by omega)).mono ?_; rintro e w' ⟨rfl, hb⟩))
            go_roundw
            case rel => exact ⟨q + 1, by omega, by omega, rfl, HF.out, hbel.trans (hb.mono hbel.size)⟩
            case measure => simp [intOf]; omega
      · have hc := cres_lo hhi
        cases h1 : inR (-166) 166 (a * q % 55441)
        · have HF := Lib.hid (HK.out (by rw [HN.out, hc, h1]; rfl))
          clear hc
          go_wp2_with (go_at_call 38; refine (c_within _ _ _ _).mono ?_; rintro e w' ⟨rfl, rfl⟩)
          go_roundw
          case rel => exact ⟨q + 1, by omega, by omega, rfl, HF.out, hbel⟩
          case measure => simp [intOf]; omega
        · by_cases h2 : Int.gcd (a * q % 55441) q = 1
          · have h2B : (((Int.gcd (a * q % 55441) q : Nat) : Int) == 1) = true := by simp [h2]
            have HF := Lib.hid (short_found hq1 (by omega) H.out (by rw [HN.out, hc, h1, h2]; rfl))
            have HC := Lib.hid hc
            clear hc h2
            go_wp2_with (first | (go_at_call 38; refine (c_within _ _ _ _).mono ?_; rintro e w' ⟨rfl, rfl⟩) | (go_at_call 41; refine (c_gcd _ _ _ (by omega) (by omega) (by omega) (by omega)).mono ?_; rintro e w' ⟨rfl, hb⟩))
            go_ret2
            exact ⟨ret_two (by rw [HF.out, HC.out]), hbel.trans (hb.mono hbel.size)⟩
          · have h2B : (((Int.gcd (a * q % 55441) q : Nat) : Int) == 1) = false := by simp only [beq_eq_false_iff_ne]; omega
            have HF := Lib.hid (HK.out (by rw [HN.out, hc, h1]; simp [h2]))
            clear hc h2
            go_wp2_with (first | (go_at_call 38; refine (c_within _ _ _ _).mono ?_; rintro e w' ⟨rfl, rfl⟩) | (go_at_call 41; refine (c_gcd _ _ _ (by omega) (by omega) (by omega) (by omega)).mono ?_; rintro e w' ⟨rfl, hb⟩))
            go_roundw
            case rel => exact ⟨q + 1, by omega, by omega, rfl, HF.out, hbel.trans (hb.mono hbel.size)⟩
            case measure => simp [intOf]; omega
    · obtain rfl : q = 167 := by omega
      go_wp2_with fail
      go_ret2
      exact ⟨ret_two (short_none H.out), hbel⟩
theorem c_l01Short (a : Int) (w : World) (ha1 : 0 ≤ a) (ha2 : a < 55441) :
    Calls Tryd.prog 28 #[.int .i64 a] w fun e w' => e = .returned (two (Fus.shortF a)) ∧ w = w' := by
  go_enter Tryd.func28, Tryd.ntmps28
  go_wp2_with fail
  go_loop [4] (fun i => ∃ q : Int, 1 ≤ q ∧ q ≤ 167 ∧ i = .int .i64 q ∧ Hid (∀ j : Nat, (j : Int) + 1 < q → Fus.okS a j = false)) (fun i => (167 - intOf i).toNat)
  case atStart => exact ⟨1, by omega, by omega, rfl, fun j hj => by omega⟩
  case round =>
    obtain ⟨q, hq1, hq2, rfl, H⟩ := hrel
    by_cases hlt : q < 167
    · have hpr := prod_bd2 ha1 ha2 (show 0 ≤ q by omega) hq2
      obtain ⟨hpr1, hpr2⟩ := hpr
      have HN : Hid (Fus.okS a (q - 1).toNat = inR (-166) 166 (Fus.cres a q)) := Lib.hid (by rw [okS_eq, pred_cast hq1])
      have HK : Hid (Fus.okS a (q - 1).toNat = false → ∀ j : Nat, (j : Int) + 1 < q + 1 → Fus.okS a j = false) := Lib.hid (fun h j hj => by
        by_cases e : j = (q - 1).toNat
        · subst e; exact h
        · exact H.out j (by omega))
      have HU : Hid (∀ p : Int, -27720 ≤ p → p ≤ 27720 → p % 55441 = a * q % 55441 → Fus.cres a q = p) := Lib.hid (Fus.cres_uniq a q)
      by_cases hhi : 166 < a * q % 55441
      · by_cases hge : -166 ≤ a * q % 55441 - 55441
        · have HC : Hid (Fus.cres a q = a * q % 55441 - 55441) := Lib.hid (HU.out _ (by omega) (by omega) (by omega))
          have HF := Lib.hid (short_foundS hq1 (by omega) H.out (by rw [HN.out, HC.out]; exact inR_yes hge (by omega)))
          go_wp2_with fail
          go_ret2
          exact ⟨ret_two (by rw [HF.out, HC.out]), rfl⟩
        · have HF := Lib.hid (HK.out (by
            rw [HN.out]
            by_cases hm : 27720 < a * q % 55441
            · rw [cres_hi hm]; exact inR_no (by omega)
            · rw [cres_lo hm]; exact inR_no (by omega)))
          go_wp2_with fail
          go_round
          case rel => exact ⟨q + 1, by omega, by omega, rfl, HF.out⟩
          case measure => simp [intOf]; omega
      · have HC : Hid (Fus.cres a q = a * q % 55441) := Lib.hid (HU.out _ (by omega) (by omega) (by omega))
        have HF := Lib.hid (short_foundS hq1 (by omega) H.out (by rw [HN.out, HC.out]; exact inR_yes (by omega) (by omega)))
        have hge : -166 ≤ a * q % 55441 := by omega
        go_wp2_with fail
        go_ret2
        exact ⟨ret_two (by rw [HF.out, HC.out]), rfl⟩
    · obtain rfl : q = 167 := by omega
      go_wp2_with fail
      go_ret2
      exact ⟨ret_two (short_noneS H.out), rfl⟩

/-- the short fraction with its code -/
def shortN (a : Int) : Int × Int × Int :=
  if isNum a = true then (if (Fus.shortF a).2 = 0 then (0, 0, 4) else ((Fus.shortF a).1, (Fus.shortF a).2, 0)) else (0, 0, 2)
def three (r : Int × Int × Int) : Value := .tuple #[.int .i64 r.1, .int .i64 r.2.1, .int .i64 r.2.2]
theorem ret_three {a b c : Int} {r : Int × Int × Int} (h : r = (a, b, c)) : Ending.returned (.tuple #[.int .i64 a, .int .i64 b, .int .i64 c]) = .returned (.tuple #[.int .i64 r.1, .int .i64 r.2.1, .int .i64 r.2.2]) := by rw [h]

theorem c_ShortFraction (a : Int) (w : World) :
    Calls Tryd.prog 12 #[.int .i64 a] w fun e w' => e = .returned (three (shortN a)) ∧ Below w.heap.size w w' := by
  cases ha : isNum a
  · have H : Hid (shortN a = (0, 0, 2)) := Lib.hid (by unfold shortN; rw [if_neg (by simp [ha])])
    go_enter Tryd.func12, Tryd.ntmps12
    go_wp2_with (go_at_call 23; refine (c_IsNumber _ _).mono ?_; rintro e w' ⟨rfl, rfl⟩)
    go_ret3
    exact ⟨ret_three H.out, Below.refl _ _⟩
  · have ha' := isNum_true ha
    obtain ⟨ha1, ha2⟩ := ha'
    by_cases hq : (Fus.shortF a).2 = 0
    · have H : Hid (shortN a = (0, 0, 4)) := Lib.hid (by unfold shortN; rw [if_pos ha, if_pos hq])
      have hqB : ((Fus.shortF a).2 == 0) = true := by simp [hq]
      clear hq
      go_enter Tryd.func12, Tryd.ntmps12
      go_wp2_with (first | (go_at_call 23; refine (c_IsNumber _ _).mono ?_; rintro e w' ⟨rfl, rfl⟩) | (go_at_call 27; refine (c_shortFraction _ _ ha1 ha2).mono ?_; rintro e w' ⟨rfl, hb⟩; unfold two))
      go_ret3
      exact ⟨ret_three H.out, hb⟩
    · have H : Hid (shortN a = ((Fus.shortF a).1, (Fus.shortF a).2, 0)) := Lib.hid (by unfold shortN; rw [if_pos ha, if_neg hq])
      have hqB : ((Fus.shortF a).2 == 0) = false := by simp [hq]
      clear hq
      go_enter Tryd.func12, Tryd.ntmps12
      go_wp2_with (first | (go_at_call 23; refine (c_IsNumber _ _).mono ?_; rintro e w' ⟨rfl, rfl⟩) | (go_at_call 27; refine (c_shortFraction _ _ ha1 ha2).mono ?_; rintro e w' ⟨rfl, hb⟩; unfold two))
      go_ret3
      exact ⟨ret_three H.out, hb⟩

theorem c_SShortFraction (a : Int) (w : World) :
    Calls Tryd.prog 13 #[.int .i64 a] w fun e w' => e = .returned (three (shortN a)) ∧ w = w' := by
  cases ha : isNum a
  · have H : Hid (shortN a = (0, 0, 2)) := Lib.hid (by unfold shortN; rw [if_neg (by simp [ha])])
    go_enter Tryd.func13, Tryd.ntmps13
    go_wp2_with (go_at_call 22; refine (c_l01Number _ _).mono ?_; rintro e w' ⟨rfl, rfl⟩)
    go_ret3
    exact ⟨ret_three H.out, rfl⟩
  · have ha' := isNum_true ha
    obtain ⟨ha1, ha2⟩ := ha'
    by_cases hq : (Fus.shortF a).2 = 0
    · have H : Hid (shortN a = (0, 0, 4)) := Lib.hid (by unfold shortN; rw [if_pos ha, if_pos hq])
      have hqB : ((Fus.shortF a).2 == 0) = true := by simp [hq]
      clear hq
      go_enter Tryd.func13, Tryd.ntmps13
      go_wp2_with (first | (go_at_call 22; refine (c_l01Number _ _).mono ?_; rintro e w' ⟨rfl, rfl⟩) | (go_at_call 28; refine (c_l01Short _ _ ha1 ha2).mono ?_; rintro e w' ⟨rfl, rfl⟩; unfold two))
      go_ret3
      exact ⟨ret_three H.out, rfl⟩
    · have H : Hid (shortN a = ((Fus.shortF a).1, (Fus.shortF a).2, 0)) := Lib.hid (by unfold shortN; rw [if_pos ha, if_neg hq])
      have hqB : ((Fus.shortF a).2 == 0) = false := by simp [hq]
      clear hq
      go_enter Tryd.func13, Tryd.ntmps13
      go_wp2_with (first | (go_at_call 22; refine (c_l01Number _ _).mono ?_; rintro e w' ⟨rfl, rfl⟩) | (go_at_call 28; refine (c_l01Short _ _ ha1 ha2).mono ?_; rintro e w' ⟨rfl, rfl⟩; unfold two))
      go_ret3
      exact ⟨ret_three H.out, rfl⟩
end Go.Proofs.YtcgmbpkichfalaaDoor
