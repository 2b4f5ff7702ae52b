/- Walks: how many metrics a group has. -/
import Derived.Test.YtoaphakhfedgeaaFlf
import Derived.Test.YtoaphakhfedgeaaMem
namespace Go.Proofs.Ytoaphakhfedgeaa
open Go.RowKit

theorem ret_boolM {a b : Bool} (h : a = b) : Ending.returned (.bool b) = .returned (.bool a) := by rw [h]
theorem getD_ofM {xs : List Int} {k : Nat} {x : Int} (h : xs[k]? = some x) : xs.getD k 0 = x := by simp [List.getD_eq_getElem?_getD, h]
/-- products of the first entries -/
def prK (xs : List Int) : Nat → Int
  | 0 => 1
  | k + 1 => prK xs k * xs.getD k 0
theorem prK_bd {xs : List Int} : ∀ k : Nat, (∀ j x, j < k → xs[j]? = some x → 2 ≤ x ∧ x ≤ 16) → k ≤ xs.length → k ≤ 4 → 1 ≤ prK xs k ∧ prK xs k ≤ 16 ^ k
  | 0, _, _, _ => by simp [prK]
  | k + 1, h, hl, h4 => by
    have ih := prK_bd k (fun j x hj => h j x (by omega)) (by omega) (by omega)
    obtain ⟨x, hx⟩ : ∃ x, xs[k]? = some x := ⟨xs[k]'(by omega), by simp⟩
    have hb := h k x (by omega) hx
    have e : prK xs (k + 1) = prK xs k * x := by show prK xs k * xs.getD k 0 = _; rw [getD_ofM hx]
    rw [e]
    constructor
    · have := Int.mul_le_mul ih.1 (show (1 : Int) ≤ x by omega) (by omega) (by omega)
      omega
    · have := Int.mul_le_mul ih.2 hb.2 (by omega) (Int.le_trans (by omega) ih.2)
      rw [Int.pow_succ]; exact this
theorem pow16 {k : Nat} (h : k ≤ 4) : (16 : Int) ^ k ≤ 65536 := by
  have : k = 0 ∨ k = 1 ∨ k = 2 ∨ k = 3 ∨ k = 4 := by omega
  rcases this with rfl | rfl | rfl | rfl | rfl <;> decide
/-- a list of orders of a group of at most 16 elements -/
def isGrp (xs : List Int) : Bool := decide (1 ≤ xs.length) && decide (xs.length ≤ 4) && xs.all (inR 2 16) && decide (prK xs xs.length ≤ 16)
def gsK (xs : List Int) (k : Nat) : Int := min 17 (prK xs k)
theorem min_if (a : Int) : Value.int .i64 (if a < 17 then a else 17) = .int .i64 (min 17 a) := by
  congr 1; split <;> omega
theorem gs_next {p x : Int} (hx1 : 1 ≤ x) (hx2 : x ≤ 16) : min 17 (min 17 p * x) = min 17 (p * x) := by
  by_cases h : p ≤ 17
  · rw [Int.min_eq_right h]
  · have e1 : min 17 p = 17 := Int.min_eq_left (by omega)
    have h1 : 17 ≤ 17 * x := by omega
    have h2 : p * 1 ≤ p * x := Int.mul_le_mul_of_nonneg_left hx1 (by omega)
    rw [e1, Int.min_eq_left h1, Int.min_eq_left (by omega)]
theorem all_at {lo hi : Int} {xs : List Int} (h : xs.all (inR lo hi) = true) {k : Nat} {x : Int} (hx : xs[k]? = some x) : lo ≤ x ∧ x ≤ hi := by
  have := List.all_eq_true.1 h x (List.mem_of_getElem? hx)
  simpa [inR] using this

theorem c_groupSize0 (v : Value) (xs : List Int) (w : World) (hv : Ints w v xs) (hp : xs.length = 0) :
    Calls Try.prog 73 #[v] w fun e w' => e = .returned (.int .i64 0) ∧ w = w' := by
  obtain ⟨a, cap, rfl, _, hc⟩ := hv
  rw [hp]
  clear hc
  go_enter Try.func73, Try.ntmps73
  go_wp2_with fail
  go_loopw [3, 8] (fun s i wr => s = .int .i64 1 ∧ i = .int .i64 0 ∧ w = wr) (fun _ i _ => 0)
  case atStart => exact ⟨rfl, rfl, rfl⟩
  case round =>
    obtain ⟨rfl, rfl, rfl⟩ := hrel
    go_wp2_with fail
    go_ret
    exact ⟨rfl, rfl⟩
set_option maxHeartbeats 1000000 in
theorem c_groupSize (v : Value) (xs : List Int) (w : World) (hv : Ints w v xs) (ha : xs.all (inR 2 16) = true) (hp : 0 < xs.length) (h4 : xs.length ≤ 4) :
    Calls Try.prog 73 #[v] w fun e w' => e = .returned (.int .i64 (gsK xs xs.length)) ∧ w = w' := by
  obtain ⟨a, cap, rfl, _, hc⟩ := hv
  have HC := Lib.hid hc
  have HA := Lib.hid ha
  clear hc ha
  go_enter Try.func73, Try.ntmps73
  go_wp2_with fail
  go_loopw [3, 8] (fun s i wr => ∃ (k : Nat), k ≤ xs.length ∧ i = .int .i64 k ∧ s = .int .i64 (gsK xs k) ∧ w = wr) (fun _ i _ => xs.length - (intOf i).toNat)
  case atStart => exact ⟨0, Nat.zero_le _, rfl, rfl, rfl⟩
  case round =>
    obtain ⟨k, hk, rfl, rfl, rfl⟩ := hrel
    by_cases hlt : k < xs.length
    · obtain ⟨x, hx⟩ : ∃ x, xs[k]? = some x := ⟨xs[k], by simp [hlt]⟩
      obtain ⟨b, off, rfl, hcell⟩ := HC.out k x hx
      have hb := all_at HA.out hx
      obtain ⟨hb1, hb2⟩ := hb
      have hpr := prK_bd k (fun j y _ hy => all_at HA.out hy) (by omega) (by omega)
      have hN := gs_next (p := prK xs k) (x := x) (by omega) hb2
      have hG := getD_ofM hx
      have e1 : gsK xs (k + 1) = min 17 (gsK xs k * x) := by
        unfold gsK; rw [hN]; show min 17 (prK xs k * xs.getD k 0) = _; rw [hG]
      have hm : min x 17 = x := Int.min_eq_left (by omega)
      have hg1 : 1 ≤ gsK xs k ∧ gsK xs k ≤ 17 := by unfold gsK; omega
      obtain ⟨z, hz⟩ : ∃ z, z = gsK xs k := ⟨_, rfl⟩
      rw [← hz] at hg1 e1 ⊢
      have hzx : 1 ≤ z * x ∧ z * x ≤ 272 := by
        constructor
        · have := Int.mul_le_mul hg1.1 (show (1 : Int) ≤ x by omega) (by omega) (by omega); omega
        · have := Int.mul_le_mul hg1.2 hb2 (by omega) (by omega); omega
      obtain ⟨hzx1, hzx2⟩ := hzx
      have hw1 : IntKind.i64.wrap (z * x) = z * x := IntWalk.i64_in _ (by omega)
      have E1 := Lib.hid e1
      clear hN hG e1 hpr hz hx
      go_wp2_with fail
      go_roundw
      case rel => exact ⟨k + 1, by omega, by go_num, (by rw [E1.out]; exact min_if _), trivial⟩
      case measure => simp [intOf]; omega
    · obtain rfl : k = xs.length := by omega
      have hne : ¬ xs.length = 0 := by omega
      go_wp2_with fail
      go_ret
      exact ⟨rfl, rfl⟩
theorem isGrp_eq (xs : List Int) : isGrp xs = (decide (1 ≤ xs.length) && decide (xs.length ≤ 4) && xs.all (inR 2 16) && decide (prK xs xs.length ≤ 16)) := rfl
theorem isGrp_size {xs : List Int} (hp : 0 < xs.length) (h4 : xs.length ≤ 4) (ha : xs.all (inR 2 16) = true) : inR 2 16 (gsK xs xs.length) = isGrp xs := by
  have hpr := prK_bd xs.length (fun j y _ hy => all_at ha hy) (by omega) (by omega)
  have h2 : 2 ≤ prK xs xs.length := by
    obtain ⟨n, hn⟩ : ∃ n, xs.length = n + 1 := ⟨xs.length - 1, by omega⟩
    have hq := prK_bd n (fun j y _ hy => all_at ha hy) (by omega) (by omega)
    obtain ⟨x, hx⟩ : ∃ x, xs[n]? = some x := ⟨xs[n]'(by omega), by simp⟩
    have hb := all_at ha hx
    rw [hn]
    show 2 ≤ prK xs n * xs.getD n 0
    rw [getD_ofM hx]
    have := Int.mul_le_mul hq.1 hb.1 (by omega) (by omega)
    omega
  rw [isGrp_eq, ha]
  unfold gsK
  by_cases h : prK xs xs.length ≤ 16
  · have e : min 17 (prK xs xs.length) = prK xs xs.length := Int.min_eq_right (by omega)
    rw [e]
    simp [inR, h, h2, h4]; omega
  · have e : min 17 (prK xs xs.length) = 17 := Int.min_eq_left (by omega)
    rw [e]
    simp [inR, h]
theorem c_isGroup (v : Value) (xs : List Int) (w : World) (hv : Ints w v xs) :
    Calls Try.prog 72 #[v] w fun e w' => e = .returned (.bool (isGrp xs)) ∧ Below w.heap.size w w' := by
  have HV := Lib.hid hv
  obtain ⟨a, cap, rfl, _, _⟩ := hv
  by_cases h4 : xs.length ≤ 4
  · cases ha : xs.all (inR 2 16)
    · have H : Hid (isGrp xs = false) := Lib.hid (by rw [isGrp_eq, ha]; simp)
      have HA := Lib.hid ha
      clear ha
      go_enter Try.func72, Try.ntmps72
      go_wp2_with (go_at_call 98; refine (c_allWithin _ xs 2 16 _ HV.out).mono ?_; rintro e w' ⟨rfl, hb⟩; rw [HA.out])
      go_ret
      exact ⟨ret_boolM H.out, hb⟩
    · have HA := Lib.hid ha
      by_cases hp : xs.length = 0
      · have H : Hid (isGrp xs = inR 2 16 0) := Lib.hid (by rw [isGrp_eq, hp]; simp [inR])
        have HP := Lib.hid hp
        clear ha hp
        go_enter Try.func72, Try.ntmps72
        go_wp2_with (first | (go_at_call 98; refine (c_allWithin _ xs 2 16 _ HV.out).mono ?_; rintro e w' ⟨rfl, hb⟩; rw [HA.out]) | (go_at_call 73; refine (c_groupSize0 _ xs _ (HV.out.keep hb) HP.out).mono ?_; rintro e w' ⟨rfl, rfl⟩) | (go_at_call 50; refine (c_within _ _ _ _).mono ?_; rintro e w' ⟨rfl, rfl⟩))
        go_ret
        exact ⟨ret_boolM H.out, hb⟩
      · have H : Hid (inR 2 16 (gsK xs xs.length) = isGrp xs) := Lib.hid (isGrp_size (by omega) h4 ha)
        clear ha
        go_enter Try.func72, Try.ntmps72
        go_wp2_with (first | (go_at_call 98; refine (c_allWithin _ xs 2 16 _ HV.out).mono ?_; rintro e w' ⟨rfl, hb⟩; rw [HA.out]) | (go_at_call 73; refine (c_groupSize _ xs _ (HV.out.keep hb) HA.out (by omega) h4).mono ?_; rintro e w' ⟨rfl, rfl⟩) | (go_at_call 50; refine (c_within _ _ _ _).mono ?_; rintro e w' ⟨rfl, rfl⟩))
        go_ret
        exact ⟨ret_boolM H.out.symm, hb⟩
  · have H : Hid (isGrp xs = false) := Lib.hid (by rw [isGrp_eq]; simp [h4])
    go_enter Try.func72, Try.ntmps72
    go_wp2_with fail
    go_ret
    exact ⟨ret_boolM H.out, Below.refl _ _⟩
theorem isGrp_no {xs : List Int} {k : Nat} {x : Int} (hx : xs[k]? = some x) (h : ¬ (2 ≤ x ∧ x ≤ 16)) : isGrp xs = false := by
  rw [isGrp_eq]
  have : xs.all (inR 2 16) = false := by
    cases ha : xs.all (inR 2 16)
    · rfl
    · exact absurd (all_at ha hx) h
  rw [this]; simp
theorem all_of {xs : List Int} (h : ∀ (j : Nat) x, j < xs.length → xs[j]? = some x → 2 ≤ x ∧ x ≤ 16) : xs.all (inR 2 16) = true := by
  rw [List.all_eq_true]
  intro x hx
  obtain ⟨j, hj, e⟩ := List.getElem_of_mem hx
  have := h j x hj (by rw [← e]; simp)
  simp [inR, this]
theorem c_l09Orders (v : Value) (xs : List Int) (w : World) (hv : Ints w v xs) :
    Calls Try.prog 68 #[v, .int .i64 16] w fun e w' => e = .returned (.bool (isGrp xs)) ∧ w = w' := by
  obtain ⟨a, cap, rfl, _, hc⟩ := hv
  have HC := Lib.hid hc
  clear hc
  by_cases h1 : 1 ≤ xs.length
  · by_cases h4 : xs.length ≤ 4
    · go_enter Try.func68, Try.ntmps68
      go_wp2_with fail
      go_loopw [5, 6] (fun s i wr => ∃ (k : Nat), k ≤ xs.length ∧ i = .int .i64 k ∧ s = .int .i64 (prK xs k) ∧ Hid (∀ (j : Nat) x, j < k → xs[j]? = some x → 2 ≤ x ∧ x ≤ 16) ∧ w = wr) (fun _ i _ => xs.length - (intOf i).toNat)
      case atStart => exact ⟨0, Nat.zero_le _, rfl, rfl, fun j x hj => by omega, rfl⟩
      case round =>
        obtain ⟨k, hk, rfl, rfl, HJ, rfl⟩ := hrel
        have HP := Lib.hid (prK_bd k HJ.out hk (by omega))
        have hp1 := HP.out.1
        have hp2 := Int.le_trans HP.out.2 (pow16 (by omega))
        by_cases hlt : k < xs.length
        · obtain ⟨x, hx⟩ : ∃ x, xs[k]? = some x := ⟨xs[k], by simp [hlt]⟩
          obtain ⟨b, off, rfl, hcell⟩ := HC.out k x hx
          by_cases hin : 2 ≤ x ∧ x ≤ 16
          · obtain ⟨hin1, hin2⟩ := hin
            have e1 : prK xs (k + 1) = prK xs k * x := by show prK xs k * xs.getD k 0 = _; rw [getD_ofM hx]
            have HN : Hid (∀ (j : Nat) x, j < k + 1 → xs[j]? = some x → 2 ≤ x ∧ x ≤ 16) := Lib.hid (fun j y hj hy => by
              by_cases e : j = k
              · subst e; rw [hx] at hy; cases hy; exact ⟨hin1, hin2⟩
              · exact HJ.out j y (by omega) hy)
            have E1 := Lib.hid e1
            have hi : inR 2 16 x = true := by simp [inR, hin1, hin2]
            have HI := Lib.hid hi
            obtain ⟨z, hz⟩ : ∃ z, z = prK xs k := ⟨_, rfl⟩
            rw [← hz] at hp1 hp2 E1 ⊢
            have hzx : 0 ≤ z * x ∧ z * x ≤ 1048576 := by
              constructor
              · exact Int.mul_nonneg (by omega) (by omega)
              · have := Int.mul_le_mul hp2 hin2 (by omega) (by omega); omega
            obtain ⟨hzx1, hzx2⟩ := hzx
            have hw1 : IntKind.i64.wrap (z * x) = z * x := IntWalk.i64_in _ (by omega)
            clear e1 hz hx hi
            go_wp2_with (go_at_call 48; refine (c_l01In _ _ _ _).mono ?_; rintro e w' ⟨rfl, rfl⟩; rw [HI.out])
            go_roundw
            case rel => exact ⟨k + 1, by omega, by go_num, by rw [E1.out], HN.out, trivial⟩
            case measure => simp [intOf]; omega
          · have H := Lib.hid (isGrp_no hx hin)
            have HI : Hid (inR 2 16 x = false) := Lib.hid (by simp only [inR]; simp; omega)
            clear hin hx
            go_wp2_with (go_at_call 48; refine (c_l01In _ _ _ _).mono ?_; rintro e w' ⟨rfl, rfl⟩; rw [HI.out])
            go_ret
            exact ⟨ret_boolM H.out, rfl⟩
        · obtain rfl : k = xs.length := by omega
          have H : Hid (isGrp xs = decide (prK xs xs.length ≤ 16)) := Lib.hid (by rw [isGrp_eq, all_of HJ.out]; simp [h1, h4])
          go_wp2_with fail
          go_ret
          exact ⟨ret_boolM H.out, rfl⟩
    · have H : Hid (isGrp xs = false) := Lib.hid (by rw [isGrp_eq]; simp [h4])
      go_enter Try.func68, Try.ntmps68
      go_wp2_with fail
      go_ret
      exact ⟨ret_boolM H.out, rfl⟩
  · have H : Hid (isGrp xs = false) := Lib.hid (by rw [isGrp_eq]; simp [h1])
    go_enter Try.func68, Try.ntmps68
    go_wp2_with fail
    go_ret
    exact ⟨ret_boolM H.out, rfl⟩
theorem c_l10Orders (v : Value) (xs : List Int) (w : World) (hv : Ints w v xs) :
    Calls Try.prog 78 #[v] w fun e w' => e = .returned (.bool (isGrp xs)) ∧ w = w' := by
  go_enter Try.func78, Try.ntmps78
  go_wp2_with (go_at_call 68; refine (c_l09Orders v xs _ hv).mono ?_; rintro e w' ⟨rfl, rfl⟩)
  go_ret
  exact ⟨rfl, rfl⟩
theorem c_l10Common (a0 b0 : Int) (w : World) (ha : 0 ≤ a0) (ha' : a0 ≤ 1000000000000) (hb : 0 ≤ b0) (hb' : b0 ≤ 1000000000000) :
    Calls Try.prog 80 #[.int .i64 a0, .int .i64 b0] w fun e w' => e = .returned (.int .i64 (Int.gcd a0 b0 : Nat)) ∧ w = w' := by
  go_enter Try.func80, Try.ntmps80
  go_wp2_with fail
  go_loopw [0, 1] (fun x y wr => ∃ a b : Int, 0 ≤ a ∧ a ≤ 1000000000000 ∧ 0 ≤ b ∧ b ≤ 1000000000000 ∧ x = .int .i64 a ∧ y = .int .i64 b ∧ Int.gcd a b = Int.gcd a0 b0 ∧ w = wr) (fun _ y _ => (intOf y).natAbs)
  case atStart => exact ⟨a0, b0, ha, ha', hb, hb', rfl, rfl, rfl, rfl⟩
  case round =>
    obtain ⟨a, b, h1, h2, h3, h4, rfl, rfl, hg, rfl⟩ := hrel
    have HG := Lib.hid hg
    clear hg
    by_cases h0 : b = 0
    · subst h0
      go_wp2_with fail
      go_ret
      exact ⟨ret_int (by have := HG.out; rw [Int.gcd_zero_right] at this; omega), rfl⟩
    · have hpos : 0 < b := by omega
      have ht := tmod_natAbs a b h0
      have hb3 := tmod_le a b h0
      have hb4 : 0 ≤ a.tmod b := Int.tmod_nonneg _ h1
      obtain ⟨hb31, hb32⟩ := hb3
      have hs := gcd_step a b
      have et : a.tmod b = a % b := Int.tmod_eq_emod_of_nonneg h1
      rw [et] at ht hb31 hb32 hb4 hs
      have HS := Lib.hid hs
      clear hs et
      go_wp2_with fail
      go_roundw
      case rel => exact ⟨b, a % b, h3, h4, hb4, by omega, rfl, rfl, HS.out.trans HG.out, trivial⟩
      case measure => exact ht
end Go.Proofs.Ytoaphakhfedgeaa
