/- Walks of the prime field's functions, fourth part: the primitive number, roots of unity, square roots, short fractions, logarithms. -/
import Derived.Test.YtdfienoilcgneaaFlc
import Derived.Deep.RegionWith
import Derived.IntWalk
namespace Go.Proofs.Ytdfienoilcgneaa
open Go.RowKit

theorem iord_small (r : Int) (h1 : 1 ≤ r) (h2 : r < 38) : iord r ≠ 55440 := by
  have := Fus.ord_small r.toNat (by omega) (by omega)
  rw [iord_eq]; omega
theorem iord_38 : iord 38 = 55440 := by
  have := Fus.ord_38
  rw [iord_eq, show (38 : Int).toNat = 38 from rfl, this]; rfl
theorem c_l01Primitive (w : World) :
    Calls Try.prog 25 #[] w fun e w' => e = .returned (.int .i64 38) ∧ Below w.heap.size w w' := by
  go_enter Try.func25, Try.ntmps25
  go_wp2_with fail
  go_loopw [1] (fun r wr => ∃ k : Int, 1 ≤ k ∧ k ≤ 38 ∧ r = .int .i64 k ∧ Below w.heap.size w wr) (fun r _ => (38 - intOf r).toNat)
  case atStart => exact ⟨1, by omega, by omega, rfl, Below.refl _ _⟩
  case round =>
    obtain ⟨k, hk1, hk2, rfl, hbel⟩ := hrel
    by_cases hlt : k < 38
    · have hne : (iord k != 55440) = true := by rw [bne_iff_ne]; exact iord_small k hk1 hlt
      go_wp2_with (go_at_call 27; refine (c_l01Order k _ (by omega) (by omega)).mono ?_; rintro e w' ⟨rfl, hb⟩)
      go_roundw
      case rel => exact ⟨k + 1, by omega, by omega, rfl, hbel.trans (hb.mono hbel.size)⟩
      case measure => simp [intOf]; omega
    · obtain rfl : k = 38 := by omega
      have hne : (iord 38 != 55440) = false := by rw [iord_38]; rfl
      go_wp2_with (go_at_call 27; refine (c_l01Order 38 _ (by omega) (by omega)).mono ?_; rintro e w' ⟨rfl, hb⟩)
      go_ret
      exact ⟨rfl, hbel.trans (hb.mono hbel.size)⟩
theorem c_SPrimitiveNumber (w : World) :
    Calls Try.prog 11 #[] w fun e w' => e = .returned (.int .i64 38) ∧ Below w.heap.size w w' := by
  go_enter Try.func11, Try.ntmps11
  go_wp2_with (go_at_call 25; refine (c_l01Primitive _).mono ?_; rintro e w' ⟨rfl, hb⟩)
  go_ret
  exact ⟨rfl, hb⟩
theorem c_PrimitiveNumber (w : World) :
    Calls Try.prog 10 #[] w fun e w' => e = .returned (.int .i64 38) ∧ w = w' := by
  go_enter Try.func10, Try.ntmps10
  go_wp2
  go_ret
  exact ⟨rfl, rfl⟩

/-! roots of unity -/
def isOrd (n : Int) : Bool := decide (1 ≤ n) && decide ((55440 : Int).tmod n = 0)
theorem isOrd_true {n : Int} (h : isOrd n = true) : 1 ≤ n ∧ (55440 : Int) % n = 0 ∧ n ≤ 55440 := by
  simp only [isOrd, Bool.and_eq_true, decide_eq_true_iff] at h
  have e : (55440 : Int) % n = 0 := by rw [← Int.tmod_eq_emod_of_nonneg (by omega)]; exact h.2
  exact ⟨h.1, e, Int.le_of_dvd (by omega) (Int.dvd_of_emod_eq_zero e)⟩
def iroot (n : Int) : Int := ipw 38 (55440 / n)
def rootN (n : Int) : Int × Int := if n < 1 then (0, 2) else if isOrd n = true then (iroot n, 0) else (0, 5)

theorem c_isOrder (n : Int) (w : World) :
    Calls Try.prog 30 #[.int .i64 n] w fun e w' => e = .returned (.bool (isOrd n)) ∧ w = w' := by
  by_cases h1 : 1 ≤ n
  · have hn : ¬ n = 0 := by omega
    by_cases h2 : (55440 : Int).tmod n = 0
    · have H : Hid (isOrd n = true) := Lib.hid (by simp [isOrd, h1, h2])
      have h2B : ((55440 : Int) % n == 0) = true := by rw [← Int.tmod_eq_emod_of_nonneg (by omega)]; simp [h2]
      clear h2
      go_enter Try.func30, Try.ntmps30
      go_wp2
      go_ret
      exact ⟨congrArg (fun b => Ending.returned (.bool b)) H.out.symm, rfl⟩
    · have H : Hid (isOrd n = false) := Lib.hid (by simp [isOrd, h2])
      have h2B : ((55440 : Int) % n == 0) = false := by rw [← Int.tmod_eq_emod_of_nonneg (by omega)]; simp [h2]
      clear h2
      go_enter Try.func30, Try.ntmps30
      go_wp2
      go_ret
      exact ⟨congrArg (fun b => Ending.returned (.bool b)) H.out.symm, rfl⟩
  · have H : Hid (isOrd n = false) := Lib.hid (by simp [isOrd, h1])
    have h1B : decide (1 ≤ n) = false := by simpa using h1
    go_enter Try.func30, Try.ntmps30
    go_wp2
    go_ret
    exact ⟨congrArg (fun b => Ending.returned (.bool b)) H.out.symm, rfl⟩

theorem c_l01Divisor (n : Int) (w : World) :
    Calls Try.prog 32 #[.int .i64 n] w fun e w' => e = .returned (.bool (isOrd n)) ∧ w = w' := by
  by_cases h1 : 1 ≤ n
  · have hn : ¬ n = 0 := by omega
    by_cases h2 : (55440 : Int).tmod n = 0
    · have H : Hid (isOrd n = true) := Lib.hid (by simp [isOrd, h1, h2])
      have h2B : ((55440 : Int) % n == 0) = true := by rw [← Int.tmod_eq_emod_of_nonneg (by omega)]; simp [h2]
      clear h2
      go_enter Try.func32, Try.ntmps32
      go_wp2
      go_ret
      exact ⟨congrArg (fun b => Ending.returned (.bool b)) H.out.symm, rfl⟩
    · have H : Hid (isOrd n = false) := Lib.hid (by simp [isOrd, h2])
      have h2B : ((55440 : Int) % n == 0) = false := by rw [← Int.tmod_eq_emod_of_nonneg (by omega)]; simp [h2]
      clear h2
      go_enter Try.func32, Try.ntmps32
      go_wp2
      go_ret
      exact ⟨congrArg (fun b => Ending.returned (.bool b)) H.out.symm, rfl⟩
  · have H : Hid (isOrd n = false) := Lib.hid (by simp [isOrd, h1])
    have h1B : decide (1 ≤ n) = false := by simpa using h1
    go_enter Try.func32, Try.ntmps32
    go_wp2
    go_ret
    exact ⟨congrArg (fun b => Ending.returned (.bool b)) H.out.symm, rfl⟩

theorem div_ord (n : Int) (h1 : 1 ≤ n) (h2 : n ≤ 55440) : 0 ≤ 55440 / n ∧ 55440 / n ≤ 55440 :=
  ⟨Int.ediv_nonneg (by omega) (by omega), Int.ediv_le_self _ (by omega)⟩
theorem c_root (n : Int) (w : World) (h1 : 1 ≤ n) (h2 : n ≤ 55440) :
    Calls Try.prog 31 #[.int .i64 n] w fun e w' => e = .returned (.int .i64 (iroot n)) ∧ w = w' := by
  have hd := div_ord n h1 h2
  obtain ⟨hd1, hd2⟩ := hd
  have hn : ¬ n = 0 := by omega
  go_enter Try.func31, Try.ntmps31
  go_wp2_with (go_at_call 38; refine (c_power 38 (55440 / n) _ (by omega) (by omega) hd1 (by omega)).mono ?_; rintro e w' ⟨rfl, rfl⟩)
  go_ret
  exact ⟨rfl, rfl⟩
theorem c_l01Unity (n : Int) (w : World) (h1 : 1 ≤ n) (h2 : n ≤ 55440) :
    Calls Try.prog 33 #[.int .i64 n] w fun e w' => e = .returned (.int .i64 (iroot n)) ∧ Below w.heap.size w w' := by
  have hd := div_ord n h1 h2
  obtain ⟨hd1, hd2⟩ := hd
  have hn : ¬ n = 0 := by omega
  have hq : IntKind.i64.wrap (Int.tdiv 55440 n) = 55440 / n := by
    rw [Int.tdiv_eq_ediv_of_nonneg (by omega)]; exact IntWalk.i64_in _ (by omega)
  go_enter Try.func33, Try.ntmps33
  go_wp2_with fail
  go_region_with (first | (go_at_call 25; refine (c_l01Primitive _).mono ?_; rintro e w' ⟨rfl, hb⟩) | (go_at_call 41; refine (c_l01Pow 38 (55440 / n) _ (by omega) (by omega) hd1 (by omega)).mono ?_; rintro e w' ⟨rfl, rfl⟩))
  all_goals (clear hq; go_wp2_with fail; go_ret; exact ⟨rfl, below_drew hb⟩)

theorem c_RootOfUnity (n : Int) (w : World) :
    Calls Try.prog 13 #[.int .i64 n] w fun e w' => e = .returned (two (rootN n)) ∧ w = w' := by
  by_cases h1 : n < 1
  · have H : Hid (rootN n = (0, 2)) := Lib.hid (by unfold rootN; rw [if_pos h1])
    go_enter Try.func13, Try.ntmps13
    go_wp2
    go_ret2
    exact ⟨ret_two H.out, rfl⟩
  · cases h2 : isOrd n
    · have H : Hid (rootN n = (0, 5)) := Lib.hid (by unfold rootN; rw [if_neg h1, if_neg (by simp [h2])])
      go_enter Try.func13, Try.ntmps13
      go_wp2_with (go_at_call 30; refine (c_isOrder _ _).mono ?_; rintro e w' ⟨rfl, rfl⟩)
      go_ret2
      exact ⟨ret_two H.out, rfl⟩
    · have H : Hid (rootN n = (iroot n, 0)) := Lib.hid (by unfold rootN; rw [if_neg h1, if_pos h2])
      have hb := isOrd_true h2
      obtain ⟨hb1, _, hb2⟩ := hb
      go_enter Try.func13, Try.ntmps13
      go_wp2_with (first | (go_at_call 30; refine (c_isOrder _ _).mono ?_; rintro e w' ⟨rfl, rfl⟩) | (go_at_call 31; refine (c_root _ _ hb1 hb2).mono ?_; rintro e w' ⟨rfl, rfl⟩))
      go_ret2
      exact ⟨ret_two H.out, rfl⟩

theorem c_SRootOfUnity (n : Int) (w : World) :
    Calls Try.prog 14 #[.int .i64 n] w fun e w' => e = .returned (two (rootN n)) ∧ Below w.heap.size w w' := by
  by_cases h1 : n < 1
  · have H : Hid (rootN n = (0, 2)) := Lib.hid (by unfold rootN; rw [if_pos h1])
    go_enter Try.func14, Try.ntmps14
    go_wp2
    go_ret2
    exact ⟨ret_two H.out, Below.refl _ _⟩
  · cases h2 : isOrd n
    · have H : Hid (rootN n = (0, 5)) := Lib.hid (by unfold rootN; rw [if_neg h1, if_neg (by simp [h2])])
      go_enter Try.func14, Try.ntmps14
      go_wp2_with (go_at_call 32; refine (c_l01Divisor _ _).mono ?_; rintro e w' ⟨rfl, rfl⟩)
      go_ret2
      exact ⟨ret_two H.out, Below.refl _ _⟩
    · have H : Hid (rootN n = (iroot n, 0)) := Lib.hid (by unfold rootN; rw [if_neg h1, if_pos h2])
      have hb := isOrd_true h2
      obtain ⟨hb1, _, hb2⟩ := hb
      go_enter Try.func14, Try.ntmps14
      go_wp2_with (first | (go_at_call 32; refine (c_l01Divisor _ _).mono ?_; rintro e w' ⟨rfl, rfl⟩) | (go_at_call 33; refine (c_l01Unity _ _ hb1 hb2).mono ?_; rintro e w' ⟨rfl, hb⟩))
      go_ret2
      exact ⟨ret_two H.out, hb⟩

theorem isRoot_eq (a : Int) (s : Nat) : Fus.isRoot a s = decide ((s : Int) * (s : Int) % 55441 = a) := by unfold Fus.isRoot; rfl
theorem root_found (a : Int) (k : Int) (h0 : 0 ≤ k) (hk : k < 55441) (h : Fus.isRoot a k.toNat = true) (hj : ∀ j : Nat, (j : Int) < k → Fus.isRoot a j = false) : k = Fus.rootF a := by
  rw [Fus.rootF_full, Fus.least_some (k := k.toNat) (by omega) h (fun j h => hj j (by omega))]
  exact (Int.toNat_of_nonneg h0).symm
theorem root_none (a : Int) (hj : ∀ j : Nat, (j : Int) < 55441 → Fus.isRoot a j = false) : (-1 : Int) = Fus.rootF a := by
  rw [Fus.rootF_full, Fus.least_none (fun j h => hj j (by omega))]
theorem root_foundS (a : Int) (k : Int) (h0 : 0 ≤ k) (hk : k < 27721) (h : Fus.isRoot a k.toNat = true) (hj : ∀ j : Nat, (j : Int) < k → Fus.isRoot a j = false) : k = Fus.rootF a := by
  unfold Fus.rootF; rw [Fus.least_some (k := k.toNat) (by omega) h (fun j h => hj j (by omega))]
  exact (Int.toNat_of_nonneg h0).symm
theorem root_noneS (a : Int) (hj : ∀ j : Nat, (j : Int) < 27721 → Fus.isRoot a j = false) : (-1 : Int) = Fus.rootF a := by
  unfold Fus.rootF; rw [Fus.least_none (fun j h => hj j (by omega))]
/-- the square root with its code -/
def sqrtN (a : Int) : Int × Int := if isNum a = true then (if Fus.rootF a < 0 then (0, 4) else (Fus.rootF a, 0)) else (0, 2)

theorem c_squareRoot (a : Int) (w : World) :
    Calls Try.prog 34 #[.int .i64 a] w fun e w' => e = .returned (.int .i64 (Fus.rootF a)) ∧ w = w' := by
  go_enter Try.func34, Try.ntmps34
  go_wp2_with fail
  go_loop [4] (fun i => ∃ k : Int, 0 ≤ k ∧ k ≤ 55441 ∧ i = .int .i64 k ∧ Hid (∀ j : Nat, (j : Int) < k → Fus.isRoot a j = false)) (fun i => (55441 - intOf i).toNat)
  case atStart => exact ⟨0, by omega, by omega, rfl, fun j hj => by omega⟩
  case round =>
    obtain ⟨k, hk0, hk, rfl, H⟩ := hrel
    by_cases hlt : k < 55441
    · have hpr := prod_bd hk0 (show k < 55441 by omega) hk0 (show k < 55441 by omega)
      obtain ⟨hp1, hp2⟩ := hpr
      by_cases hr : k * k % 55441 = a
      · have hrB : (k * k % 55441 == a) = true := by simp [hr]
        have HR : Hid (Fus.isRoot a k.toNat = true) := Lib.hid (by rw [isRoot_eq, Int.toNat_of_nonneg hk0]; simp [hr])
        clear hr
        go_wp2_with fail
        go_ret
        exact ⟨ret_int (root_found a k hk0 hlt HR.out H.out), rfl⟩
      · have hrB : (k * k % 55441 == a) = false := by simp [hr]
        have HR : Hid (Fus.isRoot a k.toNat = false) := Lib.hid (by rw [isRoot_eq, Int.toNat_of_nonneg hk0]; simp [hr])
        clear hr
        go_wp2_with fail
        go_round
        case rel =>
          refine ⟨k + 1, by omega, by omega, rfl, fun j hj => ?_⟩
          by_cases e : j = k.toNat
          · subst e; exact HR.out
          · exact H.out j (by omega)
        case measure => simp [intOf]; omega
    · obtain rfl : k = 55441 := by omega
      go_wp2_with fail
      go_ret
      exact ⟨ret_int (root_none a H.out), rfl⟩

theorem c_l01Root (a : Int) (w : World) :
    Calls Try.prog 35 #[.int .i64 a] w fun e w' => e = .returned (.int .i64 (Fus.rootF a)) ∧ w = w' := by
  go_enter Try.func35, Try.ntmps35
  go_wp2_with fail
  go_loop [3] (fun i => ∃ k : Int, 0 ≤ k ∧ k ≤ 27721 ∧ i = .int .i64 k ∧ Hid (∀ j : Nat, (j : Int) < k → Fus.isRoot a j = false)) (fun i => (27721 - intOf i).toNat)
  case atStart => exact ⟨0, by omega, by omega, rfl, fun j hj => by omega⟩
  case round =>
    obtain ⟨k, hk0, hk, rfl, H⟩ := hrel
    by_cases hlt : k < 27721
    · have hpr := prod_bd hk0 (show k < 55441 by omega) hk0 (show k < 55441 by omega)
      obtain ⟨hp1, hp2⟩ := hpr
      by_cases hr : k * k % 55441 = a
      · have hrB : (k * k % 55441 == a) = true := by simp [hr]
        have HR : Hid (Fus.isRoot a k.toNat = true) := Lib.hid (by rw [isRoot_eq, Int.toNat_of_nonneg hk0]; simp [hr])
        clear hr
        go_wp2_with fail
        go_ret
        exact ⟨ret_int (root_foundS a k hk0 hlt HR.out H.out), rfl⟩
      · have hrB : (k * k % 55441 == a) = false := by simp [hr]
        have HR : Hid (Fus.isRoot a k.toNat = false) := Lib.hid (by rw [isRoot_eq, Int.toNat_of_nonneg hk0]; simp [hr])
        clear hr
        go_wp2_with fail
        go_round
        case rel =>
          refine ⟨k + 1, by omega, by omega, rfl, fun j hj => ?_⟩
          by_cases e : j = k.toNat
          · subst e; exact HR.out
          · exact H.out j (by omega)
        case measure => simp [intOf]; omega
    · obtain rfl : k = 27721 := by omega
      go_wp2_with fail
      go_ret
      exact ⟨ret_int (root_noneS a H.out), rfl⟩

theorem c_SquareRoot (a : Int) (w : World) :
    Calls Try.prog 16 #[.int .i64 a] w fun e w' => e = .returned (two (sqrtN a)) ∧ w = w' := by
  cases ha : isNum a
  · have H : Hid (sqrtN a = (0, 2)) := Lib.hid (by unfold sqrtN; rw [if_neg (by simp [ha])])
    go_enter Try.func16, Try.ntmps16
    go_wp2_with (go_at_call 22; refine (c_IsNumber _ _).mono ?_; rintro e w' ⟨rfl, rfl⟩)
    go_ret2
    exact ⟨ret_two H.out, rfl⟩
  · by_cases hr : Fus.rootF a < 0
    · have H : Hid (sqrtN a = (0, 4)) := Lib.hid (by unfold sqrtN; rw [if_pos ha, if_pos hr])
      go_enter Try.func16, Try.ntmps16
      go_wp2_with (first | (go_at_call 22; refine (c_IsNumber _ _).mono ?_; rintro e w' ⟨rfl, rfl⟩) | (go_at_call 34; refine (c_squareRoot _ _).mono ?_; rintro e w' ⟨rfl, rfl⟩))
      go_ret2
      exact ⟨ret_two H.out, rfl⟩
    · have H : Hid (sqrtN a = (Fus.rootF a, 0)) := Lib.hid (by unfold sqrtN; rw [if_pos ha, if_neg hr])
      go_enter Try.func16, Try.ntmps16
      go_wp2_with (first | (go_at_call 22; refine (c_IsNumber _ _).mono ?_; rintro e w' ⟨rfl, rfl⟩) | (go_at_call 34; refine (c_squareRoot _ _).mono ?_; rintro e w' ⟨rfl, rfl⟩))
      go_ret2
      exact ⟨ret_two H.out, rfl⟩

theorem c_SSquareRoot (a : Int) (w : World) :
    Calls Try.prog 17 #[.int .i64 a] w fun e w' => e = .returned (two (sqrtN a)) ∧ w = w' := by
  cases ha : isNum a
  · have H : Hid (sqrtN a = (0, 2)) := Lib.hid (by unfold sqrtN; rw [if_neg (by simp [ha])])
    go_enter Try.func17, Try.ntmps17
    go_wp2_with (go_at_call 24; refine (c_l01Number _ _).mono ?_; rintro e w' ⟨rfl, rfl⟩)
    go_ret2
    exact ⟨ret_two H.out, rfl⟩
  · by_cases hr : Fus.rootF a < 0
    · have H : Hid (sqrtN a = (0, 4)) := Lib.hid (by unfold sqrtN; rw [if_pos ha, if_pos hr])
      go_enter Try.func17, Try.ntmps17
      go_wp2_with (first | (go_at_call 24; refine (c_l01Number _ _).mono ?_; rintro e w' ⟨rfl, rfl⟩) | (go_at_call 35; refine (c_l01Root _ _).mono ?_; rintro e w' ⟨rfl, rfl⟩))
      go_ret2
      exact ⟨ret_two H.out, rfl⟩
    · have H : Hid (sqrtN a = (Fus.rootF a, 0)) := Lib.hid (by unfold sqrtN; rw [if_pos ha, if_neg hr])
      go_enter Try.func17, Try.ntmps17
      go_wp2_with (first | (go_at_call 24; refine (c_l01Number _ _).mono ?_; rintro e w' ⟨rfl, rfl⟩) | (go_at_call 35; refine (c_l01Root _ _).mono ?_; rintro e w' ⟨rfl, rfl⟩))
      go_ret2
      exact ⟨ret_two H.out, rfl⟩
end Go.Proofs.Ytdfienoilcgneaa
