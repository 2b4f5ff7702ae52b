/- Walks of the prime field's functions, fourth part: the primitive number, roots of unity, square roots, short fractions, logarithms. -/
import Derived.Test.YtoaphakhfedgeaaFlc
import Derived.Deep.RegionWith
import Derived.IntWalk
namespace Go.Proofs.Ytoaphakhfedgeaa
open Go.RowKit

theorem iord_small (r : Int) (h1 : 1 ≤ r) (h2 : r < 38) : iord r ≠ 55440 := by
  have := Fus.ord_small r.toNat (by omega) (by omega)
  rw [iord_eq]; omega
theorem iord_38 : iord 38 = 55440 := by
  have := Fus.ord_38
  rw [iord_eq, show (38 : Int).toNat = 38 from rfl, this]; rfl

/-! roots of unity -/
def isOrd (n : Int) : Bool := decide (1 ≤ n) && decide ((55440 : Int).tmod n = 0)
theorem isOrd_true {n : Int} (h : isOrd n = true) : 1 ≤ n ∧ (55440 : Int) % n = 0 ∧ n ≤ 55440 := by
  simp only [isOrd, Bool.and_eq_true, decide_eq_true_iff] at h
  have e : (55440 : Int) % n = 0 := by rw [← Int.tmod_eq_emod_of_nonneg (by omega)]; exact h.2
  exact ⟨h.1, e, Int.le_of_dvd (by omega) (Int.dvd_of_emod_eq_zero e)⟩
def iroot (n : Int) : Int := ipw 38 (55440 / n)
def rootN (n : Int) : Int × Int := if n < 1 then (0, 2) else if isOrd n = true then (iroot n, 0) else (0, 5)

theorem c_isOrder (n : Int) (w : World) :
    Calls Try.prog 81 #[.int .i64 n] w fun e w' => e = .returned (.bool (isOrd n)) ∧ w = w' := by
  by_cases h1 : 1 ≤ n
  · have hn : ¬ n = 0 := by omega
    by_cases h2 : (55440 : Int).tmod n = 0
    · have H : Hid (isOrd n = true) := Lib.hid (by simp [isOrd, h1, h2])
      have h2B : ((55440 : Int) % n == 0) = true := by rw [← Int.tmod_eq_emod_of_nonneg (by omega)]; simp [h2]
      clear h2
      go_enter Try.func81, Try.ntmps81
      go_wp2
      go_ret
      exact ⟨congrArg (fun b => Ending.returned (.bool b)) H.out.symm, rfl⟩
    · have H : Hid (isOrd n = false) := Lib.hid (by simp [isOrd, h2])
      have h2B : ((55440 : Int) % n == 0) = false := by rw [← Int.tmod_eq_emod_of_nonneg (by omega)]; simp [h2]
      clear h2
      go_enter Try.func81, Try.ntmps81
      go_wp2
      go_ret
      exact ⟨congrArg (fun b => Ending.returned (.bool b)) H.out.symm, rfl⟩
  · have H : Hid (isOrd n = false) := Lib.hid (by simp [isOrd, h1])
    have h1B : decide (1 ≤ n) = false := by simpa using h1
    go_enter Try.func81, Try.ntmps81
    go_wp2
    go_ret
    exact ⟨congrArg (fun b => Ending.returned (.bool b)) H.out.symm, rfl⟩

theorem c_l01Divisor (n : Int) (w : World) :
    Calls Try.prog 79 #[.int .i64 n] w fun e w' => e = .returned (.bool (isOrd n)) ∧ w = w' := by
  by_cases h1 : 1 ≤ n
  · have hn : ¬ n = 0 := by omega
    by_cases h2 : (55440 : Int).tmod n = 0
    · have H : Hid (isOrd n = true) := Lib.hid (by simp [isOrd, h1, h2])
      have h2B : ((55440 : Int) % n == 0) = true := by rw [← Int.tmod_eq_emod_of_nonneg (by omega)]; simp [h2]
      clear h2
      go_enter Try.func79, Try.ntmps79
      go_wp2
      go_ret
      exact ⟨congrArg (fun b => Ending.returned (.bool b)) H.out.symm, rfl⟩
    · have H : Hid (isOrd n = false) := Lib.hid (by simp [isOrd, h2])
      have h2B : ((55440 : Int) % n == 0) = false := by rw [← Int.tmod_eq_emod_of_nonneg (by omega)]; simp [h2]
      clear h2
      go_enter Try.func79, Try.ntmps79
      go_wp2
      go_ret
      exact ⟨congrArg (fun b => Ending.returned (.bool b)) H.out.symm, rfl⟩
  · have H : Hid (isOrd n = false) := Lib.hid (by simp [isOrd, h1])
    have h1B : decide (1 ≤ n) = false := by simpa using h1
    go_enter Try.func79, Try.ntmps79
    go_wp2
    go_ret
    exact ⟨congrArg (fun b => Ending.returned (.bool b)) H.out.symm, rfl⟩

theorem div_ord (n : Int) (h1 : 1 ≤ n) (h2 : n ≤ 55440) : 0 ≤ 55440 / n ∧ 55440 / n ≤ 55440 :=
  ⟨Int.ediv_nonneg (by omega) (by omega), Int.ediv_le_self _ (by omega)⟩



theorem isRoot_eq (a : Int) (s : Nat) : Fus.isRoot a s = decide ((s : Int) * (s : Int) % 55441 = a) := by unfold Fus.isRoot; rfl
theorem root_found (a : Int) (k : Int) (h0 : 0 ≤ k) (hk : k < 55441) (h : Fus.isRoot a k.toNat = true) (hj : ∀ j : Nat, (j : Int) < k → Fus.isRoot a j = false) : k = Fus.rootF a := by
  rw [Fus.rootF_full, Fus.least_some (k := k.toNat) (by omega) h (fun j h => hj j (by omega))]
  exact (Int.toNat_of_nonneg h0).symm
theorem root_none (a : Int) (hj : ∀ j : Nat, (j : Int) < 55441 → Fus.isRoot a j = false) : (-1 : Int) = Fus.rootF a := by
  rw [Fus.rootF_full, Fus.least_none (fun j h => hj j (by omega))]
theorem root_foundS (a : Int) (k : Int) (h0 : 0 ≤ k) (hk : k < 27721) (h : Fus.isRoot a k.toNat = true) (hj : ∀ j : Nat, (j : Int) < k → Fus.isRoot a j = false) : k = Fus.rootF a := by
  unfold Fus.rootF; rw [Fus.least_some (k := k.toNat) (by omega) h (fun j h => hj j (by omega))]
  exact (Int.toNat_of_nonneg h0).symm
theorem root_noneS (a : Int) (hj : ∀ j : Nat, (j : Int) < 27721 → Fus.isRoot a j = false) : (-1 : Int) = Fus.rootF a := by
  unfold Fus.rootF; rw [Fus.least_none (fun j h => hj j (by omega))]
/-- the square root with its code -/
def sqrtN (a : Int) : Int × Int := if isNum a = true then (if Fus.rootF a < 0 then (0, 4) else (Fus.rootF a, 0)) else (0, 2)




end Go.Proofs.Ytoaphakhfedgeaa
