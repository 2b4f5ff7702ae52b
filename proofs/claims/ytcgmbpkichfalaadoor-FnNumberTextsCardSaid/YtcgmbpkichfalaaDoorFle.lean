/- Walks of the prime field's functions, fourth part: the primitive number, roots of unity, square roots, short fractions, logarithms. -/
import Derived.Test.YtcgmbpkichfalaaDoorFlc
import Derived.Deep.RegionWith
import Derived.IntWalk
namespace Go.Proofs.YtcgmbpkichfalaaDoor
open Go.RowKit

theorem iord_small (r : Int) (h1 : 1 ≤ r) (h2 : r < 38) : iord r ≠ 55440 := by
  have := Fus.ord_small r.toNat (by omega) (by omega)
  rw [iord_eq]; omega
theorem iord_38 : iord 38 = 55440 := by
  have := Fus.ord_38
  rw [iord_eq, show (38 : Int).toNat = 38 from rfl, this]; rfl
theorem c_l01Primitive (w : World) :
    Calls Tryd.prog 48 #[] w fun e w' => e = .returned (.int .i64 38) ∧ Below w.heap.size w w' := by
  go_enter Tryd.func48, Tryd.ntmps48
  go_wp2_with fail
  go_loopw [1] (fun r wr => ∃ k : Int, 1 ≤ k ∧ k ≤ 38 ∧ r = .int .i64 k ∧ Below w.heap.size w wr) (fun r _ => (38 - intOf r).toNat)
  case atStart => exact ⟨1, by omega, by omega, rfl, Below.refl _ _⟩
  case round =>
    obtain ⟨k, hk1, hk2, rfl, hbel⟩ := hrel
    by_cases hlt : k < 38
    · have hne : (iord k != 55440) = true := by rw [bne_iff_ne]; exact iord_small k hk1 hlt
      go_wp2_with (go_at_call 54; refine (c_l01Order k _ (by omega) (by omega)).mono ?_; rintro e w' ⟨rfl, hb⟩)
      go_roundw
      case rel => exact ⟨k + 1, by omega, by omega, rfl, hbel.trans (hb.mono hbel.size)⟩
      case measure => simp [intOf]; omega
    · obtain rfl : k = 38 := by omega
      have hne : (iord 38 != 55440) = false := by rw [iord_38]; rfl
      go_wp2_with (go_at_call 54; refine (c_l01Order 38 _ (by omega) (by omega)).mono ?_; rintro e w' ⟨rfl, hb⟩)
      go_ret
      exact ⟨rfl, hbel.trans (hb.mono hbel.size)⟩

/-! roots of unity -/
def isOrd (n : Int) : Bool := decide (1 ≤ n) && decide ((55440 : Int).tmod n = 0)
theorem isOrd_true {n : Int} (h : isOrd n = true) : 1 ≤ n ∧ (55440 : Int) % n = 0 ∧ n ≤ 55440 := by
  simp only [isOrd, Bool.and_eq_true, decide_eq_true_iff] at h
  have e : (55440 : Int) % n = 0 := by rw [← Int.tmod_eq_emod_of_nonneg (by omega)]; exact h.2
  exact ⟨h.1, e, Int.le_of_dvd (by omega) (Int.dvd_of_emod_eq_zero e)⟩
def iroot (n : Int) : Int := ipw 38 (55440 / n)
def rootN (n : Int) : Int × Int := if n < 1 then (0, 2) else if isOrd n = true then (iroot n, 0) else (0, 5)



theorem div_ord (n : Int) (h1 : 1 ≤ n) (h2 : n ≤ 55440) : 0 ≤ 55440 / n ∧ 55440 / n ≤ 55440 :=
  ⟨Int.ediv_nonneg (by omega) (by omega), Int.ediv_le_self _ (by omega)⟩
theorem c_l01Unity (n : Int) (w : World) (h1 : 1 ≤ n) (h2 : n ≤ 55440) :
    Calls Tryd.prog 42 #[.int .i64 n] w fun e w' => e = .returned (.int .i64 (iroot n)) ∧ Below w.heap.size w w' := by
  have hd := div_ord n h1 h2
  obtain ⟨hd1, hd2⟩ := hd
  have hn : ¬ n = 0 := by omega
  have hq : IntKind.i64.wrap (Int.tdiv 55440 n) = 55440 / n := by
    rw [Int.tdiv_eq_ediv_of_nonneg (by omega)]; exact IntWalk.i64_in _ (by omega)
  go_enter Tryd.func42, Tryd.ntmps42
  go_wp2_with fail
  go_region_with (first | (go_at_call 48; refine (c_l01Primitive _).mono ?_; rintro e w' ⟨rfl, hb⟩) | (go_at_call 32; refine (c_l01Pow 38 (55440 / n) _ (by omega) (by omega) hd1 (by omega)).mono ?_; rintro e w' ⟨rfl, rfl⟩))
  all_goals (clear hq; go_wp2_with fail; go_ret; exact ⟨rfl, below_drew hb⟩)



theorem isRoot_eq (a : Int) (s : Nat) : Fus.isRoot a s = decide ((s : Int) * (s : Int) % 55441 = a) := by unfold Fus.isRoot; rfl
theorem root_found (a : Int) (k : Int) (h0 : 0 ≤ k) (hk : k < 55441) (h : Fus.isRoot a k.toNat = true) (hj : ∀ j : Nat, (j : Int) < k → Fus.isRoot a j = false) : k = Fus.rootF a := by
  rw [Fus.rootF_full, Fus.least_some (k := k.toNat) (by omega) h (fun j h => hj j (by omega))]
  exact (Int.toNat_of_nonneg h0).symm
theorem root_none (a : Int) (hj : ∀ j : Nat, (j : Int) < 55441 → Fus.isRoot a j = false) : (-1 : Int) = Fus.rootF a := by
  rw [Fus.rootF_full, Fus.least_none (fun j h => hj j (by omega))]
theorem root_foundS (a : Int) (k : Int) (h0 : 0 ≤ k) (hk : k < 27721) (h : Fus.isRoot a k.toNat = true) (hj : ∀ j : Nat, (j : Int) < k → Fus.isRoot a j = false) : k = Fus.rootF a := by
  unfold Fus.rootF; rw [Fus.least_some (k := k.toNat) (by omega) h (fun j h => hj j (by omega))]
  exact (Int.toNat_of_nonneg h0).symm
theorem root_noneS (a : Int) (hj : ∀ j : Nat, (j : Int) < 27721 → Fus.isRoot a j = false) : (-1 : Int) = Fus.rootF a := by
  unfold Fus.rootF; rw [Fus.least_none (fun j h => hj j (by omega))]
/-- the square root with its code -/
def sqrtN (a : Int) : Int × Int := if isNum a = true then (if Fus.rootF a < 0 then (0, 4) else (Fus.rootF a, 0)) else (0, 2)




end Go.Proofs.YtcgmbpkichfalaaDoor
