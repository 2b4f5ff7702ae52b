/- Spin data: what decides that a level and an exponent are as told, on both sides; the quantum number. -/
import Derived.Test.YtibaollnjfibnaaDat
import Derived.Test.YtibaollnjfibnaaFlf
namespace Go.Proofs.Ytibaollnjfibnaa
open Go.RowKit

def spOk (k m : Int) : Bool := isOrd (4 * (k + 2)) && decide (Int.gcd m (4 * (k + 2)) = 1)
theorem c_l13Coprime (a0 b0 : Int) (w : World) (ha : 0 ≤ a0) (ha' : a0 ≤ 1000000000000) (hb : 0 ≤ b0) (hb' : b0 ≤ 1000000000000) :
    Calls Try.prog 23 #[.int .i64 a0, .int .i64 b0] w fun e w' => e = .returned (.bool (decide (Int.gcd a0 b0 = 1))) ∧ w = w' := by
  go_enter Try.func23, Try.ntmps23
  go_wp2_with fail
  go_loopw [0, 1] (fun x y wr => ∃ a b : Int, 0 ≤ a ∧ a ≤ 1000000000000 ∧ 0 ≤ b ∧ b ≤ 1000000000000 ∧ x = .int .i64 a ∧ y = .int .i64 b ∧ Int.gcd a b = Int.gcd a0 b0 ∧ w = wr) (fun _ y _ => (intOf y).natAbs)
  case atStart => exact ⟨a0, b0, ha, ha', hb, hb', rfl, rfl, rfl, rfl⟩
  case round =>
    obtain ⟨a, b, h1, h2, h3, h4, rfl, rfl, hg, rfl⟩ := hrel
    have HG := Lib.hid hg
    clear hg
    by_cases h0 : b = 0
    · subst h0
      go_wp2_with fail
      go_ret
      have hq := HG.out
      rw [Int.gcd_zero_right] at hq
      exact ⟨congrArg (fun b => Ending.returned (.bool b)) (by rw [Bool.eq_iff_iff]; simp <;> omega), rfl⟩
    · have h0' : 0 < b := by omega
      have ht := tmod_natAbs a b h0
      have HS := Lib.hid (gcd_step a b)
      have he : a.tmod b = a % b := Int.tmod_eq_emod_of_nonneg h1
      rw [he] at ht HS
      have hm1 : 0 ≤ a % b := Int.emod_nonneg _ h0
      have hm2 : a % b < b := Int.emod_lt_of_pos _ h0'
      clear he
      go_wp2_with fail
      go_roundw
      case rel => exact ⟨b, a % b, h3, h4, hm1, by omega, rfl, rfl, HS.out.trans HG.out, by simp⟩
      case measure => exact ht
theorem c_isSpin (k m : Int) (w : World) (hk : 0 ≤ k) (hk' : k ≤ 1000) (hm : 0 ≤ m) (hm' : m ≤ 1000) :
    Calls Try.prog 15 #[.int .i64 k, .int .i64 m] w fun e w' => e = .returned (.bool (spOk k m)) ∧ Below w.heap.size w w' := by
  cases h : isOrd (4 * (k + 2))
  · have H : Hid (spOk k m = false) := Lib.hid (by simp [spOk, h])
    go_enter Try.func15, Try.ntmps15
    go_wp2_with fail
    refine (c_isOrder _ _).mono ?_
    rintro e w1 ⟨rfl, rfl⟩
    rw [h]
    go_wp2_with fail
    go_ret
    exact ⟨congrArg (fun b => Ending.returned (.bool b)) H.out.symm, Below.refl _ _⟩
  · obtain ⟨G, hG⟩ : ∃ G, G = Int.gcd m (4 * (k + 2)) := ⟨_, rfl⟩
    have H : Hid (spOk k m = decide (G = 1)) := Lib.hid (by simp [spOk, h, hG])
    have HG := Lib.hid hG
    clear hG
    go_enter Try.func15, Try.ntmps15
    go_wp2_with fail
    refine (c_isOrder _ _).mono ?_
    rintro e w1 ⟨rfl, rfl⟩
    rw [h]
    go_wp2_with fail
    refine (c_gcd _ _ _ (by omega) (by omega) (by omega) (by omega)).mono ?_
    rintro e w1 ⟨rfl, hb⟩
    rw [← HG.out]
    go_wp2_with fail
    go_ret
    have e : decide ((G : Int) = 1) = spOk k m := by rw [H.out]; exact decide_eq_decide.2 ⟨fun h => by omega, fun h => by omega⟩
    exact ⟨congrArg (fun b => Ending.returned (.bool b)) e, hb⟩
theorem mod_bd' (a : Int) : 0 ≤ a % 55441 ∧ a % 55441 < 55441 := ⟨Int.emod_nonneg _ (by omega), Int.emod_lt_of_pos _ (by omega)⟩
end Go.Proofs.Ytibaollnjfibnaa
