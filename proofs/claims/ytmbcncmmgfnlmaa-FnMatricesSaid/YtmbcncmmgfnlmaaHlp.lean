/- Walks of the laws' helpers over lists of integers. -/
import Derived.Test.YtmbcncmmgfnlmaaMem
import Derived.Deep.OwnRows
import Derived.IntWalk
namespace Go.Proofs.Ytmbcncmmgfnlmaa
open Go.RowKit


/-- are two lists equal, by a Bool that no rule opens -/
def eqL (xs ys : List Int) : Bool := decide (xs = ys)
theorem eqL_true {xs ys : List Int} (hl : xs.length = ys.length) (h : ∀ (i : Nat) x y, xs[i]? = some x → ys[i]? = some y → x = y) : eqL xs ys = true := by
  refine decide_eq_true (List.ext_getElem hl fun i h1 h2 => h i _ _ (List.getElem?_eq_getElem h1) (List.getElem?_eq_getElem h2))
theorem eqL_len {xs ys : List Int} (h : xs.length ≠ ys.length) : eqL xs ys = false := decide_eq_false (fun e => h (by rw [e]))
theorem eqL_ne {xs ys : List Int} {k : Nat} {x y : Int} (h1 : xs[k]? = some x) (h2 : ys[k]? = some y) (h : x ≠ y) : eqL xs ys = false :=
  decide_eq_false (fun e => h (by rw [e, h2] at h1; cases h1; rfl))
theorem eqL_self (xs : List Int) : eqL xs xs = true := decide_eq_true rfl
attribute [irreducible] eqL
theorem ret_bool {a b : Bool} (h : a = b) : Ending.returned (.bool a) = .returned (.bool b) := by rw [h]


theorem all_false {p : Int → Bool} {xs : List Int} {k : Nat} {x : Int} (hx : xs[k]? = some x) (h : p x = false) : xs.all p = false := by
  rw [List.all_eq_false]; exact ⟨x, List.mem_of_getElem? hx, by simp [h]⟩
theorem all_true {p : Int → Bool} {xs : List Int} (h : ∀ (i : Nat) x, xs[i]? = some x → p x = true) : xs.all p = true := by
  rw [List.all_eq_true]; intro x hx; obtain ⟨i, hi⟩ := List.getElem?_of_mem hx; exact h i x hi
theorem c_l01Numbers (v : Value) (xs : List Int) (w : World) (hv : Ints w v xs) :
    Calls Try.prog 88 #[v] w fun e w' => e = .returned (.bool (xs.all isNum)) ∧ w = w' := by
  obtain ⟨a, cap, rfl, hl, hc⟩ := hv
  have HC := Lib.hid hc
  clear hc
  go_enter Try.func88, Try.ntmps88
  go_wp2_with fail
  go_loop [3] (fun i => ∃ k : Nat, k ≤ xs.length ∧ i = .int .i64 k ∧ Hid (∀ (i : Nat) x, i < k → xs[i]? = some x → isNum x = true)) (fun i => xs.length - (intOf i).toNat)
  case atStart => exact ⟨0, Nat.zero_le _, rfl, fun i x hi => absurd hi (Nat.not_lt_zero _)⟩
  case round =>
    obtain ⟨k, hk, rfl, H⟩ := hrel
    by_cases hlt : k < xs.length
    · obtain ⟨x, hx⟩ : ∃ x, xs[k]? = some x := ⟨xs[k], by simp [hlt]⟩
      obtain ⟨b, off, rfl, hcell⟩ := HC.out k x hx
      have HX := Lib.hid hx
      clear hx
      cases hp : isNum x
      · have HP := Lib.hid hp
        go_wp2_with (go_at_call 79; refine (c_l01Number _ _).mono ?_; rintro e w' ⟨rfl, rfl⟩)
        go_ret
        exact ⟨ret_bool (all_false HX.out HP.out).symm, rfl⟩
      · have HP := Lib.hid hp
        go_wp2_with (go_at_call 79; refine (c_l01Number _ _).mono ?_; rintro e w' ⟨rfl, rfl⟩)
        go_round
        case rel =>
          refine ⟨k + 1, by omega, by go_num, fun i y hi hy => ?_⟩
          by_cases e : i = k
          · subst e; rw [HX.out] at hy; cases hy; exact HP.out
          · exact H.out i y (by omega) hy
        case measure => simp [intOf]; omega
    · go_wp2_with fail
      go_ret
      exact ⟨ret_bool (all_true (fun i x hx => H.out i x (by have := (List.getElem?_eq_some_iff.1 hx).1; omega) hx)).symm, rfl⟩

/-! sums of products -/
def dotK (xs ys : List Int) : Nat → Int
  | 0 => 0
  | k + 1 => dotK xs ys k + xs.getD k 0 * ys.getD k 0
/-- the sum of the products of numbers with the same indices -/
def dotZ (xs ys : List Int) : Int := dotK xs ys xs.length % 55441
theorem dotK_next {xs ys : List Int} {k : Nat} {x y : Int} (hx : xs[k]? = some x) (hy : ys[k]? = some y) : dotK xs ys (k + 1) = dotK xs ys k + x * y := by
  simp [dotK, List.getD_eq_getElem?_getD, hx, hy]
theorem nums_at {xs : List Int} (h : xs.all isNum = true) {k : Nat} {x : Int} (hx : xs[k]? = some x) : 0 ≤ x ∧ x < 55441 :=
  isNum_true (List.all_eq_true.1 h x (List.mem_of_getElem? hx))
theorem dotZ_bd (xs ys : List Int) : 0 ≤ dotZ xs ys ∧ dotZ xs ys < 55441 := by unfold dotZ; omega
theorem c_dot (u v : Value) (xs ys : List Int) (w : World) (hu : Ints w u xs) (hv : Ints w v ys) (hlen : xs.length = ys.length) (hmax : xs.length ≤ 1000000) (hx : xs.all isNum = true) (hy : ys.all isNum = true) :
    Calls Try.prog 109 #[u, v] w fun e w' => e = .returned (.int .i64 (dotZ xs ys)) ∧ Below w.heap.size w w' := by
  obtain ⟨a, cap, rfl, hl, hc⟩ := hu
  obtain ⟨a', cap', rfl, hl', hc'⟩ := hv
  have HC := Lib.hid hc
  have HC' := Lib.hid hc'
  have HL := Lib.hid hlen
  have HNx := Lib.hid hx
  have HNy := Lib.hid hy
  clear hc hc' hlen hx hy
  go_enter Try.func109, Try.ntmps109
  go_wp2_with fail
  go_loopw [5, 9] (fun s i wr => ∃ (k : Nat) (t : Int), k ≤ xs.length ∧ i = .int .i64 k ∧ s = .int .i64 t ∧ 0 ≤ t ∧ t ≤ 55440 * k ∧ Hid (t % 55441 = dotK xs ys k % 55441) ∧ Below w.heap.size w wr) (fun _ i _ => xs.length - (intOf i).toNat)
  case atStart => exact ⟨0, 0, Nat.zero_le _, rfl, rfl, by omega, by omega, rfl, Below.refl _ _⟩
  case round =>
    obtain ⟨k, t, hk, rfl, rfl, ht1, ht2, H, hbel⟩ := hrel
    by_cases hlt : k < xs.length
    · have hlt' : k < ys.length := by rw [← HL.out]; exact hlt
      obtain ⟨x, hx⟩ : ∃ x, xs[k]? = some x := ⟨xs[k], by simp [hlt]⟩
      obtain ⟨y, hy⟩ : ∃ y, ys[k]? = some y := ⟨ys[k], by simp [hlt']⟩
      obtain ⟨b, off, rfl, hcell⟩ := HC.out k x hx
      obtain ⟨b', off', rfl, hcell'⟩ := HC'.out k y hy
      have h1 := bcell hbel hcell
      have h2 := bcell hbel hcell'
      have hb1 := nums_at HNx.out hx
      have hb2 := nums_at HNy.out hy
      have hpr := prod_bd hb1.1 hb1.2 hb2.1 hb2.2
      obtain ⟨hpr1, hpr2⟩ := hpr
      have HS : Hid ((t + x * y % 55441) % 55441 = dotK xs ys (k + 1) % 55441) := Lib.hid (by rw [dotK_next hx hy]; have := H.out; omega)
      have HB := Lib.hid hbel
      clear hx hy hcell hcell' hbel hb1 hb2 H
      have hw1 : IntKind.i64.wrap (x * y) = x * y := IntWalk.i64_in _ (by omega)
      have hw2 : (x * y).tmod 55441 = x * y % 55441 := Int.tmod_eq_emod_of_nonneg hpr1
      have hw3 : IntKind.i64.wrap (t + x * y % 55441) = t + x * y % 55441 := IntWalk.i64_in _ (by omega)
      go_wp2_with fail
      go_quiet (fail)
      go_wp2_with fail
      go_roundw
      case rel => exact ⟨k + 1, _, by omega, by go_num, rfl, by omega, by omega, HS.out, HB.out.trans (below_toDrewN _ _ _)⟩
      case measure => simp [intOf]; omega
    · obtain rfl : k = xs.length := by omega
      have HB := Lib.hid hbel
      clear hbel
      go_wp2_with fail
      go_ret
      exact ⟨ret_int H.out, HB.out⟩
end Go.Proofs.Ytmbcncmmgfnlmaa
