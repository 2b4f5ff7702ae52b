/- Walks of the laws' helpers over lists of integers. -/
import Derived.Test.YtibaollnjfibnaaMem
import Derived.Deep.OwnRows
import Derived.IntWalk
namespace Go.Proofs.Ytibaollnjfibnaa
open Go.RowKit


/-- are two lists equal, by a Bool that no rule opens -/
def eqL (xs ys : List Int) : Bool := decide (xs = ys)
theorem eqL_true {xs ys : List Int} (hl : xs.length = ys.length) (h : ∀ (i : Nat) x y, xs[i]? = some x → ys[i]? = some y → x = y) : eqL xs ys = true := by
  refine decide_eq_true (List.ext_getElem hl fun i h1 h2 => h i _ _ (List.getElem?_eq_getElem h1) (List.getElem?_eq_getElem h2))
theorem eqL_len {xs ys : List Int} (h : xs.length ≠ ys.length) : eqL xs ys = false := decide_eq_false (fun e => h (by rw [e]))
theorem eqL_ne {xs ys : List Int} {k : Nat} {x y : Int} (h1 : xs[k]? = some x) (h2 : ys[k]? = some y) (h : x ≠ y) : eqL xs ys = false :=
  decide_eq_false (fun e => h (by rw [e, h2] at h1; cases h1; rfl))
theorem eqL_self (xs : List Int) : eqL xs xs = true := decide_eq_true rfl
attribute [irreducible] eqL
theorem ret_bool {a b : Bool} (h : a = b) : Ending.returned (.bool a) = .returned (.bool b) := by rw [h]

theorem q_eqInt64S (u v : Value) (xs ys : List Int) (w : World) (hu : Ints w u xs) (hv : Ints w v ys) :
    Calls Try.prog 18 #[u, v] w fun e w' => e = .returned (.bool (eqL xs ys)) ∧ Drew w w' := by
  obtain ⟨a, cap, rfl, hl, hc⟩ := hu
  obtain ⟨a', cap', rfl, hl', hc'⟩ := hv
  have HC := Lib.hid hc
  have HC' := Lib.hid hc'
  clear hc hc'
  by_cases hlen : xs.length = ys.length
  · have hlenB : ((xs.length : Int) != (ys.length : Int)) = false := by simp [hlen]
    have HL := Lib.hid hlen
    clear hlen
    go_enter Try.func18, Try.ntmps18
    go_wp2_with fail
    go_loopw [5] (fun i wr => ∃ k : Nat, k ≤ xs.length ∧ i = .int .i64 k ∧ Hid (∀ (i : Nat) x y, i < k → xs[i]? = some x → ys[i]? = some y → x = y) ∧ ∃ n, wr = w.drewN n) (fun i _ => xs.length - (intOf i).toNat)
    case atStart => exact ⟨0, Nat.zero_le _, rfl, fun i x y hi => absurd hi (Nat.not_lt_zero _), 0, rfl⟩
    case round =>
      obtain ⟨k, hk, rfl, H, n, rfl⟩ := hrel
      by_cases hlt : k < xs.length
      · have hlt' : k < ys.length := by rw [← HL.out]; exact hlt
        obtain ⟨x, hx⟩ : ∃ x, xs[k]? = some x := ⟨xs[k], by simp [hlt]⟩
        obtain ⟨y, hy⟩ : ∃ y, ys[k]? = some y := ⟨ys[k], by simp [hlt']⟩
        obtain ⟨b, off, rfl, hcell⟩ := HC.out k x hx
        obtain ⟨b', off', rfl, hcell'⟩ := HC'.out k y hy
        have HX := Lib.hid hx
        have HY := Lib.hid hy
        clear hx hy
        by_cases he : x = y
        · have heB : (x != y) = false := by simp [he]
          have HE := Lib.hid he
          clear he
          go_wp2_with fail
          go_quiet (fail)
          go_wp2_with fail
          go_roundw
          case rel =>
            refine ⟨k + 1, by omega, by go_num, fun i p q hi hp hq => ?_, _, rfl⟩
            by_cases e : i = k
            · subst e; rw [HX.out] at hp; rw [HY.out] at hq; cases hp; cases hq; exact HE.out
            · exact H.out i p q (by omega) hp hq
          case measure => simp [intOf]; omega
        · have heB : (x != y) = true := by rw [bne_iff_ne]; exact he
          have HE := Lib.hid he
          clear he
          go_wp2_with fail
          go_quiet (fail)
          go_wp2_with fail
          go_ret
          exact ⟨ret_bool (eqL_ne HX.out HY.out HE.out).symm, (by first | exact ⟨_, rfl⟩ | exact ⟨_, World.drewN_drewN _ _ _⟩)⟩
      · go_wp2_with fail
        go_ret
        exact ⟨ret_bool (eqL_true HL.out (fun i x y hx hy => H.out i x y (by have := (List.getElem?_eq_some_iff.1 hx).1; omega) hx hy)).symm, _, rfl⟩
  · have hlenB : ((xs.length : Int) != (ys.length : Int)) = true := by rw [bne_iff_ne]; omega
    have HL := Lib.hid hlen
    clear hlen
    go_enter Try.func18, Try.ntmps18
    go_wp2_with fail
    go_ret
    exact ⟨ret_bool (eqL_len HL.out).symm, 0, rfl⟩
theorem c_eqInt64S (u v : Value) (xs ys : List Int) (w : World) (hu : Ints w u xs) (hv : Ints w v ys) :
    Calls Try.prog 18 #[u, v] w fun e w' => e = .returned (.bool (eqL xs ys)) ∧ Below w.heap.size w w' :=
  (q_eqInt64S u v xs ys w hu hv).mono fun _ _ h => ⟨h.1, h.2.below _⟩


/-! sums of products -/
def dotK (xs ys : List Int) : Nat → Int
  | 0 => 0
  | k + 1 => dotK xs ys k + xs.getD k 0 * ys.getD k 0
/-- the sum of the products of numbers with the same indices -/
def dotZ (xs ys : List Int) : Int := dotK xs ys xs.length % 55441
theorem dotK_next {xs ys : List Int} {k : Nat} {x y : Int} (hx : xs[k]? = some x) (hy : ys[k]? = some y) : dotK xs ys (k + 1) = dotK xs ys k + x * y := by
  simp [dotK, List.getD_eq_getElem?_getD, hx, hy]
theorem nums_at {xs : List Int} (h : xs.all isNum = true) {k : Nat} {x : Int} (hx : xs[k]? = some x) : 0 ≤ x ∧ x < 55441 :=
  isNum_true (List.all_eq_true.1 h x (List.mem_of_getElem? hx))
theorem dotZ_bd (xs ys : List Int) : 0 ≤ dotZ xs ys ∧ dotZ xs ys < 55441 := by unfold dotZ; omega
end Go.Proofs.Ytibaollnjfibnaa
