/- Walks of the laws' helpers over lists of integers. -/
import Derived.Test.YtckcjlophnehmaaMem
import Derived.Deep.OwnRows
import Derived.IntWalk
namespace Go.Proofs.Ytckcjlophnehmaa
open Go.RowKit

theorem copied_start (n : Nat) (xs : List Int) : (xs.take 0 ++ List.replicate (n - 0) 0).map vi = List.replicate n (vi 0) := by simp
theorem copied_next {xs : List Int} {k : Nat} {x : Int} (h : xs[k]? = some x) :
    ((xs.take k ++ List.replicate (xs.length - k) 0).map vi).set k (vi x) = (xs.take (k + 1) ++ List.replicate (xs.length - (k + 1)) 0).map vi := by
  obtain ⟨hk, rfl⟩ := List.getElem?_eq_some_iff.1 h
  rw [← List.map_set]
  congr 1
  rw [List.set_append_right _ _ (by simp; omega), List.take_succ_eq_append_getElem hk, List.append_assoc]
  congr 1
  rw [List.length_take, Nat.min_eq_left (by omega), Nat.sub_self]
  obtain ⟨m, hm⟩ : ∃ m, xs.length - k = m + 1 := ⟨xs.length - k - 1, by omega⟩
  rw [hm, show xs.length - (k + 1) = m from by omega, List.replicate_succ]
  rfl
theorem c_toInt64S (v : Value) (xs : List Int) (w : World) (hv : Ints w v xs) :
    Calls Try.prog 14 #[v] w (RetI xs w) := by
  obtain ⟨a, cap, rfl, hl, hc⟩ := hv
  have hmk := run_make_row' (P := Try.prog) 29 2 (.int .i64 0) 8 Try.underlying29 info_int rfl .i64 .i64 xs.length (by omega) (by omega)
  have HC := Lib.hid hc
  clear hc
  go_enter Try.func14, Try.ntmps14
  go_wp2_with fail
  go_loopw [4] (fun i wr => ∃ k : Nat, k ≤ xs.length ∧ i = .int .i64 k ∧ OwnI wr w.heap.size (.slice (some ⟨w.heap.size, 0, none⟩) xs.length xs.length) (xs.take k ++ List.replicate (xs.length - k) 0) ∧ Below w.heap.size w wr) (fun i _ => xs.length - (intOf i).toNat)
  case atStart => exact ⟨0, Nat.zero_le _, rfl, by rw [OwnI, copied_start]; exact Own.made _ _ _ _ (Nat.le_refl _) (by unfold maxLen; omega), below_alloc _ _⟩
  case round =>
    obtain ⟨k, hk, rfl, hown, hbel⟩ := hrel
    clear hmk
    by_cases hlt : k < xs.length
    · obtain ⟨x, hx⟩ : ∃ x, xs[k]? = some x := ⟨xs[k], by simp [hlt]⟩
      obtain ⟨b, off, rfl, hcell⟩ := HC.out k x hx
      have hcell' := bcell hbel hcell
      obtain ⟨y, hy⟩ : ∃ y, ((xs.take k ++ List.replicate (xs.length - k) 0).map vi)[k]? = some y := ⟨_, List.getElem?_eq_getElem (by simp; omega)⟩
      have hold := Own.cell hown hy
      have hfr := Own.frozen hown k
      have HX := Lib.hid hx
      have HO := Lib.hid (Own.store hown k (vi x))
      have HB := Lib.hid hbel
      clear hx hy hown hbel hcell
      go_wp2_with fail
      go_roundw
      case rel => exact ⟨k + 1, by omega, by go_num, by have h := HO.out; rw [copied_next HX.out] at h; exact h, below_set HB.out (Nat.le_refl _)⟩
      case measure => simp [intOf]; omega
    · obtain rfl : k = xs.length := by omega
      have HO := Lib.hid hown
      have HB := Lib.hid hbel
      clear hown hbel
      go_wp2_with fail
      go_ret
      exact ⟨_, rfl, by have h := HO.out; simpa using h, HB.out⟩

/-- are two lists equal, by a Bool that no rule opens -/
def eqL (xs ys : List Int) : Bool := decide (xs = ys)
theorem eqL_true {xs ys : List Int} (hl : xs.length = ys.length) (h : ∀ (i : Nat) x y, xs[i]? = some x → ys[i]? = some y → x = y) : eqL xs ys = true := by
  refine decide_eq_true (List.ext_getElem hl fun i h1 h2 => h i _ _ (List.getElem?_eq_getElem h1) (List.getElem?_eq_getElem h2))
theorem eqL_len {xs ys : List Int} (h : xs.length ≠ ys.length) : eqL xs ys = false := decide_eq_false (fun e => h (by rw [e]))
theorem eqL_ne {xs ys : List Int} {k : Nat} {x y : Int} (h1 : xs[k]? = some x) (h2 : ys[k]? = some y) (h : x ≠ y) : eqL xs ys = false :=
  decide_eq_false (fun e => h (by rw [e, h2] at h1; cases h1; rfl))
theorem eqL_self (xs : List Int) : eqL xs xs = true := decide_eq_true rfl
attribute [irreducible] eqL
theorem ret_bool {a b : Bool} (h : a = b) : Ending.returned (.bool a) = .returned (.bool b) := by rw [h]

theorem q_eqInt64S (u v : Value) (xs ys : List Int) (w : World) (hu : Ints w u xs) (hv : Ints w v ys) :
    Calls Try.prog 18 #[u, v] w fun e w' => e = .returned (.bool (eqL xs ys)) ∧ Drew w w' := by
  obtain ⟨a, cap, rfl, hl, hc⟩ := hu
  obtain ⟨a', cap', rfl, hl', hc'⟩ := hv
  have HC := Lib.hid hc
  have HC' := Lib.hid hc'
  clear hc hc'
  by_cases hlen : xs.length = ys.length
  · have hlenB : ((xs.length : Int) != (ys.length : Int)) = false := by simp [hlen]
    have HL := Lib.hid hlen
    clear hlen
    go_enter Try.func18, Try.ntmps18
    go_wp2_with fail
    go_loopw [5] (fun i wr => ∃ k : Nat, k ≤ xs.length ∧ i = .int .i64 k ∧ Hid (∀ (i : Nat) x y, i < k → xs[i]? = some x → ys[i]? = some y → x = y) ∧ ∃ n, wr = w.drewN n) (fun i _ => xs.length - (intOf i).toNat)
    case atStart => exact ⟨0, Nat.zero_le _, rfl, fun i x y hi => absurd hi (Nat.not_lt_zero _), 0, rfl⟩
    case round =>
      obtain ⟨k, hk, rfl, H, n, rfl⟩ := hrel
      by_cases hlt : k < xs.length
      · have hlt' : k < ys.length := by rw [← HL.out]; exact hlt
        obtain ⟨x, hx⟩ : ∃ x, xs[k]? = some x := ⟨xs[k], by simp [hlt]⟩
        obtain ⟨y, hy⟩ : ∃ y, ys[k]? = some y := ⟨ys[k], by simp [hlt']⟩
        obtain ⟨b, off, rfl, hcell⟩ := HC.out k x hx
        obtain ⟨b', off', rfl, hcell'⟩ := HC'.out k y hy
        have HX := Lib.hid hx
        have HY := Lib.hid hy
        clear hx hy
        by_cases he : x = y
        · have heB : (x != y) = false := by simp [he]
          have HE := Lib.hid he
          clear he
          go_wp2_with fail
          go_quiet (fail)
          go_wp2_with fail
          go_roundw
          case rel =>
            refine ⟨k + 1, by omega, by go_num, fun i p q hi hp hq => ?_, _, rfl⟩
            by_cases e : i = k
            · subst e; rw [HX.out] at hp; rw [HY.out] at hq; cases hp; cases hq; exact HE.out
            · exact H.out i p q (by omega) hp hq
          case measure => simp [intOf]; omega
        · have heB : (x != y) = true := by rw [bne_iff_ne]; exact he
          have HE := Lib.hid he
          clear he
          go_wp2_with fail
          go_quiet (fail)
          go_wp2_with fail
          go_ret
          exact ⟨ret_bool (eqL_ne HX.out HY.out HE.out).symm, (by first | exact ⟨_, rfl⟩ | exact ⟨_, World.drewN_drewN _ _ _⟩)⟩
      · go_wp2_with fail
        go_ret
        exact ⟨ret_bool (eqL_true HL.out (fun i x y hx hy => H.out i x y (by have := (List.getElem?_eq_some_iff.1 hx).1; omega) hx hy)).symm, _, rfl⟩
  · have hlenB : ((xs.length : Int) != (ys.length : Int)) = true := by rw [bne_iff_ne]; omega
    have HL := Lib.hid hlen
    clear hlen
    go_enter Try.func18, Try.ntmps18
    go_wp2_with fail
    go_ret
    exact ⟨ret_bool (eqL_len HL.out).symm, 0, rfl⟩
theorem c_eqInt64S (u v : Value) (xs ys : List Int) (w : World) (hu : Ints w u xs) (hv : Ints w v ys) :
    Calls Try.prog 18 #[u, v] w fun e w' => e = .returned (.bool (eqL xs ys)) ∧ Below w.heap.size w w' :=
  (q_eqInt64S u v xs ys w hu hv).mono fun _ _ h => ⟨h.1, h.2.below _⟩


/-! sums of products -/
def dotK (xs ys : List Int) : Nat → Int
  | 0 => 0
  | k + 1 => dotK xs ys k + xs.getD k 0 * ys.getD k 0
/-- the sum of the products of numbers with the same indices -/
def dotZ (xs ys : List Int) : Int := dotK xs ys xs.length % 55441
theorem dotK_next {xs ys : List Int} {k : Nat} {x y : Int} (hx : xs[k]? = some x) (hy : ys[k]? = some y) : dotK xs ys (k + 1) = dotK xs ys k + x * y := by
  simp [dotK, List.getD_eq_getElem?_getD, hx, hy]
theorem nums_at {xs : List Int} (h : xs.all isNum = true) {k : Nat} {x : Int} (hx : xs[k]? = some x) : 0 ≤ x ∧ x < 55441 :=
  isNum_true (List.all_eq_true.1 h x (List.mem_of_getElem? hx))
theorem dotZ_bd (xs ys : List Int) : 0 ≤ dotZ xs ys ∧ dotZ xs ys < 55441 := by unfold dotZ; omega
end Go.Proofs.Ytckcjlophnehmaa
