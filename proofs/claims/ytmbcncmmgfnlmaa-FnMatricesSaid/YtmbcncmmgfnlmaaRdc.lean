/- Walk: reduced bases and determinants by the program: parts. -/
import Derived.Test.YtmbcncmmgfnlmaaBas
namespace Go.Proofs.Ytmbcncmmgfnlmaa
open Go.RowKit
open Fus (F Mx toI ofI toI_bd toI_of ofI_toI ofI_neg finv redR redR_d redR_succ stepR step_some step_none scaleR swapR clearR setR)

theorem getD_of {xs : List Int} {k : Nat} {x : Int} (h : xs[k]? = some x) : xs.getD k 0 = x := by simp [List.getD_eq_getElem?_getD, h]
/-- is the number in column k another one than 0 -/
def hasAt (k : Nat) (xs : List Int) : Bool := xs.getD k 0 != 0
theorem hasAt_zl {c k : Nat} (f : Nat → F) (hk : k < c) : hasAt k (zl c f) = (toI (f k) != 0) := by
  unfold hasAt; rw [getD_of (zl_at f hk)]
theorem c_reduce1 (v : Value) (xs : List Int) (a : Addr) (k : Nat) (w : World) (hv : Ints w v xs) (ha : w.cell? a = some (.int .i64 k)) (hk : k < xs.length) :
    Calls Try.prog 106 #[v, .pointer (some a)] w fun e w' => e = .returned (.bool (hasAt k xs)) ∧ w = w' := by
  obtain ⟨ad, cap, rfl, hl, hc⟩ := hv
  obtain ⟨x, hx⟩ : ∃ x, xs[k]? = some x := ⟨xs[k], by simp [hk]⟩
  obtain ⟨b, off, rfl, hcell⟩ := hc k x hx
  have HX : Hid (hasAt k xs = (x != 0)) := Lib.hid (by unfold hasAt; rw [getD_of hx])
  clear hc hx
  go_enter Try.func106, Try.ntmps106
  go_wp2_with fail
  go_ret
  exact ⟨ret_bool HX.out.symm, rfl⟩
theorem c_IndexFunc_red (v : Value) (m : List (List Int)) (a : Addr) (k : Nat) (w : World) (hv : IntRows w v m) (ha : w.cell? a = some (.int .i64 k)) (hk : ∀ xs ∈ m, k < xs.length) :
    Calls Try.prog 105 #[v, .func (.func 106) #[] #[.pointer (some a)]] w fun e w' =>
      e = .returned (.int .i64 (idxOf (firstAt (hasAt k) m))) ∧ w = w' := by
  obtain ⟨ad, cap, rfl, hl, hc⟩ := hv
  have HC := Lib.hid hc
  have HK := Lib.hid hk
  clear hc hk
  go_enter Try.func105, Try.ntmps105
  go_wp2_with fail
  go_loop [8] (fun i => ∃ j : Nat, j ≤ m.length ∧ i = .int .i64 j ∧ Hid (∀ (i : Nat) x, i < j → m[i]? = some x → hasAt k x = false)) (fun i => m.length - (intOf i).toNat)
  case atStart => exact ⟨0, Nat.zero_le _, rfl, fun i x hi => absurd hi (Nat.not_lt_zero _)⟩
  case round =>
    obtain ⟨j, hj, rfl, H⟩ := hrel
    by_cases hlt : j < m.length
    · obtain ⟨x, hx⟩ : ∃ x, m[j]? = some x := ⟨m[j], by simp [hlt]⟩
      obtain ⟨b, off, u, rfl, hcell, hI⟩ := HC.out j x hx
      have HI := Lib.hid hI
      have HX := Lib.hid hx
      have HKX := Lib.hid (HK.out x (List.mem_of_getElem? hx))
      clear hx hI
      cases hp : hasAt k x
      · have HP := Lib.hid hp
        clear hp
        go_wp2_with fail
        refine (c_reduce1 u x _ k _ HI.out ha HKX.out).mono ?_
        rintro e w1 ⟨rfl, rfl⟩
        rw [HP.out]
        go_wp2_with fail
        go_round
        case rel =>
          refine ⟨j + 1, by omega, by go_num, fun i y hi hy => ?_⟩
          by_cases e : i = j
          · subst e; rw [HX.out] at hy; cases hy; exact HP.out
          · exact H.out i y (by omega) hy
        case measure => simp [intOf]; omega
      · have HP := Lib.hid hp
        clear hp
        go_wp2_with fail
        refine (c_reduce1 u x _ k _ HI.out ha HKX.out).mono ?_
        rintro e w1 ⟨rfl, rfl⟩
        rw [HP.out]
        go_wp2_with fail
        go_ret
        exact ⟨ret_int (by rw [firstAt_some (k := j) H.out HX.out HP.out]; rfl), rfl⟩
    · go_wp2_with fail
      go_ret
      exact ⟨ret_int (by rw [firstAt_none (fun i x hx => H.out i x (by have := (List.getElem?_eq_some_iff.1 hx).1; omega) hx)]; rfl), rfl⟩
/-- where the first row with a number in column k lies, of those from d on -/
theorem first_drop {r c d k : Nat} (f : Mx) (hk : k < c) (hd : d ≤ r) : (∃ p, d ≤ p ∧ p < r ∧ f p k ≠ 0 ∧ (∀ i, d ≤ i → i < p → f i k = 0) ∧ idxOf (firstAt (hasAt k) ((tabF r c f).drop d)) = (p : Int) - d) ∨ ((∀ i, d ≤ i → i < r → f i k = 0) ∧ idxOf (firstAt (hasAt k) ((tabF r c f).drop d)) = -1) := by
  have at' : ∀ i, d + i < r → ((tabF r c f).drop d)[i]? = some (zl c (f (d + i))) := fun i hi => by rw [List.getElem?_drop]; exact tabF_at c f hi
  have len : ((tabF r c f).drop d).length = r - d := by rw [List.length_drop, tabF_length]
  rcases firstAt_cases (hasAt k) ((tabF r c f).drop d) with ⟨n, y, h1, h2, h3, h4⟩ | ⟨h1, h2⟩
  · have hn : n < r - d := by rw [← len]; exact (List.getElem?_eq_some_iff.1 h1).1
    rw [at' n (by omega)] at h1
    cases h1
    rw [hasAt_zl _ hk] at h2
    refine .inl ⟨d + n, by omega, by omega, fun e => ?_, fun i hi hin => ?_, by rw [h4]; show (n : Int) = _; omega⟩
    · rw [e] at h2; simp [Fus.toI_zero] at h2
    · have := h3 (i - d) _ (by omega) (at' (i - d) (by omega))
      rw [hasAt_zl _ hk, show d + (i - d) = i from by omega] at this
      exact toI_zero (by simpa using this)
  · refine .inr ⟨fun i hi hir => ?_, by rw [h2]; rfl⟩
    have := h1 (i - d) _ (at' (i - d) (by omega))
    rw [hasAt_zl _ hk, show d + (i - d) = i from by omega] at this
    exact toI_zero (by simpa using this)
/-- a box of one cell of another type than numbers and rows -/
def Box (w : World) (g : Nat) (T : TypeId) (u : Value) : Prop := w.heap[g]? = some (.cells #[u] T (0, 0))
theorem Box.cell {w : World} {g : Nat} {T : TypeId} {u : Value} (h : Box w g T u) : w.cell? ⟨g, 0, none⟩ = some u := by
  rw [cell_of_row w g 0 _ _ _ h]; rfl
theorem Box.lt {w : World} {g : Nat} {T : TypeId} {u : Value} (h : Box w g T u) : g < w.heap.size := (Array.getElem?_eq_some_iff.1 h).1
theorem Box.frozen {w : World} {g : Nat} {T : TypeId} {u : Value} (h : Box w g T u) : w.frozen? ⟨g, 0, none⟩ = false := by
  unfold Box at h; unfold World.frozen?; simp [h]
theorem Box.new (w : World) (T : TypeId) (u : Value) : Box (w.alloc (.cells #[u] T)) w.heap.size T u := heap_alloc_new w _
theorem Box.keep {w w' : World} {g : Nat} {T : TypeId} {u : Value} (h : Box w g T u) (hb : Below w.heap.size w w') : Box w' g T u := (hb.block g h.lt).trans h
theorem Box.other {w : World} {g : Nat} {T : TypeId} {u : Value} (h : Box w g T u) {a : Addr} (ha : a.block ≠ g) (x : Value) : Box (w.setCell a x) g T u :=
  (Below.heap_setCell _ _ _ _ (fun e => ha e.symm)).trans h
theorem Box.set {w : World} {g : Nat} {T : TypeId} {u : Value} (h : Box w g T u) (x : Value) : Box (w.setCell ⟨g, 0, none⟩ x) g T x := by
  unfold Box at h ⊢
  simp [World.setCell, Array.getElem?_modify, h]
theorem Box.own {w : World} {g : Nat} {T T' : TypeId} {B : Nat} {u v : Value} {us : List Value} (h : Box w g T u) (ho : Own w T' B v us) (hT : T ≠ T') : v.ownBlock ≠ some g := by
  intro e
  rcases ho.2 with ⟨rfl, _⟩ | ⟨g1, cap, cur, rfl, _, hh, _⟩
  · cases e
  · cases e; rw [show w.heap[g1]? = _ from h] at hh; cases hh; exact hT rfl
theorem OwnM.keepBox {w : World} {B g : Nat} {T : TypeId} {v u : Value} {xss : List (List Int)} (h : OwnM w B v xss) (hb : Box w g T u) (h1 : T ≠ 35) (h2 : T ≠ 2) (x : Value) : OwnM (w.setCell ⟨g, 0, none⟩ x) B v xss := by
  obtain ⟨us, ho, hlen, hr, ha⟩ := h
  exact ⟨us, Own.keepOther (a := ⟨g, 0, none⟩) ho (hb.own ho h1) x, hlen, fun i u' xs e1 e2 => Own.keepOther (a := ⟨g, 0, none⟩) (hr i u' xs e1 e2) (hb.own (hr i u' xs e1 e2) h2) x, ha⟩
/-- the rows from d on can be read -/
theorem OwnM.drop {w : World} {B g n cap d cap' : Nat} {xss : List (List Int)} (h : OwnM w B (.slice (some ⟨g, 0, none⟩) n cap) xss) (hd : d ≤ n) (hl : xss.length ≤ 1000000) (hl' : ∀ xs ∈ xss, xs.length ≤ 1000000) : IntRows w (.slice (some ⟨g, d, none⟩) (n - d) cap') (xss.drop d) := by
  have hn := h.len
  subst hn
  refine ⟨some ⟨g, d, none⟩, cap', by rw [List.length_drop], by rw [List.length_drop]; omega, fun i xs hx => ?_⟩
  rw [List.getElem?_drop] at hx
  obtain ⟨u, hu, hI⟩ := h.rowAt hx
  exact ⟨g, d, u, rfl, hu, hI.ints (by have := hl' xs (List.mem_of_getElem? hx); omega)⟩
end Go.Proofs.Ytmbcncmmgfnlmaa
