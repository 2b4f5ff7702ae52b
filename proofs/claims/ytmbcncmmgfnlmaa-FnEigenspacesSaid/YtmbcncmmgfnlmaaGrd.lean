/- Walk: reduced bases and determinants by the program: parts. -/
import Derived.Test.YtmbcncmmgfnlmaaBas
import Derived.BigRegion
namespace Go.Proofs.Ytmbcncmmgfnlmaa
open Go.RowKit
open Fus (F Mx toI ofI toI_bd toI_of ofI_toI ofI_neg finv redR redR_d redR_succ stepR step_some step_none scaleR swapR clearR setR)

theorem getD_of {xs : List Int} {k : Nat} {x : Int} (h : xs[k]? = some x) : xs.getD k 0 = x := by simp [List.getD_eq_getElem?_getD, h]
/-- is the number in column k another one than 0 -/
def hasAt (k : Nat) (xs : List Int) : Bool := xs.getD k 0 != 0
theorem hasAt_zl {c k : Nat} (f : Nat → F) (hk : k < c) : hasAt k (zl c f) = (toI (f k) != 0) := by
  unfold hasAt; rw [getD_of (zl_at f hk)]
theorem c_reduce1 (v : Value) (xs : List Int) (a : Addr) (k : Nat) (w : World) (hv : Ints w v xs) (ha : w.cell? a = some (.int .i64 k)) (hk : k < xs.length) :
    Calls Try.prog 106 #[v, .pointer (some a)] w fun e w' => e = .returned (.bool (hasAt k xs)) ∧ w = w' := by
  obtain ⟨ad, cap, rfl, hl, hc⟩ := hv
  obtain ⟨x, hx⟩ : ∃ x, xs[k]? = some x := ⟨xs[k], by simp [hk]⟩
  obtain ⟨b, off, rfl, hcell⟩ := hc k x hx
  have HX : Hid (hasAt k xs = (x != 0)) := Lib.hid (by unfold hasAt; rw [getD_of hx])
  clear hc hx
  go_enter Try.func106, Try.ntmps106
  go_wp2_with fail
  go_ret
  exact ⟨ret_bool HX.out.symm, rfl⟩
theorem c_IndexFunc_red (v : Value) (m : List (List Int)) (a : Addr) (k : Nat) (w : World) (hv : IntRows w v m) (ha : w.cell? a = some (.int .i64 k)) (hk : ∀ xs ∈ m, k < xs.length) :
    Calls Try.prog 105 #[v, .func (.func 106) #[] #[.pointer (some a)]] w fun e w' =>
      e = .returned (.int .i64 (idxOf (firstAt (hasAt k) m))) ∧ w = w' := by
  obtain ⟨ad, cap, rfl, hl, hc⟩ := hv
  have HC := Lib.hid hc
  have HK := Lib.hid hk
  clear hc hk
  go_enter Try.func105, Try.ntmps105
  go_wp2_with fail
  go_loop [8] (fun i => ∃ j : Nat, j ≤ m.length ∧ i = .int .i64 j ∧ Hid (∀ (i : Nat) x, i < j → m[i]? = some x → hasAt k x = false)) (fun i => m.length - (intOf i).toNat)
  case atStart => exact ⟨0, Nat.zero_le _, rfl, fun i x hi => absurd hi (Nat.not_lt_zero _)⟩
  case round =>
    obtain ⟨j, hj, rfl, H⟩ := hrel
    by_cases hlt : j < m.length
    · obtain ⟨x, hx⟩ : ∃ x, m[j]? = some x := ⟨m[j], by simp [hlt]⟩
      obtain ⟨b, off, u, rfl, hcell, hI⟩ := HC.out j x hx
      have HI := Lib.hid hI
      have HX := Lib.hid hx
      have HKX := Lib.hid (HK.out x (List.mem_of_getElem? hx))
      clear hx hI
      cases hp : hasAt k x
      · have HP := Lib.hid hp
        clear hp
        go_wp2_with fail
        refine (c_reduce1 u x _ k _ HI.out ha HKX.out).mono ?_
        rintro e w1 ⟨rfl, rfl⟩
        rw [HP.out]
        go_wp2_with fail
        go_round
        case rel =>
          refine ⟨j + 1, by omega, by go_num, fun i y hi hy => ?_⟩
          by_cases e : i = j
          · subst e; rw [HX.out] at hy; cases hy; exact HP.out
          · exact H.out i y (by omega) hy
        case measure => simp [intOf]; omega
      · have HP := Lib.hid hp
        clear hp
        go_wp2_with fail
        refine (c_reduce1 u x _ k _ HI.out ha HKX.out).mono ?_
        rintro e w1 ⟨rfl, rfl⟩
        rw [HP.out]
        go_wp2_with fail
        go_ret
        exact ⟨ret_int (by rw [firstAt_some (k := j) H.out HX.out HP.out]; rfl), rfl⟩
    · go_wp2_with fail
      go_ret
      exact ⟨ret_int (by rw [firstAt_none (fun i x hx => H.out i x (by have := (List.getElem?_eq_some_iff.1 hx).1; omega) hx)]; rfl), rfl⟩
/-- where the first row with a number in column k lies, of those from d on -/
theorem first_drop {r c d k : Nat} (f : Mx) (hk : k < c) (hd : d ≤ r) : (∃ p, d ≤ p ∧ p < r ∧ f p k ≠ 0 ∧ (∀ i, d ≤ i → i < p → f i k = 0) ∧ idxOf (firstAt (hasAt k) ((tabF r c f).drop d)) = (p : Int) - d) ∨ ((∀ i, d ≤ i → i < r → f i k = 0) ∧ idxOf (firstAt (hasAt k) ((tabF r c f).drop d)) = -1) := by
  have at' : ∀ i, d + i < r → ((tabF r c f).drop d)[i]? = some (zl c (f (d + i))) := fun i hi => by rw [List.getElem?_drop]; exact tabF_at c f hi
  have len : ((tabF r c f).drop d).length = r - d := by rw [List.length_drop, tabF_length]
  rcases firstAt_cases (hasAt k) ((tabF r c f).drop d) with ⟨n, y, h1, h2, h3, h4⟩ | ⟨h1, h2⟩
  · have hn : n < r - d := by rw [← len]; exact (List.getElem?_eq_some_iff.1 h1).1
    rw [at' n (by omega)] at h1
    cases h1
    rw [hasAt_zl _ hk] at h2
    refine .inl ⟨d + n, by omega, by omega, fun e => ?_, fun i hi hin => ?_, by rw [h4]; show (n : Int) = _; omega⟩
    · rw [e] at h2; simp [Fus.toI_zero] at h2
    · have := h3 (i - d) _ (by omega) (at' (i - d) (by omega))
      rw [hasAt_zl _ hk, show d + (i - d) = i from by omega] at this
      exact toI_zero (by simpa using this)
  · refine .inr ⟨fun i hi hir => ?_, by rw [h2]; rfl⟩
    have := h1 (i - d) _ (at' (i - d) (by omega))
    rw [hasAt_zl _ hk, show d + (i - d) = i from by omega] at this
    exact toI_zero (by simpa using this)
/-- a box of one cell of another type than numbers and rows -/
def Box (w : World) (g : Nat) (T : TypeId) (u : Value) : Prop := w.heap[g]? = some (.cells #[u] T (0, 0))
theorem Box.cell {w : World} {g : Nat} {T : TypeId} {u : Value} (h : Box w g T u) : w.cell? ⟨g, 0, none⟩ = some u := by
  rw [cell_of_row w g 0 _ _ _ h]; rfl
theorem Box.lt {w : World} {g : Nat} {T : TypeId} {u : Value} (h : Box w g T u) : g < w.heap.size := (Array.getElem?_eq_some_iff.1 h).1
theorem Box.frozen {w : World} {g : Nat} {T : TypeId} {u : Value} (h : Box w g T u) : w.frozen? ⟨g, 0, none⟩ = false := by
  unfold Box at h; unfold World.frozen?; simp [h]
theorem Box.new (w : World) (T : TypeId) (u : Value) : Box (w.alloc (.cells #[u] T)) w.heap.size T u := heap_alloc_new w _
theorem Box.keep {w w' : World} {g : Nat} {T : TypeId} {u : Value} (h : Box w g T u) (hb : Below w.heap.size w w') : Box w' g T u := (hb.block g h.lt).trans h
theorem Box.other {w : World} {g : Nat} {T : TypeId} {u : Value} (h : Box w g T u) {a : Addr} (ha : a.block ≠ g) (x : Value) : Box (w.setCell a x) g T u :=
  (Below.heap_setCell _ _ _ _ (fun e => ha e.symm)).trans h
theorem Box.set {w : World} {g : Nat} {T : TypeId} {u : Value} (h : Box w g T u) (x : Value) : Box (w.setCell ⟨g, 0, none⟩ x) g T x := by
  unfold Box at h ⊢
  simp [World.setCell, Array.getElem?_modify, h]
theorem Box.own {w : World} {g : Nat} {T T' : TypeId} {B : Nat} {u v : Value} {us : List Value} (h : Box w g T u) (ho : Own w T' B v us) (hT : T ≠ T') : v.ownBlock ≠ some g := by
  intro e
  rcases ho.2 with ⟨rfl, _⟩ | ⟨g1, cap, cur, rfl, _, hh, _⟩
  · cases e
  · cases e; rw [show w.heap[g1]? = _ from h] at hh; cases hh; exact hT rfl
theorem OwnM.keepBox {w : World} {B g : Nat} {T : TypeId} {v u : Value} {xss : List (List Int)} (h : OwnM w B v xss) (hb : Box w g T u) (h1 : T ≠ 35) (h2 : T ≠ 2) (x : Value) : OwnM (w.setCell ⟨g, 0, none⟩ x) B v xss := by
  obtain ⟨us, ho, hlen, hr, ha⟩ := h
  exact ⟨us, Own.keepOther (a := ⟨g, 0, none⟩) ho (hb.own ho h1) x, hlen, fun i u' xs e1 e2 => Own.keepOther (a := ⟨g, 0, none⟩) (hr i u' xs e1 e2) (hb.own (hr i u' xs e1 e2) h2) x, ha⟩
/-- the rows from d on can be read -/
theorem OwnM.drop {w : World} {B g n cap d cap' : Nat} {xss : List (List Int)} (h : OwnM w B (.slice (some ⟨g, 0, none⟩) n cap) xss) (hd : d ≤ n) (hl : xss.length ≤ 1000000) (hl' : ∀ xs ∈ xss, xs.length ≤ 1000000) : IntRows w (.slice (some ⟨g, d, none⟩) (n - d) cap') (xss.drop d) := by
  have hn := h.len
  subst hn
  refine ⟨some ⟨g, d, none⟩, cap', by rw [List.length_drop], by rw [List.length_drop]; omega, fun i xs hx => ?_⟩
  rw [List.getElem?_drop] at hx
  obtain ⟨u, hu, hI⟩ := h.rowAt hx
  exact ⟨g, d, u, rfl, hu, hI.ints (by have := hl' xs (List.mem_of_getElem? hx); omega)⟩
end Go.Proofs.Ytmbcncmmgfnlmaa

/- Walk: reduced bases and determinants by the program. -/
namespace Go.Proofs.Ytmbcncmmgfnlmaa
open Go.RowKit
attribute [local go_sem ↓] Go.wp_at_zero Go.wp_at_succ
open Fus (F Mx toI ofI toI_bd toI_of ofI_toI ofI_neg ofI_mul finv redR redR_d redR_succ stepR step_some step_none scaleR swapR clearR setR)

/-- the determinant, told by the reduction -/
def detF (r c : Nat) (f : Mx) : Int := if r = 0 then 1 else toI (redR r f c).det
/-- the integer in the cell that a pointer names -/
def cellInt (p : Value) (w : World) : Nat := match p with | .pointer (some a) => (match w.cell? a with | some (.int _ n) => n.toNat | _ => 0) | _ => 0
theorem cellInt_eq {w : World} {a : Addr} {k : Nat} (h : w.cell? a = some (.int .i64 k)) : cellInt (.pointer (some a)) w = k := by unfold cellInt; simp only [h]; omega
attribute [irreducible] cellInt
theorem gen_world {P : Program} {c : Code} {Q : Exit → Act → World → Prop} {a : Act} {W : World} (h : ∀ w, w = W → Code.wp P c Q a w) : Code.wp P c Q a W := h W rfl
theorem box_next (w : World) (k : Nat) : Box (w.alloc (.cells #[.int .i64 ((k : Int) + 1)] 3)) w.heap.size 3 (.int .i64 ((k + 1 : Nat) : Int)) := by
  rw [show ((k + 1 : Nat) : Int) = (k : Int) + 1 from by omega]; exact Box.new _ _ _
theorem cell_next (w : World) (k : Nat) : cellInt (.pointer (some ⟨w.heap.size, 0, none⟩)) (w.alloc (.cells #[.int .i64 ((k : Int) + 1)] 3)) = k + 1 := cellInt_eq (box_next w k).cell
/-- row d is multiplied in the first columns -/
def scTo (h : Mx) (d : Nat) (v : F) (m : Nat) : Mx := fun a b => if a = d ∧ b < m then h a b * v else h a b
theorem scTo_zero (h : Mx) (d : Nat) (v : F) : scTo h d v 0 = h := by funext a b; simp [scTo]
theorem scTo_next (r c : Nat) (h : Mx) (d : Nat) (v : F) (m : Nat) : tabF r c (fun a b => if a = d ∧ b = m then h d m * v else scTo h d v m a b) = tabF r c (scTo h d v (m + 1)) := tabF_congr fun a b _ _ => by
  simp only [scTo]
  by_cases e1 : a = d
  · subst e1
    by_cases e2 : b = m
    · subst e2; simp
    · by_cases e3 : b < m
      · simp [e2, e3]; intro _; omega
      · simp [e2, e3]; intro _; omega
  · simp [e1]
theorem scTo_end (r c : Nat) (h : Mx) (d : Nat) (v : F) : tabF r c (scTo h d v c) = tabF r c (scaleR h d v) := tabF_congr fun a b _ hb => by
  simp only [scTo, scaleR]
  by_cases e : a = d
  · rw [if_pos ⟨e, hb⟩, if_pos e]
  · rw [if_neg (fun h => e h.1), if_neg e]
/-- row i is cleared in the first columns -/
def clPart (h : Mx) (d k i m : Nat) : Mx := fun a b => if a = i ∧ b < m then h i b - h i k * h d b else clrTo h d k i a b
theorem clPart_zero (h : Mx) (d k i : Nat) : clPart h d k i 0 = clrTo h d k i := by funext a b; simp [clPart]
theorem clPart_next (r c : Nat) (h : Mx) (d k i m : Nat) : tabF r c (fun a b => if a = i ∧ b = m then h i m - h i k * h d m else clPart h d k i m a b) = tabF r c (clPart h d k i (m + 1)) := tabF_congr fun a b _ _ => by
  simp only [clPart]
  by_cases e1 : a = i
  · subst e1
    by_cases e2 : b = m
    · subst e2; simp
    · by_cases e3 : b < m
      · simp [e2, e3]; intro _; omega
      · simp [e2, e3]; intro _; omega
  · simp [e1]
theorem clPart_end (r c : Nat) (h : Mx) {d k i : Nat} (hi : i ≠ d) : tabF r c (clPart h d k i c) = tabF r c (clrTo h d k (i + 1)) := tabF_congr fun a b _ hb => by
  simp only [clPart, clrTo, clearR]
  by_cases e : a = i
  · subst e; rw [if_pos ⟨rfl, hb⟩, if_pos (by omega), if_neg hi]
  · rw [if_neg (fun h => e h.1)]
    by_cases e2 : a < i
    · simp only [if_pos e2, if_pos (show a < i + 1 from by omega)]
    · simp only [if_neg e2, if_neg (show ¬ a < i + 1 from by omega)]
theorem clrTo_same (r c : Nat) (h : Mx) {d k i : Nat} (hz : h i k = 0) : tabF r c (clrTo h d k i) = tabF r c (clrTo h d k (i + 1)) := tabF_congr fun a b _ hb => by
  simp only [clrTo, clearR]
  by_cases e : a = i
  · subst e; rw [if_neg (by omega), if_pos (by omega)]; split
    · rfl
    · rw [hz]; grind
  · by_cases e2 : a < i
    · simp only [if_pos e2, if_pos (show a < i + 1 from by omega)]
    · simp only [if_neg e2, if_neg (show ¬ a < i + 1 from by omega)]
theorem swapR_self (f : Mx) (d : Nat) : swapR f d d = f := by funext i j; simp only [swapR]; split <;> simp_all
theorem swap_tab {r c p d : Nat} (f : Mx) : ((tabF r c f).set d (zl c (f p))).set p (zl c (f d)) = tabF r c (swapR f d p) := by
  rw [tabF_set, tabF_set]
  refine tabF_congr fun a b _ _ => ?_
  simp only [setR, swapR]
  by_cases e : a = d
  · by_cases e2 : a = p
    · simp [e, ← e2]
    · simp [e]; intro e3; omega
  · simp [e]

set_option maxRecDepth 100000 in
set_option maxHeartbeats 8000000 in
theorem c_reduce (v : Value) (r c : Nat) (f : Mx) (w : World) (hv : IntRows w v (tabF r c f)) (hc1 : 0 < c) (hc2 : c ≤ 1000) (hr : r ≤ 1000) :
    Calls Try.prog 60 #[v] w (RetMC (basF r c f, detF r c f) w) := by
  obtain ⟨ad, capv, hveq, _, hc⟩ := hv
  rw [tabF_length] at hveq
  subst hveq
  have HC := Lib.hid hc
  clear hc
  go_enter Try.func60, Try.ntmps60
  go_wp2_with fail
  go_loopw [4, 21] (fun s i wr => ∃ (k : Nat), k ≤ r ∧ i = .int .i64 k ∧ OwnM wr w.heap.size s (tabF k c f) ∧ Below w.heap.size w wr) (fun _ i _ => r - (intOf i).toNat)
  case atStart => exact ⟨0, Nat.zero_le _, rfl, ownM_empty _ _ (Nat.le_refl _), below_alloc _ _⟩
  case round =>
    obtain ⟨k, hk, rfl, hown, hbel⟩ := hrel
    by_cases hlt : k < r
    · obtain ⟨b, off, q, rfl, hcell, hI⟩ := HC.out k _ (tabF_at c f hlt)
      have hc1' := bcell hbel hcell
      have HI := Lib.hid (hI.keep hbel)
      have HOW := Lib.hid hown
      have HB := Lib.hid hbel
      have hsz := hbel.size
      clear hcell hI hown hbel
      go_wp2_with fail
      refine (c_Clone q _ _ HI.out (by rw [zl_length]; exact hc1) (by rw [zl_length]; omega)).mono ?_
      rintro e w1 ⟨z, rfl, ho1, hb1⟩
      obtain ⟨p5, n5, c5, rfl⟩ := ho1.slice
      have HO1 := Lib.hid ho1
      have HB1 := Lib.hid hb1
      have hsz1 := hb1.size
      clear ho1 hb1 hc1'
      go_wp2_with (at_builtin; refine wp_pushM HOW.out HB1.out HO1.out rfl _ _ rfl rfl rfl (by first | with_reducible rfl | simp) (by omega) (by rw [tabF_length]; omega) ?_; intro v' w3 ho3 hb3)
      go_roundw
      case rel => exact ⟨k + 1, by omega, by go_num, by rw [tabF_snoc]; exact ho3, (HB.out.trans (HB1.out.mono hsz)).trans hb3⟩
      case measure => simp [intOf]; omega
    · obtain rfl : r = k := by omega
      have hsh := hown.shape
      rw [tabF_length] at hsh
      by_cases hr0 : r = 0
      · obtain rfl : 0 = r := hr0.symm
        have e0 : basF 0 c f = [] := by
          have := (redR_d 0 f c).1
          unfold basF
          rw [show (redR 0 f c).d = 0 from by omega]; rfl
        have HE := Lib.hid e0
        clear e0
        have HO := Lib.hid hown
        have HB := Lib.hid hbel
        have hsz := hbel.size
        rcases hsh with ⟨rfl, _⟩ | ⟨g, cap, rfl, _, _⟩
        · clear hown hbel
          go_wp2_with fail
          obtain ⟨wo, rfl⟩ : ∃ wo : World, wo = wr := ⟨_, rfl⟩
          go_loopw [5, 8, 9] (fun det d pc wr => det = .int .i64 1 ∧ d = .int .i64 0 ∧ pc = .pointer (some ⟨wo.heap.size, 0, none⟩) ∧ wr = wo.alloc (.cells #[.int .i64 0] 3)) (fun _ _ _ _ => 0)
          case atStart => exact ⟨rfl, rfl, rfl, rfl⟩
          case round =>
            obtain ⟨rfl, rfl, rfl, rfl⟩ := hrel
            go_wp2_with fail
            go_quiet (fail)
            go_wp2_with fail
            go_ret2
            exact ⟨_, rfl, by rw [HE.out]; exact OwnM.nil _ _, (HB.out.alloc hsz _).trans (below_toDrewN _ _ _)⟩
        · have hcap := hown.capLe
          clear hown hbel
          go_wp2_with fail
          obtain ⟨wo, rfl⟩ : ∃ wo : World, wo = wr := ⟨_, rfl⟩
          go_loopw [5, 8, 9] (fun det d pc wr => det = .int .i64 1 ∧ d = .int .i64 0 ∧ pc = .pointer (some ⟨wo.heap.size, 0, none⟩) ∧ wr = wo.alloc (.cells #[.int .i64 0] 3)) (fun _ _ _ _ => 0)
          case atStart => exact ⟨rfl, rfl, rfl, rfl⟩
          case round =>
            obtain ⟨rfl, rfl, rfl, rfl⟩ := hrel
            go_wp2_with fail
            go_quiet (fail)
            go_wp2_with fail
            go_ret2
            exact ⟨_, rfl, by rw [HE.out]; exact (HO.out.keep (below_alloc _ _)).drewN _, (HB.out.alloc hsz _).trans (below_toDrewN _ _ _)⟩
      · obtain ⟨g, cap, rfl, hg1, hg2⟩ : ∃ g cap, u4 = .slice (some ⟨g, 0, none⟩) r cap ∧ w.heap.size ≤ g ∧ g < wr.heap.size := by
          rcases hsh with ⟨_, h⟩ | h
          · have := congrArg List.length h; rw [tabF_length] at this; exact absurd this hr0
          · exact h
        have hcap := hown.capLe
        have hrp : 0 < r := by omega
        have HO := Lib.hid hown
        have HB := Lib.hid hbel
        have hsz := hbel.size
        clear hsh hown hbel hr0
        go_wp2_with fail
        obtain ⟨wo, rfl⟩ : ∃ wo : World, wo = wr := ⟨_, rfl⟩
        go_loopw [5, 8, 9] (fun det d pc wr => ∃ (k : Nat) (f' : Mx) (d' : Nat) (t : F) (gc : Nat), k ≤ c ∧ det = .int .i64 (toI t) ∧ d = .int .i64 d' ∧ pc = .pointer (some ⟨gc, 0, none⟩) ∧ d' ≤ r ∧ Hid (redR r f k = ⟨f', d', t⟩) ∧ Box wr gc 3 (.int .i64 k) ∧ w.heap.size ≤ gc ∧ OwnM wr w.heap.size (.slice (some ⟨g, 0, none⟩) r cap) (tabF r c f') ∧ Below w.heap.size w wr) (fun _ _ pc wr => c - cellInt pc wr)
        case atStart =>
          exact ⟨0, f, 0, 1, wo.heap.size, by omega, by rw [Fus.toI_one], rfl, rfl, by omega, rfl, Box.new _ _ _, hsz, HO.out.keep (below_alloc _ _), HB.out.trans ((below_alloc _ _).mono hsz)⟩
        case round =>
          obtain ⟨k, f', d, t, gc, hk, rfl, rfl, rfl, hd, HS, hbox, hgc, hown, hbel⟩ := hrel
          clear HO HB
          have hrI : (0 : Int) < (r : Int) := by omega
          have hdI0 : (0 : Int) ≤ (d : Int) := by omega
          have hkI0 : (0 : Int) ≤ (k : Int) := by omega
          obtain ⟨g0, c0, hcell0, _, _, _, _⟩ := hown.rowK (k := 0) (tabF_at c f' hrp) (by rw [zl_length]; exact hc1)
          rw [zl_length] at hcell0
          have hcol := hbox.cell
          have HBX := Lib.hid hbox
          have HK0 : Hid (cellInt (.pointer (some ⟨gc, 0, none⟩)) wr = k) := Lib.hid (cellInt_eq hcol)
          have HO := Lib.hid hown
          have HB := Lib.hid hbel
          have hsz := hbel.size
          clear hown hbel hbox
          by_cases hkc : k < c
          · have hkI : (k : Int) < (c : Int) := by omega
            by_cases hdr : d < r
            · have hdI : (d : Int) < (r : Int) := by omega
              have hdc : (d : Int) < (cap : Int) := by omega
              go_wp2_with fail
              go_quiet (fail)
              go_wp2_with fail
              have HO := Lib.hid (HO.out.drewN nq)
              have HBX : Hid (Box (wr.drewN nq) gc 3 (.int .i64 k)) := Lib.hid HBX.out
              have HB := Lib.hid (HB.out.trans (below_toDrewN nq w.heap.size wr))
              have hsz : w.heap.size ≤ (wr.drewN nq).heap.size := hsz
              have hcol : (wr.drewN nq).cell? ⟨gc, 0, none⟩ = some (.int .i64 k) := hcol
              generalize wr.drewN nq = wz at *
              have HI : Hid (IntRows wz (.slice (some ⟨g, d, none⟩) (r - d) (cap - d)) ((tabF r c f').drop d)) := Lib.hid ((HO.out).drop hd (by rw [tabF_length]; omega) (fun xs hx => by rw [tabF_mem hx]; omega))
              have HL : Hid (∀ xs ∈ (tabF r c f').drop d, k < xs.length) := Lib.hid (fun xs hx => by rw [tabF_mem (List.mem_of_mem_drop hx)]; exact hkc)
              refine (c_IndexFunc_red _ _ _ k _ HI.out hcol HL.out).mono ?_
              rintro e w1 ⟨rfl, rfl⟩
              clear HI HL
              rcases first_drop (c := c) f' hkc hd with ⟨p, hdp, hpr, hne, hz, hidx⟩ | ⟨hz, hidx⟩
              · rw [hidx]
                have HST : Hid (stepR r k ⟨f', d, t⟩ = ⟨clearR (scaleR (swapR f' d p) d (finv (f' p k))) d k, d + 1, (if p = d then t else -t) * f' p k⟩) := Lib.hid (step_some (s := ⟨f', d, t⟩) hdp hpr hne hz)
                clear hidx hz
                by_cases hpd : p = d
                case' pos =>
                  obtain rfl : d = p := hpd.symm
                  rw [Int.sub_self]
                  go_wp2_with fail
                  refine gen_world (fun wx hwx => ?_)
                  have HO : Hid (OwnM wx w.heap.size (.slice (some ⟨g, 0, none⟩) r cap) (tabF r c f')) := Lib.hid (by rw [hwx]; exact HO.out)
                  have HBX : Hid (Box wx gc 3 (.int .i64 k)) := Lib.hid (by rw [hwx]; exact HBX.out)
                  have HB : Hid (Below w.heap.size w wx) := Lib.hid (by rw [hwx]; exact HB.out)
                  have HST : Hid (redR r f (k + 1) = ⟨clearR (scaleR f' d (finv (f' d k))) d k, d + 1, t * f' d k⟩) := Lib.hid (by rw [redR_succ, HS.out, HST.out, swapR_self]; simp only [if_true])
                  clear hwx hcell0 hcol hpd hne HS hpr
                  generalize f' = h at *
                  generalize t = T at *
                case' neg =>
                  have hpI : (d : Int) < (p : Int) := by omega
                  have hpI2 : (p : Int) < (r : Int) := by omega
                  have hw1 : IntKind.i64.wrap ((d : Int) + ((p : Int) - (d : Int))) = (p : Int) := (IntWalk.i64_in _ (by omega)).trans (by omega)
                  have hp0 : (0 : Int) ≤ (p : Int) := by omega
                  obtain ⟨gd, cd, hcelld, hod, hgdg, _, _⟩ := HO.out.rowK (k := d) (tabF_at c f' (by omega)) (by rw [zl_length]; exact hc1)
                  obtain ⟨gp, cp, hcellp, hop, hgpg, _, _⟩ := HO.out.rowK (k := p) (tabF_at c f' hpr) (by rw [zl_length]; exact hc1)
                  rw [zl_length] at hcelld hod hcellp hop
                  have hfrd := HO.out.frozenAt d
                  have hfrp := HO.out.frozenAt p
                  have hnI : ¬ (p : Int) = (d : Int) := by omega
                  have hnI2 : ¬ (d : Int) = (p : Int) := by omega
                  clear hod hop
                  go_wp2_with fail
                  go_region
                  have hw2 : IntKind.i64.wrap (-toI t) = -toI t := IntWalk.i64_in _ (by have := toI_bd t; omega)
                  have HM : Hid (-toI t % 55441 = toI (-t)) := Lib.hid (toI_of (by rw [ofI_neg, ofI_toI])).symm
                  go_wp2_with fail
                  refine (c_mod _ _).mono ?_
                  rintro e w1 ⟨rfl, rfl⟩
                  rw [HM.out]
                  go_wp2_with fail
                  refine gen_world (fun wx hwx => ?_)
                  have HBX : Hid (Box wx gc 3 (.int .i64 k)) := Lib.hid (by
                    rw [hwx]
                    have hg : g ≠ gc := fun e => by obtain ⟨us, ho, _⟩ := HO.out; exact Box.own HBX.out ho (by decide) (by rw [e]; rfl)
                    exact Box.other (Box.other (w := wz) HBX.out hg _) hg _)
                  have HB : Hid (Below w.heap.size w wx) := Lib.hid (by rw [hwx]; exact (below_set (below_set HB.out hg1) hg1).drew)
                  have HO : Hid (OwnM wx w.heap.size (.slice (some ⟨g, 0, none⟩) r cap) (tabF r c (swapR f' d p))) := Lib.hid (by
                    rw [hwx, ← swap_tab]
                    exact OwnM.swap (w := wz) HO.out hcelld hcellp (tabF_at c f' (by omega)) (tabF_at c f' hpr) (by omega))
                  have HST : Hid (redR r f (k + 1) = ⟨clearR (scaleR (swapR f' d p) d (finv (swapR f' d p d k))) d k, d + 1, -t * swapR f' d p d k⟩) := Lib.hid (by
                    rw [redR_succ, HS.out, HST.out, if_neg hpd]; simp [swapR])
                  clear hwx hcell0 hcol hpd hne hcelld hcellp hfrd hfrp hw1 hnI hnI2 hw2 hgdg hgpg HS HM hpr hpI hpI2 hp0
                  generalize swapR f' d p = h at *
                  generalize -t = T at *
                all_goals
                  obtain ⟨gd, cd, hcelld, hod, hgdg, _, _⟩ := HO.out.rowK (k := d) (tabF_at c h hdr) (by rw [zl_length]; exact hc1)
                  rw [zl_length] at hcelld hod
                  have hx := Own.cell hod (i := k) (u := vi (toI (h d k))) (by rw [List.getElem?_map, zl_at _ hkc]; rfl)
                  have hcol := HBX.out.cell
                  have hTb := toI_bd T
                  have hxb := toI_bd (h d k)
                  have hpr := prod_bd hTb.1 hTb.2 hxb.1 hxb.2
                  obtain ⟨hpr1, hpr2⟩ := hpr
                  obtain ⟨hx1, hx2⟩ := hxb
                  have HD : Hid (toI T * toI (h d k) % 55441 = toI (T * h d k)) := Lib.hid (toI_of (by rw [ofI_mul, ofI_toI, ofI_toI])).symm
                  have HI : Hid (1 * iinv (toI (h d k)) % 55441 = toI (finv (h d k))) := Lib.hid (by rw [iinv_toI]; have := toI_bd (finv (h d k)); omega)
                  have hw1 : IntKind.i64.wrap (toI T * toI (h d k)) = toI T * toI (h d k) := IntWalk.i64_in _ (by omega)
                  have hw2 : (toI T * toI (h d k)).tmod 55441 = toI T * toI (h d k) % 55441 := Int.tmod_eq_emod_of_nonneg hpr1
                  clear hod hTb
                  go_quiet (fail)
                  go_wp2_with fail
                  refine (c_divide 1 (toI (h d k)) _ (by omega) (by omega) hx1 hx2).mono ?_
                  rintro e w1 ⟨rfl, rfl⟩
                  rw [HI.out]
                  go_wp2_with fail
                  go_loopw [92] (fun i wr => ∃ j : Nat, j ≤ c ∧ i = .int .i64 j ∧ OwnM wr w.heap.size (.slice (some ⟨g, 0, none⟩) r cap) (tabF r c (scTo h d (finv (h d k)) j)) ∧ Box wr gc 3 (.int .i64 k) ∧ Below w.heap.size w wr) (fun i _ => c - (intOf i).toNat)
                  case atStart => exact ⟨0, Nat.zero_le _, rfl, by rw [scTo_zero]; exact HO.out.drewN _, HBX.out, HB.out.trans (below_toDrewN _ _ _)⟩
                  case round =>
                    obtain ⟨j, hj, rfl, hown, hbox, hbel⟩ := hrel
                    clear HO HBX HB hcelld hx hcol hw1 hw2 hpr1 hpr2 hx1 hx2 HI hgdg
                    by_cases hjc : j < c
                    · have hjI : (j : Int) < (c : Int) := by omega
                      have hjI0 : (0 : Int) ≤ (j : Int) := by omega
                      have ej : scTo h d (finv (h d k)) j d j = h d j := by simp [scTo]
                      obtain ⟨gk, ck, e1, e2, e3, e4, e5, e6, e7⟩ := hown.entryI (tabF_at c _ hdr) (zl_at _ hjc)
                      rw [zl_length] at e1 e7
                      rw [ej] at e2
                      have hgc2 : gk ≠ gc := fun e => Box.own hbox e7 (by decide) (by rw [e]; rfl)
                      have HBX := Lib.hid hbox
                      have HB := Lib.hid hbel
                      have HU : Hid (OwnM (wr.setCell ⟨gk, j, none⟩ (vi (toI (h d j * finv (h d k))))) w.heap.size (.slice (some ⟨g, 0, none⟩) r cap) (tabF r c (scTo h d (finv (h d k)) (j + 1)))) := Lib.hid (by
                        have := e6 (toI (h d j * finv (h d k)))
                        rw [tabF_upd, scTo_next] at this
                        exact this)
                      have hxb := toI_bd (h d j)
                      have hyb := toI_bd (finv (h d k))
                      have hpr := prod_bd hxb.1 hxb.2 hyb.1 hyb.2
                      obtain ⟨hpr1, hpr2⟩ := hpr
                      have hw1 : IntKind.i64.wrap (toI (h d j) * toI (finv (h d k))) = toI (h d j) * toI (finv (h d k)) := IntWalk.i64_in _ (by omega)
                      have hw2 : (toI (h d j) * toI (finv (h d k))).tmod 55441 = toI (h d j) * toI (finv (h d k)) % 55441 := Int.tmod_eq_emod_of_nonneg hpr1
                      have HV : Hid (toI (h d j) * toI (finv (h d k)) % 55441 = toI (h d j * finv (h d k))) := Lib.hid (toI_of (by rw [ofI_mul, ofI_toI, ofI_toI])).symm
                      clear hown hbox hbel e6 e7 ej hxb hyb
                      go_wp2_with fail
                      go_region
                      go_wp2_with fail
                      go_roundw
                      case rel => exact ⟨j + 1, by omega, by go_num, by rw [HV.out]; exact HU.out, Box.other (w := wr) HBX.out hgc2 _, (below_set (w1 := wr) HB.out e4).drew⟩
                      case measure => simp [intOf]; omega
                    · obtain rfl : c = j := by omega
                      rw [scTo_end] at hown
                      have HO := Lib.hid hown
                      have HBX := Lib.hid hbox
                      have HB := Lib.hid hbel
                      clear hown hbox hbel
                      generalize scaleR h d (finv (h d k)) = h2 at *
                      go_wp2_with fail
                      go_loopw [114] (fun i wr => ∃ i' : Nat, i' ≤ r ∧ i = .int .i64 i' ∧ OwnM wr w.heap.size (.slice (some ⟨g, 0, none⟩) r cap) (tabF r c (clrTo h2 d k i')) ∧ Box wr gc 3 (.int .i64 k) ∧ Below w.heap.size w wr) (fun i _ => r - (intOf i).toNat)
                      case atStart => exact ⟨0, Nat.zero_le _, rfl, by rw [clrTo_zero]; exact HO.out, HBX.out, HB.out⟩
                      case round =>
                        obtain ⟨i, hi, rfl, hown, hbox, hbel⟩ := hrel
                        clear HO HBX HB
                        by_cases hlti : i < r
                        · have hi0 : (0 : Int) ≤ (i : Int) := by omega
                          have hi1 : (i : Int) < (r : Int) := by omega
                          obtain ⟨gi, ci, e1, e7, e5, e4, _⟩ := hown.rowK (k := i) (tabF_at c _ hlti) (by rw [zl_length]; exact hc1)
                          rw [zl_length] at e1 e7
                          rw [clrTo_row h2 d k i i (Nat.le_refl _)] at e7
                          have hcol := hbox.cell
                          have hx := Own.cell e7 (i := k) (u := vi (toI (h2 i k))) (by rw [List.getElem?_map, zl_at _ hkc]; rfl)
                          have hgc2 : gi ≠ gc := fun e => Box.own hbox e7 (by decide) (by rw [e]; rfl)
                          have HO := Lib.hid hown
                          have HBX := Lib.hid hbox
                          have HB := Lib.hid hbel
                          clear hown hbox hbel e7
                          by_cases hid : i = d
                          · have hidB : ((i : Int) == (d : Int)) = true := by simp [hid]
                            have HN : Hid (OwnM wr w.heap.size (.slice (some ⟨g, 0, none⟩) r cap) (tabF r c (clrTo h2 d k (i + 1)))) := Lib.hid (by
                              have := HO.out; rw [hid] at this ⊢; rw [clrTo_skip]; exact this)
                            clear hid
                            go_wp2_with fail
                            go_roundw
                            case rel => exact ⟨i + 1, by omega, by go_num, HN.out, HBX.out, HB.out⟩
                            case measure => simp [intOf]; omega
                          · have hidB : ((i : Int) == (d : Int)) = false := by rw [beq_eq_false_iff_ne]; omega
                            by_cases hz : h2 i k = 0
                            · have HN : Hid (OwnM wr w.heap.size (.slice (some ⟨g, 0, none⟩) r cap) (tabF r c (clrTo h2 d k (i + 1)))) := Lib.hid (by
                                rw [← clrTo_same r c h2 hz]; exact HO.out)
                              rw [hz, Fus.toI_zero] at hx
                              clear hid hz
                              go_wp2_with fail
                              go_roundw
                              case rel => exact ⟨i + 1, by omega, by go_num, HN.out, HBX.out, HB.out⟩
                              case measure => simp [intOf]; omega
                            · have hzB : (toI (h2 i k) == 0) = false := by simpa using fun e => hz (toI_zero e)
                              clear hz
                              go_wp2_with fail
                              go_loopw [135] (fun j wr => ∃ j' : Nat, j' ≤ c ∧ j = .int .i64 j' ∧ OwnM wr w.heap.size (.slice (some ⟨g, 0, none⟩) r cap) (tabF r c (clPart h2 d k i j')) ∧ wr.cell? ⟨g, i, none⟩ = some (.slice (some ⟨gi, 0, none⟩) c ci) ∧ Box wr gc 3 (.int .i64 k) ∧ Below w.heap.size w wr) (fun j _ => c - (intOf j).toNat)
                              case atStart => exact ⟨0, Nat.zero_le _, rfl, by rw [clPart_zero]; exact HO.out, e1, HBX.out, HB.out⟩
                              case round =>
                                obtain ⟨j, hj, rfl, hown, hcelli, hbox, hbel⟩ := hrel
                                clear HO HBX HB hx hcol e1 hzB hidB
                                by_cases hjc : j < c
                                · have hjI : (j : Int) < (c : Int) := by omega
                                  have hjI0 : (0 : Int) ≤ (j : Int) := by omega
                                  have ej : clPart h2 d k i j i j = h2 i j := by simp [clPart, clrTo]
                                  have ed : clPart h2 d k i j d j = h2 d j := by
                                    simp only [clPart]; rw [if_neg (fun h => hid h.1.symm), clrTo_piv]
                                  obtain ⟨gk, ck, f1, f2, f3, f4, f5, f6, _⟩ := hown.entryI (tabF_at c _ hlti) (zl_at _ hjc)
                                  obtain ⟨gd, cd, d1, d2, _, _, _, _, _⟩ := hown.entryI (tabF_at c _ hdr) (zl_at _ hjc)
                                  rw [zl_length] at f1 d1
                                  rw [hcelli] at f1
                                  cases f1
                                  rw [ej] at f2
                                  rw [ed] at d2
                                  have HBX := Lib.hid hbox
                                  have HB := Lib.hid hbel
                                  have HU : Hid (OwnM (wr.setCell ⟨gi, j, none⟩ (vi (toI (h2 i j - h2 i k * h2 d j)))) w.heap.size (.slice (some ⟨g, 0, none⟩) r cap) (tabF r c (clPart h2 d k i (j + 1)))) := Lib.hid (by
                                    have := f6 (toI (h2 i j - h2 i k * h2 d j))
                                    rw [tabF_upd, clPart_next] at this
                                    exact this)
                                  have HCI : Hid ((wr.setCell ⟨gi, j, none⟩ (vi (toI (h2 i j - h2 i k * h2 d j)))).cell? ⟨g, i, none⟩ = some (.slice (some ⟨gi, 0, none⟩) c ci)) := Lib.hid (by
                                    rw [World.cell?_setCell_other _ _ _ _ (fun e => f5 (by cases e; rfl))]; exact hcelli)
                                  have hxb := toI_bd (h2 i j)
                                  have hyb := toI_bd (h2 d j)
                                  have hzb := toI_bd (h2 i k)
                                  have hpr := prod_bd hzb.1 hzb.2 hyb.1 hyb.2
                                  obtain ⟨hpr1, hpr2⟩ := hpr
                                  have hw1 : IntKind.i64.wrap (toI (h2 i k) * toI (h2 d j)) = toI (h2 i k) * toI (h2 d j) := IntWalk.i64_in _ (by omega)
                                  have hw2 : IntKind.i64.wrap (toI (h2 i j) - toI (h2 i k) * toI (h2 d j)) = toI (h2 i j) - toI (h2 i k) * toI (h2 d j) := IntWalk.i64_in _ (by omega)
                                  have HV : Hid ((toI (h2 i j) - toI (h2 i k) * toI (h2 d j)) % 55441 = toI (h2 i j - h2 i k * h2 d j)) := Lib.hid (toI_of (by rw [Fus.ofI_sub, ofI_mul, ofI_toI, ofI_toI, ofI_toI])).symm
                                  clear hown hbox hbel f6 ej ed hxb hyb hzb hcelli
                                  go_wp2_with fail
                                  go_region_with (go_at_call 97; refine (c_mod _ _).mono ?_; rintro e w' ⟨rfl, rfl⟩; rw [HV.out])
                                  all_goals
                                    go_wp2_with fail
                                    go_roundw
                                    case rel => exact ⟨j + 1, by omega, by go_num, HU.out, HCI.out, Box.other (w := wr) HBX.out hgc2 _, (below_set (w1 := wr) HB.out f4).drew⟩
                                    case measure => simp [intOf]; omega
                                · obtain rfl : c = j := by omega
                                  rw [clPart_end r c h2 hid] at hown
                                  have HO := Lib.hid hown
                                  have HBX := Lib.hid hbox
                                  have HB := Lib.hid hbel
                                  clear hown hbox hbel hcelli
                                  go_wp2_with fail
                                  go_roundw
                                  case rel => exact ⟨i + 1, by omega, by go_num, HO.out, HBX.out, HB.out⟩
                                  case measure => simp [intOf]; omega
                        · obtain rfl : r = i := by omega
                          rw [clrTo_end] at hown
                          have hcol := hbox.cell
                          have hsz9 := hbel.size
                          have HO := Lib.hid hown
                          have HBX := Lib.hid hbox
                          have HB := Lib.hid hbel
                          have HKN := Lib.hid (cell_next wr k)
                          clear hown hbox hbel
                          go_wp2_with fail
                          go_roundw
                          case rel => exact ⟨k + 1, _, d + 1, T * h d k, wr.heap.size, by omega, by rw [HD.out], by go_num, rfl, by omega, HST.out, box_next _ _, hsz9, HO.out.keep (below_alloc _ _), HB.out.alloc hsz9 _⟩
                          case measure => rw [HKN.out, HK0.out]; omega
              · rw [hidx]
                have HST : Hid (redR r f (k + 1) = ⟨f', d, 0⟩) := Lib.hid (by rw [redR_succ, HS.out]; exact step_none (s := ⟨f', d, t⟩) hz)
                have HKN := Lib.hid (cell_next wz k)
                clear hidx hz HS
                go_wp2_with fail
                go_roundw
                case rel => exact ⟨k + 1, f', d, 0, wz.heap.size, by omega, by rw [Fus.toI_zero], rfl, rfl, hd, HST.out, box_next wz _, hsz, HO.out.keep (below_alloc _ _), HB.out.alloc hsz _⟩
                case measure => rw [HKN.out, HK0.out]; omega
            · obtain rfl : r = d := by omega
              have HST : Hid (redR r f (k + 1) = ⟨f', r, 0⟩) := Lib.hid (by rw [redR_succ, HS.out]; exact step_none (s := ⟨f', r, t⟩) (fun i h1 h2 => by have h1' : r ≤ i := h1; omega))
              clear HS
              go_wp2_with fail
              go_quiet (fail)
              go_wp2_with fail
              case' inl h => subst h
              all_goals
                have HO := Lib.hid (HO.out.drewN nq)
                have HB := Lib.hid (HB.out.trans (below_toDrewN nq w.heap.size wr))
                have hsz : w.heap.size ≤ (wr.drewN nq).heap.size := hsz
                have hcol : (wr.drewN nq).cell? ⟨gc, 0, none⟩ = some (.int .i64 k) := hcol
                generalize wr.drewN nq = wz at *
                have HI : Hid (∀ a cap', IntRows wz (.slice a 0 cap') []) := Lib.hid (fun a cap' => ⟨a, cap', rfl, by simp, fun i xs hx => by simp at hx⟩)
                have HKN := Lib.hid (cell_next wz k)
                refine (c_IndexFunc_red _ [] _ k _ (HI.out _ _) hcol (by simp)).mono ?_
                rintro e w1 ⟨rfl, rfl⟩
                rw [show idxOf (firstAt (hasAt k) []) = -1 from rfl]
                go_wp2_with fail
                go_roundw
                case rel => exact ⟨k + 1, f', _, 0, wz.heap.size, by omega, by rw [Fus.toI_zero], rfl, rfl, by omega, HST.out, box_next wz _, hsz, HO.out.keep (below_alloc _ _), HB.out.alloc hsz _⟩
                case measure => rw [HKN.out, HK0.out]; omega
          · obtain rfl : c = k := by omega
            have hdc : (d : Int) ≤ (cap : Int) := by omega
            go_wp2_with fail
            go_quiet (fail)
            go_wp2_with fail
            go_ret2
            have e : basF r c f = tabF d c f' := by unfold basF; rw [HS.out]
            have e2 : detF r c f = toI t := by unfold detF; rw [if_neg (by omega), HS.out]
            refine ⟨_, by rw [e2]; rfl, ?_, HB.out.trans (below_toDrewN _ _ _)⟩
            have h1 := OwnM.take HO.out hd
            rw [tabF_take _ hd] at h1
            rw [e]
            exact h1.drewN _
end Go.Proofs.Ytmbcncmmgfnlmaa
