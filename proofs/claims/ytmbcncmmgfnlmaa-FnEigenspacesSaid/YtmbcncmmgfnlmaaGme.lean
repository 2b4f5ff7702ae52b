/- Memory that a call makes for itself: rows of integers and rows of rows, as lists; what reading them gives. No walk. -/
import Derived.Test.YtmbcncmmgfnlmaaSl
import Derived.Deep.OwnRows
import Derived.IntWalk
namespace Go.Proofs.Ytmbcncmmgfnlmaa
open Go.RowKit

abbrev vi (x : Int) : Value := .int .i64 x

/-- the value v is a slice that owns its cells, from block B on: they hold us -/
def Own (w : World) (T : TypeId) (B : Nat) (v : Value) (us : List Value) : Prop := w.ownsRow B T 1 v us.length us
/-- .. the integers xs -/
abbrev OwnI (w : World) (B : Nat) (v : Value) (xs : List Int) : Prop := Own w 2 B v (xs.map vi)

section
variable {w w' : World} {T : TypeId} {B : Nat} {v u : Value} {us : List Value}
theorem Own.shape (h : Own w T B v us) : (v = .slice none 0 0 ∧ us = []) ∨ ∃ g cap, v = .slice (some ⟨g, 0, none⟩) us.length cap ∧ B ≤ g ∧ g < w.heap.size ∧ us.length ≤ cap := by
  rcases h.2 with ⟨h1, h2⟩ | ⟨g, cap, cur, h1, h2, h3, h4, _⟩
  · exact .inl ⟨h1, List.eq_nil_of_length_eq_zero h2⟩
  · exact .inr ⟨g, cap, h1, h2, (Array.getElem?_eq_some_iff.1 h3).1, h4⟩
theorem Own.slice (h : Own w T B v us) : ∃ p n c, v = .slice p n c := by
  rcases h.shape with ⟨h1, _⟩ | ⟨g, cap, h1, _⟩
  · exact ⟨_, _, _, h1⟩
  · exact ⟨_, _, _, h1⟩
theorem Own.cell {g n cap : Nat} (h : Own w T B (.slice (some ⟨g, 0, none⟩) n cap) us) {i : Nat} (hu : us[i]? = some u) : w.cell? ⟨g, i, none⟩ = some u := by
  have hi := (List.getElem?_eq_some_iff.1 hu).1
  have hn : n = us.length := by
    rcases h.shape with ⟨h1, _⟩ | ⟨g', cap', h1, _⟩
    · cases h1
    · cases h1; rfl
  subst hn
  have h' : w.ownsRow B T 1 (.slice (some ⟨g, 0, none⟩) us.length cap) us.length us := h
  rw [h'.cellAt i (by omega), hu]
theorem Own.frozen {g n cap : Nat} (h : Own w T B (.slice (some ⟨g, 0, none⟩) n cap) us) (i : Nat) : w.frozen? ⟨g, i, none⟩ = false := by
  have hn : n = us.length := by
    rcases h.shape with ⟨h1, _⟩ | ⟨g', cap', h1, _⟩
    · cases h1
    · cases h1; rfl
  subst hn
  have h' : w.ownsRow B T 1 (.slice (some ⟨g, 0, none⟩) us.length cap) us.length us := h
  exact h'.frozenAt i
theorem Own.len {g n cap : Nat} {s : Option Nat} {o : Nat} (h : Own w T B (.slice (some ⟨g, o, s⟩) n cap) us) : n = us.length := by
  rcases h.shape with ⟨h1, _⟩ | ⟨g', cap', h1, _⟩
  · cases h1
  · cases h1; rfl
theorem Own.store {g n cap : Nat} (h : Own w T B (.slice (some ⟨g, 0, none⟩) n cap) us) (i : Nat) (u : Value) : Own (w.setCell ⟨g, i, none⟩ u) T B (.slice (some ⟨g, 0, none⟩) n cap) (us.set i u) := by
  have hn := h.len
  subst hn
  have h' : w.ownsRow B T 1 (.slice (some ⟨g, 0, none⟩) us.length cap) us.length us := h
  have h2 := (h'.stored i u).1
  unfold Own
  rw [List.length_set]
  exact h2
/-- a row stays while its block stays -/
theorem Own.of_block (h : Own w T B v us) (hb : ∀ g, v.ownBlock = some g → w'.heap[g]? = w.heap[g]?) : Own w' T B v us := by
  refine ⟨h.1, ?_⟩
  rcases h.2 with h1 | ⟨g, cap, cur, rfl, hg, hh, r⟩
  · exact .inl h1
  · exact .inr ⟨g, cap, cur, rfl, hg, by rw [hb g rfl]; exact hh, r⟩
theorem Own.lt (h : Own w T B v us) {g : Nat} (hg : v.ownBlock = some g) : B ≤ g ∧ g < w.heap.size := World.ownsRow.lt h g hg
theorem Own.keep (h : Own w T B v us) (hb : Below w.heap.size w w') : Own w' T B v us := h.of_block fun g hg => hb.block g (h.lt hg).2
theorem Own.keepOther (h : Own w T B v us) {a : Addr} (ha : v.ownBlock ≠ some a.block) (u : Value) : Own (w.setCell a u) T B v us :=
  h.of_block fun g hg => Below.heap_setCell _ _ _ _ (fun e => ha (by rw [hg, e]))
theorem Own.mono {B' : Nat} (h : Own w T B v us) (hB : B' ≤ B) : Own w T B' v us := by
  refine ⟨h.1, ?_⟩
  rcases h.2 with h1 | ⟨g, cap, cur, rfl, hg, r⟩
  · exact .inl h1
  · exact .inr ⟨g, cap, cur, rfl, Nat.le_trans hB hg, r⟩
theorem Own.grown {row : Option Nat} (h : Own w T B v us) (hg : w.grownBy w' row) (hr : v.ownBlock = none ∨ v.ownBlock ≠ row) : Own w' T B v us := World.ownsRow.kept h hg hr
theorem Own.alloc (h : Own w T B v us) (o : Obj) : Own (w.alloc o) T B v us := World.ownsRow.alloc h o
theorem Own.drewN (h : Own w T B v us) (n : Nat) : Own (w.drewN n) T B v us := h
theorem Own.nil (w : World) (T : TypeId) (B : Nat) : Own w T B (.slice none 0 0) [] := World.ownsRow_nil w B T 1
/-- cells that were just laid -/
theorem Own.lit (w : World) (T : TypeId) (cs : List Value) (hB : B ≤ w.heap.size) (hm : cs.length ≤ maxLen) : Own (w.alloc (.cells cs.toArray T)) T B (.slice (some ⟨w.heap.size, 0, none⟩) cs.length cs.length) cs := by
  have h := World.ownsRow_lit (base := B) (e := T) (size := 1) w cs.toArray cs.length hB hm (by simp)
  simpa [Own] using h
/-- what make lays -/
theorem Own.made (w : World) (T : TypeId) (z : Value) (n : Nat) (hB : B ≤ w.heap.size) (hm : n ≤ maxLen) : Own (w.alloc (.cells (madeCells #[z] n) T)) T B (.slice (some ⟨w.heap.size, 0, none⟩) n n) (List.replicate n z) := by
  have h := World.ownsRow_lit (base := B) (e := T) (size := 1) w (madeCells #[z] n) n hB hm (by simp [size_madeCells])
  rw [toList_madeCells_one] at h
  unfold Own
  rw [List.length_replicate]
  exact h
end

/-- an owned row of integers can be read -/
theorem OwnI.ints {w : World} {B : Nat} {v : Value} {xs : List Int} (h : OwnI w B v xs) (hl : xs.length ≤ 17592186043904) : Ints w v xs := by
  rcases h.shape with ⟨rfl, hx⟩ | ⟨g, cap, rfl, _⟩
  · have hx' : xs = [] := by cases xs with | nil => rfl | cons => simp at hx
    subst hx'
    exact ⟨none, 0, rfl, by simp, fun i x hx => by simp at hx⟩
  · refine ⟨some ⟨g, 0, none⟩, cap, by simp, hl, fun i x hx => ⟨g, 0, rfl, ?_⟩⟩
    rw [Nat.zero_add]
    exact Own.cell h (u := vi x) (by simp [hx])

/-- nothing but draws -/
def Drew (w w' : World) : Prop := ∃ n, w' = w.drewN n
theorem Drew.refl (w : World) : Drew w w := ⟨0, rfl⟩
theorem Drew.more {w w' : World} (h : Drew w w') (n : Nat) : Drew w (w'.drewN n) := by
  obtain ⟨m, rfl⟩ := h; exact ⟨m + n, World.drewN_drewN _ _ _⟩
theorem Drew.trans {a b c : World} (h : Drew a b) (h' : Drew b c) : Drew a c := by
  obtain ⟨n, rfl⟩ := h'; exact h.more n
theorem Drew.heap {w w' : World} (h : Drew w w') : w'.heap = w.heap := by obtain ⟨n, rfl⟩ := h; rfl
theorem Drew.below {w w' : World} (h : Drew w w') (B : Nat) : Below B w w' := by obtain ⟨n, rfl⟩ := h; exact below_toDrewN _ _ _
theorem Drew.cell {w w' : World} (h : Drew w w') {a : Addr} {v : Value} (hc : w.cell? a = some v) : w'.cell? a = some v := by obtain ⟨n, rfl⟩ := h; exact hc
theorem Ints.ofHeap {w w' : World} {v : Value} {xs : List Int} (hw : w'.heap = w.heap) (h : Ints w v xs) : Ints w' v xs := by
  obtain ⟨a, cap, rfl, hl, hc⟩ := h
  refine ⟨a, cap, rfl, hl, fun i x hx => ?_⟩
  obtain ⟨b, off, rfl, hcell⟩ := hc i x hx
  exact ⟨b, off, rfl, by simpa [World.cell?, hw] using hcell⟩
/-- the value v reads as the rows xss -/
def IntRows (w : World) (v : Value) (xss : List (List Int)) : Prop :=
  ∃ a cap, v = .slice a xss.length cap ∧ xss.length ≤ 5864062014634 ∧
    ∀ i xs, xss[i]? = some xs → ∃ b off u, a = some ⟨b, off, none⟩ ∧ w.cell? ⟨b, off + i, none⟩ = some u ∧ Ints w u xs
theorem IntRows.keep {w w' : World} {v : Value} {xss : List (List Int)} (h : IntRows w v xss) (hb : Below w.heap.size w w') : IntRows w' v xss := by
  obtain ⟨a, cap, rfl, hl, hc⟩ := h
  refine ⟨a, cap, rfl, hl, fun i xs hx => ?_⟩
  obtain ⟨b, off, u, rfl, hcell, hI⟩ := hc i xs hx
  exact ⟨b, off, u, rfl, by rw [hb.cell (Ints.lt hcell)]; exact hcell, hI.keep hb⟩

/-- a block's number, if it owns one -/
def apart (us : List Value) : Prop := ∀ (i j : Nat) (u u' : Value), us[i]? = some u → us[j]? = some u' → i ≠ j → ∀ g, u.ownBlock = some g → u'.ownBlock ≠ some g
/-- rows of integers that the call owns, no two in one block -/
def OwnM (w : World) (B : Nat) (v : Value) (xss : List (List Int)) : Prop :=
  ∃ us, Own w 35 B v us ∧ us.length = xss.length ∧ (∀ (i : Nat) (u : Value) (xs : List Int), us[i]? = some u → xss[i]? = some xs → OwnI w B u xs) ∧ apart us
theorem OwnM.rows {w : World} {B : Nat} {v : Value} {xss : List (List Int)} (h : OwnM w B v xss) (hl : xss.length ≤ 5864062014634) (hl' : ∀ xs ∈ xss, xs.length ≤ 17592186043904) : IntRows w v xss := by
  obtain ⟨us, ho, hlen, hr, _⟩ := h
  rcases ho.shape with ⟨rfl, hx⟩ | ⟨g, cap, rfl, _⟩
  · subst hx
    have hx' : xss = [] := List.eq_nil_of_length_eq_zero hlen.symm
    subst hx'
    exact ⟨none, 0, rfl, by simp, fun i x hx => by simp at hx⟩
  · refine ⟨some ⟨g, 0, none⟩, cap, by rw [hlen], hl, fun i xs hx => ?_⟩
    have hi := (List.getElem?_eq_some_iff.1 hx).1
    obtain ⟨u, hu⟩ : ∃ u, us[i]? = some u := ⟨us[i]'(by omega), by simp⟩
    exact ⟨g, 0, u, rfl, by rw [Nat.zero_add]; exact Own.cell ho hu, (hr i u xs hu hx).ints (hl' xs (List.mem_of_getElem? hx))⟩
theorem OwnM.keep {w w' : World} {B : Nat} {v : Value} {xss : List (List Int)} (h : OwnM w B v xss) (hb : Below w.heap.size w w') : OwnM w' B v xss := by
  obtain ⟨us, ho, hlen, hr, ha⟩ := h
  exact ⟨us, ho.keep hb, hlen, fun i u xs h1 h2 => (hr i u xs h1 h2).keep hb, ha⟩
theorem OwnM.mono {w : World} {B B' : Nat} {v : Value} {xss : List (List Int)} (h : OwnM w B v xss) (hB : B' ≤ B) : OwnM w B' v xss := by
  obtain ⟨us, ho, hlen, hr, ha⟩ := h
  exact ⟨us, ho.mono hB, hlen, fun i u xs h1 h2 => (hr i u xs h1 h2).mono hB, ha⟩

theorem bfrozen {w w' : World} {b o : Nat} {v : Value} (hb : Below w.heap.size w w') (h : w.cell? ⟨b, o, none⟩ = some v) (hf : w.frozen? ⟨b, o, none⟩ = false) : w'.frozen? ⟨b, o, none⟩ = false :=
  (hb.frozen (p := ⟨b, o, none⟩) (Ints.lt h)).trans hf
theorem IntRows.row {w : World} {v : Value} {xss : List (List Int)} (h : IntRows w v xss) {xs : List Int} (hx : xs ∈ xss) : xs.length ≤ 17592186043904 := by
  obtain ⟨a, cap, rfl, hl, hc⟩ := h
  obtain ⟨i, hi⟩ := List.getElem?_of_mem hx
  obtain ⟨b, off, u, _, _, ⟨a', cap', _, hl', _⟩⟩ := hc i xs hi
  exact hl'
theorem IntRows.len {w : World} {v : Value} {xss : List (List Int)} (h : IntRows w v xss) : xss.length ≤ 5864062014634 := by
  obtain ⟨a, cap, rfl, hl, hc⟩ := h
  exact hl
/-- two slices of other element types do not share a block -/
theorem Own.other {w : World} {T T' : TypeId} {B B' : Nat} {v v' : Value} {us us' : List Value} (h : Own w T B v us) (h' : Own w T' B' v' us') (hT : T ≠ T') {g : Nat} (hg : v.ownBlock = some g) : v'.ownBlock ≠ some g := by
  intro hg'
  rcases h.2 with ⟨rfl, _⟩ | ⟨g1, cap, cur, rfl, _, hh, _⟩
  · cases hg
  rcases h'.2 with ⟨rfl, _⟩ | ⟨g2, cap', cur', rfl, _, hh', _⟩
  · cases hg'
  cases hg
  cases hg'
  rw [hh] at hh'
  cases hh'
  exact hT rfl
/-- a new row is stored into a place of the outer row -/
theorem OwnM.set {w0 w : World} {B g n cap : Nat} {xss : List (List Int)} {u : Value} {xs : List Int} (h : OwnM w0 B (.slice (some ⟨g, 0, none⟩) n cap) xss) (hb : Below w0.heap.size w0 w) (hB : B ≤ w0.heap.size) (hu : OwnI w w0.heap.size u xs) (i : Nat) :
    OwnM (w.setCell ⟨g, i, none⟩ u) B (.slice (some ⟨g, 0, none⟩) n cap) (xss.set i xs) := by
  obtain ⟨us, ho, hlen, hr, ha⟩ := h
  have hglt : g < w0.heap.size := (ho.lt rfl).2
  have hown := ho.keep hb
  refine ⟨us.set i u, hown.store i u, by simp [hlen], ?_, ?_⟩
  · intro j u' xs' h1 h2
    rw [List.getElem?_set] at h1 h2
    by_cases e : i = j
    · subst e
      rw [if_pos rfl] at h1 h2
      split at h1
      · split at h2
        · cases h1; cases h2
          exact (hu.keepOther (fun e => by have := (hu.lt e).1; simp at this; omega) _).mono hB
        · cases h2
      · cases h1
    · rw [if_neg e] at h1 h2
      exact Own.keepOther (a := ⟨g, i, none⟩) ((hr j u' xs' h1 h2).keep hb) (Own.other hown ((hr j u' xs' h1 h2).keep hb) (by decide) rfl) _
  · intro j k u1 u2 h1 h2 hjk b hb1
    rw [List.getElem?_set] at h1 h2
    have old : ∀ (j : Nat) (u' : Value), us[j]? = some u' → ∀ b, u'.ownBlock = some b → b < w0.heap.size := by
      intro j u' h b hb'
      obtain ⟨xs', hx'⟩ : ∃ xs', xss[j]? = some xs' := ⟨xss[j]'(by rw [← hlen]; exact (List.getElem?_eq_some_iff.1 h).1), by simp⟩
      exact ((hr j u' xs' h hx').lt hb').2
    by_cases e1 : i = j
    · subst e1
      rw [if_pos rfl] at h1
      rw [if_neg hjk] at h2
      split at h1
      · cases h1
        intro hb2
        have := (hu.lt hb1).1
        have := old k u2 h2 b hb2
        omega
      · cases h1
    · rw [if_neg e1] at h1
      by_cases e2 : i = k
      · subst e2
        rw [if_pos rfl] at h2
        split at h2
        · cases h2
          intro hb2
          have := (hu.lt hb2).1
          have := old j u1 h1 b hb1
          omega
        · cases h2
      · rw [if_neg e2] at h2
        exact ha j k u1 u2 h1 h2 hjk b hb1
theorem bcell {w w' : World} {b o : Nat} {v : Value} (hb : Below w.heap.size w w') (h : w.cell? ⟨b, o, none⟩ = some v) : w'.cell? ⟨b, o, none⟩ = some v :=
  (hb.cell (p := ⟨b, o, none⟩) (Ints.lt h)).trans h
/-- the posts of calls that make memory -/
def RetI (xs : List Int) (w : World) (e : Ending) (w' : World) : Prop := ∃ v, e = .returned v ∧ OwnI w' w.heap.size v xs ∧ Below w.heap.size w w'
def RetM (xss : List (List Int)) (w : World) (e : Ending) (w' : World) : Prop := ∃ v, e = .returned v ∧ OwnM w' w.heap.size v xss ∧ Below w.heap.size w w'
theorem below_set {w w1 : World} {B g i : Nat} {u : Value} (h : Below B w w1) (hg : B ≤ g) : Below B w (w1.setCell ⟨g, i, none⟩ u) := h.setCell hg u

/-- the type of the integers, as the program's table has it -/
theorem info_int : (Try.prog.info? 2).map (fun i => (i.zero, i.size, i.bytes)) = some (some (.int .i64 0), 1, 8) := by kernel_rfl
end Go.Proofs.Ytmbcncmmgfnlmaa

/- Walks of the laws' helpers over lists of integers. -/
namespace Go.Proofs.Ytmbcncmmgfnlmaa
open Go.RowKit


/-- are two lists equal, by a Bool that no rule opens -/
def eqL (xs ys : List Int) : Bool := decide (xs = ys)
theorem eqL_true {xs ys : List Int} (hl : xs.length = ys.length) (h : ∀ (i : Nat) x y, xs[i]? = some x → ys[i]? = some y → x = y) : eqL xs ys = true := by
  refine decide_eq_true (List.ext_getElem hl fun i h1 h2 => h i _ _ (List.getElem?_eq_getElem h1) (List.getElem?_eq_getElem h2))
theorem eqL_len {xs ys : List Int} (h : xs.length ≠ ys.length) : eqL xs ys = false := decide_eq_false (fun e => h (by rw [e]))
theorem eqL_ne {xs ys : List Int} {k : Nat} {x y : Int} (h1 : xs[k]? = some x) (h2 : ys[k]? = some y) (h : x ≠ y) : eqL xs ys = false :=
  decide_eq_false (fun e => h (by rw [e, h2] at h1; cases h1; rfl))
theorem eqL_self (xs : List Int) : eqL xs xs = true := decide_eq_true rfl
attribute [irreducible] eqL
theorem ret_bool {a b : Bool} (h : a = b) : Ending.returned (.bool a) = .returned (.bool b) := by rw [h]


theorem all_false {p : Int → Bool} {xs : List Int} {k : Nat} {x : Int} (hx : xs[k]? = some x) (h : p x = false) : xs.all p = false := by
  rw [List.all_eq_false]; exact ⟨x, List.mem_of_getElem? hx, by simp [h]⟩
theorem all_true {p : Int → Bool} {xs : List Int} (h : ∀ (i : Nat) x, xs[i]? = some x → p x = true) : xs.all p = true := by
  rw [List.all_eq_true]; intro x hx; obtain ⟨i, hi⟩ := List.getElem?_of_mem hx; exact h i x hi
theorem c_l01Numbers (v : Value) (xs : List Int) (w : World) (hv : Ints w v xs) :
    Calls Try.prog 88 #[v] w fun e w' => e = .returned (.bool (xs.all isNum)) ∧ w = w' := by
  obtain ⟨a, cap, rfl, hl, hc⟩ := hv
  have HC := Lib.hid hc
  clear hc
  go_enter Try.func88, Try.ntmps88
  go_wp2_with fail
  go_loop [3] (fun i => ∃ k : Nat, k ≤ xs.length ∧ i = .int .i64 k ∧ Hid (∀ (i : Nat) x, i < k → xs[i]? = some x → isNum x = true)) (fun i => xs.length - (intOf i).toNat)
  case atStart => exact ⟨0, Nat.zero_le _, rfl, fun i x hi => absurd hi (Nat.not_lt_zero _)⟩
  case round =>
    obtain ⟨k, hk, rfl, H⟩ := hrel
    by_cases hlt : k < xs.length
    · obtain ⟨x, hx⟩ : ∃ x, xs[k]? = some x := ⟨xs[k], by simp [hlt]⟩
      obtain ⟨b, off, rfl, hcell⟩ := HC.out k x hx
      have HX := Lib.hid hx
      clear hx
      cases hp : isNum x
      · have HP := Lib.hid hp
        go_wp2_with (go_at_call 79; refine (c_l01Number _ _).mono ?_; rintro e w' ⟨rfl, rfl⟩)
        go_ret
        exact ⟨ret_bool (all_false HX.out HP.out).symm, rfl⟩
      · have HP := Lib.hid hp
        go_wp2_with (go_at_call 79; refine (c_l01Number _ _).mono ?_; rintro e w' ⟨rfl, rfl⟩)
        go_round
        case rel =>
          refine ⟨k + 1, by omega, by go_num, fun i y hi hy => ?_⟩
          by_cases e : i = k
          · subst e; rw [HX.out] at hy; cases hy; exact HP.out
          · exact H.out i y (by omega) hy
        case measure => simp [intOf]; omega
    · go_wp2_with fail
      go_ret
      exact ⟨ret_bool (all_true (fun i x hx => H.out i x (by have := (List.getElem?_eq_some_iff.1 hx).1; omega) hx)).symm, rfl⟩

/-! sums of products -/
def dotK (xs ys : List Int) : Nat → Int
  | 0 => 0
  | k + 1 => dotK xs ys k + xs.getD k 0 * ys.getD k 0
/-- the sum of the products of numbers with the same indices -/
def dotZ (xs ys : List Int) : Int := dotK xs ys xs.length % 55441
theorem dotK_next {xs ys : List Int} {k : Nat} {x y : Int} (hx : xs[k]? = some x) (hy : ys[k]? = some y) : dotK xs ys (k + 1) = dotK xs ys k + x * y := by
  simp [dotK, List.getD_eq_getElem?_getD, hx, hy]
theorem nums_at {xs : List Int} (h : xs.all isNum = true) {k : Nat} {x : Int} (hx : xs[k]? = some x) : 0 ≤ x ∧ x < 55441 :=
  isNum_true (List.all_eq_true.1 h x (List.mem_of_getElem? hx))
theorem dotZ_bd (xs ys : List Int) : 0 ≤ dotZ xs ys ∧ dotZ xs ys < 55441 := by unfold dotZ; omega
theorem c_dot (u v : Value) (xs ys : List Int) (w : World) (hu : Ints w u xs) (hv : Ints w v ys) (hlen : xs.length = ys.length) (hmax : xs.length ≤ 1000000) (hx : xs.all isNum = true) (hy : ys.all isNum = true) :
    Calls Try.prog 109 #[u, v] w fun e w' => e = .returned (.int .i64 (dotZ xs ys)) ∧ Below w.heap.size w w' := by
  obtain ⟨a, cap, rfl, hl, hc⟩ := hu
  obtain ⟨a', cap', rfl, hl', hc'⟩ := hv
  have HC := Lib.hid hc
  have HC' := Lib.hid hc'
  have HL := Lib.hid hlen
  have HNx := Lib.hid hx
  have HNy := Lib.hid hy
  clear hc hc' hlen hx hy
  go_enter Try.func109, Try.ntmps109
  go_wp2_with fail
  go_loopw [5, 9] (fun s i wr => ∃ (k : Nat) (t : Int), k ≤ xs.length ∧ i = .int .i64 k ∧ s = .int .i64 t ∧ 0 ≤ t ∧ t ≤ 55440 * k ∧ Hid (t % 55441 = dotK xs ys k % 55441) ∧ Below w.heap.size w wr) (fun _ i _ => xs.length - (intOf i).toNat)
  case atStart => exact ⟨0, 0, Nat.zero_le _, rfl, rfl, by omega, by omega, rfl, Below.refl _ _⟩
  case round =>
    obtain ⟨k, t, hk, rfl, rfl, ht1, ht2, H, hbel⟩ := hrel
    by_cases hlt : k < xs.length
    · have hlt' : k < ys.length := by rw [← HL.out]; exact hlt
      obtain ⟨x, hx⟩ : ∃ x, xs[k]? = some x := ⟨xs[k], by simp [hlt]⟩
      obtain ⟨y, hy⟩ : ∃ y, ys[k]? = some y := ⟨ys[k], by simp [hlt']⟩
      obtain ⟨b, off, rfl, hcell⟩ := HC.out k x hx
      obtain ⟨b', off', rfl, hcell'⟩ := HC'.out k y hy
      have h1 := bcell hbel hcell
      have h2 := bcell hbel hcell'
      have hb1 := nums_at HNx.out hx
      have hb2 := nums_at HNy.out hy
      have hpr := prod_bd hb1.1 hb1.2 hb2.1 hb2.2
      obtain ⟨hpr1, hpr2⟩ := hpr
      have HS : Hid ((t + x * y % 55441) % 55441 = dotK xs ys (k + 1) % 55441) := Lib.hid (by rw [dotK_next hx hy]; have := H.out; omega)
      have HB := Lib.hid hbel
      clear hx hy hcell hcell' hbel hb1 hb2 H
      have hw1 : IntKind.i64.wrap (x * y) = x * y := IntWalk.i64_in _ (by omega)
      have hw2 : (x * y).tmod 55441 = x * y % 55441 := Int.tmod_eq_emod_of_nonneg hpr1
      have hw3 : IntKind.i64.wrap (t + x * y % 55441) = t + x * y % 55441 := IntWalk.i64_in _ (by omega)
      go_wp2_with fail
      go_quiet (fail)
      go_wp2_with fail
      go_roundw
      case rel => exact ⟨k + 1, _, by omega, by go_num, rfl, by omega, by omega, HS.out, HB.out.trans (below_toDrewN _ _ _)⟩
      case measure => simp [intOf]; omega
    · obtain rfl : k = xs.length := by omega
      have HB := Lib.hid hbel
      clear hbel
      go_wp2_with fail
      go_ret
      exact ⟨ret_int H.out, HB.out⟩
end Go.Proofs.Ytmbcncmmgfnlmaa

/- Walks of the laws' helpers over rows of integers. -/
namespace Go.Proofs.Ytmbcncmmgfnlmaa
open Go.RowKit

/-- how many cells the first rows have -/
def totK (xss : List (List Int)) : Nat → Int
  | 0 => 0
  | i + 1 => totK xss i + (xss.getD i []).length
theorem totK_next {xss : List (List Int)} {k : Nat} {xs : List Int} (h : xss[k]? = some xs) : totK xss (k + 1) = totK xss k + xs.length := by
  simp [totK, List.getD_eq_getElem?_getD, h]
theorem totK_nonneg (xss : List (List Int)) (k : Nat) : 0 ≤ totK xss k := by
  induction k with
  | zero => exact Int.le_refl _
  | succ k ih => simp only [totK]; omega
theorem totK_mono (xss : List (List Int)) {k n : Nat} (h : k ≤ n) : totK xss k ≤ totK xss n := by
  induction h with
  | refl => exact Int.le_refl _
  | step _ ih => simp only [totK]; omega
theorem info_ints : (Try.prog.info? 35).map (fun i => (i.zero, i.size, i.bytes)) = some (some (.slice none 0 0), 1, 24) := by kernel_rfl
def eqLL (xs ys : List (List Int)) : Bool := decide (xs = ys)
theorem eqLL_true {xs ys : List (List Int)} (hl : xs.length = ys.length) (h : ∀ (i : Nat) x y, xs[i]? = some x → ys[i]? = some y → x = y) : eqLL xs ys = true := by
  refine decide_eq_true (List.ext_getElem hl fun i h1 h2 => h i _ _ (List.getElem?_eq_getElem h1) (List.getElem?_eq_getElem h2))
theorem eqLL_len {xs ys : List (List Int)} (h : xs.length ≠ ys.length) : eqLL xs ys = false := decide_eq_false (fun e => h (by rw [e]))
theorem eqLL_ne {xs ys : List (List Int)} {k : Nat} {x y : List Int} (h1 : xs[k]? = some x) (h2 : ys[k]? = some y) (h : eqL x y = false) : eqLL xs ys = false :=
  decide_eq_false (fun e => by rw [e, h2] at h1; cases h1; rw [eqL_self] at h; cases h)
theorem eqLL_self (xs : List (List Int)) : eqLL xs xs = true := decide_eq_true rfl
attribute [irreducible] eqLL
theorem eqL_eq {xs ys : List Int} (h : eqL xs ys = true) : xs = ys := by unfold eqL at h; exact of_decide_eq_true h

end Go.Proofs.Ytmbcncmmgfnlmaa
