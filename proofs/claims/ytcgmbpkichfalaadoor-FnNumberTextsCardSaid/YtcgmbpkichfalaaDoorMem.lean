/- Memory that a call makes for itself: rows of integers and rows of rows, as lists; what reading them gives. No walk. -/
import Derived.Test.YtcgmbpkichfalaaDoorSl
namespace Go.Proofs.YtcgmbpkichfalaaDoor
open Go.RowKit

abbrev vi (x : Int) : Value := .int .i64 x

/-- the value v is a slice that owns its cells, from block B on: they hold us -/
def Own (w : World) (T : TypeId) (B : Nat) (v : Value) (us : List Value) : Prop := w.ownsRow B T 1 v us.length us
/-- .. the integers xs -/
abbrev OwnI (w : World) (B : Nat) (v : Value) (xs : List Int) : Prop := Own w 2 B v (xs.map vi)

section
variable {w w' : World} {T : TypeId} {B : Nat} {v u : Value} {us : List Value}
theorem Own.shape (h : Own w T B v us) : (v = .slice none 0 0 ∧ us = []) ∨ ∃ g cap, v = .slice (some ⟨g, 0, none⟩) us.length cap ∧ B ≤ g ∧ g < w.heap.size ∧ us.length ≤ cap := by
  rcases h.2 with ⟨h1, h2⟩ | ⟨g, cap, cur, h1, h2, h3, h4, _⟩
  · exact .inl ⟨h1, List.eq_nil_of_length_eq_zero h2⟩
  · exact .inr ⟨g, cap, h1, h2, (Array.getElem?_eq_some_iff.1 h3).1, h4⟩
theorem Own.slice (h : Own w T B v us) : ∃ p n c, v = .slice p n c := by
  rcases h.shape with ⟨h1, _⟩ | ⟨g, cap, h1, _⟩
  · exact ⟨_, _, _, h1⟩
  · exact ⟨_, _, _, h1⟩
theorem Own.cell {g n cap : Nat} (h : Own w T B (.slice (some ⟨g, 0, none⟩) n cap) us) {i : Nat} (hu : us[i]? = some u) : w.cell? ⟨g, i, none⟩ = some u := by
  have hi := (List.getElem?_eq_some_iff.1 hu).1
  have hn : n = us.length := by
    rcases h.shape with ⟨h1, _⟩ | ⟨g', cap', h1, _⟩
    · cases h1
    · cases h1; rfl
  subst hn
  have h' : w.ownsRow B T 1 (.slice (some ⟨g, 0, none⟩) us.length cap) us.length us := h
  rw [h'.cellAt i (by omega), hu]
theorem Own.frozen {g n cap : Nat} (h : Own w T B (.slice (some ⟨g, 0, none⟩) n cap) us) (i : Nat) : w.frozen? ⟨g, i, none⟩ = false := by
  have hn : n = us.length := by
    rcases h.shape with ⟨h1, _⟩ | ⟨g', cap', h1, _⟩
    · cases h1
    · cases h1; rfl
  subst hn
  have h' : w.ownsRow B T 1 (.slice (some ⟨g, 0, none⟩) us.length cap) us.length us := h
  exact h'.frozenAt i
theorem Own.len {g n cap : Nat} {s : Option Nat} {o : Nat} (h : Own w T B (.slice (some ⟨g, o, s⟩) n cap) us) : n = us.length := by
  rcases h.shape with ⟨h1, _⟩ | ⟨g', cap', h1, _⟩
  · cases h1
  · cases h1; rfl
theorem Own.store {g n cap : Nat} (h : Own w T B (.slice (some ⟨g, 0, none⟩) n cap) us) (i : Nat) (u : Value) : Own (w.setCell ⟨g, i, none⟩ u) T B (.slice (some ⟨g, 0, none⟩) n cap) (us.set i u) := by
  have hn := h.len
  subst hn
  have h' : w.ownsRow B T 1 (.slice (some ⟨g, 0, none⟩) us.length cap) us.length us := h
  have h2 := (h'.stored i u).1
  unfold Own
  rw [List.length_set]
  exact h2
/-- a row stays while its block stays -/
theorem Own.of_block (h : Own w T B v us) (hb : ∀ g, v.ownBlock = some g → w'.heap[g]? = w.heap[g]?) : Own w' T B v us := by
  refine ⟨h.1, ?_⟩
  rcases h.2 with h1 | ⟨g, cap, cur, rfl, hg, hh, r⟩
  · exact .inl h1
  · exact .inr ⟨g, cap, cur, rfl, hg, by rw [hb g rfl]; exact hh, r⟩
theorem Own.lt (h : Own w T B v us) {g : Nat} (hg : v.ownBlock = some g) : B ≤ g ∧ g < w.heap.size := World.ownsRow.lt h g hg
theorem Own.keep (h : Own w T B v us) (hb : Below w.heap.size w w') : Own w' T B v us := h.of_block fun g hg => hb.block g (h.lt hg).2
theorem Own.keepOther (h : Own w T B v us) {a : Addr} (ha : v.ownBlock ≠ some a.block) (u : Value) : Own (w.setCell a u) T B v us :=
  h.of_block fun g hg => Below.heap_setCell _ _ _ _ (fun e => ha (by rw [hg, e]))
theorem Own.mono {B' : Nat} (h : Own w T B v us) (hB : B' ≤ B) : Own w T B' v us := by
  refine ⟨h.1, ?_⟩
  rcases h.2 with h1 | ⟨g, cap, cur, rfl, hg, r⟩
  · exact .inl h1
  · exact .inr ⟨g, cap, cur, rfl, Nat.le_trans hB hg, r⟩
theorem Own.grown {row : Option Nat} (h : Own w T B v us) (hg : w.grownBy w' row) (hr : v.ownBlock = none ∨ v.ownBlock ≠ row) : Own w' T B v us := World.ownsRow.kept h hg hr
theorem Own.alloc (h : Own w T B v us) (o : Obj) : Own (w.alloc o) T B v us := World.ownsRow.alloc h o
theorem Own.drewN (h : Own w T B v us) (n : Nat) : Own (w.drewN n) T B v us := h
theorem Own.nil (w : World) (T : TypeId) (B : Nat) : Own w T B (.slice none 0 0) [] := World.ownsRow_nil w B T 1
/-- cells that were just laid -/
theorem Own.lit (w : World) (T : TypeId) (cs : List Value) (hB : B ≤ w.heap.size) (hm : cs.length ≤ maxLen) : Own (w.alloc (.cells cs.toArray T)) T B (.slice (some ⟨w.heap.size, 0, none⟩) cs.length cs.length) cs := by
  have h := World.ownsRow_lit (base := B) (e := T) (size := 1) w cs.toArray cs.length hB hm (by simp)
  simpa [Own] using h
/-- what make lays -/
theorem Own.made (w : World) (T : TypeId) (z : Value) (n : Nat) (hB : B ≤ w.heap.size) (hm : n ≤ maxLen) : Own (w.alloc (.cells (madeCells #[z] n) T)) T B (.slice (some ⟨w.heap.size, 0, none⟩) n n) (List.replicate n z) := by
  have h := World.ownsRow_lit (base := B) (e := T) (size := 1) w (madeCells #[z] n) n hB hm (by simp [size_madeCells])
  rw [toList_madeCells_one] at h
  unfold Own
  rw [List.length_replicate]
  exact h
end

/-- an owned row of integers can be read -/
theorem OwnI.ints {w : World} {B : Nat} {v : Value} {xs : List Int} (h : OwnI w B v xs) (hl : xs.length ≤ 17592186043904) : Ints w v xs := by
  rcases h.shape with ⟨rfl, hx⟩ | ⟨g, cap, rfl, _⟩
  · have hx' : xs = [] := by cases xs with | nil => rfl | cons => simp at hx
    subst hx'
    exact ⟨none, 0, rfl, by simp, fun i x hx => by simp at hx⟩
  · refine ⟨some ⟨g, 0, none⟩, cap, by simp, hl, fun i x hx => ⟨g, 0, rfl, ?_⟩⟩
    rw [Nat.zero_add]
    exact Own.cell h (u := vi x) (by simp [hx])

/-- nothing but draws -/
def Drew (w w' : World) : Prop := ∃ n, w' = w.drewN n
theorem Drew.refl (w : World) : Drew w w := ⟨0, rfl⟩
theorem Drew.more {w w' : World} (h : Drew w w') (n : Nat) : Drew w (w'.drewN n) := by
  obtain ⟨m, rfl⟩ := h; exact ⟨m + n, World.drewN_drewN _ _ _⟩
theorem Drew.trans {a b c : World} (h : Drew a b) (h' : Drew b c) : Drew a c := by
  obtain ⟨n, rfl⟩ := h'; exact h.more n
theorem Drew.heap {w w' : World} (h : Drew w w') : w'.heap = w.heap := by obtain ⟨n, rfl⟩ := h; rfl
theorem Drew.below {w w' : World} (h : Drew w w') (B : Nat) : Below B w w' := by obtain ⟨n, rfl⟩ := h; exact below_toDrewN _ _ _
theorem Drew.cell {w w' : World} (h : Drew w w') {a : Addr} {v : Value} (hc : w.cell? a = some v) : w'.cell? a = some v := by obtain ⟨n, rfl⟩ := h; exact hc
theorem Ints.ofHeap {w w' : World} {v : Value} {xs : List Int} (hw : w'.heap = w.heap) (h : Ints w v xs) : Ints w' v xs := by
  obtain ⟨a, cap, rfl, hl, hc⟩ := h
  refine ⟨a, cap, rfl, hl, fun i x hx => ?_⟩
  obtain ⟨b, off, rfl, hcell⟩ := hc i x hx
  exact ⟨b, off, rfl, by simpa [World.cell?, hw] using hcell⟩
/-- the value v reads as the rows xss -/
def IntRows (w : World) (v : Value) (xss : List (List Int)) : Prop :=
  ∃ a cap, v = .slice a xss.length cap ∧ xss.length ≤ 5864062014634 ∧
    ∀ i xs, xss[i]? = some xs → ∃ b off u, a = some ⟨b, off, none⟩ ∧ w.cell? ⟨b, off + i, none⟩ = some u ∧ Ints w u xs
theorem IntRows.keep {w w' : World} {v : Value} {xss : List (List Int)} (h : IntRows w v xss) (hb : Below w.heap.size w w') : IntRows w' v xss := by
  obtain ⟨a, cap, rfl, hl, hc⟩ := h
  refine ⟨a, cap, rfl, hl, fun i xs hx => ?_⟩
  obtain ⟨b, off, u, rfl, hcell, hI⟩ := hc i xs hx
  exact ⟨b, off, u, rfl, by rw [hb.cell (Ints.lt hcell)]; exact hcell, hI.keep hb⟩

/-- a block's number, if it owns one -/
def apart (us : List Value) : Prop := ∀ (i j : Nat) (u u' : Value), us[i]? = some u → us[j]? = some u' → i ≠ j → ∀ g, u.ownBlock = some g → u'.ownBlock ≠ some g
/-- rows of integers that the call owns, no two in one block -/
def OwnM (w : World) (B : Nat) (v : Value) (xss : List (List Int)) : Prop :=
  ∃ us, Own w 62 B v us ∧ us.length = xss.length ∧ (∀ (i : Nat) (u : Value) (xs : List Int), us[i]? = some u → xss[i]? = some xs → OwnI w B u xs) ∧ apart us
theorem OwnM.rows {w : World} {B : Nat} {v : Value} {xss : List (List Int)} (h : OwnM w B v xss) (hl : xss.length ≤ 5864062014634) (hl' : ∀ xs ∈ xss, xs.length ≤ 17592186043904) : IntRows w v xss := by
  obtain ⟨us, ho, hlen, hr, _⟩ := h
  rcases ho.shape with ⟨rfl, hx⟩ | ⟨g, cap, rfl, _⟩
  · subst hx
    have hx' : xss = [] := List.eq_nil_of_length_eq_zero hlen.symm
    subst hx'
    exact ⟨none, 0, rfl, by simp, fun i x hx => by simp at hx⟩
  · refine ⟨some ⟨g, 0, none⟩, cap, by rw [hlen], hl, fun i xs hx => ?_⟩
    have hi := (List.getElem?_eq_some_iff.1 hx).1
    obtain ⟨u, hu⟩ : ∃ u, us[i]? = some u := ⟨us[i]'(by omega), by simp⟩
    exact ⟨g, 0, u, rfl, by rw [Nat.zero_add]; exact Own.cell ho hu, (hr i u xs hu hx).ints (hl' xs (List.mem_of_getElem? hx))⟩
theorem OwnM.keep {w w' : World} {B : Nat} {v : Value} {xss : List (List Int)} (h : OwnM w B v xss) (hb : Below w.heap.size w w') : OwnM w' B v xss := by
  obtain ⟨us, ho, hlen, hr, ha⟩ := h
  exact ⟨us, ho.keep hb, hlen, fun i u xs h1 h2 => (hr i u xs h1 h2).keep hb, ha⟩
theorem OwnM.mono {w : World} {B B' : Nat} {v : Value} {xss : List (List Int)} (h : OwnM w B v xss) (hB : B' ≤ B) : OwnM w B' v xss := by
  obtain ⟨us, ho, hlen, hr, ha⟩ := h
  exact ⟨us, ho.mono hB, hlen, fun i u xs h1 h2 => (hr i u xs h1 h2).mono hB, ha⟩

theorem bfrozen {w w' : World} {b o : Nat} {v : Value} (hb : Below w.heap.size w w') (h : w.cell? ⟨b, o, none⟩ = some v) (hf : w.frozen? ⟨b, o, none⟩ = false) : w'.frozen? ⟨b, o, none⟩ = false :=
  (hb.frozen (p := ⟨b, o, none⟩) (Ints.lt h)).trans hf
theorem IntRows.row {w : World} {v : Value} {xss : List (List Int)} (h : IntRows w v xss) {xs : List Int} (hx : xs ∈ xss) : xs.length ≤ 17592186043904 := by
  obtain ⟨a, cap, rfl, hl, hc⟩ := h
  obtain ⟨i, hi⟩ := List.getElem?_of_mem hx
  obtain ⟨b, off, u, _, _, ⟨a', cap', _, hl', _⟩⟩ := hc i xs hi
  exact hl'
theorem IntRows.len {w : World} {v : Value} {xss : List (List Int)} (h : IntRows w v xss) : xss.length ≤ 5864062014634 := by
  obtain ⟨a, cap, rfl, hl, hc⟩ := h
  exact hl
/-- two slices of other element types do not share a block -/
theorem Own.other {w : World} {T T' : TypeId} {B B' : Nat} {v v' : Value} {us us' : List Value} (h : Own w T B v us) (h' : Own w T' B' v' us') (hT : T ≠ T') {g : Nat} (hg : v.ownBlock = some g) : v'.ownBlock ≠ some g := by
  intro hg'
  rcases h.2 with ⟨rfl, _⟩ | ⟨g1, cap, cur, rfl, _, hh, _⟩
  · cases hg
  rcases h'.2 with ⟨rfl, _⟩ | ⟨g2, cap', cur', rfl, _, hh', _⟩
  · cases hg'
  cases hg
  cases hg'
  rw [hh] at hh'
  cases hh'
  exact hT rfl
/-- a new row is stored into a place of the outer row -/
theorem OwnM.set {w0 w : World} {B g n cap : Nat} {xss : List (List Int)} {u : Value} {xs : List Int} (h : OwnM w0 B (.slice (some ⟨g, 0, none⟩) n cap) xss) (hb : Below w0.heap.size w0 w) (hB : B ≤ w0.heap.size) (hu : OwnI w w0.heap.size u xs) (i : Nat) :
    OwnM (w.setCell ⟨g, i, none⟩ u) B (.slice (some ⟨g, 0, none⟩) n cap) (xss.set i xs) := by
  obtain ⟨us, ho, hlen, hr, ha⟩ := h
  have hglt : g < w0.heap.size := (ho.lt rfl).2
  have hown := ho.keep hb
  refine ⟨us.set i u, hown.store i u, by simp [hlen], ?_, ?_⟩
  · intro j u' xs' h1 h2
    rw [List.getElem?_set] at h1 h2
    by_cases e : i = j
    · subst e
      rw [if_pos rfl] at h1 h2
      split at h1
      · split at h2
        · cases h1; cases h2
          exact (hu.keepOther (fun e => by have := (hu.lt e).1; simp at this; omega) _).mono hB
        · cases h2
      · cases h1
    · rw [if_neg e] at h1 h2
      exact Own.keepOther (a := ⟨g, i, none⟩) ((hr j u' xs' h1 h2).keep hb) (Own.other hown ((hr j u' xs' h1 h2).keep hb) (by decide) rfl) _
  · intro j k u1 u2 h1 h2 hjk b hb1
    rw [List.getElem?_set] at h1 h2
    have old : ∀ (j : Nat) (u' : Value), us[j]? = some u' → ∀ b, u'.ownBlock = some b → b < w0.heap.size := by
      intro j u' h b hb'
      obtain ⟨xs', hx'⟩ : ∃ xs', xss[j]? = some xs' := ⟨xss[j]'(by rw [← hlen]; exact (List.getElem?_eq_some_iff.1 h).1), by simp⟩
      exact ((hr j u' xs' h hx').lt hb').2
    by_cases e1 : i = j
    · subst e1
      rw [if_pos rfl] at h1
      rw [if_neg hjk] at h2
      split at h1
      · cases h1
        intro hb2
        have := (hu.lt hb1).1
        have := old k u2 h2 b hb2
        omega
      · cases h1
    · rw [if_neg e1] at h1
      by_cases e2 : i = k
      · subst e2
        rw [if_pos rfl] at h2
        split at h2
        · cases h2
          intro hb2
          have := (hu.lt hb2).1
          have := old j u1 h1 b hb1
          omega
        · cases h2
      · rw [if_neg e2] at h2
        exact ha j k u1 u2 h1 h2 hjk b hb1
theorem bcell {w w' : World} {b o : Nat} {v : Value} (hb : Below w.heap.size w w') (h : w.cell? ⟨b, o, none⟩ = some v) : w'.cell? ⟨b, o, none⟩ = some v :=
  (hb.cell (p := ⟨b, o, none⟩) (Ints.lt h)).trans h
/-- the posts of calls that make memory -/
def RetI (xs : List Int) (w : World) (e : Ending) (w' : World) : Prop := ∃ v, e = .returned v ∧ OwnI w' w.heap.size v xs ∧ Below w.heap.size w w'
def RetM (xss : List (List Int)) (w : World) (e : Ending) (w' : World) : Prop := ∃ v, e = .returned v ∧ OwnM w' w.heap.size v xss ∧ Below w.heap.size w w'
theorem below_set {w w1 : World} {B g i : Nat} {u : Value} (h : Below B w w1) (hg : B ≤ g) : Below B w (w1.setCell ⟨g, i, none⟩ u) := h.setCell hg u

/-- the type of the integers, as the program's table has it -/
theorem info_int : (Tryd.prog.info? 2).map (fun i => (i.zero, i.size, i.bytes)) = some (some (.int .i64 0), 1, 8) := by kernel_rfl
end Go.Proofs.YtcgmbpkichfalaaDoor
