/- Memory that a call makes for itself: rows that it owns. No walk. -/
import Derived.Test.YtibaollnjfibnaaDoorRows
import Derived.WalkKit
import Derived.WalkSpells
import Derived.WalkLawsBesides
import Derived.Lib.Hide
import Derived.Deep.QuietTactic
import Derived.BigQuiet
namespace Go.Proofs.YtibaollnjfibnaaDoor
open Go.RowKit

theorem ret_int {k : IntKind} {a b : Int} (h : a = b) : Ending.returned (.int k a) = .returned (.int k b) := by rw [h]
theorem ret_two {a b : Int} {r : Int × Int} (h : r = (a, b)) : Ending.returned (.tuple #[.int .i64 a, .int .i64 b]) = .returned (.tuple #[.int .i64 r.1, .int .i64 r.2]) := by rw [h]
theorem below_toDrewN (n : Nat) (B : Nat) (w : World) : Below B w (w.drewN n) := ⟨rfl, rfl, rfl, Nat.le_refl _, fun _ _ => rfl⟩
theorem below_alloc (w : World) (o : Obj) : Below w.heap.size w (w.alloc o) := (Below.refl _ w).alloc (Nat.le_refl _) o
theorem ret_bool {a b : Bool} (h : a = b) : Ending.returned (.bool a) = .returned (.bool b) := by rw [h]
/-- the value v is a slice that owns its cells, from block B on: they hold us -/
def Own (w : World) (T : TypeId) (B : Nat) (v : Value) (us : List Value) : Prop := w.ownsRow B T 1 v us.length us
section
variable {w w' : World} {T : TypeId} {B : Nat} {v u : Value} {us : List Value}
theorem Own.shape (h : Own w T B v us) : (v = .slice none 0 0 ∧ us = []) ∨ ∃ g cap, v = .slice (some ⟨g, 0, none⟩) us.length cap ∧ B ≤ g ∧ g < w.heap.size ∧ us.length ≤ cap := by
  rcases h.2 with ⟨h1, h2⟩ | ⟨g, cap, cur, h1, h2, h3, h4, _⟩
  · exact .inl ⟨h1, List.eq_nil_of_length_eq_zero h2⟩
  · exact .inr ⟨g, cap, h1, h2, (Array.getElem?_eq_some_iff.1 h3).1, h4⟩
theorem Own.slice (h : Own w T B v us) : ∃ p n c, v = .slice p n c := by
  rcases h.shape with ⟨h1, _⟩ | ⟨g, cap, h1, _⟩
  · exact ⟨_, _, _, h1⟩
  · exact ⟨_, _, _, h1⟩
theorem Own.cell {g n cap : Nat} (h : Own w T B (.slice (some ⟨g, 0, none⟩) n cap) us) {i : Nat} (hu : us[i]? = some u) : w.cell? ⟨g, i, none⟩ = some u := by
  have hi := (List.getElem?_eq_some_iff.1 hu).1
  have hn : n = us.length := by
    rcases h.shape with ⟨h1, _⟩ | ⟨g', cap', h1, _⟩
    · cases h1
    · cases h1; rfl
  subst hn
  have h' : w.ownsRow B T 1 (.slice (some ⟨g, 0, none⟩) us.length cap) us.length us := h
  rw [h'.cellAt i (by omega), hu]
theorem Own.frozen {g n cap : Nat} (h : Own w T B (.slice (some ⟨g, 0, none⟩) n cap) us) (i : Nat) : w.frozen? ⟨g, i, none⟩ = false := by
  have hn : n = us.length := by
    rcases h.shape with ⟨h1, _⟩ | ⟨g', cap', h1, _⟩
    · cases h1
    · cases h1; rfl
  subst hn
  have h' : w.ownsRow B T 1 (.slice (some ⟨g, 0, none⟩) us.length cap) us.length us := h
  exact h'.frozenAt i
theorem Own.len {g n cap : Nat} {s : Option Nat} {o : Nat} (h : Own w T B (.slice (some ⟨g, o, s⟩) n cap) us) : n = us.length := by
  rcases h.shape with ⟨h1, _⟩ | ⟨g', cap', h1, _⟩
  · cases h1
  · cases h1; rfl
theorem Own.store {g n cap : Nat} (h : Own w T B (.slice (some ⟨g, 0, none⟩) n cap) us) (i : Nat) (u : Value) : Own (w.setCell ⟨g, i, none⟩ u) T B (.slice (some ⟨g, 0, none⟩) n cap) (us.set i u) := by
  have hn := h.len
  subst hn
  have h' : w.ownsRow B T 1 (.slice (some ⟨g, 0, none⟩) us.length cap) us.length us := h
  have h2 := (h'.stored i u).1
  unfold Own
  rw [List.length_set]
  exact h2
/-- a row stays while its block stays -/
theorem Own.of_block (h : Own w T B v us) (hb : ∀ g, v.ownBlock = some g → w'.heap[g]? = w.heap[g]?) : Own w' T B v us := by
  refine ⟨h.1, ?_⟩
  rcases h.2 with h1 | ⟨g, cap, cur, rfl, hg, hh, r⟩
  · exact .inl h1
  · exact .inr ⟨g, cap, cur, rfl, hg, by rw [hb g rfl]; exact hh, r⟩
theorem Own.lt (h : Own w T B v us) {g : Nat} (hg : v.ownBlock = some g) : B ≤ g ∧ g < w.heap.size := World.ownsRow.lt h g hg
theorem Own.keep (h : Own w T B v us) (hb : Below w.heap.size w w') : Own w' T B v us := h.of_block fun g hg => hb.block g (h.lt hg).2
theorem Own.keepOther (h : Own w T B v us) {a : Addr} (ha : v.ownBlock ≠ some a.block) (u : Value) : Own (w.setCell a u) T B v us :=
  h.of_block fun g hg => Below.heap_setCell _ _ _ _ (fun e => ha (by rw [hg, e]))
theorem Own.mono {B' : Nat} (h : Own w T B v us) (hB : B' ≤ B) : Own w T B' v us := by
  refine ⟨h.1, ?_⟩
  rcases h.2 with h1 | ⟨g, cap, cur, rfl, hg, r⟩
  · exact .inl h1
  · exact .inr ⟨g, cap, cur, rfl, Nat.le_trans hB hg, r⟩
theorem Own.grown {row : Option Nat} (h : Own w T B v us) (hg : w.grownBy w' row) (hr : v.ownBlock = none ∨ v.ownBlock ≠ row) : Own w' T B v us := World.ownsRow.kept h hg hr
theorem Own.alloc (h : Own w T B v us) (o : Obj) : Own (w.alloc o) T B v us := World.ownsRow.alloc h o
theorem Own.drewN (h : Own w T B v us) (n : Nat) : Own (w.drewN n) T B v us := h
theorem Own.nil (w : World) (T : TypeId) (B : Nat) : Own w T B (.slice none 0 0) [] := World.ownsRow_nil w B T 1
/-- cells that were just laid -/
theorem Own.lit (w : World) (T : TypeId) (cs : List Value) (hB : B ≤ w.heap.size) (hm : cs.length ≤ maxLen) : Own (w.alloc (.cells cs.toArray T)) T B (.slice (some ⟨w.heap.size, 0, none⟩) cs.length cs.length) cs := by
  have h := World.ownsRow_lit (base := B) (e := T) (size := 1) w cs.toArray cs.length hB hm (by simp)
  simpa [Own] using h
/-- what make lays -/
theorem Own.made (w : World) (T : TypeId) (z : Value) (n : Nat) (hB : B ≤ w.heap.size) (hm : n ≤ maxLen) : Own (w.alloc (.cells (madeCells #[z] n) T)) T B (.slice (some ⟨w.heap.size, 0, none⟩) n n) (List.replicate n z) := by
  have h := World.ownsRow_lit (base := B) (e := T) (size := 1) w (madeCells #[z] n) n hB hm (by simp [size_madeCells])
  rw [toList_madeCells_one] at h
  unfold Own
  rw [List.length_replicate]
  exact h
end
/-- nothing but draws -/
def Drew (w w' : World) : Prop := ∃ n, w' = w.drewN n
theorem Drew.refl (w : World) : Drew w w := ⟨0, rfl⟩
theorem Drew.more {w w' : World} (h : Drew w w') (n : Nat) : Drew w (w'.drewN n) := by
  obtain ⟨m, rfl⟩ := h; exact ⟨m + n, World.drewN_drewN _ _ _⟩
theorem Drew.trans {a b c : World} (h : Drew a b) (h' : Drew b c) : Drew a c := by
  obtain ⟨n, rfl⟩ := h'; exact h.more n
theorem Drew.heap {w w' : World} (h : Drew w w') : w'.heap = w.heap := by obtain ⟨n, rfl⟩ := h; rfl
theorem Drew.below {w w' : World} (h : Drew w w') (B : Nat) : Below B w w' := by obtain ⟨n, rfl⟩ := h; exact below_toDrewN _ _ _
theorem Drew.cell {w w' : World} (h : Drew w w') {a : Addr} {v : Value} (hc : w.cell? a = some v) : w'.cell? a = some v := by obtain ⟨n, rfl⟩ := h; exact hc
theorem cellLt {w : World} {b off : Nat} {v : Value} (h : w.cell? ⟨b, off, none⟩ = some v) : b < w.heap.size :=
  World.block_lt_of_cell? w _ h
theorem bfrozen {w w' : World} {b o : Nat} {v : Value} (hb : Below w.heap.size w w') (h : w.cell? ⟨b, o, none⟩ = some v) (hf : w.frozen? ⟨b, o, none⟩ = false) : w'.frozen? ⟨b, o, none⟩ = false :=
  (hb.frozen (p := ⟨b, o, none⟩) (cellLt h)).trans hf
theorem Own.other {w : World} {T T' : TypeId} {B B' : Nat} {v v' : Value} {us us' : List Value} (h : Own w T B v us) (h' : Own w T' B' v' us') (hT : T ≠ T') {g : Nat} (hg : v.ownBlock = some g) : v'.ownBlock ≠ some g := by
  intro hg'
  rcases h.2 with ⟨rfl, _⟩ | ⟨g1, cap, cur, rfl, _, hh, _⟩
  · cases hg
  rcases h'.2 with ⟨rfl, _⟩ | ⟨g2, cap', cur', rfl, _, hh', _⟩
  · cases hg'
  cases hg
  cases hg'
  rw [hh] at hh'
  cases hh'
  exact hT rfl
theorem bcell {w w' : World} {b o : Nat} {v : Value} (hb : Below w.heap.size w w') (h : w.cell? ⟨b, o, none⟩ = some v) : w'.cell? ⟨b, o, none⟩ = some v :=
  (hb.cell (p := ⟨b, o, none⟩) (cellLt h)).trans h
theorem below_set {w w1 : World} {B g i : Nat} {u : Value} (h : Below B w w1) (hg : B ≤ g) : Below B w (w1.setCell ⟨g, i, none⟩ u) := h.setCell hg u
end Go.Proofs.YtibaollnjfibnaaDoor
