/- Cubes that can be read, with the blocks that they stand on. -/
import Derived.Test.YtckcjlophnehmaaTac
namespace Go.Proofs.Ytckcjlophnehmaa
open Go.RowKit
/-- a table of integers on blocks of D -/
def TabOn (w : World) (D : Nat → Prop) (v : Value) (m : List (List Int)) : Prop :=
  ∀ w' : World, (∀ g, D g → w'.heap[g]? = w.heap[g]?) → IntRows w' v m
/-- an own list of tables: its blocks: D, the list's own among them -/
structure CubOn (w : World) (lo : Nat) (D : Nat → Prop) (v : Value) (c : List (List (List Int))) : Prop where
  out : ∃ us : List Value, Own w 22 lo v us ∧ us.length = c.length ∧
    (∀ (i : Nat) (u : Value) (m : List (List Int)), us[i]? = some u → c[i]? = some m → TabOn w D u m) ∧ (∀ g, v.ownBlock = some g → ¬ D g)
  lt : ∀ g, D g → lo ≤ g ∧ g < w.heap.size
theorem TabOn.mono {w w' : World} {D D' : Nat → Prop} {v : Value} {m : List (List Int)} (h : TabOn w D v m) (hD : ∀ g, D g → D' g) (hw : ∀ g, D g → w'.heap[g]? = w.heap[g]?) : TabOn w' D' v m :=
  fun w2 h2 => h w2 fun g hg => (h2 g (hD g hg)).trans (hw g hg)
/-- all blocks but others stay -/
theorem CubOn.same {w w' : World} {lo : Nat} {D : Nat → Prop} {v : Value} {c : List (List (List Int))} (h : CubOn w lo D v c) (hs : ∀ g, D g → w'.heap[g]? = w.heap[g]?) (hv : ∀ g, v.ownBlock = some g → w'.heap[g]? = w.heap[g]?) (hz : w.heap.size ≤ w'.heap.size) : CubOn w' lo D v c := by
  obtain ⟨⟨us, h1, h2, h3, h4⟩, h5⟩ := h
  exact ⟨⟨us, h1.of_block hv, h2, fun i u m e1 e2 => (h3 i u m e1 e2).mono (fun _ hg => hg) hs, h4⟩, fun g hg => ⟨(h5 g hg).1, Nat.lt_of_lt_of_le (h5 g hg).2 hz⟩⟩
/-- append of one table: the blocks of others stay -/
theorem run_cub {w : World} {lo : Nat} {D E : Nat → Prop} {v : Value} {pu : Option Addr} {nu cu : Nat} {c : List (List (List Int))} {m : List (List Int)} (h : CubOn w lo D v c) (hu : TabOn w E (.slice pu nu cu) m) (hE : ∀ g, E g → lo ≤ g ∧ g < w.heap.size) (hEv : ∀ g, v.ownBlock = some g → ¬ E g) (hlo : lo ≤ w.heap.size) (hl : c.length ≤ 100000) :
    ∃ p n k w', (∀ ty, (Builtin.append_ #[30, 30] ty #[v, .slice (some ⟨w.heap.size, 0, none⟩) 1 1]).run Try.prog (w.alloc (.cells #[.slice pu nu cu] 22)) = .ok (.slice p n k) w') ∧ CubOn w' lo (fun g => D g ∨ E g) (.slice p n k) (c ++ [m]) ∧ Below lo w w' ∧ w.heap.size ≤ w'.heap.size ∧ (∀ g, g < w.heap.size → v.ownBlock ≠ some g → w'.heap[g]? = w.heap[g]?) ∧ (∀ g, (Value.slice p n k).ownBlock = some g → v.ownBlock = some g ∨ w.heap.size ≤ g) := by
  obtain ⟨⟨us, h1, h2, h3, h4⟩, h5⟩ := h
  obtain ⟨i, hi, hz0, hz1', hz2⟩ := info_parts info_rows
  have key := fun ty => run_append_own_at (P := Try.prog) (w.alloc (.cells #[.slice pu nu cu] 22)) lo 30 ty 22 i (.slice none 0 0) 1 24 Try.underlying30 hi hz0 hz1' hz2 rfl (by omega) v us.length us (World.ownsRow.alloc h1 _) ⟨w.heap.size, 0, none⟩ 1 1 [.slice pu nu cu] rfl (cell_one_new _ _ _) (fun u' hu' => by simp at hu'; subst hu'; rfl) (by unfold maxLen; omega) (by omega) (by simp; omega)
  obtain ⟨s', w', hr, g1, g2, _, g4⟩ := key 30
  have hkeep : ∀ g, g < w.heap.size → v.ownBlock ≠ some g → w'.heap[g]? = w.heap[g]? := fun g hg hne => by
    rw [g2.block g (by simp; omega) (fun e => hne e.symm)]
    exact Below.heap_alloc _ _ _ hg
  have hs' : Own w' 22 lo s' (us ++ [.slice pu nu cu]) := Own.push g1
  obtain ⟨p, n, k, rfl⟩ := hs'.slice
  have hat : ∀ g, (Value.slice p n k).ownBlock = some g → v.ownBlock = some g ∨ w.heap.size ≤ g := fun g hg => by
    rcases g4 with e | e
    · left; rw [← e]; exact hg
    · right; rw [e] at hg; cases hg; simp
  have hz : w.heap.size ≤ w'.heap.size := Nat.le_trans (by simp) g2.size
  refine ⟨p, n, k, w', fun ty => hr, ⟨⟨us ++ [.slice pu nu cu], hs', by simp [h2], fun i x y e1 e2 => ?_, fun g hg hDE => ?_⟩, fun g hg => ?_⟩, grown_below h1 hlo g2, hz, hkeep, hat⟩
  · by_cases hlt : i < us.length
    · rw [List.getElem?_append_left hlt] at e1
      rw [List.getElem?_append_left (by omega)] at e2
      exact (h3 i x y e1 e2).mono (fun g hg => .inl hg) fun g hg => hkeep g (h5 g hg).2 (fun e => h4 g e hg)
    · have hi := (List.getElem?_eq_some_iff.1 e1).1
      simp at hi
      obtain rfl : i = us.length := by omega
      simp at e1
      rw [h2] at e2
      simp at e2
      subst e1; subst e2
      exact hu.mono (fun g hg => .inr hg) fun g hg => hkeep g (hE g hg).2 (fun e => hEv g e hg)
  · rcases hat g hg with e | e
    · rcases hDE with d | d
      · exact h4 g e d
      · exact hEv g e d
    · rcases hDE with d | d
      · have := (h5 g d).2; omega
      · have := (hE g d).2; omega
  · rcases hg with d | d
    · exact ⟨(h5 g d).1, Nat.lt_of_lt_of_le (h5 g d).2 hz⟩
    · exact ⟨(hE g d).1, Nat.lt_of_lt_of_le (hE g d).2 hz⟩
theorem OwnM.on {w : World} {B : Nat} {v : Value} {m : List (List Int)} (h : OwnM w B v m) (hl : m.length ≤ 1000000) (hl' : ∀ xs ∈ m, xs.length ≤ 1000000) : TabOn w (fun g => B ≤ g ∧ g < w.heap.size) v m := fun w' hw => by
  obtain ⟨us, h1, h2, h3, h4⟩ := h
  have h' : OwnM w' B v m := ⟨us, h1.of_block fun g e => hw g ⟨(h1.lt e).1, (h1.lt e).2⟩, h2, fun i u xs e1 e2 => (h3 i u xs e1 e2).of_block fun g e => hw g ⟨((h3 i u xs e1 e2).lt e).1, ((h3 i u xs e1 e2).lt e).2⟩, h4⟩
  exact h'.rows (by omega) fun xs hx => Nat.le_trans (hl' xs hx) (by omega)
theorem CubOn.nil (w : World) (lo : Nat) : CubOn w lo (fun _ => False) (.slice none 0 0) [] :=
  ⟨⟨[], Own.nil _ _ _, rfl, fun i u m h => by simp at h, fun g h => by simp [Value.ownBlock] at h⟩, fun g h => h.elim⟩
theorem CubOn.cubes {w : World} {lo : Nat} {D : Nat → Prop} {v : Value} {c : List (List (List Int))} (h : CubOn w lo D v c) (hl : c.length ≤ 100000) : IntCubes w v c := by
  obtain ⟨⟨us, h1, h2, h3, _⟩, _⟩ := h
  rcases Own.shape h1 with ⟨rfl, e⟩ | ⟨g, cap, rfl, _⟩
  · have hc : c = [] := List.length_eq_zero_iff.1 (by rw [← h2, e]; rfl)
    subst hc
    exact ⟨none, 0, rfl, by simp, fun i m h => by simp at h⟩
  · refine ⟨some ⟨g, 0, none⟩, cap, by rw [h2], by omega, fun i m hm => ?_⟩
    have hi := (List.getElem?_eq_some_iff.1 hm).1
    obtain ⟨u, hu⟩ : ∃ u, us[i]? = some u := ⟨us[i]'(by omega), by simp⟩
    exact ⟨g, 0, u, rfl, by rw [Nat.zero_add]; exact Own.cell h1 hu, h3 i u m hu hm w (fun _ _ => rfl)⟩
/-- two lists of tables side by side -/
structure TwoC (w : World) (lo : Nat) (D1 D2 : Nat → Prop) (v1 v2 : Value) (c1 c2 : List (List (List Int))) : Prop where
  a : CubOn w lo D1 v1 c1
  b : CubOn w lo D2 v2 c2
  ab : ∀ g, v1.ownBlock = some g → ¬ D2 g
  ba : ∀ g, v2.ownBlock = some g → ¬ D1 g
  own : ∀ g, v1.ownBlock = some g → v2.ownBlock ≠ some g
theorem TwoC.swap {w : World} {lo : Nat} {D1 D2 : Nat → Prop} {v1 v2 : Value} {c1 c2 : List (List (List Int))} (h : TwoC w lo D1 D2 v1 v2 c1 c2) : TwoC w lo D2 D1 v2 v1 c2 c1 :=
  ⟨h.b, h.a, h.ba, h.ab, fun g e1 e2 => h.own g e2 e1⟩
theorem CubOn.vlt {w : World} {lo : Nat} {D : Nat → Prop} {v : Value} {c : List (List (List Int))} (h : CubOn w lo D v c) {g : Nat} (e : v.ownBlock = some g) : lo ≤ g ∧ g < w.heap.size := by
  obtain ⟨us, h1, _⟩ := h.out
  exact Own.lt h1 e
theorem TwoC.keep {w w' : World} {lo : Nat} {D1 D2 : Nat → Prop} {v1 v2 : Value} {c1 c2 : List (List (List Int))} (h : TwoC w lo D1 D2 v1 v2 c1 c2) (hs : ∀ g, lo ≤ g → g < w.heap.size → w'.heap[g]? = w.heap[g]?) (hz : w.heap.size ≤ w'.heap.size) : TwoC w' lo D1 D2 v1 v2 c1 c2 :=
  ⟨h.a.same (fun g d => hs g (h.a.lt g d).1 (h.a.lt g d).2) (fun g e => hs g (h.a.vlt e).1 (h.a.vlt e).2) hz, h.b.same (fun g d => hs g (h.b.lt g d).1 (h.b.lt g d).2) (fun g e => hs g (h.b.vlt e).1 (h.b.vlt e).2) hz, h.ab, h.ba, h.own⟩
/-- the first list grows by a table on blocks that are neither list's -/
theorem TwoC.push {w w' : World} {lo : Nat} {D1 D2 E : Nat → Prop} {v1 v2 v' : Value} {c1 c2 c' : List (List (List Int))} (h : TwoC w lo D1 D2 v1 v2 c1 c2) (ho : CubOn w' lo (fun g => D1 g ∨ E g) v' c') (hz : w.heap.size ≤ w'.heap.size) (hk : ∀ g, g < w.heap.size → v1.ownBlock ≠ some g → w'.heap[g]? = w.heap[g]?)
    (hat : ∀ g, v'.ownBlock = some g → v1.ownBlock = some g ∨ w.heap.size ≤ g) (hE : ∀ g, v2.ownBlock = some g → ¬ E g) : TwoC w' lo (fun g => D1 g ∨ E g) D2 v' v2 c' c2 := by
  refine ⟨ho, h.b.same (fun g d => hk g (h.b.lt g d).2 fun e => h.ab g e d) (fun g e => hk g (h.b.vlt e).2 fun e1 => h.own g e1 e) hz, fun g e d => ?_, fun g e d => ?_, fun g e1 e2 => ?_⟩
  · rcases hat g e with e1 | e1
    · exact h.ab g e1 d
    · have := (h.b.lt g d).2; omega
  · rcases d with d | d
    · exact h.ba g e d
    · exact hE g e d
  · rcases hat g e1 with e3 | e3
    · exact h.own g e3 e2
    · have := (h.b.vlt e2).2; omega
end Go.Proofs.Ytckcjlophnehmaa
