/- Data under way: rows, rows that wait, and a list; what appends do to them. -/
import Derived.Test.YtibaollnjfibnaaSpx
import Derived.Test.YtibaollnjfibnaaApp
import Derived.Maps.AppendAt
import Derived.Deep.RegionLaw
import Derived.BigRegion
namespace Go.Proofs.Ytibaollnjfibnaa
open Go.RowKit

/-- rows S behind s (values us) and waiting (values ps), and a list T behind t, no block twice, all from lo on -/
structure OwnQ (w : World) (lo : Nat) (s t : Value) (us ps : List Value) (S : List (List Int)) (T : List Int) : Prop where
  os : Own w 23 lo s us
  len : (us ++ ps).length = S.length
  rows : ∀ (i : Nat) (u : Value) (xs : List Int), (us ++ ps)[i]? = some u → S[i]? = some xs → OwnI w lo u xs
  apart : apart (us ++ ps)
  ot : OwnI w lo t T
  off : ∀ g, rowsOf (us ++ ps) g → t.ownBlock ≠ some g
theorem OwnQ.d {w : World} {lo : Nat} {s t : Value} {us : List Value} {S : List (List Int)} {T : List Int} (h : OwnQ w lo s t us [] S T) : OwnD w lo w.heap.size s t S T := by
  obtain ⟨h1, h2, h3, h4, h5, h6⟩ := h
  rw [List.append_nil] at h2 h3 h4 h6
  refine ⟨us, h1, h2, h3, h4, h5, h6, fun g hg => (h1.lt hg).2, fun g hg => ?_, fun g hg => (h5.lt hg).2⟩
  obtain ⟨i, u, e1, e2⟩ := hg
  obtain ⟨xs, e3⟩ : ∃ xs, S[i]? = some xs := ⟨S[i]'(by rw [← h2]; exact (List.getElem?_eq_some_iff.1 e1).1), by simp⟩
  exact ((h3 i u xs e1 e3).lt e2).2
theorem OwnQ.same {w w' : World} {lo : Nat} {s t : Value} {us ps : List Value} {S : List (List Int)} {T : List Int} (h : OwnQ w lo s t us ps S T) (hs : ∀ g, lo ≤ g → g < w.heap.size → w'.heap[g]? = w.heap[g]?) : OwnQ w' lo s t us ps S T :=
  ⟨h.os.of_block fun g hg => hs g (h.os.lt hg).1 (h.os.lt hg).2, h.len, fun i u xs e1 e2 => (h.rows i u xs e1 e2).of_block fun g hg => hs g ((h.rows i u xs e1 e2).lt hg).1 ((h.rows i u xs e1 e2).lt hg).2, h.apart, h.ot.of_block fun g hg => hs g (h.ot.lt hg).1 (h.ot.lt hg).2, h.off⟩
theorem OwnQ.keep {w w' : World} {lo : Nat} {s t : Value} {us ps : List Value} {S : List (List Int)} {T : List Int} (h : OwnQ w lo s t us ps S T) (hb : Below w.heap.size w w') : OwnQ w' lo s t us ps S T :=
  h.same fun g _ hg => hb.block g hg
theorem OwnQ.set {w : World} {lo : Nat} {s t : Value} {us ps : List Value} {S : List (List Int)} {T : List Int} (h : OwnQ w lo s t us ps S T) {a : Addr} (ha : a.block < lo) (u : Value) : OwnQ (w.setCell a u) lo s t us ps S T :=
  h.same fun g hg _ => Below.heap_setCell _ _ _ _ (fun e => by omega)
theorem OwnQ.drew {w : World} {lo : Nat} {s t : Value} {us ps : List Value} {S : List (List Int)} {T : List Int} (h : OwnQ w lo s t us ps S T) : OwnQ w.drew lo s t us ps S T := h.same fun _ _ _ => rfl
theorem OwnQ.nil (w : World) (lo : Nat) : OwnQ w lo (.slice none 0 0) (.slice none 0 0) [] [] [] [] :=
  ⟨Own.nil _ _ _, rfl, fun i u xs h => by simp at h, fun i j u u' h => by simp at h, Own.nil _ _ _, fun g h => by obtain ⟨i, u, h1, _⟩ := h; simp at h1⟩
/-- a fresh row waits -/
theorem OwnQ.pend {w0 w : World} {lo : Nat} {s t u : Value} {us : List Value} {S : List (List Int)} {T xs : List Int} (h : OwnQ w0 lo s t us [] S T) (hb : Below w0.heap.size w0 w) (hlo : lo ≤ w0.heap.size) (hu : OwnI w w0.heap.size u xs) : OwnQ w lo s t us [u] (S ++ [xs]) T := by
  have h' := h.keep hb
  obtain ⟨h1, h2, h3, h4, h5, h6⟩ := h'
  rw [List.append_nil] at h2 h3 h4 h6
  have hold : ∀ (i : Nat) (x : Value), us[i]? = some x → ∀ g, x.ownBlock = some g → g < w0.heap.size := by
    intro i x e1 g e2
    obtain ⟨ys, e3⟩ : ∃ ys, S[i]? = some ys := ⟨S[i]'(by rw [← h2]; exact (List.getElem?_eq_some_iff.1 e1).1), by simp⟩
    have h0 := h.rows i x ys (by rw [List.append_nil]; exact e1) e3
    exact (h0.lt e2).2
  have cls : ∀ (i : Nat) (x : Value), (us ++ [u])[i]? = some x → (i < us.length ∧ us[i]? = some x) ∨ (i = us.length ∧ x = u) := by
    intro i x e1
    rcases Nat.lt_trichotomy i us.length with hi | hi | hi
    · rw [List.getElem?_append_left hi] at e1
      exact .inl ⟨hi, e1⟩
    · rw [List.getElem?_append_right (by omega), hi, Nat.sub_self] at e1
      cases e1
      exact .inr ⟨hi, rfl⟩
    · rw [List.getElem?_eq_none (by simp; omega)] at e1
      cases e1
  refine ⟨h1, by simp [h2], fun i x ys e1 e2 => ?_, fun i j x x' e1 e2 hij g hg hg' => ?_, h5, fun g hg => ?_⟩
  · rcases cls i x e1 with ⟨hi, e3⟩ | ⟨hi, rfl⟩
    · rw [List.getElem?_append_left (by omega)] at e2
      exact h3 i x ys e3 e2
    · rw [hi, h2, List.getElem?_append_right (Nat.le_refl _), Nat.sub_self] at e2
      cases e2
      exact hu.mono hlo
  · rcases cls i x e1 with ⟨hi, e3⟩ | ⟨hi, rfl⟩
    · rcases cls j x' e2 with ⟨hj, e4⟩ | ⟨hj, rfl⟩
      · exact h4 i j x x' e3 e4 hij g hg hg'
      · have := hold i x e3 g hg
        have := (hu.lt hg').1
        omega
    · rcases cls j x' e2 with ⟨hj, e4⟩ | ⟨hj, rfl⟩
      · have := hold j x' e4 g hg'
        have := (hu.lt hg).1
        omega
      · omega
  · obtain ⟨i, x, e1, e2⟩ := hg
    rcases cls i x e1 with ⟨hi, e3⟩ | ⟨hi, rfl⟩
    · exact h6 g ⟨i, x, e3, e2⟩
    · intro ht
      have := (h.ot.lt ht).2
      have := (hu.lt e2).1
      omega
/-- append as an operation, its run known -/
theorem wp_run {ops : Array Oper} {rest : List Oper} {o : Oper} {a : Act} {Q : Exit → Act → World → Prop} {w w' : World} {t : TypeId} {v u v' : Value} (hgd : o.guard = none) (s x : Operand)
    (ho : o.op = .call { callee := .builtin .append, args := #[s, x], argTypes := #[t, t] }) (hs : a.eval s = v) (hx : a.eval x = u)
    (hr : ∀ ty, (Builtin.append_ #[t, t] ty #[v, u]).run Try.prog w = .ok v' w') (h : wpList Try.prog ops Q rest (a.put o.dst v') w') : wpList Try.prog ops Q (o :: rest) a w := by
  refine wpList_plain hgd fun K hK => ?_
  unfold Oper.wp execOp
  simp only [ho, resolve, invoke, builtin, Sem.run_bind, Sem.run_pure, Result.andThen_ok, List.map_toArray, List.map_cons, List.map_nil, hs, hx, hr]
  exact hK _ _ h
theorem step_run {ops : Array Oper} {o : Oper} {a : Act} {K : Act → World → Prop} {Q : Exit → Act → World → Prop} {E : Prop} {w w' : World} {t : TypeId} {v u v' : Value} (hgd : o.guard = none) (s x : Operand)
    (ho : o.op = .call { callee := .builtin .append, args := #[s, x], argTypes := #[t, t] }) (hs : a.eval s = v) (hx : a.eval x = u)
    (hr : ∀ ty, (Builtin.append_ #[t, t] ty #[v, u]).run Try.prog w = .ok v' w') (h : K (a.put o.dst v') w') : if Region.wanted o (yielded ops a.tmps) = true then Oper.wp Try.prog o a w K Q else E := by
  rw [if_pos (by simp [Region.wanted, hgd])]
  unfold Oper.wp execOp
  simp only [ho, resolve, invoke, builtin, Sem.run_bind, Sem.run_pure, Result.andThen_ok, List.map_toArray, List.map_cons, List.map_nil, hs, hx, hr]
  exact h
theorem info_ints1 : (Try.prog.info? 23).map (fun i => (i.zero, i.size, i.bytes)) = some (some (.slice none 0 0), 1, 24) := by kernel_rfl
theorem rowsOf_snoc {us : List Value} {u : Value} {g : Nat} : rowsOf (us ++ [u] ++ []) g ↔ rowsOf (us ++ [u]) g := by rw [List.append_nil]
/-- the row that waits is appended -/
theorem OwnQ.runS {w : World} {lo : Nat} {s t u : Value} {us : List Value} {S : List (List Int)} {T : List Int} (h : OwnQ w lo s t us [u] S T) (hlo : lo ≤ w.heap.size) (hl : S.length ≤ 100000) :
    ∃ s' w', (∀ ty, (Builtin.append_ #[22, 22] ty #[s, .slice (some ⟨w.heap.size, 0, none⟩) 1 1]).run Try.prog (w.alloc (.cells #[u] 23)) = .ok s' w') ∧ OwnQ w' lo s' t (us ++ [u]) [] S T ∧ Below lo w w' ∧ w.heap.size ≤ w'.heap.size ∧ ∃ p n c, s' = .slice p n c := by
  obtain ⟨i, hi, hz0, hz1', hz2⟩ := info_parts info_ints1
  have hul : us.length ≤ 100000 := by have := h.len; simp at this; omega
  have hus := h.rows us.length u (S.getD us.length []) (by simp) (by
    have := h.len
    simp at this
    rw [List.getD_eq_getElem?_getD, List.getElem?_eq_getElem (by omega)]
    rfl)
  have hu1 : ∃ p n c, u = .slice p n c := hus.slice
  obtain ⟨pu, nu, cu, rfl⟩ := hu1
  have key := fun ty => run_append_own_at (P := Try.prog) (w.alloc (.cells #[.slice pu nu cu] 23)) lo 22 ty 23 i (.slice none 0 0) 1 24 Try.underlying22 hi hz0 hz1' hz2 rfl (by omega) s us.length us (World.ownsRow.alloc h.os _) ⟨w.heap.size, 0, none⟩ 1 1 [.slice pu nu cu] rfl (cell_one_new _ _ _) (fun u' hu' => by simp at hu'; subst hu'; rfl) (by unfold maxLen; omega) (by omega) (by simp; omega)
  obtain ⟨s', w', hr, g1, g2, _, g4⟩ := key 22
  have hkeep : ∀ g, g < w.heap.size → s.ownBlock ≠ some g → w'.heap[g]? = w.heap[g]? := fun g hg hne => by
    rw [g2.block g (by simp; omega) (fun e => hne e.symm)]
    exact Below.heap_alloc _ _ _ hg
  have hs' : Own w' 23 lo s' (us ++ [.slice pu nu cu]) := Own.push g1
  refine ⟨s', w', fun ty => hr, ⟨hs', by rw [List.append_nil]; exact h.len, fun i x xs e1 e2 => ?_, by rw [List.append_nil]; exact h.apart, ?_, fun g hg => h.off g (rowsOf_snoc.1 hg)⟩, grown_below h.os hlo g2, Nat.le_trans (by simp) g2.size, hs'.slice⟩
  · rw [List.append_nil] at e1
    have hrow := h.rows i x xs e1 e2
    exact hrow.of_block fun g hg => hkeep g (hrow.lt hg).2 (fun e => Own.other h.os hrow (by decide) e hg)
  · exact h.ot.of_block fun g hg => hkeep g (h.ot.lt hg).2 (fun e => Own.other h.os h.ot (by decide) e hg)
/-- a number is appended -/
theorem OwnQ.runT {w : World} {lo : Nat} {s t : Value} {us ps : List Value} {S : List (List Int)} {T : List Int} (y : Int) (h : OwnQ w lo s t us ps S T) (hlo : lo ≤ w.heap.size) (hl : T.length ≤ 100000) :
    ∃ t' w', (∀ ty, (Builtin.append_ #[23, 23] ty #[t, .slice (some ⟨w.heap.size, 0, none⟩) 1 1]).run Try.prog (w.alloc (.cells #[.int .i64 y] 2)) = .ok t' w') ∧ OwnQ w' lo s t' us ps S (T ++ [y]) ∧ Below lo w w' ∧ w.heap.size ≤ w'.heap.size ∧ ∃ p n c, t' = .slice p n c := by
  obtain ⟨i, hi, hz0, hz1', hz2⟩ := info_parts info_int
  have key := fun ty => run_append_own_at (P := Try.prog) (w.alloc (.cells #[.int .i64 y] 2)) lo 23 ty 2 i (.int .i64 0) 1 8 Try.underlying23 hi hz0 hz1' hz2 rfl (by omega) t (T.map vi).length (T.map vi) (World.ownsRow.alloc h.ot _) ⟨w.heap.size, 0, none⟩ 1 1 [vi y] rfl (cell_one_new _ _ _) (fun u' hu' => by simp at hu'; subst hu'; rfl) (by rw [List.length_map]; unfold maxLen; omega) (by rw [List.length_map]; omega) (by simp; omega)
  obtain ⟨t', w', hr, g1, g2, _, g4⟩ := key 23
  have hkeep : ∀ g, g < w.heap.size → t.ownBlock ≠ some g → w'.heap[g]? = w.heap[g]? := fun g hg hne => by
    rw [g2.block g (by simp; omega) (fun e => hne e.symm)]
    exact Below.heap_alloc _ _ _ hg
  have ht' : OwnI w' lo t' (T ++ [y]) := by rw [OwnI, List.map_append]; exact Own.push g1
  have hrb : ∀ g, rowsOf (us ++ ps) g → g < w.heap.size := fun g hg => by
    obtain ⟨i, u, e1, e2⟩ := hg
    obtain ⟨xs, e3⟩ : ∃ xs, S[i]? = some xs := ⟨S[i]'(by rw [← h.len]; exact (List.getElem?_eq_some_iff.1 e1).1), by simp⟩
    exact ((h.rows i u xs e1 e3).lt e2).2
  refine ⟨t', w', fun ty => hr, ⟨?_, h.len, fun i x xs e1 e2 => ?_, h.apart, ht', fun g hg => ?_⟩, grown_below h.ot hlo g2, Nat.le_trans (by simp) g2.size, ht'.slice⟩
  · exact h.os.of_block fun g hg => hkeep g (h.os.lt hg).2 (fun e => Own.other h.os h.ot (by decide) hg e)
  · have hrow := h.rows i x xs e1 e2
    exact hrow.of_block fun g hg => hkeep g (hrow.lt hg).2 (h.off g ⟨i, x, e1, hg⟩)
  · rcases g4 with e | e
    · rw [e]; exact h.off g hg
    · rw [e]
      have := hrb g hg
      simp
      omega
end Go.Proofs.Ytibaollnjfibnaa
