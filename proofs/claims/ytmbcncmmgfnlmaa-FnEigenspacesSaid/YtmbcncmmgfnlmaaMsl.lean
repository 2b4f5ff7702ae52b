/- A list of tables and a list of integers beside it, both owned, the tables read only: appends to each. -/
import Derived.Test.YtmbcncmmgfnlmaaMdx
import Derived.Test.YtmbcncmmgfnlmaaCub
namespace Go.Proofs.Ytmbcncmmgfnlmaa
open Go.RowKit

/-- a table that is read in all worlds where the blocks of S stay -/
def TabS (w : World) (S : Nat → Prop) (u : Value) (m : List (List Int)) : Prop := ∀ w' : World, (∀ k, S k → w'.heap[k]? = w.heap[k]?) → IntRows w' u m
theorem TabS.now {w : World} {S : Nat → Prop} {u : Value} {m : List (List Int)} (h : TabS w S u m) : IntRows w u m := h w fun _ _ => rfl
theorem TabS.same {w w' : World} {S : Nat → Prop} {u : Value} {m : List (List Int)} (h : TabS w S u m) (hs : ∀ k, S k → w'.heap[k]? = w.heap[k]?) : TabS w' S u m := fun w2 h2 => h w2 fun k hk => (h2 k hk).trans (hs k hk)
theorem TabS.more {w : World} {S S' : Nat → Prop} {u : Value} {m : List (List Int)} (h : TabS w S u m) (hS : ∀ k, S k → S' k) : TabS w S' u m := fun w2 h2 => h w2 fun k hk => h2 k (hS k hk)
theorem RowsOn.tabS {w : World} {B : Nat} {u : Value} {m : List (List Int)} (h : RowsOn w B u m) : TabS w (fun k => B ≤ k ∧ k < w.heap.size) u m := fun w' h' => h w' fun k h1 h2 => h' k ⟨h1, h2⟩
/-- the list v of the tables c, and the list vv of the integers xs; a source lies at block g -/
def Lst (w : World) (B g : Nat) (v vv : Value) (c : List (List (List Int))) (xs : List Int) : Prop :=
  ∃ (S : Nat → Prop) (us : List Value), Own w 24 B v us ∧ us.length = c.length ∧ (∀ (i : Nat) (u : Value) (m : List (List Int)), us[i]? = some u → c[i]? = some m → TabS w S u m) ∧
    (∀ k, S k → k < w.heap.size ∧ k ≠ g) ∧ (∀ b, v.ownBlock = some b → ¬ S b) ∧ OwnI w B vv xs ∧ (∀ b, vv.ownBlock = some b → ¬ S b)
section
variable {w w' : World} {B g : Nat} {v vv : Value} {c : List (List (List Int))} {xs : List Int}
theorem Lst.kept (h : Lst w B g v vv c xs) (hk : Kept g w w') (hg : g < B) : Lst w' B g v vv c xs := by
  obtain ⟨S, us, h1, h2, h3, h4, h5, h6, h7⟩ := h
  exact ⟨S, us, h1.of_block fun b e => hk.block b (h1.lt e).2 (by have := (h1.lt e).1; omega), h2, fun i u m e1 e2 => (h3 i u m e1 e2).same fun k hS => hk.block k (h4 k hS).1 (h4 k hS).2,
    fun k hS => ⟨Nat.lt_of_lt_of_le (h4 k hS).1 hk.size, (h4 k hS).2⟩, h5, h6.of_block fun b e => hk.block b (h6.lt e).2 (by have := (h6.lt e).1; omega), h7⟩
theorem Lst.keep (h : Lst w B g v vv c xs) (hb : Below w.heap.size w w') (hg : g < B) : Lst w' B g v vv c xs := h.kept (Kept.ofBelow hb) hg
theorem Lst.slice (h : Lst w B g v vv c xs) : (∃ p n k, v = .slice p n k) ∧ ∃ p n k, vv = .slice p n k := by
  obtain ⟨S, us, h1, _, _, _, _, h6, _⟩ := h
  exact ⟨Own.slice h1, Own.slice h6⟩
/-- a list of one table, and no integers -/
theorem Lst.one {lo : Nat} {u : Value} {m : List (List Int)} (hu : RowsOn w lo u m) (hB : B ≤ w.heap.size) (hg : g < lo) :
    Lst (w.alloc (.cells #[u] 24)) B g (.slice (some ⟨w.heap.size, 0, none⟩) 1 1) (.slice none 0 0) [m] [] := by
  refine ⟨fun k => lo ≤ k ∧ k < w.heap.size, [u], Own.lit w 24 [u] hB (by unfold maxLen; simp), rfl, fun i u' m' e1 e2 => ?_, fun k hk => ⟨by simp; omega, by omega⟩, fun b e => ?_, Own.nil _ _ _, fun b e => by cases e⟩
  · cases i with
    | zero =>
      cases e1; cases e2
      exact hu.tabS.same fun k hk => Below.heap_alloc _ _ _ hk.2
    | succ i => simp at e1
  · cases e; exact fun hS => Nat.lt_irrefl _ hS.2
/-- other integers -/
theorem Lst.newV (h : Lst w B g v vv c xs) (hB : B ≤ w.heap.size) (x : Int) : Lst (w.alloc (.cells #[.int .i64 x] 2)) B g v (.slice (some ⟨w.heap.size, 0, none⟩) 1 1) c [x] := by
  obtain ⟨S, us, h1, h2, h3, h4, h5, h6, h7⟩ := h
  exact ⟨S, us, h1.alloc _, h2, fun i u m e1 e2 => (h3 i u m e1 e2).same fun k hS => Below.heap_alloc _ _ _ (h4 k hS).1, fun k hS => ⟨by have := (h4 k hS).1; simp; omega, (h4 k hS).2⟩, h5,
    Own.lit w 2 [vi x] hB (by unfold maxLen; simp), fun b e => by cases e; exact fun hS => Nat.lt_irrefl _ (h4 _ hS).1⟩
/-- no tables any more -/
theorem Lst.newL (h : Lst w B g v vv c xs) (hB : B ≤ w.heap.size) : Lst (w.alloc (.cells #[] 24)) B g (.slice (some ⟨w.heap.size, 0, none⟩) 0 0) vv [] xs := by
  obtain ⟨S, us, h1, h2, h3, h4, h5, h6, h7⟩ := h
  exact ⟨S, [], own_empty _ _ _ hB, rfl, fun i u m e1 e2 => by simp at e1, fun k hS => ⟨by have := (h4 k hS).1; simp; omega, (h4 k hS).2⟩, fun b e => by cases e; exact fun hS => Nat.lt_irrefl _ (h4 _ hS).1, h6.alloc _, h7⟩
/-- one more integer -/
theorem Lst.pushV {v' : Value} {y : Int} (h : Lst w B g v vv c xs) (ho : OwnI w' B v' (xs ++ [y])) (hb : Below B w w')
    (hk : ∀ b, b < w.heap.size → vv.ownBlock ≠ some b → w'.heap[b]? = w.heap[b]? ∧ v'.ownBlock ≠ some b) : Lst w' B g v v' c (xs ++ [y]) := by
  obtain ⟨S, us, h1, h2, h3, h4, h5, h6, h7⟩ := h
  have off : ∀ k, S k → w'.heap[k]? = w.heap[k]? ∧ v'.ownBlock ≠ some k := fun k hS => hk k (h4 k hS).1 fun e => h7 k e hS
  exact ⟨S, us, h1.of_block fun b e => (hk b (h1.lt e).2 (Own.other h1 h6 (by decide) e)).1, h2, fun i u m e1 e2 => (h3 i u m e1 e2).same fun k hS => (off k hS).1,
    fun k hS => ⟨Nat.lt_of_lt_of_le (h4 k hS).1 hb.size, (h4 k hS).2⟩, h5, ho, fun b e hS => (off b hS).2 e⟩
/-- one more table -/
theorem wp_pushL {ops : Array Oper} {rest : List Oper} {o : Oper} {a : Act} {Q : Exit → Act → World → Prop} {w0 : World} {u : Value} {m : List (List Int)} (h0 : Lst w0 B g v vv c xs) (hk0 : Kept g w0 w) (hg : g < B) (hu : RowsOn w w0.heap.size u m) (hu1 : ∃ p n k, u = .slice p n k) (hgd : o.guard = none) (s x : Operand)
    (ho : o.op = .call { callee := .builtin .append, args := #[s, x], argTypes := #[53, 53] })
    (hs : a.eval s = v) {gx : Nat} (hx : a.eval x = .slice (some ⟨gx, 0, none⟩) 1 1) (hgx : gx = w.heap.size)
    (hB : B ≤ w0.heap.size) (hlen : c.length ≤ 1000000)
    (h : ∀ v' w', Lst w' B g v' vv (c ++ [m]) xs → Below B w w' → wpList Try.prog ops Q rest (a.put o.dst v') w') :
    wpList Try.prog ops Q (o :: rest) a (w.alloc (.cells #[u] 24)) := by
  obtain ⟨S, us, h1, h2, h3, h4, h5, h6, h7⟩ := h0
  obtain ⟨p, n, cc, rfl⟩ := hu1
  subst hgx
  have hsz := hk0.size
  have h1w : Own w 24 B v us := h1.of_block fun b e => hk0.block b (h1.lt e).2 (by have := (h1.lt e).1; omega)
  have h6w : OwnI w B vv xs := h6.of_block fun b e => hk0.block b (h6.lt e).2 (by have := (h6.lt e).1; omega)
  obtain ⟨i, hi, hz0, hz1', hz2⟩ := info_parts info_rows
  refine wpList_append_own_at _ hgd s x _ ho B 24 i (.slice none 0 0) 1 24 Try.underlying53 hi hz0 hz1' hz2 rfl (by omega) v us.length us hs (World.ownsRow.alloc h1w _) ⟨w.heap.size, 0, none⟩ 1 1 [.slice p n cc] hx rfl ?_ ?_ ?_ ?_ ?_ ?_
  · exact cell_one_new _ _ _
  · intro u' hu'
    simp at hu'
    subst hu'
    rfl
  · unfold maxLen; omega
  · omega
  · simp; omega
  · intro v' w' g1 g2 _ hat
    have hb : Below B w w' := grown_below h1w (by omega) g2
    have hk : ∀ b, b < w.heap.size → v.ownBlock ≠ some b → w'.heap[b]? = w.heap[b]? ∧ v'.ownBlock ≠ some b := fun b hb' hne => by
      refine ⟨?_, ?_⟩
      · rw [g2.block b (by simp; omega) (fun e => hne e.symm)]
        exact Below.heap_alloc _ _ _ hb'
      · rcases hat with e | e
        · rw [e]; exact hne
        · rw [e]; simp; omega
    refine h v' w' ⟨fun k => S k ∨ (w0.heap.size ≤ k ∧ k < w.heap.size), us ++ [.slice p n cc], Own.push g1, by simp [h2], fun j u' m' e1 e2 => ?_, fun k hS => ?_, fun b e hS => ?_, ?_, fun b e hS => ?_⟩ hb
    · have olds : ∀ k, S k → w'.heap[k]? = w0.heap[k]? := fun k hS => (hk k (by have := (h4 k hS).1; omega) fun e => h5 k e hS).1.trans (hk0.block k (h4 k hS).1 (h4 k hS).2)
      have news : ∀ k, w0.heap.size ≤ k ∧ k < w.heap.size → w'.heap[k]? = w.heap[k]? := fun k hk' => (hk k hk'.2 fun e => by have := (h1.lt e).2; omega).1
      rcases Nat.lt_trichotomy j us.length with hj | hj | hj
      · rw [List.getElem?_append_left hj] at e1
        rw [List.getElem?_append_left (by omega)] at e2
        exact ((h3 j u' m' e1 e2).same olds).more fun k hS => .inl hS
      · rw [List.getElem?_append_right (by omega), hj, Nat.sub_self] at e1
        rw [List.getElem?_append_right (by omega), hj, h2, Nat.sub_self] at e2
        cases e1; cases e2
        exact (hu.tabS.same news).more fun k hS => .inr hS
      · rw [List.getElem?_eq_none (by simp; omega)] at e1
        cases e1
    · rcases hS with hS | hS
      · exact ⟨Nat.lt_of_lt_of_le (h4 k hS).1 (Nat.le_trans hsz hb.size), (h4 k hS).2⟩
      · exact ⟨Nat.lt_of_lt_of_le hS.2 hb.size, by omega⟩
    · rcases hS with hS | hS
      · exact (hk b (by have := (h4 b hS).1; omega) fun e' => h5 b e' hS).2 e
      · exact (hk b hS.2 fun e' => by have := (h1.lt e').2; omega).2 e
    · exact h6w.of_block fun b e => (hk b (h6w.lt e).2 (Own.other h6w h1w (by decide) e)).1
    · rcases hS with hS | hS
      · exact h7 b e hS
      · have := (h6.lt e).2; omega
/-- both lists are read -/
theorem Lst.cubes (h : Lst w B g v vv c xs) (hc : c.length ≤ 1000000) : IntCubes w v c := by
  obtain ⟨S, us, h1, h2, h3, h4, h5, h6, h7⟩ := h
  rcases h1.shape with ⟨rfl, hu⟩ | ⟨b, cap, rfl, _⟩
  · subst hu
    have : c = [] := List.eq_nil_of_length_eq_zero h2.symm
    subst this
    exact ⟨none, 0, rfl, by simp, fun i m hm => by simp at hm⟩
  · refine ⟨some ⟨b, 0, none⟩, cap, by rw [h2], by omega, fun i m hm => ?_⟩
    have hi := (List.getElem?_eq_some_iff.1 hm).1
    obtain ⟨u, hu⟩ : ∃ u, us[i]? = some u := ⟨us[i]'(by omega), by simp⟩
    exact ⟨b, 0, u, rfl, by rw [Nat.zero_add]; exact Own.cell h1 hu, (h3 i u m hu hm).now⟩
theorem Lst.ints (h : Lst w B g v vv c xs) (hx : xs.length ≤ 1000000) : Ints w vv xs := by
  obtain ⟨S, us, _, _, _, _, _, h6, _⟩ := h
  exact OwnI.ints h6 (by omega)
theorem Lst.drewN (h : Lst w B g v vv c xs) (n : Nat) : Lst (w.drewN n) B g v vv c xs := h
end
end Go.Proofs.Ytmbcncmmgfnlmaa
