/- Walks: append of a new row, with what is told of all other blocks. -/
import Derived.Test.YtjjoicbgnchkdaaOwn
import Derived.Test.YtjjoicbgnchkdaaCln
import Derived.Maps.AppendAt
namespace Go.Proofs.Ytjjoicbgnchkdaa
open Go.RowKit
/-- append of one new row: all blocks but the list's own stay, and the list does not come to lie in them -/
theorem wp_pushM3 {ops : Array Oper} {rest : List Oper} {o : Oper} {a : Act} {Q : Exit → Act → World → Prop} {w0 w : World} {B : Nat} {v u : Value} {xss : List (List Int)} {xs : List Int} (hown : OwnM w0 B v xss) (hb : Below w0.heap.size w0 w) (hu : OwnI w w0.heap.size u xs) (hgd : o.guard = none) (s x : Operand)
    (ho : o.op = .call { callee := .builtin .append, args := #[s, x], argTypes := #[22, 22] })
    (hs : a.eval s = v) {gx : Nat} (hx : a.eval x = .slice (some ⟨gx, 0, none⟩) 1 1) (hgx : gx = w.heap.size)
    (hB : B ≤ w0.heap.size) (hlen : xss.length ≤ 1000000)
    (h : ∀ v' w', OwnM w' B v' (xss ++ [xs]) → Below B w w' → (∀ g, g < w.heap.size → v.ownBlock ≠ some g → w'.heap[g]? = w.heap[g]? ∧ v'.ownBlock ≠ some g) → wpList Try.prog ops Q rest (a.put o.dst v') w') :
    wpList Try.prog ops Q (o :: rest) a (w.alloc (.cells #[u] 38)) := by
  obtain ⟨us, h1, h2, h3, h4⟩ := hown
  obtain ⟨p, n, c, rfl⟩ := hu.slice
  subst hgx
  obtain ⟨i, hi, hz0, hz1', hz2⟩ := info_parts info_ints
  refine wpList_append_own_at _ hgd s x _ ho B 38 i (.slice none 0 0) 1 24 Try.underlying22 hi hz0 hz1' hz2 rfl (by omega) v us.length us hs (World.ownsRow.alloc (h1.keep hb) _) ⟨w.heap.size, 0, none⟩ 1 1 [.slice p n c] hx rfl ?_ ?_ ?_ ?_ ?_ ?_
  · exact cell_one_new _ _ _
  · intro u' hu'
    simp at hu'
    subst hu'
    rfl
  · unfold maxLen; omega
  · omega
  · simp; have := hb.size; omega
  · intro v' w' g1 g2 _ hat
    refine h v' w' (OwnM.push h1 h2 h3 h4 hb hB hu (Own.push g1) g2) (grown_below (h1.keep hb) (Nat.le_trans hB hb.size) g2) (fun g hg hne => ⟨?_, ?_⟩)
    · rw [g2.block g (by simp; omega) (fun e => hne e.symm)]
      exact Below.heap_alloc _ _ _ hg
    · rcases hat with e | e
      · rw [e]; exact hne
      · rw [e]; simp; omega
/-- the same as a step of a region that draws its order -/
theorem step_pushM3 {ops : Array Oper} {o : Oper} {a : Act} {K : Act → World → Prop} {Q : Exit → Act → World → Prop} {E : Prop} {w0 w : World} {B : Nat} {v u : Value} {xss : List (List Int)} {xs : List Int} (hown : OwnM w0 B v xss) (hb : Below w0.heap.size w0 w) (hu : OwnI w w0.heap.size u xs) (hgd : o.guard = none) (s x : Operand)
    (ho : o.op = .call { callee := .builtin .append, args := #[s, x], argTypes := #[22, 22] })
    (hs : a.eval s = v) {gx : Nat} (hx : a.eval x = .slice (some ⟨gx, 0, none⟩) 1 1) (hgx : gx = w.heap.size)
    (hB : B ≤ w0.heap.size) (hlen : xss.length ≤ 1000000)
    (h : ∀ v' w', OwnM w' B v' (xss ++ [xs]) → Below B w w' → (∀ g, g < w.heap.size → v.ownBlock ≠ some g → w'.heap[g]? = w.heap[g]? ∧ v'.ownBlock ≠ some g) → K (a.put o.dst v') w') :
    if Region.wanted o (yielded ops a.tmps) = true then Oper.wp Try.prog o a (w.alloc (.cells #[u] 38)) K Q else E := by
  have hw : Region.wanted o (yielded ops a.tmps) = true := by simp [Region.wanted, hgd]
  rw [if_pos hw]
  obtain ⟨us, h1, h2, h3, h4⟩ := hown
  obtain ⟨p, n, c, rfl⟩ := hu.slice
  subst hgx
  obtain ⟨i, hi, hz0, hz1', hz2⟩ := info_parts info_ints
  obtain ⟨v', w', hr, g1, g2, _, hat⟩ := run_append_own_at (P := Try.prog) (w.alloc (.cells #[.slice p n c] 38)) B 22 o.type 38 i (.slice none 0 0) 1 24 Try.underlying22 hi hz0 hz1' hz2 rfl (by omega) v us.length us (World.ownsRow.alloc (h1.keep hb) _) ⟨w.heap.size, 0, none⟩ 1 1 [.slice p n c] rfl (cell_one_new _ _ _) (fun u' hu' => by simp at hu'; subst hu'; rfl) (by unfold maxLen; omega) (by omega) (by simp; have := hb.size; omega)
  unfold Oper.wp execOp
  simp only [ho, resolve, invoke, builtin, Sem.run_bind, Sem.run_pure, Result.andThen_ok, List.map_toArray, List.map_cons, List.map_nil, hs, hx, hr]
  refine h v' w' (OwnM.push h1 h2 h3 h4 hb hB hu (Own.push g1) g2) (grown_below (h1.keep hb) (Nat.le_trans hB hb.size) g2) (fun g hg hne => ⟨?_, ?_⟩)
  · rw [g2.block g (by simp; omega) (fun e => hne e.symm)]
    exact Below.heap_alloc _ _ _ hg
  · rcases hat with e | e
    · rw [e]; exact hne
    · rw [e]; simp; omega
/-- append of a list of integers as a step -/
theorem step_appendI {ops : Array Oper} {o : Oper} {a : Act} {K : Act → World → Prop} {Q : Exit → Act → World → Prop} {E : Prop} {w : World} {B : Nat} {v : Value} {xs ys : List Int} {b off c m : Nat} (hown : OwnI w B v xs)
    (hc : ∀ i y, ys[i]? = some y → w.cell? ⟨b, off + i, none⟩ = some (.int .i64 y)) (hgd : o.guard = none) (s x : Operand)
    (ho : o.op = .call { callee := .builtin .append, args := #[s, x], argTypes := #[38, 38] })
    (hs : a.eval s = v) (hx : a.eval x = .slice (some ⟨b, off, none⟩) m c) (hm : m = ys.length)
    (hB : B ≤ w.heap.size) (hlen : xs.length ≤ 1000000) (hlen' : ys.length ≤ 1000000)
    (h : ∀ v' w', OwnI w' B v' (xs ++ ys) → Below B w w' → K (a.put o.dst v') w') :
    if Region.wanted o (yielded ops a.tmps) = true then Oper.wp Try.prog o a w K Q else E := by
  have hw : Region.wanted o (yielded ops a.tmps) = true := by simp [Region.wanted, hgd]
  rw [if_pos hw]
  subst hm
  obtain ⟨i, hi, hz0, hz1', hz2⟩ := info_parts info_int
  refine wp_append_own _ s x _ ho B 2 i (.int .i64 0) 1 8 Try.underlying38 hi hz0 hz1' hz2 rfl (by omega) v (xs.map vi).length (xs.map vi) hs hown ⟨b, off, none⟩ ys.length c (ys.map vi) hx (by simp) ?_ ?_ ?_ ?_ hB ?_
  · intro j u hj
    rw [List.getElem?_map] at hj
    cases hy : ys[j]? with
    | none => rw [hy] at hj; cases hj
    | some y =>
      rw [hy] at hj
      cases hj
      have := hc j y hy
      unfold Addr.add
      split
      · rename_i e; subst e; simpa using this
      · exact this
  · intro u hu
    obtain ⟨y, _, rfl⟩ := List.mem_map.1 hu
    rfl
  · rw [List.length_map]; unfold maxLen; omega
  · rw [List.length_map]; omega
  · intro v' w' h1 h2 _
    refine h v' w' ?_ ⟨h2.os, h2.tape, h2.output, h2.size, fun k hk => h2.block k (by omega) (fun e => by have := (hown.lt e.symm).1; omega)⟩
    have e : (xs.map vi ++ ys.map vi).length = (xs.map vi).length + ys.length := by simp
    unfold OwnI Own
    rw [List.map_append, e]
    exact h1
theorem cell_same {w w' : World} {g i : Nat} {v : Value} (h : w'.heap[g]? = w.heap[g]?) (hc : w.cell? ⟨g, i, none⟩ = some v) : w'.cell? ⟨g, i, none⟩ = some v := by
  rw [← hc]; simp only [World.cell?, h]
end Go.Proofs.Ytjjoicbgnchkdaa
