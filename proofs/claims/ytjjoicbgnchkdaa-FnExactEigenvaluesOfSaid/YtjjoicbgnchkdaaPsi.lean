/- Walks: append of an integer, with what is told of all other blocks. -/
import Derived.Test.YtjjoicbgnchkdaaApp
import Derived.Maps.AppendAt
namespace Go.Proofs.Ytjjoicbgnchkdaa
open Go.RowKit
/-- append of one integer: all blocks but the list's own stay, and the list does not come to lie in them -/
theorem wp_pushI3 {ops : Array Oper} {rest : List Oper} {o : Oper} {a : Act} {Q : Exit → Act → World → Prop} {w : World} {B : Nat} {v : Value} {y : Int} {xs : List Int} (hown : OwnI w B v xs) (hgd : o.guard = none) (s x : Operand)
    (ho : o.op = .call { callee := .builtin .append, args := #[s, x], argTypes := #[38, 38] })
    (hs : a.eval s = v) {gx : Nat} (hx : a.eval x = .slice (some ⟨gx, 0, none⟩) 1 1) (hgx : gx = w.heap.size)
    (hB : B ≤ w.heap.size) (hlen : xs.length ≤ 1000000)
    (h : ∀ v' w', OwnI w' B v' (xs ++ [y]) → Below B w w' → (∀ g, g < w.heap.size → v.ownBlock ≠ some g → w'.heap[g]? = w.heap[g]? ∧ v'.ownBlock ≠ some g) → wpList Try.prog ops Q rest (a.put o.dst v') w') :
    wpList Try.prog ops Q (o :: rest) a (w.alloc (.cells #[.int .i64 y] 2)) := by
  subst hgx
  obtain ⟨i, hi, hz0, hz1', hz2⟩ := info_parts info_int
  refine wpList_append_own_at _ hgd s x _ ho B 2 i (.int .i64 0) 1 8 Try.underlying38 hi hz0 hz1' hz2 rfl (by omega) v (xs.map vi).length (xs.map vi) hs (World.ownsRow.alloc hown _) ⟨w.heap.size, 0, none⟩ 1 1 [vi y] hx rfl ?_ ?_ ?_ ?_ ?_ ?_
  · exact cell_one_new _ _ _
  · intro u' hu'
    simp at hu'
    subst hu'
    rfl
  · rw [List.length_map]; unfold maxLen; omega
  · rw [List.length_map]; omega
  · simp; omega
  · intro v' w' g1 g2 _ hat
    refine h v' w' (by rw [OwnI, List.map_append]; exact Own.push g1) (grown_below hown hB g2) (fun g hg hne => ⟨?_, ?_⟩)
    · rw [g2.block g (by simp; omega) (fun e => hne e.symm)]
      exact Below.heap_alloc _ _ _ hg
    · rcases hat with e | e
      · rw [e]; exact hne
      · rw [e]; simp; omega
/-- a list stays where another one is written or grows -/
theorem OwnI.stay {w w' : World} {B : Nat} {v : Value} {xs : List Int} (h : OwnI w B v xs) (hk : ∀ g, v.ownBlock = some g → w'.heap[g]? = w.heap[g]?) : OwnI w' B v xs := Own.of_block h hk
end Go.Proofs.Ytjjoicbgnchkdaa
