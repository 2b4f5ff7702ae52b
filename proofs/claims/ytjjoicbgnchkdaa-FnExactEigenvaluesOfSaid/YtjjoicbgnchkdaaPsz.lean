/- Walks: appends of lists and of zeros, as operations and as steps of regions that draw their order; a list of one list. -/
import Derived.Test.YtjjoicbgnchkdaaPsh
import Derived.Test.YtjjoicbgnchkdaaApz
namespace Go.Proofs.Ytjjoicbgnchkdaa
open Go.RowKit
/-- append of m zeros as a step -/
theorem step_zerosI {ops : Array Oper} {o : Oper} {a : Act} {K : Act → World → Prop} {Q : Exit → Act → World → Prop} {E : Prop} {w : World} {B : Nat} {v : Value} {xs : List Int} {m : Nat} (hown : OwnI w B v xs)
    (hgd : o.guard = none) (s x : Operand)
    (ho : o.op = .call { callee := .builtin .append, args := #[s, x], argTypes := #[38, 3] })
    (hs : a.eval s = v) (hx : a.eval x = .int .i64 m)
    (hB : B ≤ w.heap.size) (hlen : xs.length ≤ 1000000) (hlen' : m ≤ 1000000)
    (h : ∀ v' w', OwnI w' B v' (xs ++ List.replicate m 0) → Below B w w' → K (a.put o.dst v') w') :
    if Region.wanted o (yielded ops a.tmps) = true then Oper.wp Try.prog o a w K Q else E := by
  have hw : Region.wanted o (yielded ops a.tmps) = true := by simp [Region.wanted, hgd]
  rw [if_pos hw]
  obtain ⟨i, hi, hz0, hz1', hz2⟩ := info_parts info_int
  obtain ⟨v', w', hr, h2, h3⟩ := run_zeros_own (P := Try.prog) w B 38 3 o.type 2 .i64 i (.int .i64 0) Try.underlying38 Try.underlying3 hi hz0 rfl hz1' hz2 rfl v (xs.map vi) hown m hlen' (by rw [List.length_map]; exact hlen) hB
  unfold Oper.wp execOp
  simp only [ho, resolve, invoke, builtin, Sem.run_bind, Sem.run_pure, Result.andThen_ok, List.map_toArray, List.map_cons, List.map_nil, hs, hx, hr]
  refine h v' w' ?_ ?_
  · have e : (xs.map vi ++ List.replicate m (.int .i64 0)) = (xs ++ List.replicate m 0).map vi := by simp [vi]
    unfold OwnI Own
    rw [← e, show (xs.map vi ++ List.replicate m (Value.int .i64 0)).length = (xs.map vi).length + m by simp]
    exact h2
  · exact ⟨h3.os, h3.tape, h3.output, h3.size, fun k hk => h3.block k (by omega) (fun e => by have := (hown.lt e.symm).1; omega)⟩
/-- a list that holds one list with one integer, just laid -/
theorem ownM_one (w : World) (x : Int) : OwnM ((w.alloc (.cells #[.int .i64 x] 2)).alloc (.cells #[.slice (some ⟨w.heap.size, 0, none⟩) 1 1] 38)) w.heap.size (.slice (some ⟨w.heap.size + 1, 0, none⟩) 1 1) [[x]] := by
  have h1 : OwnI (w.alloc (.cells #[.int .i64 x] 2)) w.heap.size (.slice (some ⟨w.heap.size, 0, none⟩) 1 1) [x] := Own.lit (B := w.heap.size) w 2 [vi x] (Nat.le_refl _) (by simp [maxLen])
  have h2 := Own.lit (B := w.heap.size) (w.alloc (.cells #[.int .i64 x] 2)) 38 [.slice (some ⟨w.heap.size, 0, none⟩) 1 1] (by simp) (by simp [maxLen])
  rw [World.size_alloc] at h2
  refine ⟨[.slice (some ⟨w.heap.size, 0, none⟩) 1 1], h2, rfl, fun i u xs e1 e2 => ?_, fun i j u u' e1 e2 hij => ?_⟩
  · cases i with
    | zero => simp at e1 e2; subst e1; subst e2; exact Own.alloc h1 _
    | succ i => simp at e1
  · cases i with
    | zero => cases j with
      | zero => exact absurd rfl hij
      | succ j => simp at e2
    | succ i => simp at e1
theorem OwnI.shapeN {w : World} {B n : Nat} {v : Value} {xs : List Int} (h : OwnI w B v xs) (hl : xs.length = n) (hn : 0 < n) : ∃ g c, v = .slice (some ⟨g, 0, none⟩) n c ∧ B ≤ g ∧ g < w.heap.size := by
  rcases Own.shape h with ⟨_, h2⟩ | ⟨g, cap, h1, h2, h3, _⟩
  · rw [List.map_eq_nil_iff] at h2; subst h2; simp at hl; omega
  · rw [List.length_map, hl] at h1; exact ⟨g, cap, h1, h2, h3⟩
/-! worlds ahead of a call in a region that draws its order -/
theorem bel1 (w : World) : Below w.heap.size w w.drew := (Below.refl _ _).drew
theorem bel2 (w : World) (o : Obj) : Below w.heap.size w (w.drew.alloc o) := ⟨rfl, rfl, rfl, by simp, fun k hk => Below.heap_alloc w.drew _ _ hk⟩
theorem bel3 (w : World) (o : Obj) : Below w.heap.size w (w.alloc o).drew := (below_alloc w o).drew
theorem below_call {w0 X w5 : World} (hb : Below X.heap.size X w5) (h : Below w0.heap.size w0 X) : Below w0.heap.size w0 w5 := h.trans (hb.mono h.size)
theorem own_call {w0 X w5 : World} {v : Value} {xs : List Int} (ho : OwnI w5 X.heap.size v xs) (h : Below w0.heap.size w0 X) : OwnI w5 w0.heap.size v xs := ho.mono h.size
end Go.Proofs.Ytjjoicbgnchkdaa
