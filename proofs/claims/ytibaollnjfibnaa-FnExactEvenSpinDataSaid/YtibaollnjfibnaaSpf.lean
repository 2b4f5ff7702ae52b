/- Spin data: what they are; the walk of the reference. -/
import Derived.Test.YtibaollnjfibnaaSpe
namespace Go.Proofs.Ytibaollnjfibnaa
open Go.RowKit
/-- so many charges -/
def spn (k st : Int) : Nat := (k / st).toNat + 1
/-- a row's beginning, the rows' beginning, the twists' beginning -/
def spR (q st i : Int) (Y : Nat) : List Int := (List.range Y).map fun (y : Nat) => qnum q ((i + 1) * (st * y + 1))
def spS (q st : Int) (n X : Nat) : List (List Int) := (List.range X).map fun (x : Nat) => spR q st (st * x) n
def spT (z st : Int) (X : Nat) : List Int := (List.range X).map fun (x : Nat) => ipw z (st * x * (st * x + 2))
def spZ (k m : Int) : Int := ipw (iroot (4 * (k + 2))) m
def spQ (k m : Int) : Int := spZ k m * spZ k m % 55441
def spinN (k m st : Int) : (List (List Int) × List Int) × Int :=
  if spOk k m = true then ((spS (spQ k m) st (spn k st) (spn k st), spT (spZ k m) st (spn k st)), 0) else (([], []), 5)
theorem spR_succ (q st i : Int) (Y : Nat) : spR q st i (Y + 1) = spR q st i Y ++ [qnum q ((i + 1) * (st * Y + 1))] := by simp [spR, List.range_succ]
theorem spS_succ (q st : Int) (n X : Nat) : spS q st n (X + 1) = spS q st n X ++ [spR q st (st * X) n] := by simp [spS, List.range_succ]
theorem spT_succ (z st : Int) (X : Nat) : spT z st (X + 1) = spT z st X ++ [ipw z (st * X * (st * X + 2))] := by simp [spT, List.range_succ]
theorem spR_len (q st i : Int) (Y : Nat) : (spR q st i Y).length = Y := by simp [spR]
theorem spS_len (q st : Int) (n X : Nat) : (spS q st n X).length = X := by simp [spS]
theorem spT_len (z st : Int) (X : Nat) : (spT z st X).length = X := by simp [spT]
theorem spn_iff {k st : Int} {X : Nat} (hk : 0 ≤ k) (hst : st = 1 ∨ st = 2) : st * X ≤ k ↔ X < spn k st := by
  unfold spn
  rcases hst with rfl | rfl <;> omega
theorem spn_le {k st : Int} (hk : 0 ≤ k) (hk' : k ≤ 31) (hst : st = 1 ∨ st = 2) : spn k st ≤ 32 := by
  unfold spn
  rcases hst with rfl | rfl <;> omega
theorem st_next {st i : Int} {X : Nat} (h : i = st * X) : i + st = st * ((X + 1 : Nat) : Int) := by
  rw [h, Int.natCast_add, Int.mul_add]; simp
theorem prod33 {i j : Int} (h1 : 0 ≤ i) (h2 : i ≤ 32) (h3 : 0 ≤ j) (h4 : j ≤ 32) : 0 ≤ (i + 1) * (j + 1) ∧ (i + 1) * (j + 1) ≤ 1089 :=
  ⟨Int.mul_nonneg (by omega) (by omega), Int.le_trans (Int.mul_le_mul (by omega : i + 1 ≤ 33) (by omega : j + 1 ≤ 33) (by omega) (by omega)) (by omega)⟩
theorem prod34 {i : Int} (h1 : 0 ≤ i) (h2 : i ≤ 32) : 0 ≤ i * (i + 2) ∧ i * (i + 2) ≤ 1088 :=
  ⟨Int.mul_nonneg (by omega) (by omega), Int.le_trans (Int.mul_le_mul (by omega : i ≤ 32) (by omega : i + 2 ≤ 34) (by omega) (by omega)) (by omega)⟩
theorem spZ_bd (k m : Int) : 0 ≤ spZ k m ∧ spZ k m < 55441 := ipw_bd _ _
/-- where a walk stands: the result's cells in block w.heap.size, the data's box bx, its lists from bx + 1 on -/
structure SpIn (w : World) (bx : Nat) (s t : Value) (us ps : List Value) (S : List (List Int)) (T : List Int) (wr : World) : Prop where
  c0 : wr.cell? ⟨bx, 0, none⟩ = some s
  c1 : wr.cell? ⟨bx, 1, none⟩ = some t
  f0 : wr.frozen? ⟨bx, 0, none⟩ = false
  f1 : wr.frozen? ⟨bx, 1, none⟩ = false
  r0 : wr.cell? ⟨w.heap.size, 0, none⟩ = some (.slice none 0 0)
  r1 : wr.cell? ⟨w.heap.size, 1, none⟩ = some (.slice none 0 0)
  g0 : wr.frozen? ⟨w.heap.size, 0, none⟩ = false
  g1 : wr.frozen? ⟨w.heap.size, 1, none⟩ = false
  own : OwnQ wr (bx + 1) s t us ps S T
  size : bx + 1 ≤ wr.heap.size
  below : Below w.heap.size w wr
  lt : w.heap.size < bx
theorem SpIn.keep {w : World} {bx : Nat} {s t : Value} {us ps : List Value} {S : List (List Int)} {T : List Int} {wr w' : World} (h : SpIn w bx s t us ps S T wr) (hb : Below wr.heap.size wr w') : SpIn w bx s t us ps S T w' :=
  ⟨bcell hb h.c0, bcell hb h.c1, bfrozen hb h.c0 h.f0, bfrozen hb h.c1 h.f1, bcell hb h.r0, bcell hb h.r1, bfrozen hb h.r0 h.g0, bfrozen hb h.r1 h.g1, h.own.keep hb, Nat.le_trans h.size hb.size, h.below.trans (hb.mono h.below.size), h.lt⟩
/-- the lists turn, all below them stays -/
theorem SpIn.turn {w : World} {bx : Nat} {s t : Value} {us ps us' ps' : List Value} {S S' : List (List Int)} {T T' : List Int} {wr w' : World} {s' t' : Value} (h : SpIn w bx s t us ps S T wr) (hb : Below (bx + 1) wr w') (hs : wr.heap.size ≤ w'.heap.size) (ho : OwnQ w' (bx + 1) s' t' us' ps' S' T') :
    SpIn w bx s' t' us' ps' S' T' ((w'.setCell ⟨bx, 0, none⟩ s').setCell ⟨bx, 1, none⟩ t') := by
  have hlt := h.lt
  have e1 : ∀ (j : Nat) (v : Value), wr.cell? ⟨w.heap.size, j, none⟩ = some v → w'.cell? ⟨w.heap.size, j, none⟩ = some v := fun j v hc => by
    rw [← hc]; simp only [World.cell?, hb.block w.heap.size (by omega)]
  have e2 : ∀ (j : Nat) (v : Value), wr.cell? ⟨bx, j, none⟩ = some v → w'.cell? ⟨bx, j, none⟩ = some v := fun j v hc => by
    rw [← hc]; simp only [World.cell?, hb.block bx (by omega)]
  have e3 : ∀ (j : Nat), w'.frozen? ⟨w.heap.size, j, none⟩ = wr.frozen? ⟨w.heap.size, j, none⟩ := fun j => by simp only [World.frozen?, hb.block w.heap.size (by omega)]
  have e4 : ∀ (j : Nat), w'.frozen? ⟨bx, j, none⟩ = wr.frozen? ⟨bx, j, none⟩ := fun j => by simp only [World.frozen?, hb.block bx (by omega)]
  have n1 : ∀ (i j : Nat), (⟨bx, i, none⟩ : Addr) ≠ ⟨w.heap.size, j, none⟩ := fun i j e => by have := congrArg Addr.block e; simp at this; omega
  refine ⟨?_, ?_, ?_, ?_, ?_, ?_, ?_, ?_, (ho.set (by show bx < bx + 1; omega) _).set (by show bx < bx + 1; omega) _, by simp; have := h.size; omega, below_set (below_set (h.below.trans (hb.mono (by omega))) (by omega)) (by omega), hlt⟩
  · rw [World.cell?_setCell_other _ _ _ _ (fun e => by have := congrArg Addr.off e; simp at this)]
    exact World.cell?_setCell_same _ _ _ (e2 0 _ h.c0)
  · exact World.cell?_setCell_same _ _ _ ((World.cell?_setCell_other _ _ _ _ (fun e => by have := congrArg Addr.off e; simp at this)).trans (e2 1 _ h.c1))
  · rw [World.frozen?_setCell, World.frozen?_setCell, e4]; exact h.f0
  · rw [World.frozen?_setCell, World.frozen?_setCell, e4]; exact h.f1
  · rw [World.cell?_setCell_other _ _ _ _ (n1 1 0), World.cell?_setCell_other _ _ _ _ (n1 0 0)]; exact e1 0 _ h.r0
  · rw [World.cell?_setCell_other _ _ _ _ (n1 1 1), World.cell?_setCell_other _ _ _ _ (n1 0 1)]; exact e1 1 _ h.r1
  · rw [World.frozen?_setCell, World.frozen?_setCell, e3]; exact h.g0
  · rw [World.frozen?_setCell, World.frozen?_setCell, e3]; exact h.g1
/-- the rows turn -/
theorem SpIn.turnS {w : World} {bx : Nat} {s t : Value} {us ps us' ps' : List Value} {S S' : List (List Int)} {T T' : List Int} {wr w' : World} {x : Value} (h : SpIn w bx s t us ps S T wr) (hb : Below (bx + 1) wr w') (hs : wr.heap.size ≤ w'.heap.size) (ho : OwnQ w' (bx + 1) x t us' ps' S' T') :
    SpIn w bx x t us' ps' S' T' (w'.setCell ⟨bx, 0, none⟩ x) := by
  have hlt := h.lt
  have e1 : ∀ (j : Nat) (v : Value), wr.cell? ⟨w.heap.size, j, none⟩ = some v → w'.cell? ⟨w.heap.size, j, none⟩ = some v := fun j v hc => by
    rw [← hc]; simp only [World.cell?, hb.block w.heap.size (by omega)]
  have e2 : ∀ (j : Nat) (v : Value), wr.cell? ⟨bx, j, none⟩ = some v → w'.cell? ⟨bx, j, none⟩ = some v := fun j v hc => by
    rw [← hc]; simp only [World.cell?, hb.block bx (by omega)]
  have e3 : ∀ (j : Nat), w'.frozen? ⟨w.heap.size, j, none⟩ = wr.frozen? ⟨w.heap.size, j, none⟩ := fun j => by simp only [World.frozen?, hb.block w.heap.size (by omega)]
  have e4 : ∀ (j : Nat), w'.frozen? ⟨bx, j, none⟩ = wr.frozen? ⟨bx, j, none⟩ := fun j => by simp only [World.frozen?, hb.block bx (by omega)]
  have n1 : ∀ (i j : Nat), (⟨bx, i, none⟩ : Addr) ≠ ⟨w.heap.size, j, none⟩ := fun i j e => by have := congrArg Addr.block e; simp at this; omega
  refine ⟨?_, ?_, ?_, ?_, ?_, ?_, ?_, ?_, ho.set (by show bx < bx + 1; omega) _, by simp; have := h.size; omega, below_set (h.below.trans (hb.mono (by omega))) (by omega), hlt⟩
  · exact World.cell?_setCell_same _ _ _ (e2 0 _ h.c0)
  · exact (World.cell?_setCell_other _ _ _ _ (fun e => by have := congrArg Addr.off e; simp at this)).trans (e2 1 _ h.c1)
  · rw [World.frozen?_setCell, e4]; exact h.f0
  · rw [World.frozen?_setCell, e4]; exact h.f1
  · rw [World.cell?_setCell_other _ _ _ _ (n1 0 0)]; exact e1 0 _ h.r0
  · rw [World.cell?_setCell_other _ _ _ _ (n1 0 1)]; exact e1 1 _ h.r1
  · rw [World.frozen?_setCell, e3]; exact h.g0
  · rw [World.frozen?_setCell, e3]; exact h.g1
/-- the list turns -/
theorem SpIn.turnT {w : World} {bx : Nat} {s t : Value} {us ps us' ps' : List Value} {S S' : List (List Int)} {T T' : List Int} {wr w' : World} {x : Value} (h : SpIn w bx s t us ps S T wr) (hb : Below (bx + 1) wr w') (hs : wr.heap.size ≤ w'.heap.size) (ho : OwnQ w' (bx + 1) s x us' ps' S' T') :
    SpIn w bx s x us' ps' S' T' (w'.setCell ⟨bx, 1, none⟩ x) := by
  have hlt := h.lt
  have e1 : ∀ (j : Nat) (v : Value), wr.cell? ⟨w.heap.size, j, none⟩ = some v → w'.cell? ⟨w.heap.size, j, none⟩ = some v := fun j v hc => by
    rw [← hc]; simp only [World.cell?, hb.block w.heap.size (by omega)]
  have e2 : ∀ (j : Nat) (v : Value), wr.cell? ⟨bx, j, none⟩ = some v → w'.cell? ⟨bx, j, none⟩ = some v := fun j v hc => by
    rw [← hc]; simp only [World.cell?, hb.block bx (by omega)]
  have e3 : ∀ (j : Nat), w'.frozen? ⟨w.heap.size, j, none⟩ = wr.frozen? ⟨w.heap.size, j, none⟩ := fun j => by simp only [World.frozen?, hb.block w.heap.size (by omega)]
  have e4 : ∀ (j : Nat), w'.frozen? ⟨bx, j, none⟩ = wr.frozen? ⟨bx, j, none⟩ := fun j => by simp only [World.frozen?, hb.block bx (by omega)]
  have n1 : ∀ (i j : Nat), (⟨bx, i, none⟩ : Addr) ≠ ⟨w.heap.size, j, none⟩ := fun i j e => by have := congrArg Addr.block e; simp at this; omega
  refine ⟨?_, ?_, ?_, ?_, ?_, ?_, ?_, ?_, ho.set (by show bx < bx + 1; omega) _, by simp; have := h.size; omega, below_set (h.below.trans (hb.mono (by omega))) (by omega), hlt⟩
  · exact (World.cell?_setCell_other _ _ _ _ (fun e => by have := congrArg Addr.off e; simp at this)).trans (e2 0 _ h.c0)
  · exact World.cell?_setCell_same _ _ _ (e2 1 _ h.c1)
  · rw [World.frozen?_setCell, e4]; exact h.f0
  · rw [World.frozen?_setCell, e4]; exact h.f1
  · rw [World.cell?_setCell_other _ _ _ _ (n1 1 0)]; exact e1 0 _ h.r0
  · rw [World.cell?_setCell_other _ _ _ _ (n1 1 1)]; exact e1 1 _ h.r1
  · rw [World.frozen?_setCell, e3]; exact h.g0
  · rw [World.frozen?_setCell, e3]; exact h.g1
theorem SpIn.drew {w : World} {bx : Nat} {s t : Value} {us ps : List Value} {S : List (List Int)} {T : List Int} {wr : World} (h : SpIn w bx s t us ps S T wr) : SpIn w bx s t us ps S T wr.drew := h.keep (below_toDrewN 1 _ wr)
theorem SpIn.pend {w w0 w' : World} {bx : Nat} {s t u : Value} {us : List Value} {S : List (List Int)} {T xs : List Int} (h : SpIn w bx s t us [] S T w0) (hb : Below w0.heap.size w0 w') (hu : OwnI w' w0.heap.size u xs) : SpIn w bx s t us [u] (S ++ [xs]) T w' := by
  have h2 := h.keep hb
  exact ⟨h2.c0, h2.c1, h2.f0, h2.f1, h2.r0, h2.r1, h2.g0, h2.g1, h.own.pend hb h.size hu, h2.size, h2.below, h2.lt⟩
theorem gen_worldS {p : World → Prop} {W : World} (h : ∀ w, w = W → p w) : p W := h W rfl
theorem cellOf {w w' : World} {B g i : Nat} {v : Value} (hb : Below B w w') (hg : g < B) (hc : w.cell? ⟨g, i, none⟩ = some v) : w'.cell? ⟨g, i, none⟩ = some v := by
  rw [← hc]; simp only [World.cell?, hb.block g hg]
theorem frozenOf {w w' : World} {B g i : Nat} (hb : Below B w w') (hg : g < B) (hc : w.frozen? ⟨g, i, none⟩ = false) : w'.frozen? ⟨g, i, none⟩ = false := by
  rw [← hc]; simp only [World.frozen?, hb.block g hg]
end Go.Proofs.Ytibaollnjfibnaa
