/- Spin rings: the tables that both sides write entry by entry. -/
import Derived.Test.YtckcjlophnehmaaRng
import Derived.Test.YtckcjlophnehmaaFld
namespace Go.Proofs.Ytckcjlophnehmaa
open Go.RowKit

/-- an entry of a spin ring with a step -/
def spV (L s i j k : Nat) : Int := if s * i ≤ s * k + s * j ∧ s * j ≤ s * k + s * i ∧ s * k ≤ s * i + s * j ∧ s * k + s * i + s * j ≤ 2 * L ∧ (s * k + s * i + s * j) % 2 = 0 then 1 else 0
/-- entries told before the pair i, j -/
def spG (L s i j : Nat) (a b k : Nat) : Int := if a < i ∨ (a = i ∧ b < j) then spV L s a b k else 0
/-- .. and of this pair those below c -/
def spC (L s i j c : Nat) (a b k : Nat) : Int := if a = i ∧ b = j then (if s * k < c then spV L s i j k else 0) else spG L s i j a b k
def spin (L s : Nat) : List (List (List Int)) := cub (L / s + 1) (spV L s)
/-- where the walk stands: two boxes, and the cube in a range of blocks below the second one -/
structure InBox (w : World) (b0 b1 lo : Nat) (v : Value) (c : List (List (List Int))) (wr : World) : Prop where
  c0 : wr.cell? ⟨b0, 0, none⟩ = some (.slice none 0 0)
  f0 : wr.frozen? ⟨b0, 0, none⟩ = false
  c1 : wr.cell? ⟨b1, 0, none⟩ = some v
  size : b1 < wr.heap.size
  own : OwnCB wr lo b1 v c
  below : Below w.heap.size w wr
theorem InBox.set {w wr : World} {b0 b1 lo g2 k : Nat} {v : Value} {c c' : List (List (List Int))} {x : Int} (h : InBox w b0 b1 lo v c wr) (h0 : b0 < lo) (hw : w.heap.size ≤ lo) (h1 : lo ≤ g2) (h2 : g2 < b1) (ho : OwnCB (wr.setCell ⟨g2, k, none⟩ (vi x)) lo b1 v c') :
    InBox w b0 b1 lo v c' (wr.setCell ⟨g2, k, none⟩ (vi x)) :=
  ⟨(World.cell?_setCell_other _ _ _ _ (fun e => absurd (congrArg Addr.block e) (by simp; omega))).trans h.c0, by simp [h.f0], (World.cell?_setCell_other _ _ _ _ (fun e => absurd (congrArg Addr.block e) (by simp; omega))).trans h.c1, by simpa using h.size, ho, below_set h.below (by omega)⟩
/-- .. without boxes -/
structure InOne (w : World) (hi : Nat) (v : Value) (c : List (List (List Int))) (wr : World) : Prop where
  size : hi ≤ wr.heap.size
  own : OwnCB wr w.heap.size hi v c
  below : Below w.heap.size w wr
theorem InOne.set {w wr : World} {hi g2 k : Nat} {v : Value} {c c' : List (List (List Int))} {x : Int} (h : InOne w hi v c wr) (h1 : w.heap.size ≤ g2) (ho : OwnCB (wr.setCell ⟨g2, k, none⟩ (vi x)) w.heap.size hi v c') :
    InOne w hi v c' (wr.setCell ⟨g2, k, none⟩ (vi x)) :=
  ⟨Nat.le_trans h.size (by simp), ho, below_set h.below h1⟩
theorem InOne.drew {w wr : World} {hi : Nat} {v : Value} {c : List (List (List Int))} (h : InOne w hi v c wr) : InOne w hi v c wr.drew :=
  ⟨h.size, h.own, h.below.drew⟩
theorem InBox.drew {w wr : World} {b0 b1 lo : Nat} {v : Value} {c : List (List (List Int))} (h : InBox w b0 b1 lo v c wr) : InBox w b0 b1 lo v c wr.drew :=
  ⟨h.c0, h.f0, h.c1, h.size, h.own, h.below.drew⟩

theorem sp0_1 (L i j : Nat) : cub (L / 1 + 1) (spC L 1 i j ((1 * i - 1 * j) + (1 * j - 1 * i))) = cub (L / 1 + 1) (spG L 1 i j) := by
  refine cub_congr fun a b k _ _ _ => ?_
  unfold spC spG spV
  split <;> (repeat' split) <;> first | rfl | omega
theorem spn_1 (L i j c : Nat) (h1 : 1 * i ≤ c + 1 * j) (h2 : 1 * j ≤ c + 1 * i) (h3 : c ≤ 1 * i + 1 * j) (h4 : c + 1 * i + 1 * j ≤ 2 * L) (h5 : (c + 1 * i + 1 * j) % 2 = 0) :
    cub (L / 1 + 1) (upd3 (spC L 1 i j c) i j (c) 1) = cub (L / 1 + 1) (spC L 1 i j (c + 2)) := by
  refine cub_congr fun a b k _ _ _ => ?_
  unfold upd3 spC spV
  (repeat' split) <;> first | rfl | omega
theorem spe_1 (L i j c : Nat) (h : 1 * i + 1 * j < c ∨ 2 * L < c + 1 * i + 1 * j) : cub (L / 1 + 1) (spC L 1 i j c) = cub (L / 1 + 1) (spG L 1 i (j + 1)) := by
  refine cub_congr fun a b k _ _ _ => ?_
  unfold spC spG spV
  (repeat' split) <;> first | rfl | omega
theorem spr_1 (L i : Nat) : cub (L / 1 + 1) (spG L 1 i (L / 1 + 1)) = cub (L / 1 + 1) (spG L 1 (i + 1) 0) := by
  refine cub_congr fun a b k _ hb _ => ?_
  unfold spG
  (repeat' split) <;> first | rfl | omega
theorem spd_1 (L : Nat) : cub (L / 1 + 1) (spG L 1 (L / 1 + 1) 0) = spin L 1 := by
  refine cub_congr fun a b k ha _ _ => ?_
  unfold spG
  (repeat' split) <;> first | rfl | omega
theorem spb_1 (L : Nat) : cub (L / 1 + 1) (spG L 1 0 0) = cub (L / 1 + 1) fun _ _ _ => 0 := by
  refine cub_congr fun a b k _ _ _ => ?_
  unfold spG
  (repeat' split) <;> first | rfl | omega

theorem sp0_2 (L i j : Nat) : cub (L / 2 + 1) (spC L 2 i j ((2 * i - 2 * j) + (2 * j - 2 * i))) = cub (L / 2 + 1) (spG L 2 i j) := by
  refine cub_congr fun a b k _ _ _ => ?_
  unfold spC spG spV
  split <;> (repeat' split) <;> first | rfl | omega
theorem spn_2 (L i j c : Nat) (h1 : 2 * i ≤ c + 2 * j) (h2 : 2 * j ≤ c + 2 * i) (h3 : c ≤ 2 * i + 2 * j) (h4 : c + 2 * i + 2 * j ≤ 2 * L) (h5 : (c + 2 * i + 2 * j) % 2 = 0) :
    cub (L / 2 + 1) (upd3 (spC L 2 i j c) i j (c / 2) 1) = cub (L / 2 + 1) (spC L 2 i j (c + 2)) := by
  refine cub_congr fun a b k _ _ _ => ?_
  unfold upd3 spC spV
  (repeat' split) <;> first | rfl | omega
theorem spe_2 (L i j c : Nat) (h : 2 * i + 2 * j < c ∨ 2 * L < c + 2 * i + 2 * j) : cub (L / 2 + 1) (spC L 2 i j c) = cub (L / 2 + 1) (spG L 2 i (j + 1)) := by
  refine cub_congr fun a b k _ _ _ => ?_
  unfold spC spG spV
  (repeat' split) <;> first | rfl | omega
theorem spr_2 (L i : Nat) : cub (L / 2 + 1) (spG L 2 i (L / 2 + 1)) = cub (L / 2 + 1) (spG L 2 (i + 1) 0) := by
  refine cub_congr fun a b k _ hb _ => ?_
  unfold spG
  (repeat' split) <;> first | rfl | omega
theorem spd_2 (L : Nat) : cub (L / 2 + 1) (spG L 2 (L / 2 + 1) 0) = spin L 2 := by
  refine cub_congr fun a b k ha _ _ => ?_
  unfold spG
  (repeat' split) <;> first | rfl | omega
theorem spb_2 (L : Nat) : cub (L / 2 + 1) (spG L 2 0 0) = cub (L / 2 + 1) fun _ _ _ => 0 := by
  refine cub_congr fun a b k _ _ _ => ?_
  unfold spG
  (repeat' split) <;> first | rfl | omega

/-- what the calls answer -/
def spinN (s : Nat) (m k : Int) : List (List (List Int)) × Int := if inR 0 m k = true then (spin k.toNat s, 0) else ([], 2)
end Go.Proofs.Ytckcjlophnehmaa
