/- What stays where only some blocks turn. No walk. -/
import Derived.Test.YtcgmbpkichfalaaDoorMem
namespace Go.Proofs.YtcgmbpkichfalaaDoor
open Go.RowKit

/-- nothing has turned but blocks of S; no block is new -/
structure Touch (S : Nat → Prop) (w w' : World) : Prop where
  os : w'.os = w.os
  tape : w'.tape = w.tape
  output : w'.output = w.output
  size : w'.heap.size = w.heap.size
  block : ∀ k, ¬ S k → w'.heap[k]? = w.heap[k]?
theorem Touch.refl (S : Nat → Prop) (w : World) : Touch S w w := ⟨rfl, rfl, rfl, rfl, fun _ _ => rfl⟩
theorem Touch.trans {S : Nat → Prop} {a b c : World} (h : Touch S a b) (h' : Touch S b c) : Touch S a c :=
  ⟨h'.os.trans h.os, h'.tape.trans h.tape, h'.output.trans h.output, h'.size.trans h.size, fun k hk => (h'.block k hk).trans (h.block k hk)⟩
theorem Touch.mono {S S' : Nat → Prop} {a b : World} (h : Touch S a b) (hs : ∀ k, S k → S' k) : Touch S' a b :=
  ⟨h.os, h.tape, h.output, h.size, fun k hk => h.block k (fun hh => hk (hs k hh))⟩
theorem Touch.drewN {S : Nat → Prop} {a b : World} (h : Touch S a b) (n : Nat) : Touch S a (b.drewN n) := ⟨h.os, h.tape, h.output, h.size, h.block⟩
theorem Touch.set {S : Nat → Prop} {a b : World} (h : Touch S a b) {g i : Nat} {v : Value} (hg : S g) : Touch S a (b.setCell ⟨g, i, none⟩ v) :=
  ⟨h.os, h.tape, h.output, (by rw [← h.size]; simp [World.setCell]), fun k hk => (Below.heap_setCell _ _ _ _ (fun e => hk (by simp at e; rw [e]; exact hg))).trans (h.block k hk)⟩
theorem Touch.below {S : Nat → Prop} {B : Nat} {w0 w w' : World} (hb : Below B w0 w) (h : Touch S w w') (hs : ∀ k, S k → B ≤ k) : Below B w0 w' :=
  hb.trans ⟨h.os, h.tape, h.output, by rw [h.size]; exact Nat.le_refl _, fun k hk => h.block k (fun hh => by have := hs k hh; omega)⟩

end Go.Proofs.YtcgmbpkichfalaaDoor
