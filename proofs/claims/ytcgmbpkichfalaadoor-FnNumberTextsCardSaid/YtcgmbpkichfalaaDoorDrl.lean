/- Walks: draws of numbers: all blocks but the source's stay (for a seat without tables). -/
import Derived.Test.YtcgmbpkichfalaaDoorDrn
namespace Go.Proofs.YtcgmbpkichfalaaDoor
open Go.RowKit

/-- all blocks that were there stay, but for block g -/
structure Kept (g : Nat) (w w' : World) : Prop where
  os : w'.os = w.os
  tape : w'.tape = w.tape
  output : w'.output = w.output
  size : w.heap.size ≤ w'.heap.size
  block : ∀ k, k < w.heap.size → k ≠ g → w'.heap[k]? = w.heap[k]?
theorem Kept.refl (g : Nat) (w : World) : Kept g w w := ⟨rfl, rfl, rfl, Nat.le_refl _, fun _ _ _ => rfl⟩
theorem Kept.trans {g : Nat} {a b c : World} (h : Kept g a b) (h' : Kept g b c) : Kept g a c :=
  ⟨h'.os.trans h.os, h'.tape.trans h.tape, h'.output.trans h.output, Nat.le_trans h.size h'.size, fun k hk hg => (h'.block k (Nat.lt_of_lt_of_le hk h.size) hg).trans (h.block k hk hg)⟩
theorem Kept.ofTouch {g : Nat} {w w' : World} (h : Touch (· = g) w w') : Kept g w w' := ⟨h.os, h.tape, h.output, by rw [h.size]; exact Nat.le_refl _, fun k _ hg => h.block k hg⟩
theorem Kept.ofBelow {g : Nat} {w w' : World} (h : Below w.heap.size w w') : Kept g w w' := ⟨h.os, h.tape, h.output, h.size, fun k hk _ => h.block k hk⟩
theorem Kept.below {g B : Nat} {w w' : World} (h : Kept g w w') (hB : B ≤ g) (hw : B ≤ w.heap.size) : Below B w w' := ⟨h.os, h.tape, h.output, h.size, fun k hk => h.block k (by omega) (by omega)⟩

/-- what a draw answers: a number of the field, and the source goes on -/
def DrawnN (B g : Nat) (v : Value) (w : World) : Ending → World → Prop := fun e w' => ∃ x : Int, e = .returned (.int .i64 x) ∧ (0 ≤ x ∧ x < 55441) ∧ SrcG w' B g v ∧ Kept g w w'
/-- .. whatever number -/
def DrawnK (B g : Nat) (v : Value) (w : World) : Ending → World → Prop := fun e w' => ∃ x : Int, e = .returned (.int .i64 x) ∧ SrcG w' B g v ∧ Kept g w w'
theorem k_next (v : Value) (n : Int) (w : World) (B g : Nat) (hs : SrcG w B g v) (hn : 1 ≤ n) (hn' : n ≤ 1000000000000) :
    Calls Tryd.prog 30 #[v, .int .i64 n] w fun e w' => ∃ x : Int, e = .returned (.int .i64 x) ∧ 0 ≤ x ∧ x < n ∧ SrcG w' B g v ∧ Kept g w w' := by
  refine (c_l01Next v n w B g hs hn hn').mono ?_
  rintro e w' ⟨x, h1, h2, h3, h4, h5⟩
  exact ⟨x, h1, h2, h3, h4, Kept.ofTouch h5⟩
theorem k_pick (v : Value) (T : TypeId) (xs : List Int) (w : World) (B g : Nat) (hs : SrcG w B g v) (hp : 0 < xs.length) (hl : xs.length ≤ 1000) :
    Calls Tryd.prog 40 #[v, .slice (some ⟨w.heap.size, 0, none⟩) xs.length xs.length] (w.alloc (.cells (xs.map vi).toArray T)) fun e w' => ∃ x : Int, e = .returned (.int .i64 x) ∧ x ∈ xs ∧ SrcG w' B g v ∧ Kept g w w' := by
  have hb : Below w.heap.size w (w.alloc (.cells (xs.map vi).toArray T)) := below_alloc _ _
  have hI : Ints (w.alloc (.cells (xs.map vi).toArray T)) (.slice (some ⟨w.heap.size, 0, none⟩) xs.length xs.length) xs := by
    refine ⟨_, _, rfl, by omega, fun i x hx => ⟨_, _, rfl, ?_⟩⟩
    have hi := (List.getElem?_eq_some_iff.1 hx)
    obtain ⟨h1, h2⟩ := hi
    simp [h1, h2]
  refine (c_l01Pick v _ _ xs _ B g (hs.keep hb) hI ?_ hp hl).mono ?_
  · intro b off e
    cases e
    have := hs.lo.2
    omega
  · rintro e w' ⟨x, h1, h2, h3, h4⟩
    exact ⟨x, h1, h2, h3, (Kept.ofBelow hb).trans (Kept.ofTouch h4)⟩
set_option maxHeartbeats 1000000 in
theorem k_l01Draw (v : Value) (w : World) (B g : Nat) (hs : SrcG w B g v) :
    Calls Tryd.prog 29 #[v] w (DrawnN B g v w) := by
  have HS := Lib.hid hs
  clear hs
  go_enter Tryd.func29, Tryd.ntmps29
  go_wp2_with fail
  refine (k_next v 5 _ B g HS.out (by omega) (by omega)).mono ?_
  rintro e w1 ⟨z, rfl, hz1, hz2, hs1, hb1⟩
  have HS1 := Lib.hid hs1
  have HB1 := Lib.hid hb1
  clear hs1 hb1
  have hz : z = 0 ∨ z = 1 ∨ z = 2 ∨ z = 3 ∨ z = 4 := by omega
  clear hz1 hz2
  rcases hz with rfl | rfl | rfl | rfl | rfl
  · go_wp2_with fail
    refine (k_next v 55441 _ B g HS1.out (by omega) (by omega)).mono ?_
    rintro e w2 ⟨x, rfl, hx1, hx2, hs2, hb2⟩
    have HS2 := Lib.hid hs2
    have HB2 := Lib.hid (HB1.out.trans hb2)
    clear hs2 hb2
    go_wp2_with fail
    go_ret
    exact ⟨_, rfl, ⟨hx1, hx2⟩, HS2.out, HB2.out⟩
  · go_wp2_with fail
    refine (k_pick v _ [1, 2, 3, 4, 5, 7, 8, 11, 16, 24, 55440] _ B g HS1.out (by decide) (by decide)).mono ?_
    rintro e w2 ⟨x, rfl, hx, hs2, hb2⟩
    have hx' : 1 ≤ x ∧ x ≤ 55440 := by simp at hx; omega
    obtain ⟨hx1, hx2⟩ := hx'
    have HS2 := Lib.hid hs2
    have HB2 := Lib.hid (HB1.out.trans hb2)
    clear hs2 hb2 hx
    go_wp2_with fail
    refine (c_l01Unity x _ hx1 hx2).mono ?_
    rintro e w3 ⟨rfl, hb3⟩
    have HS3 := Lib.hid (HS2.out.keep hb3)
    have HB3 := Lib.hid (HB2.out.trans (Kept.ofBelow hb3))
    clear hb3
    go_wp2_with fail
    go_ret
    exact ⟨_, rfl, by unfold iroot; exact ipw_bd _ _, HS3.out, HB3.out⟩
  · go_wp2_with fail
    refine (k_next v 21 _ B g HS1.out (by omega) (by omega)).mono ?_
    rintro e w2 ⟨x, rfl, hx1, hx2, hs2, hb2⟩
    have HS2 := Lib.hid hs2
    have HB2 := Lib.hid (HB1.out.trans hb2)
    clear hs2 hb2
    go_wp2_with fail
    refine (c_l01Mod _ _).mono ?_
    rintro e w3 ⟨rfl, rfl⟩
    go_wp2_with fail
    go_ret
    exact ⟨_, rfl, by omega, HS2.out, HB2.out⟩
  all_goals
    go_wp2_with fail
    refine (k_next v 41 _ B g HS1.out (by omega) (by omega)).mono ?_
    rintro e w2 ⟨x, rfl, hx1, hx2, hs2, hb2⟩
    have HS2 := Lib.hid hs2
    have HB2 := Lib.hid (HB1.out.trans hb2)
    clear hs2 hb2
    go_wp2_with fail
    refine (c_l01Mod _ _).mono ?_
    rintro e w3 ⟨rfl, rfl⟩
    go_wp2_with fail
    refine (k_next v 20 _ B g HS2.out (by omega) (by omega)).mono ?_
    rintro e w3 ⟨y, rfl, hy1, hy2, hs3, hb3⟩
    have HS3 := Lib.hid hs3
    have HB3 := Lib.hid (HB2.out.trans hb3)
    clear hs3 hb3
    go_wp2_with fail
    refine (c_l01Inv _ _ (by omega) (by omega)).mono ?_
    rintro e w4 ⟨rfl, rfl⟩
    go_wp2_with fail
    go_ret
    refine ⟨_, rfl, ?_, HS3.out, HB3.out⟩
    have h1 := iinv_bd (1 + y)
    have h2 : 0 ≤ (x - 20) % 55441 ∧ (x - 20) % 55441 < 55441 := by omega
    have hp := prod_bd h2.1 h2.2 h1.1 h1.2
    generalize (x - 20) % 55441 * iinv (1 + y) = P at *
    have hw : wrap64 P = P := by unfold wrap64; omega
    rw [hw, Int.tmod_eq_emod_of_nonneg hp.1]
    omega
theorem k_l01Spoil (v : Value) (w : World) (B g : Nat) (hs : SrcG w B g v) :
    Calls Tryd.prog 25 #[v] w (DrawnK B g v w) := by
  have HS := Lib.hid hs
  clear hs
  go_enter Tryd.func25, Tryd.ntmps25
  go_wp2_with fail
  refine (k_next v 24 _ B g HS.out (by omega) (by omega)).mono ?_
  rintro e w1 ⟨z, rfl, hz1, hz2, hs1, hb1⟩
  have HS1 := Lib.hid hs1
  have HB1 := Lib.hid hb1
  clear hs1 hb1
  by_cases hz : z = 0
  · subst hz
    go_wp2_with fail
    refine (k_pick v _ [-1, 55441, 1099511627776, -4611686018427387904] _ B g HS1.out (by decide) (by decide)).mono ?_
    rintro e w2 ⟨x, rfl, _, hs2, hb2⟩
    have HS2 := Lib.hid hs2
    have HB2 := Lib.hid (HB1.out.trans hb2)
    clear hs2 hb2
    go_wp2_with fail
    go_ret
    exact ⟨_, rfl, HS2.out, HB2.out⟩
  · have hzB : (z == 0) = false := by simp [hz]
    go_wp2_with fail
    refine (k_l01Draw v _ B g HS1.out).mono ?_
    rintro e w2 ⟨x, rfl, _, hs2, hb2⟩
    have HS2 := Lib.hid hs2
    have HB2 := Lib.hid (HB1.out.trans hb2)
    clear hs2 hb2
    go_wp2_with fail
    go_ret
    exact ⟨_, rfl, HS2.out, HB2.out⟩
end Go.Proofs.YtcgmbpkichfalaaDoor
