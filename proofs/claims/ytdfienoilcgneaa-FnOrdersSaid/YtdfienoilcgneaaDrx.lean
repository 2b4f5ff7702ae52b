/- Walks: draws of numbers, and laws on numbers that are drawn. -/
import Derived.Test.YtdfienoilcgneaaDrw
namespace Go.Proofs.Ytdfienoilcgneaa
open Go.RowKit

/-- what a draw answers: a number, and the source goes on -/
def Drawn (B g : Nat) (v : Value) (w : World) : Ending → World → Prop := fun e w' => ∃ x : Int, e = .returned (.int .i64 x) ∧ SrcG w' B g v ∧ Below B w w'
theorem c_next (v : Value) (n : Int) (w : World) (B g : Nat) (hs : SrcG w B g v) (hn : 1 ≤ n) (hn' : n ≤ 1000000000000) :
    Calls Try.prog 29 #[v, .int .i64 n] w fun e w' => ∃ x : Int, e = .returned (.int .i64 x) ∧ 0 ≤ x ∧ x < n ∧ SrcG w' B g v ∧ Below B w w' := by
  refine (c_l01Next v n w B g hs hn hn').mono ?_
  rintro e w' ⟨x, h1, h2, h3, h4, h5⟩
  exact ⟨x, h1, h2, h3, h4, Touch.below (Below.refl _ _) h5 (fun k hk => by subst hk; exact hs.lo.1)⟩
theorem c_pick (v : Value) (T : TypeId) (xs : List Int) (w : World) (B g : Nat) (hs : SrcG w B g v) (hp : 0 < xs.length) (hl : xs.length ≤ 1000) :
    Calls Try.prog 28 #[v, .slice (some ⟨w.heap.size, 0, none⟩) xs.length xs.length] (w.alloc (.cells (xs.map vi).toArray T)) fun e w' => ∃ x : Int, e = .returned (.int .i64 x) ∧ x ∈ xs ∧ SrcG w' B g v ∧ Below B w w' := by
  have hb : Below w.heap.size w (w.alloc (.cells (xs.map vi).toArray T)) := below_alloc _ _
  have hI : Ints (w.alloc (.cells (xs.map vi).toArray T)) (.slice (some ⟨w.heap.size, 0, none⟩) xs.length xs.length) xs := by
    refine ⟨_, _, rfl, by omega, fun i x hx => ⟨_, _, rfl, ?_⟩⟩
    have hi := (List.getElem?_eq_some_iff.1 hx)
    obtain ⟨h1, h2⟩ := hi
    simp [h1, h2]
  refine (c_l01Pick v _ _ xs _ B g (hs.keep hb) hI ?_ hp hl).mono ?_
  · intro b off e
    cases e
    have := hs.lo.2
    omega
  · rintro e w' ⟨x, h1, h2, h3, h4⟩
    refine ⟨x, h1, h2, h3, Touch.below (hb.mono ?_) h4 (fun k hk => by subst hk; exact hs.lo.1)⟩
    have := hs.lo
    omega
set_option maxHeartbeats 1000000 in
theorem c_l01Draw (v : Value) (w : World) (B g : Nat) (hs : SrcG w B g v) :
    Calls Try.prog 39 #[v] w (Drawn B g v w) := by
  have HS := Lib.hid hs
  clear hs
  go_enter Try.func39, Try.ntmps39
  go_wp2_with fail
  refine (c_next v 5 _ B g HS.out (by omega) (by omega)).mono ?_
  rintro e w1 ⟨z, rfl, hz1, hz2, hs1, hb1⟩
  have HS1 := Lib.hid hs1
  have HB1 := Lib.hid hb1
  clear hs1 hb1
  have hz : z = 0 ∨ z = 1 ∨ z = 2 ∨ z = 3 ∨ z = 4 := by omega
  clear hz1 hz2
  rcases hz with rfl | rfl | rfl | rfl | rfl
  · go_wp2_with fail
    refine (c_next v 55441 _ B g HS1.out (by omega) (by omega)).mono ?_
    rintro e w2 ⟨x, rfl, _, _, hs2, hb2⟩
    have HS2 := Lib.hid hs2
    have HB2 := Lib.hid (HB1.out.trans hb2)
    clear hs2 hb2
    go_wp2_with fail
    go_ret
    exact ⟨_, rfl, HS2.out, HB2.out⟩
  · go_wp2_with fail
    refine (c_pick v _ [1, 2, 3, 4, 5, 7, 8, 11, 16, 24, 55440] _ B g HS1.out (by decide) (by decide)).mono ?_
    rintro e w2 ⟨x, rfl, hx, hs2, hb2⟩
    have hx' : 1 ≤ x ∧ x ≤ 55440 := by simp at hx; omega
    obtain ⟨hx1, hx2⟩ := hx'
    have HS2 := Lib.hid hs2
    have HB2 := Lib.hid (HB1.out.trans hb2)
    clear hs2 hb2 hx
    go_wp2_with fail
    refine (c_l01Unity x _ hx1 hx2).mono ?_
    rintro e w3 ⟨rfl, hb3⟩
    have HS3 := Lib.hid (HS2.out.keep hb3)
    have HB3 := Lib.hid (HB2.out.trans (hb3.mono (by have := HS2.out.lo; omega)))
    clear hb3
    go_wp2_with fail
    go_ret
    exact ⟨_, rfl, HS3.out, HB3.out⟩
  · go_wp2_with fail
    refine (c_next v 21 _ B g HS1.out (by omega) (by omega)).mono ?_
    rintro e w2 ⟨x, rfl, hx1, hx2, hs2, hb2⟩
    have HS2 := Lib.hid hs2
    have HB2 := Lib.hid (HB1.out.trans hb2)
    clear hs2 hb2
    go_wp2_with fail
    refine (c_l01Mod _ _).mono ?_
    rintro e w3 ⟨rfl, rfl⟩
    go_wp2_with fail
    go_ret
    exact ⟨_, rfl, HS2.out, HB2.out⟩
  all_goals
    go_wp2_with fail
    refine (c_next v 41 _ B g HS1.out (by omega) (by omega)).mono ?_
    rintro e w2 ⟨x, rfl, hx1, hx2, hs2, hb2⟩
    have HS2 := Lib.hid hs2
    have HB2 := Lib.hid (HB1.out.trans hb2)
    clear hs2 hb2
    go_wp2_with fail
    refine (c_l01Mod _ _).mono ?_
    rintro e w3 ⟨rfl, rfl⟩
    go_wp2_with fail
    refine (c_next v 20 _ B g HS2.out (by omega) (by omega)).mono ?_
    rintro e w3 ⟨y, rfl, hy1, hy2, hs3, hb3⟩
    have HS3 := Lib.hid hs3
    have HB3 := Lib.hid (HB2.out.trans hb3)
    clear hs3 hb3
    go_wp2_with fail
    refine (c_l01Inv _ _ (by omega) (by omega)).mono ?_
    rintro e w4 ⟨rfl, rfl⟩
    go_wp2_with fail
    go_ret
    exact ⟨_, rfl, HS3.out, HB3.out⟩
theorem c_l01Spoil (v : Value) (w : World) (B g : Nat) (hs : SrcG w B g v) :
    Calls Try.prog 20 #[v] w (Drawn B g v w) := by
  have HS := Lib.hid hs
  clear hs
  go_enter Try.func20, Try.ntmps20
  go_wp2_with fail
  refine (c_next v 24 _ B g HS.out (by omega) (by omega)).mono ?_
  rintro e w1 ⟨z, rfl, hz1, hz2, hs1, hb1⟩
  have HS1 := Lib.hid hs1
  have HB1 := Lib.hid hb1
  clear hs1 hb1
  by_cases hz : z = 0
  · subst hz
    go_wp2_with fail
    refine (c_pick v _ [-1, 55441, 1099511627776, -4611686018427387904] _ B g HS1.out (by decide) (by decide)).mono ?_
    rintro e w2 ⟨x, rfl, _, hs2, hb2⟩
    have HS2 := Lib.hid hs2
    have HB2 := Lib.hid (HB1.out.trans hb2)
    clear hs2 hb2
    go_wp2_with fail
    go_ret
    exact ⟨_, rfl, HS2.out, HB2.out⟩
  · have hzB : (z == 0) = false := by simp [hz]
    go_wp2_with fail
    refine (c_l01Draw v _ B g HS1.out).mono ?_
    rintro e w2 ⟨x, rfl, hs2, hb2⟩
    have HS2 := Lib.hid hs2
    have HB2 := Lib.hid (HB1.out.trans hb2)
    clear hs2 hb2
    go_wp2_with fail
    go_ret
    exact ⟨_, rfl, HS2.out, HB2.out⟩
end Go.Proofs.Ytdfienoilcgneaa
