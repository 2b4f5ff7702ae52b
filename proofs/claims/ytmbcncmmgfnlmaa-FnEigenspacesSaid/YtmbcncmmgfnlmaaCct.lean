/- Walks: slices.Grow from nothing, slices.Concat of two rows. -/
import Derived.Test.YtmbcncmmgfnlmaaAps
import Derived.Test.YtmbcncmmgfnlmaaGro
namespace Go.Proofs.Ytmbcncmmgfnlmaa
open Go.RowKit
theorem c_Grow (n : Nat) (w : World) (h0 : 0 < n) (h1 : n ≤ 1000000) :
    Calls Try.prog 127 #[.slice none 0 0, .int .i64 n] w (RetI [] w) := by
  have hI0 : ¬ ((n : Int) < 0) := by omega
  have hI1 : (0 : Int) < n := by omega
  go_enter Try.func127, Try.ntmps127
  go_wp2_with (at_builtin; refine wp_zerosI (xs := []) (m := n) (Own.nil _ _ w.heap.size) rfl _ _ rfl rfl rfl (Nat.le_refl _) (by simp) h1 ?_; intro v' w2 ho2 hb2; obtain ⟨g, cap, rfl, hg1, hg2, hg3⟩ : ∃ g cap, v' = .slice (some ⟨g, 0, none⟩) n cap ∧ w.heap.size ≤ g ∧ g < w2.heap.size ∧ n ≤ cap := (by
    rcases Own.shape ho2 with ⟨_, h⟩ | ⟨g, cap, h1, h2, h3, h4⟩
    · have := congrArg List.length h; simp at this; omega
    · simp at h1 h4; exact ⟨g, cap, h1, h2, h3, h4⟩); have HO := Lib.hid (Own.take (d := 0) ho2 (Nat.zero_le _)); have HB := Lib.hid hb2; clear ho2 hb2)
  go_ret
  exact ⟨_, rfl, HO.out, HB.out⟩
theorem c_Concat (g cap : Nat) (u0 u1 : Value) (xs ys : List Int) (w : World) (h0 : w.cell? ⟨g, 0, none⟩ = some u0) (h1 : w.cell? ⟨g, 1, none⟩ = some u1) (hx : Ints w u0 xs) (hy : Ints w u1 ys) (hx0 : 0 < xs.length) (hy0 : 0 < ys.length) (hx1 : xs.length ≤ 100000) (hy1 : ys.length ≤ 100000) :
    Calls Try.prog 111 #[.slice (some ⟨g, 0, none⟩) 2 cap] w (RetI (xs ++ ys) w) := by
  obtain ⟨a0, c0, rfl, _, hc0⟩ := hx
  obtain ⟨b0, off0, rfl, _⟩ := hc0 0 xs[0] (by simp)
  have HX : Hid (∀ i y, xs[i]? = some y → w.cell? ⟨b0, off0 + i, none⟩ = some (.int .i64 y)) := Lib.hid (fun i y hy => by obtain ⟨b', off', e, h⟩ := hc0 i y hy; cases e; exact h)
  obtain ⟨a1, c1, rfl, _, hc1⟩ := hy
  obtain ⟨b1, off1, rfl, _⟩ := hc1 0 ys[0] (by simp)
  have HY : Hid (∀ i y, ys[i]? = some y → w.cell? ⟨b1, off1 + i, none⟩ = some (.int .i64 y)) := Lib.hid (fun i y hy => by obtain ⟨b', off', e, h⟩ := hc1 i y hy; cases e; exact h)
  obtain ⟨nx, hnx⟩ : ∃ n : Nat, xs.length = n := ⟨_, rfl⟩
  obtain ⟨ny, hny⟩ : ∃ n : Nat, ys.length = n := ⟨_, rfl⟩
  rw [hnx] at h0 hx0 hx1
  rw [hny] at h1 hy0 hy1
  have HNX := Lib.hid hnx
  have HNY := Lib.hid hny
  clear hc0 hc1 hnx hny
  have hI1 : ¬ ((nx : Int) < 0) := by omega
  have hI2 : ¬ (((nx + ny : Nat) : Int) < 0) := by omega
  go_enter Try.func111, Try.ntmps111
  go_wp2_with fail
  go_loop [3, 11] (fun s i => (i = .int .i64 0 ∧ s = .int .i64 0) ∨ (i = .int .i64 1 ∧ s = .int .i64 (nx : Nat)) ∨ (i = .int .i64 2 ∧ s = .int .i64 ((nx + ny : Nat) : Int))) (fun _ i => 2 - (intOf i).toNat)
  case atStart => exact Or.inl ⟨rfl, rfl⟩
  case round =>
    rcases hrel with ⟨rfl, rfl⟩ | ⟨rfl, rfl⟩ | ⟨rfl, rfl⟩
    · go_wp2_with fail
      go_round
      case rel => exact Or.inr (Or.inl ⟨by go_num, by go_num⟩)
      case measure => simp [intOf]
    · go_wp2_with fail
      go_round
      case rel => exact Or.inr (Or.inr ⟨by go_num, by go_num⟩)
      case measure => simp [intOf]
    · go_wp2_with fail
      refine (c_Grow (nx + ny) _ (by omega) (by omega)).mono ?_
      rintro e w1 ⟨v1, rfl, ho1, hb1⟩
      have HO := Lib.hid ho1
      have HB := Lib.hid hb1
      clear ho1 hb1
      go_wp2_with fail
      go_loopw [6, 27] (fun v i wr => ∃ zs : List Int, OwnI wr w.heap.size v zs ∧ Below w.heap.size w wr ∧ ((i = .int .i64 0 ∧ zs = []) ∨ (i = .int .i64 1 ∧ zs = xs) ∨ (i = .int .i64 2 ∧ zs = xs ++ ys))) (fun _ i _ => 2 - (intOf i).toNat)
      case atStart => exact ⟨[], HO.out, HB.out, Or.inl ⟨rfl, rfl⟩⟩
      case round =>
        obtain ⟨zs, hown, hbel, hz⟩ := hrel
        clear HO HB
        have HO := Lib.hid hown
        have HB := Lib.hid hbel
        have hsz := hbel.size
        have hc0 := bcell hbel h0
        have hc1 := bcell hbel h1
        clear hown hbel
        rcases hz with ⟨rfl, rfl⟩ | ⟨rfl, rfl⟩ | ⟨rfl, rfl⟩
        · go_wp2_with (at_builtin; refine wp_appendI HO.out (fun i y hy => bcell HB.out (HX.out i y hy)) rfl _ _ rfl rfl rfl HNX.out.symm hsz (by simp) (by rw [HNX.out]; omega) ?_; intro v' w2 ho2 hb2)
          go_roundw
          case rel => exact ⟨xs, ho2, HB.out.trans hb2, Or.inr (Or.inl ⟨by go_num, rfl⟩)⟩
          case measure => simp [intOf]
        · go_wp2_with (at_builtin; refine wp_appendI HO.out (fun i y hy => bcell HB.out (HY.out i y hy)) rfl _ _ rfl rfl rfl HNY.out.symm hsz (by rw [HNX.out]; omega) (by rw [HNY.out]; omega) ?_; intro v' w2 ho2 hb2)
          go_roundw
          case rel => exact ⟨_, ho2, HB.out.trans hb2, Or.inr (Or.inr ⟨by go_num, rfl⟩)⟩
          case measure => simp [intOf]
        · go_wp2_with fail
          go_ret
          exact ⟨_, rfl, HO.out, HB.out⟩
end Go.Proofs.Ytmbcncmmgfnlmaa
