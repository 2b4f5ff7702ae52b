/- Transitive actions: subgroups, the program's check. -/
import Derived.Test.YtckcjlophnehmaaTag
namespace Go.Proofs.Ytckcjlophnehmaa
open Go.RowKit
/-- numbers as integers -/
def zi (H : List Nat) : List Int := H.map fun (x : Nat) => (x : Int)
theorem zi_length (H : List Nat) : (zi H).length = H.length := by simp [zi]
theorem zi_at {H : List Nat} {k : Nat} (h : k < (zi H).length) : ∃ x : Nat, (zi H)[k]? = some (x : Int) ∧ H[k]? = some x ∧ x ∈ H := by
  have h2 : k < H.length := by rw [zi_length] at h; exact h
  exact ⟨H[k], by rw [zi, List.getElem?_map, List.getElem?_eq_getElem h2]; rfl, List.getElem?_eq_getElem h2, List.getElem_mem h2⟩
theorem zi_any (H : List Nat) (n : Nat) : (zi H).any (fun x => (n : Int) == x) = H.contains n := by
  rw [List.contains_eq_any_beq, zi, List.any_map]
  congr 1
  funext x
  rw [Bool.eq_iff_iff]
  simp only [Function.comp_apply, beq_iff_eq]
  omega
theorem zi_any' (H : List Nat) (n : Nat) : (zi H).any (fun x => x == (n : Int)) = H.contains n := by
  rw [← zi_any]
  congr 1
  funext x
  rw [Bool.eq_iff_iff]
  simp only [beq_iff_eq]
  exact ⟨Eq.symm, Eq.symm⟩
/-- closed under sums -/
def sgB (g : Nat → Nat → Nat) (H : List Nat) : Bool := H.all fun x => H.all fun y => H.contains (g x y)
theorem sgB_no {g : Nat → Nat → Nat} {H : List Nat} {x y : Nat} (hx : x ∈ H) (hy : y ∈ H) (h : H.contains (g x y) = false) : sgB g H = false := by
  unfold sgB
  rw [List.all_eq_false]
  refine ⟨x, hx, ?_⟩
  rw [Bool.not_eq_true, List.all_eq_false]
  exact ⟨y, hy, by rw [h]; simp⟩
/-- closed with the first k, and the first l behind x -/
def sgK (g : Nat → Nat → Nat) (H : List Nat) (k : Nat) : Prop := ∀ j x, j < k → H[j]? = some x → ∀ y ∈ H, H.contains (g x y) = true
def sgL (g : Nat → Nat → Nat) (H : List Nat) (x l : Nat) : Prop := ∀ j y, j < l → H[j]? = some y → H.contains (g x y) = true
theorem sgK_next {g : Nat → Nat → Nat} {H : List Nat} {k x : Nat} (h : sgK g H k) (hx : H[k]? = some x) (hl : sgL g H x H.length) : sgK g H (k + 1) := fun j z hj hz y hy => by
  by_cases e : j = k
  · subst e
    rw [hx] at hz; cases hz
    obtain ⟨i, hi, e⟩ := List.mem_iff_getElem.1 hy
    exact hl i y hi (by rw [List.getElem?_eq_getElem hi, e])
  · exact h j z (by omega) hz y hy
theorem sgL_next {g : Nat → Nat → Nat} {H : List Nat} {x l y : Nat} (h : sgL g H x l) (hy : H[l]? = some y) (hc : H.contains (g x y) = true) : sgL g H x (l + 1) := fun j z hj hz => by
  by_cases e : j = l
  · subst e
    rw [hy] at hz; cases hz
    exact hc
  · exact h j z (by omega) hz
theorem sgK_end {g : Nat → Nat → Nat} {H : List Nat} (h : sgK g H H.length) : sgB g H = true := by
  unfold sgB
  rw [List.all_eq_true]
  intro x hx
  rw [List.all_eq_true]
  intro y hy
  obtain ⟨i, hi, e⟩ := List.mem_iff_getElem.1 hx
  exact h i x hi (by rw [List.getElem?_eq_getElem hi, e]) y hy
theorem c_addG (v : Value) (xs : List Int) (x y : Nat) (w : World) (hv : Ints w v xs) (hg : gOk xs = true) (hx : x ≤ 1000) (hy : y ≤ 1000) :
    Calls Try.prog 40 #[v, .int .i64 x, .int .i64 y] w fun e w' => e = .returned (.int .i64 (grpT xs x y)) ∧ Below w.heap.size w w' := by
  obtain ⟨_, h1, _, h3⟩ := gOk_true hg
  exact c_addElements v xs (ordM xs) (ordN xs) x y w hv (ordN_pos h1).1 (ord_cells h1) (ordN_prod h1 h3) (by omega) hx hy
set_option maxHeartbeats 1000000 in
theorem c_isSubgroup (v u : Value) (xs : List Int) (H : List Nat) (w : World) (hv : Ints w v xs) (hu : Ints w u (zi H)) (hg : gOk xs = true) (hH : ∀ x ∈ H, x < ordN xs) :
    Calls Try.prog 38 #[v, u] w fun e w' => e = .returned (.bool (sgB (grpT xs) H && H.contains 0)) ∧ Below w.heap.size w w' := by
  have HV := Lib.hid hv
  have HU := Lib.hid hu
  have HG := Lib.hid hg
  have HH := Lib.hid hH
  have hn16 := (gOk_true hg).2.2.2
  have HAT : Hid (∀ k, k < (zi H).length → ∃ x : Nat, (zi H)[k]? = some (x : Int) ∧ H[k]? = some x ∧ x ∈ H) := Lib.hid (fun k hk => zi_at hk)
  have HLN := Lib.hid (zi_length H)
  have HANY := Lib.hid (zi_any H)
  generalize zi H = hs at *
  obtain ⟨a, cap, rfl, hl, hc⟩ := hu
  obtain ⟨n, hn⟩ : ∃ n, n = ordN xs := ⟨_, rfl⟩
  rw [← hn] at hn16 HH
  clear hv hg hH hc hn
  go_enter Try.func38, Try.ntmps38
  go_wp2_with fail
  go_loopw [11] (fun i wr => ∃ k : Nat, k ≤ hs.length ∧ i = .int .i64 k ∧ Hid (sgK (grpT xs) H k) ∧ Hid (Below w.heap.size w wr)) (fun i _ => hs.length - (intOf i).toNat)
  case atStart => exact ⟨0, Nat.zero_le _, rfl, Lib.hid (fun j x hj => absurd hj (Nat.not_lt_zero _)), Lib.hid (Below.refl _ _)⟩
  case round =>
    obtain ⟨k, hk, rfl, HK, HB⟩ := hrel
    by_cases hlt : k < hs.length
    · obtain ⟨x, hx, hxH, hxm⟩ := HAT.out k hlt
      have hxn := HH.out x hxm
      obtain ⟨_, _, e1, _, hcu⟩ := HU.out.keep HB.out
      cases e1
      obtain ⟨b, off, rfl, hcell⟩ := hcu k _ hx
      have HX := Lib.hid hxH
      have HXM := Lib.hid hxm
      clear hcu hx hxH hxm
      go_wp2_with fail
      obtain ⟨wo, rfl⟩ : ∃ wo : World, wo = wr := ⟨_, rfl⟩
      go_loopw [17] (fun i wr => ∃ l : Nat, l ≤ hs.length ∧ i = .int .i64 l ∧ Hid (sgL (grpT xs) H x l) ∧ Hid (Below w.heap.size w wr)) (fun i _ => hs.length - (intOf i).toNat)
      case atStart => exact ⟨0, Nat.zero_le _, rfl, Lib.hid (fun j x hj => absurd hj (Nat.not_lt_zero _)), HB⟩
      case round =>
        clear hcell
        obtain ⟨l, hl2, rfl, HL, HBL⟩ := hrel
        by_cases hlt2 : l < hs.length
        · obtain ⟨y, hy, hyH, hym⟩ := HAT.out l hlt2
          have hyn := HH.out y hym
          obtain ⟨_, _, e1, _, hcu⟩ := HU.out.keep HBL.out
          cases e1
          obtain ⟨_, _, e2, hcell⟩ := hcu l _ hy
          cases e2
          have HY := Lib.hid hyH
          have HYM := Lib.hid hym
          clear hcu hy hyH hym
          go_wp2_with fail
          refine (c_addG _ xs x y _ (HV.out.keep HBL.out) HG.out (by omega) (by omega)).mono ?_
          rintro e w1 ⟨rfl, hb1⟩
          have HB1 := Lib.hid (HBL.out.trans (hb1.mono HBL.out.size))
          clear hb1 hcell
          obtain ⟨z, hz⟩ : ∃ z, z = grpT xs x y := ⟨_, rfl⟩
          rw [← hz]
          have HZ := Lib.hid hz
          clear hz
          go_wp2_with fail
          refine (c_Contains _ hs (z : Int) _ (HU.out.keep HB1.out)).mono ?_
          rintro e w2 ⟨rfl, rfl⟩
          rw [HANY.out]
          cases hcz : H.contains z
          · have HNO := Lib.hid (sgB_no (g := grpT xs) HXM.out HYM.out (by rw [← HZ.out]; exact hcz))
            clear hcz
            go_wp2_with fail
            go_ret
            exact ⟨by rw [HNO.out]; rfl, HB1.out⟩
          · have HNX : Hid (sgL (grpT xs) H x (l + 1)) := Lib.hid (sgL_next HL.out HY.out (by rw [← HZ.out]; exact hcz))
            clear hcz
            go_wp2_with fail
            go_roundw
            case rel => exact ⟨l + 1, by omega, by go_num, HNX, HB1⟩
            case measure => simp [intOf]; omega
        · obtain rfl : l = hs.length := by omega
          have HKN : Hid (sgK (grpT xs) H (k + 1)) := Lib.hid (sgK_next HK.out HX.out (by rw [← HLN.out]; exact HL.out))
          go_wp2_with fail
          go_roundw
          case rel => exact ⟨k + 1, by omega, by go_num, HKN, HBL⟩
          case measure => simp [intOf]; omega
    · obtain rfl : k = hs.length := by omega
      have HKE := Lib.hid (sgK_end (by rw [← HLN.out]; exact HK.out))
      have H0 := Lib.hid (HANY.out 0)
      go_wp2_with fail
      refine (c_Contains _ hs 0 _ (HU.out.keep HB.out)).mono ?_
      rintro e w2 ⟨rfl, rfl⟩
      rw [show hs.any (fun x => (0 : Int) == x) = H.contains 0 from H0.out]
      obtain ⟨c0, hc0⟩ : ∃ c, c = H.contains 0 := ⟨_, rfl⟩
      rw [← hc0]
      have HC0 := Lib.hid hc0
      clear hc0
      go_wp2_with fail
      go_ret
      exact ⟨by rw [HKE.out, Bool.true_and, ← HC0.out]; rfl, HB.out⟩
end Go.Proofs.Ytckcjlophnehmaa
