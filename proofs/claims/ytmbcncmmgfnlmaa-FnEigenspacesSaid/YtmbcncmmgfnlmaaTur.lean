/- Walks: matrices turned over, products of matrices. -/
import Derived.Test.YtmbcncmmgfnlmaaGmu
namespace Go.Proofs.Ytmbcncmmgfnlmaa
open Go.RowKit

/-- a matrix with all rows of one width, of numbers -/
def Good (m : List (List Int)) (c : Nat) : Prop := ∀ (i : Nat) x, m[i]? = some x → x.length = c ∧ x.all isNum = true
theorem Good.at {m : List (List Int)} {c i j : Nat} (h : Good m c) (hi : i < m.length) (hj : j < c) : ∃ xs x, m[i]? = some xs ∧ xs[j]? = some x ∧ ent m i j = x ∧ xs.length = c ∧ 0 ≤ x ∧ x < 55441 := by
  obtain ⟨xs, hx⟩ : ∃ xs, m[i]? = some xs := ⟨m[i], by simp [hi]⟩
  have hl := (h i xs hx).1
  obtain ⟨x, hxx⟩ : ∃ x, xs[j]? = some x := ⟨xs[j]'(by omega), by simp⟩
  have hn := nums_at (h i xs hx).2 hxx
  exact ⟨xs, x, hx, hxx, ent_at hx hxx, hl, hn.1, hn.2⟩
theorem Good.num {m : List (List Int)} {c : Nat} (h : Good m c) (i j : Nat) : 0 ≤ ent m i j ∧ ent m i j < 55441 := ent_num (fun i x hx => (h i x hx).2) i j
theorem good_tab {r c : Nat} {f : Nat → Nat → Int} (h : ∀ i j, i < r → j < c → 0 ≤ f i j ∧ f i j < 55441) : Good (tab r c f) c := by
  intro i x hx
  have hi : i < r := by have := (List.getElem?_eq_some_iff.1 hx).1; rwa [tab_length] at this
  rw [tab_row f hi] at hx
  cases hx
  refine ⟨vec_length _ _, ?_⟩
  rw [List.all_eq_true]
  intro y hy
  obtain ⟨j, hj, rfl⟩ := vec_mem hy
  exact isNum_yes (h i j hi hj).1 (h i j hi hj).2
theorem Good.tab {m : List (List Int)} {c : Nat} (h : Good m c) : m = tab m.length c (ent m) := by
  refine List.ext_getElem? fun i => ?_
  by_cases hi : i < m.length
  · rw [tab_row _ hi]
    obtain ⟨xs, hx⟩ : ∃ xs, m[i]? = some xs := ⟨m[i], by simp [hi]⟩
    rw [hx]
    congr 1
    refine list_ext_getD (by rw [vec_length]; exact (h i xs hx).1) fun j hj => ?_
    have hj' : j < c := by rw [← (h i xs hx).1]; exact hj
    rw [← ent_row hx]
    simp [List.getD_eq_getElem?_getD, vec_at _ hj']
  · rw [List.getElem?_eq_none (by omega), List.getElem?_eq_none (by rw [tab_length]; omega)]
theorem good_mat {m : List (List Int)} (h : isMat m = true) : Good m (width m) := fun i x hx => (isMat_parts h).2.2.2.2 i x hx
theorem good_turn {m : List (List Int)} {c : Nat} (h : Good m c) : Good (turnZ m) m.length := good_tab fun i j _ _ => h.num j i
theorem vec_upd_row {r c k : Nat} {f : Nat → Nat → Int} {i : Nat} {x : Int} : (tab r c f).set k ((vec c (f k)).set i x) = tab r c (upd f k i x) := tab_set f i x

/-- the table while it is filled: rows below i, and of row i the columns below k -/
def turnAt (m : List (List Int)) (i k : Nat) : Nat → Nat → Int := fun a b => if b < i ∨ (b = i ∧ a < k) then ent m b a else 0
theorem turn_start (m : List (List Int)) (r c : Nat) : (tab r c fun _ _ => 0) = tab r c (turnAt m 0 0) := tab_congr fun i j _ _ => by simp [turnAt]
theorem turn_next (m : List (List Int)) (r c i k : Nat) : tab r c (upd (turnAt m i k) k i (ent m i k)) = tab r c (turnAt m i (k + 1)) := by
  refine tab_congr fun a b _ _ => ?_
  unfold upd turnAt
  by_cases h : a = k ∧ b = i
  · rw [if_pos h, if_pos (by omega), h.1, h.2]
  · rw [if_neg h]
    by_cases h2 : b < i ∨ (b = i ∧ a < k)
    · rw [if_pos h2, if_pos (by omega)]
    · rw [if_neg h2, if_neg (by omega)]
theorem turn_row (m : List (List Int)) (r c i : Nat) : tab r c (turnAt m i r) = tab r c (turnAt m (i + 1) 0) := by
  refine tab_congr fun a b ha _ => ?_
  unfold turnAt
  by_cases h2 : b < i ∨ (b = i ∧ a < r)
  · rw [if_pos h2, if_pos (by omega)]
  · rw [if_neg h2, if_neg (by omega)]
theorem turn_end (m : List (List Int)) (r : Nat) : tab r m.length (turnAt m m.length 0) = tab r m.length (fun i j => ent m j i) :=
  tab_congr fun a b _ hb => by unfold turnAt; rw [if_pos (by omega)]
set_option maxHeartbeats 1000000 in
theorem c_transpose (v : Value) (m : List (List Int)) (w : World) (hv : IntRows w v m) (hp : 0 < m.length) (hg : Good m (width m)) (h0 : 0 < width m) (h1 : m.length ≤ 100000) (h2 : width m ≤ 100000) :
    Calls Try.prog 56 #[v] w (RetM (turnZ m) w) := by
  obtain ⟨b, off, cap, a2, cap2, x0, hveq, hl, hx0, hw0, hl2, hcell0⟩ := mat_first hv hp
  obtain ⟨a, cap', hveq', _, hc⟩ := hv
  rw [hveq] at hveq'
  cases hveq'
  subst hveq
  have HC := Lib.hid hc
  have HG := Lib.hid hg
  have HW := Lib.hid hw0
  rw [hw0] at h0 h2 HG
  clear hc hg hx0 hw0
  go_enter Try.func56, Try.ntmps56
  go_wp2_with fail
  refine (c_zeros x0.length m.length _ h2 h1).mono ?_
  rintro e w1 ⟨z, rfl, ho1, hb1⟩
  have HO1 := Lib.hid ho1
  have HB1 := Lib.hid hb1
  clear ho1 hb1
  obtain ⟨g, cz, rfl, hgB, hgl⟩ := HO1.out.shape' (by rw [tab_length]; exact h0)
  have HO1' := Lib.hid (show OwnM w1 w.heap.size (.slice (some ⟨g, 0, none⟩) x0.length cz) (tab x0.length m.length (turnAt m 0 0)) from by have h := HO1.out; rw [turn_start m, tab_length] at h; exact h)
  rw [tab_length]
  clear HO1
  go_wp2_with fail
  go_loopw [17] (fun i wr => ∃ (k : Nat), k ≤ m.length ∧ i = .int .i64 k ∧ OwnM wr w.heap.size (.slice (some ⟨g, 0, none⟩) x0.length cz) (tab x0.length m.length (turnAt m k 0)) ∧ Below w.heap.size w wr) (fun i _ => m.length - (intOf i).toNat)
  case atStart => exact ⟨0, Nat.zero_le _, rfl, HO1'.out, HB1.out⟩
  case round =>
    obtain ⟨i, hi, rfl, hown, hbel⟩ := hrel
    by_cases hlt : i < m.length
    · obtain ⟨x, hx⟩ : ∃ x, m[i]? = some x := ⟨m[i], by simp [hlt]⟩
      obtain ⟨b', off', q, hab, hcell, ⟨a3, cap3, rfl, hl3, hc3⟩⟩ := HC.out i x hx
      cases hab
      have hc1 := bcell hbel hcell
      have hxl := (HG.out i x hx).1
      have HX := Lib.hid hx
      have HC3 := Lib.hid hc3
      have HOW := Lib.hid hown
      have HB := Lib.hid hbel
      clear hx hcell hc3 hown hbel
      go_wp2_with fail
      obtain ⟨wo, rfl⟩ : ∃ wo : World, wo = wr := ⟨_, rfl⟩
      go_loopw [24] (fun j wr2 => ∃ (k : Nat), k ≤ x.length ∧ j = .int .i64 k ∧ OwnM wr2 w.heap.size (.slice (some ⟨g, 0, none⟩) x0.length cz) (tab x0.length m.length (turnAt m i k)) ∧ Below w.heap.size w wr2) (fun j _ => x.length - (intOf j).toNat)
      case atStart => exact ⟨0, Nat.zero_le _, rfl, HOW.out, HB.out⟩
      case round =>
        obtain ⟨k, hk, rfl, hown, hbel⟩ := hrel
        by_cases hlt2 : k < x.length
        · obtain ⟨y, hy⟩ : ∃ y, x[k]? = some y := ⟨x[k], by simp [hlt2]⟩
          obtain ⟨b3, off3, rfl, hcell3⟩ := HC3.out k y hy
          have hc3 := bcell hbel hcell3
          have hk0 : k < x0.length := by omega
          obtain ⟨gk, ck, e1, e2, e3, e4, e5, e6⟩ := hown.entry (tab_row (turnAt m i k) hk0) (vec_at _ hlt)
          rw [vec_length] at e1
          have HE : Hid (OwnM (wr.setCell ⟨gk, i, none⟩ (vi y)) w.heap.size (.slice (some ⟨g, 0, none⟩) x0.length cz) (tab x0.length m.length (turnAt m i (k + 1)))) := Lib.hid (by
            have h := e6 y
            rw [tab_set, show y = ent m i k from (ent_at HX.out hy).symm, turn_next] at h
            rw [show y = ent m i k from (ent_at HX.out hy).symm]
            exact h)
          have HB2 := Lib.hid (below_set (i := i) (u := vi y) hbel e4)
          clear hy hcell3 hown hbel e6
          go_wp2_with fail
          go_roundw
          case rel => exact ⟨k + 1, by omega, by go_num, HE.out, HB2.out⟩
          case measure => simp [intOf]; omega
        · obtain rfl : k = x.length := by omega
          have HOW2 := Lib.hid hown
          have HB2 := Lib.hid hbel
          clear hown hbel
          go_wp2_with fail
          go_roundw
          case rel => exact ⟨i + 1, by omega, by go_num, by have h := HOW2.out; rw [hxl, turn_row] at h; exact h, HB2.out⟩
          case measure => simp [intOf]; omega
    · obtain rfl : i = m.length := by omega
      have HOW := Lib.hid hown
      have HB := Lib.hid hbel
      clear hown hbel
      go_wp2_with fail
      go_ret
      exact ⟨_, rfl, by have h := HOW.out; rw [turn_end] at h; rw [turnZ, HW.out]; exact h, HB.out⟩


/-- the product of two matrices -/
def mulZ (a b : List (List Int)) : List (List Int) := tab a.length (width b) fun i k => sumK b.length (fun j => ent a i j * ent b j k) % 55441
theorem turn_ent {m : List (List Int)} {i j : Nat} (hi : i < width m) (hj : j < m.length) : ent (turnZ m) i j = ent m j i := ent_tab _ hi hj
theorem app_turn {b : List (List Int)} {x : List Int} : appZ (turnZ b) x = vec (width b) fun k => sumK b.length (fun j => x.getD j 0 * ent b j k) % 55441 := by
  unfold appZ
  rw [show (turnZ b).length = width b from tab_length _ _ _]
  refine vec_congr fun k hk => ?_
  have hr : (turnZ b).getD k [] = vec b.length fun j => ent b j k := by
    simp [List.getD_eq_getElem?_getD, turnZ, tab_row _ hk]
  rw [hr]
  unfold dotZ
  rw [dotK_sum, vec_length]
  congr 1
  refine sumK_congr fun j hj => ?_
  rw [Int.mul_comm]
  congr 1
  simp [List.getD_eq_getElem?_getD, vec_at _ hj]
set_option maxHeartbeats 1000000 in
theorem c_multiply (u v : Value) (a b : List (List Int)) (w : World) (hu : IntRows w u a) (hv : IntRows w v b) (ha : Good a b.length) (hb : Good b (width b)) (hp : 0 < b.length) (hw : 0 < width b) (h1 : a.length ≤ 100000) (h2 : b.length ≤ 100000) (h3 : width b ≤ 100000) :
    Calls Try.prog 50 #[u, v] w (RetM (mulZ a b) w) := by
  have HV := Lib.hid hv
  obtain ⟨pa, cap, rfl, hl, hc⟩ := hu
  have HC := Lib.hid hc
  have HA := Lib.hid ha
  have HBB := Lib.hid hb
  clear hc ha hb hv
  go_enter Try.func50, Try.ntmps50
  go_wp2_with fail
  refine (c_transpose v b _ HV.out hp HBB.out hw h2 h3).mono ?_
  rintro e w1 ⟨z, rfl, ho1, hb1⟩
  have HT := Lib.hid (ho1.rows (by rw [turnZ, tab_length]; omega) (fun xs hx => by obtain ⟨i, hi, rfl⟩ := vec_mem hx; rw [vec_length]; omega))
  have HB1 := Lib.hid hb1
  have hsz1 := hb1.size
  clear ho1 hb1
  go_wp2_with fail
  go_loopw [6, 14] (fun s i wr => ∃ (k : Nat), k ≤ a.length ∧ i = .int .i64 k ∧ OwnM wr w1.heap.size s (tab k (width b) fun i k => sumK b.length (fun j => ent a i j * ent b j k) % 55441) ∧ Below w1.heap.size w1 wr) (fun _ i _ => a.length - (intOf i).toNat)
  case atStart => exact ⟨0, Nat.zero_le _, rfl, ownM_empty _ _ (Nat.le_refl _), below_alloc _ _⟩
  case round =>
    obtain ⟨k, hk, rfl, hown, hbel⟩ := hrel
    by_cases hlt : k < a.length
    · obtain ⟨x, hx⟩ : ∃ x, a[k]? = some x := ⟨a[k], by simp [hlt]⟩
      obtain ⟨b', off', q, rfl, hcell, hI⟩ := HC.out k x hx
      have hc1 := bcell hbel (bcell HB1.out hcell)
      have HI := Lib.hid ((hI.keep HB1.out).keep hbel)
      have HT' := Lib.hid (HT.out.keep hbel)
      have HR := Lib.hid (HA.out k x hx)
      have HAT := Lib.hid (app_turn (b := b) (x := x))
      have HE : Hid (∀ j, ent a k j = x.getD j 0) := Lib.hid (fun j => ent_row hx)
      have HOW := Lib.hid hown
      have HB := Lib.hid hbel
      have hsz := hbel.size
      clear hx hcell hI hown hbel
      go_wp2_with fail
      refine (c_apply z q (turnZ b) x _ HT'.out HI.out (fun i y hy => by rw [HR.out.1]; exact good_turn HBB.out i y hy) HR.out.2 (by rw [turnZ, tab_length]; omega) (by rw [HR.out.1]; omega)).mono ?_
      rintro e w2 ⟨r, rfl, ho2, hb2⟩
      obtain ⟨p5, n5, c5, rfl⟩ := ho2.slice
      have HO2 := Lib.hid (show OwnI w2 wr.heap.size (.slice p5 n5 c5) (vec (width b) fun kk => sumK b.length (fun j => ent a k j * ent b j kk) % 55441) from by
        have h := ho2
        rw [HAT.out] at h
        rw [show (fun kk => sumK b.length (fun j => ent a k j * ent b j kk) % 55441) = (fun kk => sumK b.length (fun j => x.getD j 0 * ent b j kk) % 55441) from funext fun kk => by congr 1; exact sumK_congr fun j _ => by rw [HE.out]]
        exact h)
      have HB2 := Lib.hid hb2
      have hsz2 := hb2.size
      clear ho2 hb2 hc1
      go_wp2_with (at_builtin; refine wp_pushM HOW.out HB2.out HO2.out rfl _ _ rfl rfl rfl (by first | with_reducible rfl | simp) (by omega) (by rw [tab_length]; omega) ?_; intro v' w3 ho3 hb3)
      go_roundw
      case rel => exact ⟨k + 1, by omega, by go_num, by rw [tab, vec_snoc]; exact ho3, (HB.out.trans (HB2.out.mono hsz)).trans hb3⟩
      case measure => simp [intOf]; omega
    · obtain rfl : k = a.length := by omega
      have HOW := Lib.hid hown
      have HB := Lib.hid hbel
      clear hown hbel
      go_wp2_with fail
      go_ret
      exact ⟨_, rfl, HOW.out.mono hsz1, HB1.out.trans (HB.out.mono hsz1)⟩
end Go.Proofs.Ytmbcncmmgfnlmaa
