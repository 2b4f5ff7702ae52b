/- Walks: square matrices less a number times the unit matrix, program and reference. -/
import Derived.Test.YtmbcncmmgfnlmaaGro
namespace Go.Proofs.Ytmbcncmmgfnlmaa
open Go.RowKit
open Fus (F Mx toI ofI toI_bd toI_of ofI_toI ofI_sub setR)

def lessF (f : Mx) (x : F) : Mx := fun i j => if i = j then f i j - x else f i j
theorem lessF_row {n i : Nat} (f : Mx) (x : F) : (zl n (f i)).set i (toI (f i i - x)) = zl n (lessF f x i) := by
  rw [zl_set]
  refine zl_congr fun j _ => ?_
  simp only [lessF]
  by_cases e : j = i
  · rw [if_pos e, if_pos e.symm, e]
  · rw [if_neg e, if_neg (fun h => e h.symm)]
/-- the first rows are done -/
def lessTo (f : Mx) (x : F) (m : Nat) : Mx := fun i j => if i < m then lessF f x i j else f i j
theorem lessTo_zero (f : Mx) (x : F) : lessTo f x 0 = f := by funext i j; simp [lessTo]
theorem lessTo_next (n : Nat) (f : Mx) (x : F) (m : Nat) : tabF n n (fun a b => if a = m ∧ b = m then f m m - x else lessTo f x m a b) = tabF n n (lessTo f x (m + 1)) := tabF_congr fun a b _ _ => by
  simp only [lessTo, lessF]
  by_cases e : a = m ∧ b = m
  · obtain ⟨rfl, rfl⟩ := e; simp
  · rw [if_neg e]
    by_cases e2 : a < m
    · simp only [if_pos e2, if_pos (show a < m + 1 from by omega)]
    · rw [if_neg e2]
      by_cases e3 : a < m + 1
      · rw [if_pos e3, if_neg (by omega)]
      · rw [if_neg e3]
theorem lessTo_end (n : Nat) (f : Mx) (x : F) : tabF n n (lessTo f x n) = tabF n n (lessF f x) := tabF_congr fun a b ha _ => by simp only [lessTo, if_pos ha]
set_option maxRecDepth 100000 in
theorem c_lessUnit (v : Value) (n : Nat) (f : Mx) (x : F) (w : World) (hv : IntRows w v (tabF n n f)) (hn : n ≤ 1000) :
    Calls Try.prog 78 #[v, .int .i64 (toI x)] w (RetM (tabF n n (lessF f x)) w) := by
  obtain ⟨ad, capv, hveq, _, hc⟩ := hv
  rw [tabF_length] at hveq
  subst hveq
  have HC := Lib.hid hc
  clear hc
  have hxb := toI_bd x
  obtain ⟨hx1, hx2⟩ := hxb
  go_enter Try.func78, Try.ntmps78
  go_wp2_with fail
  go_loopw [5, 12] (fun s i wr => ∃ (k : Nat), k ≤ n ∧ i = .int .i64 k ∧ OwnM wr w.heap.size s (tabF k n (lessF f x)) ∧ Below w.heap.size w wr) (fun _ i _ => n - (intOf i).toNat)
  case atStart => exact ⟨0, Nat.zero_le _, rfl, ownM_empty _ _ (Nat.le_refl _), below_alloc _ _⟩
  case round =>
    obtain ⟨k, hk, rfl, hown, hbel⟩ := hrel
    by_cases hlt : k < n
    · obtain ⟨b, off, q, rfl, hcell, hI⟩ := HC.out k _ (tabF_at n f hlt)
      have hc1' := bcell hbel hcell
      have HI := Lib.hid (hI.keep hbel)
      have HOW := Lib.hid hown
      have HB := Lib.hid hbel
      have hsz := hbel.size
      clear hcell hI hown hbel
      go_wp2_with fail
      refine (c_Clone q _ _ HI.out (by rw [zl_length]; omega) (by rw [zl_length]; omega)).mono ?_
      rintro e w1 ⟨z, rfl, ho1, hb1⟩
      obtain ⟨g1, c1, hz, hg1, _⟩ : ∃ g1 c1, z = .slice (some ⟨g1, 0, none⟩) n c1 ∧ wr.heap.size ≤ g1 ∧ True := by
        rcases ho1.shape with ⟨_, h2⟩ | ⟨g, cap, h1, h2, _⟩
        · have := congrArg List.length h2; simp [zl, vec_length] at this; omega
        · rw [List.length_map, zl_length] at h1; exact ⟨g, cap, h1, h2, trivial⟩
      subst hz
      have hold := Own.cell ho1 (i := k) (u := vi (toI (f k k))) (by rw [List.getElem?_map, zl_at _ hlt]; rfl)
      have hfr := Own.frozen ho1 k
      have hyb := toI_bd (f k k)
      obtain ⟨hy1, hy2⟩ := hyb
      have hw1 : IntKind.i64.wrap (toI (f k k) - toI x) = toI (f k k) - toI x := IntWalk.i64_in _ (by omega)
      have HM : Hid ((toI (f k k) - toI x) % 55441 = toI (f k k - x)) := Lib.hid (toI_of (by rw [ofI_sub, ofI_toI, ofI_toI])).symm
      have HO1 : Hid (OwnI (w1.setCell ⟨g1, k, none⟩ (.int .i64 (toI (f k k - x)))) wr.heap.size (.slice (some ⟨g1, 0, none⟩) n c1) (zl n (lessF f x k))) := Lib.hid (by
        have := Own.store ho1 k (vi (toI (f k k - x)))
        rw [← List.map_set, lessF_row] at this
        exact this)
      have HB1 : Hid (Below wr.heap.size wr (w1.setCell ⟨g1, k, none⟩ (.int .i64 (toI (f k k - x))))) := Lib.hid (below_set hb1 hg1)
      have hsz1 := hb1.size
      clear ho1 hb1 hc1'
      go_wp2_with fail
      refine (c_mod _ _).mono ?_
      rintro e w2 ⟨rfl, rfl⟩
      rw [HM.out]
      go_wp2_with (at_builtin; refine wp_pushM HOW.out HB1.out HO1.out rfl _ _ rfl rfl rfl (by first | with_reducible rfl | simp) (by omega) (by rw [tabF_length]; omega) ?_; intro v' w3 ho3 hb3)
      go_roundw
      case rel => exact ⟨k + 1, by omega, by go_num, by rw [tabF_snoc]; exact ho3, (HB.out.trans (HB1.out.mono hsz)).trans hb3⟩
      case measure => simp [intOf]; omega
    · obtain rfl : n = k := by omega
      have HOW := Lib.hid hown
      have HB := Lib.hid hbel
      clear hown hbel
      go_wp2_with fail
      go_ret
      exact ⟨_, rfl, HOW.out, HB.out⟩
set_option maxRecDepth 100000 in
theorem c_l02Less (v : Value) (n : Nat) (f : Mx) (x : F) (w : World) (hv : IntRows w v (tabF n n f)) (hn0 : 0 < n) (hn : n ≤ 1000) :
    Calls Try.prog 80 #[v, .int .i64 (toI x)] w (RetM (tabF n n (lessF f x)) w) := by
  have HV := Lib.hid hv
  clear hv
  have hxb := toI_bd x
  obtain ⟨hx1, hx2⟩ := hxb
  go_enter Try.func80, Try.ntmps80
  go_wp2_with fail
  refine (c_l01Own2 v _ _ HV.out (fun xs hx => by rw [tabF_mem hx]; omega) (by rw [tabF_length]; omega)).mono ?_
  rintro e w1 ⟨v1, rfl, ho1, hb1⟩
  obtain ⟨g, cap, rfl, hg1, hg2⟩ := ho1.shape' (by rw [tabF_length]; exact hn0)
  rw [tabF_length] at ho1
  rw [tabF_length]
  have HO := Lib.hid ho1
  have HB := Lib.hid hb1
  clear ho1 hb1
  go_wp2_with fail
  go_loopw [6] (fun i wr => ∃ k : Nat, k ≤ n ∧ i = .int .i64 k ∧ OwnM wr w.heap.size (.slice (some ⟨g, 0, none⟩) n cap) (tabF n n (lessTo f x k)) ∧ Below w.heap.size w wr) (fun i _ => n - (intOf i).toNat)
  case atStart => exact ⟨0, Nat.zero_le _, rfl, by rw [lessTo_zero]; exact HO.out, HB.out⟩
  case round =>
    obtain ⟨k, hk, rfl, hown, hbel⟩ := hrel
    clear HO HB
    by_cases hlt : k < n
    · obtain ⟨gk, ck, e1, e2, e3, e4, e5, e6, _⟩ := hown.entryI (tabF_at n _ hlt) (zl_at _ hlt)
      rw [zl_length] at e1
      have ek : lessTo f x k k k = f k k := by simp [lessTo]
      rw [ek] at e2
      have hyb := toI_bd (f k k)
      obtain ⟨hy1, hy2⟩ := hyb
      have hw1 : IntKind.i64.wrap (toI (f k k) - toI x) = toI (f k k) - toI x := IntWalk.i64_in _ (by omega)
      have HM : Hid ((toI (f k k) - toI x) % 55441 = toI (f k k - x)) := Lib.hid (toI_of (by rw [ofI_sub, ofI_toI, ofI_toI])).symm
      have HB := Lib.hid hbel
      have HU : Hid (OwnM (wr.setCell ⟨gk, k, none⟩ (.int .i64 (toI (f k k - x)))) w.heap.size (.slice (some ⟨g, 0, none⟩) n cap) (tabF n n (lessTo f x (k + 1)))) := Lib.hid (by
        have := e6 (toI (f k k - x))
        rw [tabF_upd, lessTo_next] at this
        exact this)
      clear hown hbel e6 ek
      go_wp2_with fail
      refine (c_l01Mod _ _).mono ?_
      rintro e w2 ⟨rfl, rfl⟩
      rw [HM.out]
      go_wp2_with fail
      go_roundw
      case rel => exact ⟨k + 1, by omega, by go_num, HU.out, below_set HB.out e4⟩
      case measure => simp [intOf]; omega
    · obtain rfl : n = k := by omega
      rw [lessTo_end] at hown
      have HO := Lib.hid hown
      have HB := Lib.hid hbel
      clear hown hbel
      go_wp2_with fail
      go_ret
      exact ⟨_, rfl, HO.out, HB.out⟩
end Go.Proofs.Ytmbcncmmgfnlmaa
