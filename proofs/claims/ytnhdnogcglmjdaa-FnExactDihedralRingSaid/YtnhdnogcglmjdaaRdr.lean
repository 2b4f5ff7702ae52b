/- Dihedral rings: vectors V(h), sums of rows. -/
import Derived.Test.YtnhdnogcglmjdaaRgr
namespace Go.Proofs.Ytnhdnogcglmjdaa
open Go.RowKit

def spM (n h : Nat) : Nat := min h (n - h)
/-- the vector V(h) -/
def spF (n h k : Nat) : Int := if spM n h = 0 then (if k = 0 ∨ k = 1 then 1 else 0) else if 2 * spM n h = n then (if k = 2 ∨ k = 3 then 1 else 0) else if k = spM n h + (if n % 2 = 1 then 1 else 3) then 1 else 0
theorem OwnI.setV {w : World} {B g N cap L : Nat} {f : Nat → Int} (h : OwnI w B (.slice (some ⟨g, 0, none⟩) N cap) (vec L f)) (i : Nat) (x : Int) : OwnI (w.setCell ⟨g, i, none⟩ (vi x)) B (.slice (some ⟨g, 0, none⟩) N cap) (vec L fun j => if j = i then x else f j) := by
  have := Own.store h i (vi x)
  rw [← List.map_set, vec_set] at this
  exact this
theorem OwnI.atV {w : World} {B g N cap L : Nat} {f : Nat → Int} (h : OwnI w B (.slice (some ⟨g, 0, none⟩) N cap) (vec L f)) {i : Nat} (hi : i < L) : w.cell? ⟨g, i, none⟩ = some (vi (f i)) :=
  Own.cell h (by rw [List.getElem?_map, vec_at _ hi]; rfl)
set_option maxHeartbeats 1000000 in
theorem c_spreadV (n L hh : Nat) (h : Int) (w : World) (he : h = (hh : Int)) (hn1 : 1 ≤ n) (hn2 : n ≤ 18) (hhn : hh ≤ n) (hL : (n % 2 = 1 ∧ L = 2 + (n - 1) / 2) ∨ (n % 2 = 0 ∧ L = 4 + (n - 1) / 2)) :
    Calls Try.prog 69 #[.int .i64 n, .int .i64 h, .int .i64 L] w (RetI (vec L (spF n hh)) w) := by
  subst he
  have hLb : 2 ≤ L ∧ L ≤ 100 := by omega
  have hmk := run_make_row' (P := Try.prog) 37 2 (.int .i64 0) 8 Try.underlying37 info_int rfl .i64 .i64 L (by omega) (by omega)
  have OWN := Lib.hid (own_zeros w L (by omega))
  have hcl : ∀ i, i < L → (w.alloc (.cells (madeCells #[.int .i64 0] L) 2)).cell? ⟨w.heap.size, i, none⟩ = some (.int .i64 0) := fun i hi => OwnI.atV OWN.out hi
  have hfr : ∀ i, (w.alloc (.cells (madeCells #[.int .i64 0] L) 2)).frozen? ⟨w.heap.size, i, none⟩ = false := fun i => Own.frozen OWN.out i
  have HCL := Lib.hid hcl
  have HFR := Lib.hid hfr
  clear hcl hfr
  by_cases hc : 2 * hh < n
  · obtain ⟨m, rfl⟩ : ∃ m, m = hh := ⟨_, rfl⟩
    have hM : Hid (spM n m = m) := Lib.hid (by unfold spM; omega)
    by_cases h0 : m = 0
    · have h0B : ((m : Int) == 0) = true := by rw [beq_iff_eq]; omega
      have c0 := HCL.out 0 (by omega)
      have c1 := HCL.out 1 (by omega)
      have d0 := HFR.out 0
      have d1 := HFR.out 1
      have c1' : (w.alloc (.cells ((madeCells #[.int .i64 0] L).setIfInBounds 0 (.int .i64 1)) 2)).cell? ⟨w.heap.size, 1, none⟩ = some (.int .i64 0) := by
        rw [← World.setCell_alloc_new]
        exact (OwnI.atV (OwnI.setV OWN.out 0 1) (i := 1) (by omega)).trans (by simp)
      go_enter Try.func69, Try.ntmps69
      go_wp2_with fail
      go_ret
      simp only [← World.setCell_alloc_new]
      have h := (OwnI.setV (OwnI.setV OWN.out (0) 1) (1) 1)
      refine ⟨_, rfl, ?_, (below_set (below_set (below_alloc w _) (Nat.le_refl _)) (Nat.le_refl _))⟩
      have e : vec L (spF n m) = vec L (fun j => if j = 1 then 1 else if j = 0 then 1 else 0) := vec_congr fun k hk => by
        unfold spF
        rw [hM.out]
        rw [if_pos h0]; (repeat' split) <;> first | rfl | omega
      rw [e]
      exact h
    · have h0B : ((m : Int) == 0) = false := by rw [beq_eq_false_iff_ne]; omega
      by_cases h1 : 2 * m = n
      · exact absurd h1 (by omega)
      · have h1B : (((2 : Int) * (m : Int)) == (n : Int)) = false := by rw [beq_eq_false_iff_ne]; omega
        by_cases h2 : n % 2 = 1
        · have h2B : (((n : Int) % 2) == 1) = true := by rw [beq_iff_eq]; omega
          have c0 := HCL.out (m + 1) (by omega)
          have d0 := HFR.out (m + 1)
          have hml : m + 1 < L := by omega
          go_enter Try.func69, Try.ntmps69
          go_wp2_with fail
          go_ret
          simp only [← World.setCell_alloc_new]
          have h := (OwnI.setV OWN.out (m + 1) 1)
          refine ⟨_, rfl, ?_, (below_set (below_alloc w _) (Nat.le_refl _))⟩
          have e : vec L (spF n m) = vec L (fun j => if j = m + 1 then 1 else 0) := vec_congr fun k hk => by
            unfold spF
            rw [hM.out]
            rw [if_neg h0, if_neg h1, if_pos h2]
          rw [e]
          exact h
        · have h2B : (((n : Int) % 2) == 1) = false := by rw [beq_eq_false_iff_ne]; omega
          have c0 := HCL.out (m + 3) (by omega)
          have d0 := HFR.out (m + 3)
          have hml : m + 3 < L := by omega
          go_enter Try.func69, Try.ntmps69
          go_wp2_with fail
          go_ret
          simp only [← World.setCell_alloc_new]
          have h := (OwnI.setV OWN.out (m + 3) 1)
          refine ⟨_, rfl, ?_, (below_set (below_alloc w _) (Nat.le_refl _))⟩
          have e : vec L (spF n m) = vec L (fun j => if j = m + 3 then 1 else 0) := vec_congr fun k hk => by
            unfold spF
            rw [hM.out]
            rw [if_neg h0, if_neg h1, if_neg h2]
          rw [e]
          exact h
  · obtain ⟨m, hm⟩ : ∃ m, m = n - hh := ⟨_, rfl⟩
    have hM : Hid (spM n hh = m) := Lib.hid (by unfold spM; omega)
    have hmI : (n : Int) - (hh : Int) = (m : Int) := by omega
    have hmn : 2 * m ≤ n := by omega
    have hhm : hh + m = n := by omega
    clear hm
    by_cases h0 : m = 0
    · have h0B : ((m : Int) == 0) = true := by rw [beq_iff_eq]; omega
      have c0 := HCL.out 0 (by omega)
      have c1 := HCL.out 1 (by omega)
      have d0 := HFR.out 0
      have d1 := HFR.out 1
      have c1' : (w.alloc (.cells ((madeCells #[.int .i64 0] L).setIfInBounds 0 (.int .i64 1)) 2)).cell? ⟨w.heap.size, 1, none⟩ = some (.int .i64 0) := by
        rw [← World.setCell_alloc_new]
        exact (OwnI.atV (OwnI.setV OWN.out 0 1) (i := 1) (by omega)).trans (by simp)
      go_enter Try.func69, Try.ntmps69
      go_wp2_with fail
      go_ret
      simp only [← World.setCell_alloc_new]
      have h := (OwnI.setV (OwnI.setV OWN.out (0) 1) (1) 1)
      refine ⟨_, rfl, ?_, (below_set (below_set (below_alloc w _) (Nat.le_refl _)) (Nat.le_refl _))⟩
      have e : vec L (spF n hh) = vec L (fun j => if j = 1 then 1 else if j = 0 then 1 else 0) := vec_congr fun k hk => by
        unfold spF
        rw [hM.out]
        rw [if_pos h0]; (repeat' split) <;> first | rfl | omega
      rw [e]
      exact h
    · have h0B : ((m : Int) == 0) = false := by rw [beq_eq_false_iff_ne]; omega
      by_cases h1 : 2 * m = n
      · have h1B : (((2 : Int) * (m : Int)) == (n : Int)) = true := by rw [beq_iff_eq]; omega
        have c0 := HCL.out 2 (by omega)
        have c1 := HCL.out 3 (by omega)
        have d0 := HFR.out 2
        have d1 := HFR.out 3
        have c1' : (w.alloc (.cells ((madeCells #[.int .i64 0] L).setIfInBounds 2 (.int .i64 1)) 2)).cell? ⟨w.heap.size, 3, none⟩ = some (.int .i64 0) := by
          rw [← World.setCell_alloc_new]
          exact (OwnI.atV (OwnI.setV OWN.out 2 1) (i := 3) (by omega)).trans (by simp)
        go_enter Try.func69, Try.ntmps69
        go_wp2_with fail
        go_ret
        simp only [← World.setCell_alloc_new]
        have h := (OwnI.setV (OwnI.setV OWN.out (2) 1) (3) 1)
        refine ⟨_, rfl, ?_, (below_set (below_set (below_alloc w _) (Nat.le_refl _)) (Nat.le_refl _))⟩
        have e : vec L (spF n hh) = vec L (fun j => if j = 3 then 1 else if j = 2 then 1 else 0) := vec_congr fun k hk => by
          unfold spF
          rw [hM.out]
          rw [if_neg h0, if_pos h1]; (repeat' split) <;> first | rfl | omega
        rw [e]
        exact h
      · have h1B : (((2 : Int) * (m : Int)) == (n : Int)) = false := by rw [beq_eq_false_iff_ne]; omega
        by_cases h2 : n % 2 = 1
        · have h2B : (((n : Int) % 2) == 1) = true := by rw [beq_iff_eq]; omega
          have c0 := HCL.out (m + 1) (by omega)
          have d0 := HFR.out (m + 1)
          have hml : m + 1 < L := by omega
          go_enter Try.func69, Try.ntmps69
          go_wp2_with fail
          go_ret
          simp only [← World.setCell_alloc_new]
          have h := (OwnI.setV OWN.out (m + 1) 1)
          refine ⟨_, rfl, ?_, (below_set (below_alloc w _) (Nat.le_refl _))⟩
          have e : vec L (spF n hh) = vec L (fun j => if j = m + 1 then 1 else 0) := vec_congr fun k hk => by
            unfold spF
            rw [hM.out]
            rw [if_neg h0, if_neg h1, if_pos h2]
          rw [e]
          exact h
        · have h2B : (((n : Int) % 2) == 1) = false := by rw [beq_eq_false_iff_ne]; omega
          have c0 := HCL.out (m + 3) (by omega)
          have d0 := HFR.out (m + 3)
          have hml : m + 3 < L := by omega
          go_enter Try.func69, Try.ntmps69
          go_wp2_with fail
          go_ret
          simp only [← World.setCell_alloc_new]
          have h := (OwnI.setV OWN.out (m + 3) 1)
          refine ⟨_, rfl, ?_, (below_set (below_alloc w _) (Nat.le_refl _))⟩
          have e : vec L (spF n hh) = vec L (fun j => if j = m + 3 then 1 else 0) := vec_congr fun k hk => by
            unfold spF
            rw [hM.out]
            rw [if_neg h0, if_neg h1, if_neg h2]
          rw [e]
          exact h

/-- a list added to a row of a cube -/
def addR (f : Nat → Nat → Nat → Int) (i j : Nat) (x : Nat → Int) (c : Nat) (a b k : Nat) : Int := if a = i ∧ b = j ∧ k < c then f a b k + x k else f a b k
theorem addR_next {n : Nat} (f : Nat → Nat → Nat → Int) (i j : Nat) (x : Nat → Int) (c : Nat) : cub n (upd3 (addR f i j x c) i j c (f i j c + x c)) = cub n (addR f i j x (c + 1)) := by
  refine cub_congr fun a b k _ _ _ => ?_
  unfold upd3 addR
  by_cases e : a = i ∧ b = j ∧ k = c
  · obtain ⟨rfl, rfl, rfl⟩ := e
    rw [if_pos ⟨rfl, rfl, rfl⟩, if_pos ⟨rfl, rfl, Nat.lt_succ_self _⟩]
  · rw [if_neg e]
    by_cases e2 : a = i ∧ b = j ∧ k < c
    · rw [if_pos e2, if_pos ⟨e2.1, e2.2.1, by omega⟩]
    · rw [if_neg e2, if_neg (fun h => e2 ⟨h.1, h.2.1, by have := h.2.2; have h3 : k ≠ c := fun e' => e ⟨h.1, h.2.1, e'⟩; omega⟩)]
set_option maxHeartbeats 1000000 in
theorem c_addTo {lo hi g M cap n g1 g2 c1 c2 i j : Nat} (f : Nat → Nat → Nat → Int) (x : Nat → Int) (v : Value) (w : World) (hi' : i < n) (hj : j < n) (hn : n ≤ 1000) (hne : g2 ≠ g) (hne1 : g2 ≠ g1)
    (ho : OwnCB w lo hi (.slice (some ⟨g, 0, none⟩) M cap) (cub n f)) (e1 : w.cell? ⟨g, i, none⟩ = some (.slice (some ⟨g1, 0, none⟩) n c1)) (e2 : w.cell? ⟨g1, j, none⟩ = some (.slice (some ⟨g2, 0, none⟩) n c2))
    (hv : ∀ w', (∀ k, k ≠ g2 → w'.heap[k]? = w.heap[k]?) → Ints w' v (vec n x)) (hf : ∀ k, 0 ≤ f i j k ∧ f i j k ≤ 1000) (hx : ∀ k, 0 ≤ x k ∧ x k ≤ 1000) :
    Calls Try.prog 68 #[.slice (some ⟨g2, 0, none⟩) n c2, v] w fun e w' => (∃ u, e = .returned u) ∧ OwnCB w' lo hi (.slice (some ⟨g, 0, none⟩) M cap) (cub n (addR f i j x n)) ∧ Touch (fun k => k = g2) w w' := by
  obtain ⟨a, cv, rfl, _, _⟩ := hv w (fun _ _ => rfl)
  rw [vec_length] at hv ⊢
  have HV := Lib.hid hv
  have HF := Lib.hid hf
  have HX := Lib.hid hx
  have HO : Hid (OwnCB w lo hi (.slice (some ⟨g, 0, none⟩) M cap) (cub n (addR f i j x 0))) := Lib.hid (by
    have e : cub n (addR f i j x 0) = cub n f := cub_congr fun a b k _ _ _ => by unfold addR; rw [if_neg (fun h => Nat.not_lt_zero _ h.2.2)]
    rw [e]; exact ho)
  have HE : Hid (w.cell? ⟨g, i, none⟩ = some (.slice (some ⟨g1, 0, none⟩) n c1) ∧ w.cell? ⟨g1, j, none⟩ = some (.slice (some ⟨g2, 0, none⟩) n c2)) := Lib.hid ⟨e1, e2⟩
  clear hv hf hx ho e1 e2
  go_enter Try.func68, Try.ntmps68
  go_wp2_with fail
  go_loopw [8] (fun tv wr => ∃ c : Nat, c ≤ n ∧ tv = .int .i64 c ∧ Hid (OwnCB wr lo hi (.slice (some ⟨g, 0, none⟩) M cap) (cub n (addR f i j x c))) ∧ Touch (fun k => k = g2) w wr) (fun tv _ => n - (intOf tv).toNat)
  case atStart => exact ⟨0, Nat.zero_le _, rfl, HO, Touch.refl _ _⟩
  case round =>
    obtain ⟨c, hc, rfl, hown, ht⟩ := hrel
    by_cases hlt : c < n
    · obtain ⟨av, cv', hve, _, hcv⟩ := HV.out wr (fun k hk => ht.block k hk)
      rw [vec_length] at hve
      cases hve
      obtain ⟨b, off, rfl, hcell⟩ := hcv c _ (vec_at x hlt)
      have k1 := (cell_sameD (ht.block g (fun e => hne e.symm)) HE.out.1)
      have k2 := (cell_sameD (ht.block g1 (fun e => hne1 e.symm)) HE.out.2)
      obtain ⟨g1', c1', g2', c2', a1, a2, a3, a4, _⟩ := hown.out.at hi' hj hlt
      rw [k1] at a1; cases a1
      rw [k2] at a2; cases a2
      have ev : addR f i j x c i j c = f i j c := by unfold addR; rw [if_neg (fun h => Nat.lt_irrefl _ h.2.2)]
      rw [ev] at a3
      have hb1 := HF.out c
      have hb2 := HX.out c
      obtain ⟨F, hF⟩ : ∃ F, F = f i j c := ⟨_, rfl⟩
      obtain ⟨X, hX⟩ : ∃ X, X = x c := ⟨_, rfl⟩
      have HNEW : Hid (OwnCB (wr.setCell ⟨g2, c, none⟩ (vi (F + X))) lo hi (.slice (some ⟨g, 0, none⟩) M cap) (cub n (addR f i j x (c + 1)))) := Lib.hid (by
        rw [← addR_next, hF, hX]; exact hown.out.setAt hi' hj hlt k1 k2 _)
      have HT : Hid (Touch (fun k => k = g2) w (wr.setCell ⟨g2, c, none⟩ (vi (F + X)))) := Lib.hid (ht.set rfl)
      rw [← hF] at a3 hb1
      rw [← hX] at hcell hb2
      clear hF hX hown ht k1 k2 hcv ev
      go_wp2_with fail
      go_roundw
      case rel => exact ⟨c + 1, by omega, by go_num, HNEW, HT.out⟩
      case measure => simp [intOf]; omega
    · obtain rfl : n = c := by omega
      have HT := Lib.hid ht
      clear ht
      go_wp2_with fail
      go_end0
      exact ⟨⟨_, rfl⟩, hown.out, HT.out⟩
end Go.Proofs.Ytnhdnogcglmjdaa
