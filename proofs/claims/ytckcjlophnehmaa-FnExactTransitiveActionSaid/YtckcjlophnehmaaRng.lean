/- Rings: a cube in a struct. Empty cubes on both sides; the laws' helpers on rings. -/
import Derived.Test.YtckcjlophnehmaaCbe
import Derived.Laws.ResultCell
import Derived.Deep.RegionLaw
import Derived.BigRegion
namespace Go.Proofs.Ytckcjlophnehmaa
open Go.RowKit

theorem cell_sameD {w w' : World} {g i : Nat} {v : Value} (h : w'.heap[g]? = w.heap[g]?) (hc : w.cell? ⟨g, i, none⟩ = some v) : w'.cell? ⟨g, i, none⟩ = some v := by
  rw [← hc]; simp only [World.cell?, h]
theorem results_cell1 {fn : Func} {p : Tmp} {ty : TypeId} (h : fn.results = #[.cell p ty]) (tmps : Array Value) (P : Program) (w : World) :
    (results fn tmps).run P w = ((asAddr (tmps.getD p undef)).run P w).andThen fun a w₁ => (loadVar ty a).run P w₁ := by
  simp only [results, h]
  simp [Sem.run_bind, Result.andThen]
theorem OwnM.sliceM {w : World} {B : Nat} {v : Value} {m : List (List Int)} (h : OwnM w B v m) : ∃ p n c, v = .slice p n c := by obtain ⟨us, h1, _⟩ := h; exact h1.slice
theorem below_drewed {w0 w w' : World} (hb : Below w0.heap.size w0 w) (h : Below w.drew.heap.size w.drew w') : Below w0.heap.size w0 w' :=
  hb.trans ((below_drew h).mono hb.size)
theorem frozen_sameD {w w' : World} {g i : Nat} {v : Value} (h : w'.heap[g]? = w.heap[g]?) (_hc : w.cell? ⟨g, i, none⟩ = some v) (hf : w.frozen? ⟨g, i, none⟩ = false) : w'.frozen? ⟨g, i, none⟩ = false := by
  rw [← hf]; simp only [World.frozen?, h]
/-- post of a call that makes a ring -/
def RetR (r : List (List (List Int)) × Int) (w : World) (e : Ending) (w' : World) : Prop :=
  ∃ s, e = .returned (.tuple #[.agg #[s], .int .i64 r.2]) ∧ OwnCB w' w.heap.size w'.heap.size s r.1 ∧ Below w.heap.size w w'
/-- .. a ring alone -/
def RetR1 (c : List (List (List Int))) (w : World) (e : Ending) (w' : World) : Prop :=
  ∃ s, e = .returned (.agg #[s]) ∧ OwnCB w' w.heap.size w'.heap.size s c ∧ Below w.heap.size w w'

theorem c_zeros (r c : Nat) (w : World) (hr : r ≤ 100000) (hc : c ≤ 100000) :
    Calls Try.prog 41 #[.int .i64 r, .int .i64 c] w (RetM (tab r c fun _ _ => 0) w) := by
  have hmk := run_make_row' (P := Try.prog) 29 2 (.int .i64 0) 8 Try.underlying29 info_int rfl .i64 .i64 c (by omega) (by omega)
  go_enter Try.func41, Try.ntmps41
  go_wp2_with fail
  go_loopw [5, 8] (fun s i wr => ∃ (k : Nat), k ≤ r ∧ i = .int .i64 k ∧ OwnM wr w.heap.size s (tab k c fun _ _ => 0) ∧ Below w.heap.size w wr) (fun _ i _ => r - (intOf i).toNat)
  case atStart => exact ⟨0, Nat.zero_le _, rfl, ownM_empty _ _ (Nat.le_refl _), below_alloc _ _⟩
  case round =>
    obtain ⟨k, hk, rfl, hown, hbel⟩ := hrel
    by_cases hlt : k < r
    · have HOW := Lib.hid hown
      have HB := Lib.hid hbel
      have hsz := hbel.size
      have HA := Lib.hid (below_alloc wr (.cells (madeCells #[.int .i64 0] c) 2))
      have HO := Lib.hid (own_zeros wr c (by omega))
      clear hown hbel
      go_wp2_with (at_builtin; refine wp_pushM HOW.out HA.out HO.out rfl _ _ rfl rfl rfl (by first | with_reducible rfl | simp) (by omega) (by rw [tab_length]; omega) ?_; intro v' w2 ho2 hb2)
      go_roundw
      case rel => exact ⟨k + 1, by omega, by go_num, by rw [tab, vec_snoc]; exact ho2, (HB.out.trans (HA.out.mono hsz)).trans hb2⟩
      case measure => simp [intOf]; omega
    · obtain rfl : k = r := by omega
      have HOW := Lib.hid hown
      have HB := Lib.hid hbel
      clear hown hbel
      go_wp2_with fail
      go_ret
      exact ⟨_, rfl, HOW.out, HB.out⟩
/-- cubes of zeros, some tables only -/
def zc (k n : Nat) : List (List (List Int)) := vec k fun _ => tab n n fun _ _ => 0
theorem zc_length (k n : Nat) : (zc k n).length = k := vec_length _ _
theorem zc_snoc (k n : Nat) : zc (k + 1) n = zc k n ++ [tab n n fun _ _ => 0] := vec_snoc _ _
theorem zc_cub (n : Nat) : zc n n = cub n fun _ _ _ => 0 := rfl
theorem below_sized {B : Nat} {w w' : World} (h : Below B w w') : w.heap.size ≤ w'.heap.size := h.size
set_option maxRecDepth 100000 in
theorem c_emptyCube (n : Nat) (w : World) (hn : n ≤ 1000) :
    Calls Try.prog 61 #[.int .i64 n] w (RetR1 (cub n fun _ _ _ => 0) w) := by
  go_enter Try.func61, Try.ntmps61
  go_wp2_with fail
  go_loopw [6] (fun i wr => ∃ (k : Nat) (p : Option Addr) (m cc : Nat), k ≤ n ∧ i = .int .i64 k ∧ wr.cell? ⟨w.heap.size + 1, 0, none⟩ = some (.slice p m cc) ∧ wr.frozen? ⟨w.heap.size + 1, 0, none⟩ = false ∧ wr.cell? ⟨w.heap.size, 0, none⟩ = some (.slice none 0 0) ∧ wr.frozen? ⟨w.heap.size, 0, none⟩ = false ∧ w.heap.size + 2 ≤ wr.heap.size ∧ OwnCB wr (w.heap.size + 2) wr.heap.size (.slice p m cc) (zc k n) ∧ Below w.heap.size w wr) (fun i _ => n - (intOf i).toNat)
  case atStart => exact ⟨0, none, 0, 0, Nat.zero_le _, rfl, by simp, by simp, by simp, by simp, by simp, OwnCB.nil _ _ _, ((below_alloc w _).alloc (by simp) _)⟩
  case round =>
    obtain ⟨k, p, m, cc, hk, rfl, hcell, hfr, hcell0, hfr0, hsz, hown, hbel⟩ := hrel
    by_cases hlt : k < n
    · have HO := Lib.hid hown
      have HB := Lib.hid hbel
      have hlt1 : w.heap.size + 1 < wr.heap.size := by omega
      clear hown hbel
      go_wp2_with fail
      go_region_law
        (first
          | (refine step_pushC (w0 := wr) (gx := w5.heap.size) (v := .slice p m cc) (c := zc k n) HO.out (below_drewed (Below.refl _ _) hb5) ho5 ?_ (.tmp 9) (.tmp 13) ?_ ?_ ?_ ?_ ?_ ?_ ?_; rfl; rfl; rfl; rfl; rfl; exact hsz; (rw [zc_length]; omega); intro v7 w7 ho7 hb7; obtain ⟨p7, n7, c7, rfl⟩ := ho7.slice; have hcA7 := cell_sameD (hb7.block _ (by omega)) hcA; have hcB7 := cell_sameD (hb7.block _ (by omega)) hcB; have hfA7 := frozen_sameD (hb7.block _ (by omega)) hcA hfA; have hfB7 := frozen_sameD (hb7.block _ (by omega)) hcB hfB)
          | (go_simp; go_at_call 41; refine (c_zeros n n _ (by omega) (by omega)).mono ?_; rintro e w5 ⟨v5, rfl, ho5, hb5⟩; obtain ⟨p5, n5, c5, rfl⟩ := ho5.sliceM; have hcA := bcell hb5 hcell; have hfA := bfrozen hb5 hcell hfr; have hcB := bcell hb5 hcell0; have hfB := bfrozen hb5 hcell0 hfr0; have hlt5 : w.heap.size + 1 < w5.heap.size := Nat.lt_of_lt_of_le hlt1 hb5.size; have hlt50 : w.heap.size < w5.heap.size := by omega))
      all_goals
        have hB7 : Hid (Below w.heap.size w w7) := Lib.hid (HB.out.trans (((below_drewed (Below.refl _ wr) hb5).mono (by omega)).trans (hb7.mono (by omega))))
        have HO7 : Hid (OwnCB w7 (w.heap.size + 2) w7.heap.size (.slice p7 n7 c7) (zc (k + 1) n)) := Lib.hid (by rw [zc_snoc]; exact ho7)
        have hs7 : w.heap.size + 2 ≤ w7.heap.size := Nat.le_trans hsz (Nat.le_trans hb5.size hb7.size)
        clear ho5 hb5 ho7 hb7 hcA hfA hcB hfB HO HB
        go_wp2_with fail
        go_roundw
        case rel => exact ⟨k + 1, p7, n7, c7, by omega, by go_num, World.cell?_setCell_same _ _ _ hcA7, by simp [hfA7], (World.cell?_setCell_other _ _ _ _ (fun h => by simp at h)).trans hcB7, by simp [hfB7], by simpa using hs7, (HO7.out.same fun x h1 h2 => Below.heap_setCell _ _ _ _ (fun e => by simp at e; omega)).mono (Nat.le_refl _) (by simp), below_set hB7.out (by omega)⟩
        case measure => simp [intOf]; omega
    · obtain rfl : n = k := by omega
      have HO := Lib.hid hown
      have HB := Lib.hid hbel
      have hlt1 : w.heap.size + 1 < wr.heap.size := by omega
      have hlt0 : w.heap.size < wr.heap.size := by omega
      clear hown hbel
      go_wp2_with fail
      (try simp only [Exit.inBlock, Exit.then])
      refine bodyPost_ret (v := .agg #[.slice p m cc]) (by rw [results_cell1 rfl]; go_simp) rfl ?_
      exact ⟨_, rfl, (HO.out.same fun x h1 h2 => Below.heap_setCell _ _ _ _ (fun e => by simp at e; omega)).mono (by omega) (by simp), below_set HB.out (Nat.le_refl _)⟩
theorem c_eqRing (s s' : Value) (c : List (List (List Int))) (w : World) (h1 : IntCubes w s c) (h2 : IntCubes w s' c) :
    Calls Try.prog 16 #[.agg #[s], .agg #[s']] w fun e w' => e = .returned (.bool true) ∧ Below w.heap.size w w' := by
  have H1 := Lib.hid h1
  have H2 := Lib.hid h2
  clear h1 h2
  go_enter Try.func16, Try.ntmps16
  go_wp2_with fail
  have HB : Hid (Below w.heap.size w _) := Lib.hid (((Below.refl _ w).alloc (Nat.le_refl _) (.cells #[s] 32)).alloc (by simp) (.cells #[s'] 32))
  refine (c_eqInt64SSS _ _ c c _ (H1.out.keep HB.out) (H2.out.keep HB.out)).mono ?_
  rintro e w1 ⟨rfl, hb1⟩
  rw [eqLLL_self]
  have HB1 := Lib.hid (HB.out.trans (hb1.mono HB.out.size))
  clear hb1
  go_wp2_with fail
  go_ret
  exact ⟨rfl, HB1.out⟩
theorem c_markRing (s : Value) (c : List (List (List Int))) (k : Int) (lo hi : Nat) (w : World) (h1 : OwnCB w lo hi s c) (hlo : lo ≤ hi) (hh : hi ≤ w.heap.size)
    (hl : c.length ≤ 5864062014634) (hl' : ∀ m ∈ c, m.length ≤ 5864062014634 ∧ ∀ xs ∈ m, xs.length ≤ 17592186043904) (hk : 0 ≤ k) (hk' : k + cntC c ≤ 1000000000000000) :
    Calls Try.prog 20 #[.agg #[s], .int .i64 k] w fun e w' => e = .returned (.int .i64 (k + cntC c)) ∧ OwnCB w' lo hi s (marksC k c) ∧ Below lo w w' ∧ ∀ x, hi ≤ x → x < w.heap.size → w'.heap[x]? = w.heap[x]? := by
  have H1 := Lib.hid (h1.alloc hh (.cells #[s] 32))
  have HL := Lib.hid hl'
  clear h1 hl'
  go_enter Try.func20, Try.ntmps20
  go_wp2_with fail
  refine (c_markInt64SSS s c k lo hi _ H1.out hl HL.out hk hk').mono ?_
  rintro e w1 ⟨rfl, ho1, ht1⟩
  have HO1 := Lib.hid ho1
  have HX := Lib.hid (fun x (hx : hi ≤ x) (hx' : x < w.heap.size) => (ht1.block x (fun h => by have := h.2; omega)).trans (Below.heap_alloc w (.cells #[s] 32) x hx'))
  have HB := Lib.hid (Touch.below ((below_alloc w (.cells #[s] 32)).mono (Nat.le_trans hlo hh)) ht1 (fun b hb => hb.1))
  clear ho1 ht1
  go_wp2_with fail
  go_ret
  exact ⟨rfl, HO1.out, HB.out, HX.out⟩
theorem c_heldRing (s : Value) (c : List (List (List Int))) (k : Int) (w : World) (h1 : IntCubes w s (marksC k c)) (hk : 0 ≤ k) (hk' : k + cntC c ≤ 1000000000000000) :
    Calls Try.prog 22 #[.agg #[s], .int .i64 k] w fun e w' => e = .returned (.int .i64 (k + cntC c)) ∧ Below w.heap.size w w' := by
  have HB := Lib.hid (below_alloc w (.cells #[s] 32))
  have H1 := Lib.hid (h1.keep HB.out)
  have hN : 0 ≤ cntC c := totC_nonneg cntM_nonneg _ _
  clear h1
  go_enter Try.func22, Try.ntmps22
  go_wp2_with fail
  refine (c_heldInt64SSS s c k _ H1.out hk hk').mono ?_
  rintro e w1 ⟨rfl, rfl⟩
  go_wp2_with fail
  go_ret
  exact ⟨rfl, HB.out⟩
/-! a cube's size -/
theorem cub_small {n : Nat} (f : Nat → Nat → Nat → Int) (hn : n ≤ 1000) : (cub n f).length ≤ 5864062014634 ∧ ∀ m ∈ cub n f, m.length ≤ 5864062014634 ∧ ∀ xs ∈ m, xs.length ≤ 17592186043904 := by
  refine ⟨by rw [cub_length]; omega, fun m hm => ?_⟩
  obtain ⟨i, hi, rfl⟩ := vec_mem hm
  refine ⟨by rw [tab_length]; omega, fun xs hx => ?_⟩
  obtain ⟨j, hj, rfl⟩ := vec_mem hx
  rw [vec_length]; omega
theorem cntM_tab {r c : Nat} (f : Nat → Nat → Int) : ∀ k, k ≤ r → totK (tab r c f) k = k * c
  | 0, _ => by simp [totK]
  | k + 1, h => by
    rw [totK_next (tab_row f (by omega)), cntM_tab f k (by omega), vec_length]
    rw [show ((k + 1 : Nat) : Int) = (k : Int) + 1 from rfl, Int.add_mul]; simp
theorem cntC_cub {n : Nat} (f : Nat → Nat → Nat → Int) (hn : n ≤ 1000) : 0 ≤ cntC (cub n f) ∧ cntC (cub n f) ≤ 1000000000 := by
  refine ⟨totC_nonneg cntM_nonneg _ _, ?_⟩
  have h : ∀ k, k ≤ n → totC cntM (cub n f) k ≤ (k : Int) * 1000000 := by
    intro k
    induction k with
    | zero => intro _; simp [totC]
    | succ k ih =>
      intro hk
      rw [totC_next (m := tab n n (f k)) (vec_at _ (by omega))]
      have h1 := ih (by omega)
      have h2 : cntM (tab n n (f k)) = (n : Int) * n := by unfold cntM; rw [cntM_tab _ _ (by rw [tab_length]; exact Nat.le_refl _), tab_length]
      have h3 : (n : Int) * n ≤ 1000 * 1000 := Int.mul_le_mul (by omega) (by omega) (by omega) (by omega)
      push_cast
      omega
  have h1 := h n (Nat.le_refl _)
  unfold cntC
  rw [cub_length]
  omega
theorem marksC_small {k : Int} {n : Nat} (f : Nat → Nat → Nat → Int) (hn : n ≤ 1000) : (marksC k (cub n f)).length ≤ 5864062014634 ∧ ∀ m ∈ marksC k (cub n f), m.length ≤ 5864062014634 ∧ ∀ xs ∈ m, xs.length ≤ 17592186043904 := by
  refine ⟨by rw [marksC_length, cub_length]; omega, fun m hm => ?_⟩
  obtain ⟨i, hi, rfl⟩ := List.mem_mapIdx.1 hm
  have h := (cub_small f hn).2 _ (List.getElem_mem hi)
  exact ⟨by rw [marksM_length]; exact h.1, marks_row h.2⟩
/-- what a law wants to know of a cube's size -/
def SmallC (c : List (List (List Int))) : Prop :=
  (c.length ≤ 5864062014634 ∧ ∀ m ∈ c, m.length ≤ 5864062014634 ∧ ∀ xs ∈ m, xs.length ≤ 17592186043904) ∧ 0 ≤ cntC c ∧ cntC c ≤ 1000000000 ∧
    ∀ k, (marksC k c).length ≤ 5864062014634 ∧ ∀ m ∈ marksC k c, m.length ≤ 5864062014634 ∧ ∀ xs ∈ m, xs.length ≤ 17592186043904
theorem smallC_cub {n : Nat} (f : Nat → Nat → Nat → Int) (hn : n ≤ 1000) : SmallC (cub n f) :=
  ⟨cub_small f hn, (cntC_cub f hn).1, (cntC_cub f hn).2, fun _ => marksC_small f hn⟩
theorem smallC_nil : SmallC [] := ⟨⟨by simp, fun m hm => by simp at hm⟩, by simp [cntC, totC], by simp [cntC, totC], fun k => ⟨by simp [marksC], fun m hm => by simp [marksC] at hm⟩⟩
end Go.Proofs.Ytckcjlophnehmaa
