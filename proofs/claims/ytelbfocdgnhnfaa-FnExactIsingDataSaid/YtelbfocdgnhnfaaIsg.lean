/- IsingData on both sides, and its law's walk. -/
import Derived.Test.YtelbfocdgnhnfaaDat
namespace Go.Proofs.Ytelbfocdgnhnfaa
open Go.RowKit

/-- rows of a list of three rows just laid -/
theorem ownM_three (w : World) (B : Nat) (u v x : Value) (xs ys zs : List Int) (hB : B ≤ w.heap.size) (hu : OwnI w B u xs) (hv : OwnI w B v ys) (hx : OwnI w B x zs)
    (h1 : ∀ g, u.ownBlock = some g → v.ownBlock ≠ some g) (h2 : ∀ g, u.ownBlock = some g → x.ownBlock ≠ some g) (h3 : ∀ g, v.ownBlock = some g → x.ownBlock ≠ some g) :
    OwnM (w.alloc (.cells #[u, v, x] 23)) B (.slice (some ⟨w.heap.size, 0, none⟩) 3 3) [xs, ys, zs] := by
  have h2' := Own.lit (B := B) w 23 [u, v, x] hB (by simp [maxLen])
  refine ⟨[u, v, x], h2', rfl, fun i a bs e1 e2 => ?_, fun i j a a' e1 e2 hij => ?_⟩
  · match i with
    | 0 => simp at e1 e2; subst e1; subst e2; exact Own.alloc hu _
    | 1 => simp at e1 e2; subst e1; subst e2; exact Own.alloc hv _
    | 2 => simp at e1 e2; subst e1; subst e2; exact Own.alloc hx _
    | i + 3 => simp at e1
  · match i, j with
    | 0, 0 => exact absurd rfl hij
    | 1, 1 => exact absurd rfl hij
    | 2, 2 => exact absurd rfl hij
    | 0, 1 => simp at e1 e2; subst e1; subst e2; exact h1
    | 1, 0 => simp at e1 e2; subst e1; subst e2; exact fun g hg hg' => h1 g hg' hg
    | 0, 2 => simp at e1 e2; subst e1; subst e2; exact h2
    | 2, 0 => simp at e1 e2; subst e1; subst e2; exact fun g hg hg' => h2 g hg' hg
    | 1, 2 => simp at e1 e2; subst e1; subst e2; exact h3
    | 2, 1 => simp at e1 e2; subst e1; subst e2; exact fun g hg hg' => h3 g hg' hg
    | i + 3, _ => simp at e1
    | _, j + 3 => simp at e2
theorem OwnI.lit3 (w : World) (B : Nat) (a b c : Int) (hB : B ≤ w.heap.size) : OwnI (w.alloc (.cells #[.int .i64 a, .int .i64 b, .int .i64 c] 2)) B (.slice (some ⟨w.heap.size, 0, none⟩) 3 3) [a, b, c] :=
  Own.lit (B := B) w 2 [vi a, vi b, vi c] hB (by simp [maxLen])

/-- the world in which three rows and their list have just been laid -/
def laid3 (w : World) (g : Nat) (a b c d e f x y z : Int) : World :=
  (((w.alloc (.cells #[.int .i64 a, .int .i64 b, .int .i64 c] 2)).alloc (.cells #[.int .i64 d, .int .i64 e, .int .i64 f] 2)).alloc (.cells #[.int .i64 x, .int .i64 y, .int .i64 z] 2)).alloc
    (.cells #[.slice (some ⟨g, 0, none⟩) 3 3, .slice (some ⟨g + 1, 0, none⟩) 3 3, .slice (some ⟨g + 1 + 1, 0, none⟩) 3 3] 23)
theorem own_laid3 {w : World} {B g : Nat} (hg : w.heap.size = g) (hB : B ≤ g) (a b c d e f x y z : Int) :
    OwnM (laid3 w g a b c d e f x y z) B (.slice (some ⟨g + 1 + 1 + 1, 0, none⟩) 3 3) [[a, b, c], [d, e, f], [x, y, z]] ∧ (laid3 w g a b c d e f x y z).heap.size = g + 1 + 1 + 1 + 1 ∧ Below B w (laid3 w g a b c d e f x y z) := by
  have h1 := Own.alloc (Own.alloc (OwnI.lit3 w B a b c (by omega)) (.cells #[.int .i64 d, .int .i64 e, .int .i64 f] 2)) (.cells #[.int .i64 x, .int .i64 y, .int .i64 z] 2)
  have h2 := Own.alloc (OwnI.lit3 (w.alloc (.cells #[.int .i64 a, .int .i64 b, .int .i64 c] 2)) B d e f (by simp; omega)) (.cells #[.int .i64 x, .int .i64 y, .int .i64 z] 2)
  have h3 := OwnI.lit3 ((w.alloc (.cells #[.int .i64 a, .int .i64 b, .int .i64 c] 2)).alloc (.cells #[.int .i64 d, .int .i64 e, .int .i64 f] 2)) B x y z (by simp; omega)
  have h4 := ownM_three _ B _ _ _ [a, b, c] [d, e, f] [x, y, z] (by simp; omega) h1 h2 h3 (fun k hk hk' => by simp [Value.ownBlock] at hk hk'; omega) (fun k hk hk' => by simp [Value.ownBlock] at hk hk'; omega) (fun k hk hk' => by simp [Value.ownBlock] at hk hk'; omega)
  simp only [World.size_alloc, hg] at h4
  refine ⟨h4, by simp [laid3, hg], ?_⟩
  exact ((((Below.refl _ w).alloc (by omega) _).alloc (by simp; omega) _).alloc (by simp; omega) _).alloc (by simp; omega) _

/-- data of the Ising kind -/
def isgOk (v s : Int) : Bool := inR 1 15 v && !decide (v % 2 = 0) && (decide (s = 1) || decide (s = -1))
def isgW : Int := iroot 8
def isgD (s : Int) : Int := s * (isgW + iinv isgW) % 55441
def isgE (s : Int) : Int := -isgD s % 55441
def isgV (v : Int) : Int := ipw (iroot 16) v
def isgN (v s : Int) : (List (List Int) × List Int) × Int :=
  if isgOk v s = true then (([[1, isgD s, 1], [isgD s, 0, isgE s], [1, isgE s, 1]], [1, isgV v, 55440]), 0) else (([], []), 2)
theorem isg_small (v s : Int) : Small 4096 (isgN v s).1.1 ∧ (isgN v s).1.2.length ≤ 4096 := by
  unfold isgN
  split
  · refine ⟨⟨by simp, fun xs hx => ?_⟩, by simp⟩
    simp at hx
    rcases hx with rfl | rfl | rfl <;> simp
  · exact ⟨⟨by simp, fun xs hx => by simp at hx⟩, by simp⟩
theorem OwnB.mono' {w : World} {lo hi lo' hi' : Nat} {v : Value} {xss : List (List Int)} (h : OwnB w lo hi v xss) (h1 : lo' ≤ lo) (h2 : hi ≤ hi') : OwnB w lo' hi' v xss := by
  obtain ⟨us, ho, hl, hr, ha, hb1, hb2⟩ := h
  exact ⟨us, ho.mono h1, hl, fun i u xs e1 e2 => (hr i u xs e1 e2).mono h1, ha, fun g hg => Nat.lt_of_lt_of_le (hb1 g hg) h2, fun i u hu g hg => Nat.lt_of_lt_of_le (hb2 i u hu g hg) h2⟩
theorem retD_isg {w w0 w5 : World} {g g5 : Nat} {a b c d e f x y z p q u code : Int} {r : (List (List Int) × List Int) × Int} (hg : w.heap.size = g) (h0 : w0.heap.size ≤ g) (hz : g + 1 + 1 + 1 + 1 ≤ g5) (hg5 : w5.heap.size = g5)
    (hS : ∀ k, g ≤ k → k < g + 1 + 1 + 1 + 1 → w5.heap[k]? = (laid3 w g a b c d e f x y z).heap[k]?) (hB : Below w0.heap.size w0 w5) (hr : r = (([[a, b, c], [d, e, f], [x, y, z]], [p, q, u]), code)) :
    RetD r w0 (.returned (.tuple #[.agg #[.slice (some ⟨g + 1 + 1 + 1, 0, none⟩) 3 3, .slice (some ⟨g5, 0, none⟩) 3 3], .int .i64 code])) (w5.alloc (.cells #[.int .i64 p, .int .i64 q, .int .i64 u] 2)) := by
  subst hr
  obtain ⟨h1, h2, _⟩ := own_laid3 (B := g) hg (Nat.le_refl _) a b c d e f x y z
  have h3 := ((OwnM.bound h1).same (w' := w5) (fun k hk hk' => hS k hk (by rw [h2] at hk'; exact hk'))).mono' h0 (show _ ≤ g5 by omega)
  have h5 := (OwnI.lit3 w5 _ p q u (Nat.le_refl _)).bound
  rw [hg5] at h5
  refine ⟨_, _, g5, rfl, by omega, by simp; omega, h3.alloc (by omega) _, h5, hB.alloc (by omega) _⟩
theorem isgW_bd : 0 ≤ isgW ∧ isgW < 55441 := ipw_bd _ _
theorem isgV_bd (v : Int) : 0 ≤ isgV v ∧ isgV v < 55441 := ipw_bd _ _
theorem mod_bd (a : Int) : 0 ≤ a % 55441 ∧ a % 55441 < 55441 := ⟨Int.emod_nonneg _ (by omega), Int.emod_lt_of_pos _ (by omega)⟩
attribute [irreducible] isgW isgV
theorem c_IsingData (v s : Int) (w : World) : Calls Try.prog 13 #[.int .i64 v, .int .i64 s] w (RetD (isgN v s) w) := by
  cases h : inR 1 15 v
  · have H : Hid (isgN v s = (([], []), 2)) := Lib.hid (if_neg (by simp [isgOk, h]))
    go_enter Try.func13, Try.ntmps13
    go_wp2_with fail
    refine (c_within _ _ _ _).mono ?_
    rintro e w1 ⟨rfl, rfl⟩
    rw [h]
    go_wp2_with fail
    (try simp only [Exit.inBlock, Exit.then])
    refine bodyPost_ret (v := .tuple #[.agg #[.slice none 0 0, .slice none 0 0], .int .i64 2]) (by rw [results_cell_tmp rfl]; go_simp) rfl ?_
    exact retD_nil H.out (below_alloc w _)
  obtain ⟨hk1, hk2⟩ := inR_true h
  by_cases h2 : v % 2 = 0
  · have H : Hid (isgN v s = (([], []), 2)) := Lib.hid (if_neg (by simp [isgOk, h2]))
    have h2B : (v % 2 == 0) = true := by simp [h2]
    go_enter Try.func13, Try.ntmps13
    go_wp2_with fail
    refine (c_within _ _ _ _).mono ?_
    rintro e w1 ⟨rfl, rfl⟩
    rw [h]
    go_wp2_with fail
    (try simp only [Exit.inBlock, Exit.then])
    refine bodyPost_ret (v := .tuple #[.agg #[.slice none 0 0, .slice none 0 0], .int .i64 2]) (by rw [results_cell_tmp rfl]; go_simp) rfl ?_
    exact retD_nil H.out (below_alloc w _)
  have h2B : (v % 2 == 0) = false := by simp [h2]
  by_cases h3 : ¬ s = 1 ∧ ¬ s = -1
  · obtain ⟨h31, h32⟩ := h3
    have H : Hid (isgN v s = (([], []), 2)) := Lib.hid (if_neg (by simp [isgOk, h31, h32]))
    have h31B : (s != 1) = true := by simp [h31]
    have h32B : (s != -1) = true := by simp [h32]
    go_enter Try.func13, Try.ntmps13
    go_wp2_with fail
    refine (c_within _ _ _ _).mono ?_
    rintro e w1 ⟨rfl, rfl⟩
    rw [h]
    go_wp2_with fail
    (try simp only [Exit.inBlock, Exit.then])
    refine bodyPost_ret (v := .tuple #[.agg #[.slice none 0 0, .slice none 0 0], .int .i64 2]) (by rw [results_cell_tmp rfl]; go_simp) rfl ?_
    exact retD_nil H.out (below_alloc w _)
  have h3' : s = 1 ∨ s = -1 := by omega
  have H : Hid (isgN v s = (([[1, isgD s, 1], [isgD s, 0, isgE s], [1, isgE s, 1]], [1, isgV v, 55440]), 0)) := Lib.hid (if_pos (by simp [isgOk, h, h2]; exact h3'))
  have HV : Hid (isgV v = ipw (iroot 16) v) := Lib.hid (by unfold isgV; rfl)
  have HW : Hid (isgW = iroot 8) := Lib.hid (by unfold isgW; rfl)
  have HWB := Lib.hid isgW_bd
  obtain ⟨hi1, hi2⟩ := iinv_bd isgW
  obtain ⟨hw1, hw2⟩ := isgW_bd
  have HR := Lib.hid (iroot_bd 16)
  clear h2
  have hsb : -200000 ≤ s * (isgW + iinv isgW) ∧ s * (isgW + iinv isgW) ≤ 200000 := by rcases h3' with rfl | rfl <;> omega
  obtain ⟨hsb1, hsb2⟩ := hsb
  obtain ⟨hd1, hd2⟩ : 0 ≤ isgD s ∧ isgD s < 55441 := mod_bd _
  have HD : Hid (s * (isgW + iinv isgW) % 55441 = isgD s) := Lib.hid rfl
  have HE : Hid (-isgD s % 55441 = isgE s) := Lib.hid rfl
  have HDa : Hid ((isgW + iinv isgW) % 55441 = isgD 1) := Lib.hid (by unfold isgD; rw [Int.one_mul])
  have HDb : Hid (-(isgW + iinv isgW) % 55441 = isgD (-1)) := Lib.hid (by unfold isgD; rw [Int.neg_one_mul])
  rcases h3' with hs | hs
  all_goals
    have HS := Lib.hid hs
    subst hs
    go_enter Try.func13, Try.ntmps13
    go_wp2_with fail
    refine (c_within _ _ _ _).mono ?_
    rintro e w1 ⟨rfl, rfl⟩
    rw [h]
    go_wp2_with fail
    refine (c_root 8 _ (by omega) (by omega)).mono ?_
    rintro e w2 ⟨rfl, rfl⟩
    rw [← HW.out]
    go_wp2_with fail
    refine (c_divide 1 _ _ (by omega) (by omega) hw1 hw2).mono ?_
    rintro e w2 ⟨rfl, rfl⟩
    rw [show 1 * iinv isgW % 55441 = iinv isgW by rw [Int.one_mul]; exact Int.emod_eq_of_lt hi1 hi2]
    go_wp2_with fail
    refine (c_mod _ _).mono ?_
    rintro e w2 ⟨rfl, rfl⟩
    first | rw [HDa.out] | rw [HDb.out]
    go_wp2_with fail
    refine (c_mod _ _).mono ?_
    rintro e w2 ⟨rfl, rfl⟩
    rw [HE.out]
    go_wp2_with fail
    refine (c_mod _ _).mono ?_
    rintro e w2 ⟨rfl, rfl⟩
    rw [HE.out]
    go_wp2_with fail
    refine (c_root 16 _ (by omega) (by omega)).mono ?_
    rintro e w2 ⟨rfl, rfl⟩
    go_wp2_with fail
    refine (c_power _ v _ HR.out.1 HR.out.2 (by omega) (by omega)).mono ?_
    rintro e w2 ⟨rfl, rfl⟩
    rw [← HV.out]
    go_wp2_with fail
    refine (c_mod _ _).mono ?_
    rintro e w2 ⟨rfl, rfl⟩
    go_wp2_with fail
    (try simp only [Exit.inBlock, Exit.then])
    refine bodyPost_ret (v := .tuple #[.agg #[.slice (some ⟨w.heap.size + 1 + 1 + 1 + 1, 0, none⟩) 3 3, .slice (some ⟨w.heap.size + 1 + 1 + 1 + 1 + 1, 0, none⟩) 3 3], .int .i64 0]) (by rw [results_cell_tmp rfl]; go_simp) rfl ?_
    exact retD_isg (w := w.alloc _) (by simp) (by omega) (Nat.le_refl _) (by simp) (fun k _ _ => rfl) ((((below_alloc w _).alloc (by simp) _).alloc (by simp; omega) _).alloc (by simp; omega) _ |>.alloc (by simp; omega) _) H.out
theorem c_SIsingData (v s : Int) (w : World) : Calls Try.prog 12 #[.int .i64 v, .int .i64 s] w (RetD (isgN v s) w) := by
  cases h : inR 1 15 v
  · have H : Hid (isgN v s = (([], []), 2)) := Lib.hid (if_neg (by simp [isgOk, h]))
    go_enter Try.func12, Try.ntmps12
    go_wp2_with fail
    refine (c_l01In _ _ _ _).mono ?_
    rintro e w1 ⟨rfl, rfl⟩
    rw [h]
    go_wp2_with fail
    (try simp only [Exit.inBlock, Exit.then])
    refine bodyPost_ret (v := .tuple #[.agg #[.slice none 0 0, .slice none 0 0], .int .i64 2]) (by rw [results_cell_tmp rfl]; go_simp) rfl ?_
    exact retD_nil H.out (below_alloc w _)
  obtain ⟨hk1, hk2⟩ := inR_true h
  by_cases h2 : v % 2 = 0
  · have H : Hid (isgN v s = (([], []), 2)) := Lib.hid (if_neg (by simp [isgOk, h2]))
    have h2B : (v % 2 == 0) = true := by simp [h2]
    go_enter Try.func12, Try.ntmps12
    go_wp2_with fail
    refine (c_l01In _ _ _ _).mono ?_
    rintro e w1 ⟨rfl, rfl⟩
    rw [h]
    go_wp2_with fail
    (try simp only [Exit.inBlock, Exit.then])
    refine bodyPost_ret (v := .tuple #[.agg #[.slice none 0 0, .slice none 0 0], .int .i64 2]) (by rw [results_cell_tmp rfl]; go_simp) rfl ?_
    exact retD_nil H.out (below_alloc w _)
  have h2B : (v % 2 == 0) = false := by simp [h2]
  by_cases h3 : ¬ s = 1 ∧ ¬ s = -1
  · obtain ⟨h31, h32⟩ := h3
    have H : Hid (isgN v s = (([], []), 2)) := Lib.hid (if_neg (by simp [isgOk, h31, h32]))
    have h31B : (s != 1) = true := by simp [h31]
    have h32B : (s != -1) = true := by simp [h32]
    go_enter Try.func12, Try.ntmps12
    go_wp2_with fail
    refine (c_l01In _ _ _ _).mono ?_
    rintro e w1 ⟨rfl, rfl⟩
    rw [h]
    go_wp2_with fail
    (try simp only [Exit.inBlock, Exit.then])
    refine bodyPost_ret (v := .tuple #[.agg #[.slice none 0 0, .slice none 0 0], .int .i64 2]) (by rw [results_cell_tmp rfl]; go_simp) rfl ?_
    exact retD_nil H.out (below_alloc w _)
  have h3' : s = 1 ∨ s = -1 := by omega
  have H : Hid (isgN v s = (([[1, isgD s, 1], [isgD s, 0, isgE s], [1, isgE s, 1]], [1, isgV v, 55440]), 0)) := Lib.hid (if_pos (by simp [isgOk, h, h2]; exact h3'))
  have HV : Hid (isgV v = ipw (iroot 16) v) := Lib.hid (by unfold isgV; rfl)
  have HW : Hid (isgW = iroot 8) := Lib.hid (by unfold isgW; rfl)
  have HWB := Lib.hid isgW_bd
  obtain ⟨hi1, hi2⟩ := iinv_bd isgW
  obtain ⟨hw1, hw2⟩ := isgW_bd
  have HR := Lib.hid (iroot_bd 16)
  clear h2
  have hsb : -200000 ≤ s * (isgW + iinv isgW) ∧ s * (isgW + iinv isgW) ≤ 200000 := by rcases h3' with rfl | rfl <;> omega
  obtain ⟨hsb1, hsb2⟩ := hsb
  obtain ⟨hd1, hd2⟩ : 0 ≤ isgD s ∧ isgD s < 55441 := mod_bd _
  have HD : Hid (s * (isgW + iinv isgW) % 55441 = isgD s) := Lib.hid rfl
  have HE : Hid (-isgD s % 55441 = isgE s) := Lib.hid rfl
  have HDa : Hid ((isgW + iinv isgW) % 55441 = isgD 1) := Lib.hid (by unfold isgD; rw [Int.one_mul])
  have HDb : Hid (-(isgW + iinv isgW) % 55441 = isgD (-1)) := Lib.hid (by unfold isgD; rw [Int.neg_one_mul])
  rcases h3' with hs | hs
  all_goals
    have HS := Lib.hid hs
    subst hs
    go_enter Try.func12, Try.ntmps12
    go_wp2_with fail
    refine (c_l01In _ _ _ _).mono ?_
    rintro e w1 ⟨rfl, rfl⟩
    rw [h]
    go_wp2_with fail
    refine (c_l01Unity 8 _ (by omega) (by omega)).mono ?_
    rintro e w2 ⟨rfl, hb2⟩
    rw [← HW.out]
    have hlt : w.heap.size < w2.heap.size := by have := hb2.size; simp at this; omega
    have hlt1 : w.heap.size < w2.heap.size + 1 := by omega
    have hlt2 : w.heap.size < w2.heap.size + 1 + 1 := by omega
    have hlt3 : w.heap.size < w2.heap.size + 1 + 1 + 1 := by omega
    have HB2 := Lib.hid (below_after hb2)
    have hc0 : w2.cell? ⟨w.heap.size, 0, none⟩ = some (.slice none 0 0) := bcell hb2 (by simp)
    have hc1 : w2.cell? ⟨w.heap.size, 1, none⟩ = some (.slice none 0 0) := bcell hb2 (by simp)
    have hf0 : w2.frozen? ⟨w.heap.size, 0, none⟩ = false := bfrozen hb2 (v := .slice none 0 0) (by simp) (by simp)
    have hf1 : w2.frozen? ⟨w.heap.size, 1, none⟩ = false := bfrozen hb2 (v := .slice none 0 0) (by simp) (by simp)
    clear hb2
    go_wp2_with fail
    refine (c_l01Inv _ _ hw1 hw2).mono ?_
    rintro e w3 ⟨rfl, rfl⟩
    go_wp2_with fail
    refine (c_l01Mod _ _).mono ?_
    rintro e w3 ⟨rfl, rfl⟩
    first | rw [HDa.out] | rw [HDb.out]
    go_wp2_with fail
    refine (c_l01Mod _ _).mono ?_
    rintro e w3 ⟨rfl, rfl⟩
    rw [HE.out]
    go_wp2_with fail
    refine (c_l01Unity 16 _ (by omega) (by omega)).mono ?_
    rintro e w5 ⟨rfl, hb5⟩
    have HL : ∀ D E, Below w2.heap.size w2 (laid3 w2 w2.heap.size 1 D 1 D 0 E 1 E 1) := fun D E => (own_laid3 rfl (Nat.le_refl _) 1 D 1 D 0 E 1 E 1).2.2
    have hz5 : w2.heap.size + 1 + 1 + 1 + 1 ≤ w5.heap.size := by have := hb5.size; simp at this; omega
    have hl5 : w.heap.size < w5.heap.size := by omega
    have HB5 := Lib.hid hb5
    have HBX : Hid (Below w.heap.size w w5) := Lib.hid ((HB2.out.trans ((HL _ _).mono (Nat.le_of_lt hlt))).trans (hb5.mono (by simp; omega)))
    have hc0 : w5.cell? ⟨w.heap.size, 0, none⟩ = some (.slice none 0 0) := bcell hb5 (bcell (HL _ _) hc0)
    have hc1 : w5.cell? ⟨w.heap.size, 1, none⟩ = some (.slice none 0 0) := bcell hb5 (bcell (HL _ _) hc1)
    have hf0 : w5.frozen? ⟨w.heap.size, 0, none⟩ = false := (hb5.frozen (p := ⟨w.heap.size, 0, none⟩) (by simp; omega)).trans (((HL _ _).frozen (p := ⟨w.heap.size, 0, none⟩) hlt).trans hf0)
    have hf1 : w5.frozen? ⟨w.heap.size, 1, none⟩ = false := (hb5.frozen (p := ⟨w.heap.size, 1, none⟩) (by simp; omega)).trans (((HL _ _).frozen (p := ⟨w.heap.size, 1, none⟩) hlt).trans hf1)
    clear hb5 HL
    go_wp2_with fail
    refine (c_l01Pow _ v _ HR.out.1 HR.out.2 (by omega) (by omega)).mono ?_
    rintro e w6 ⟨rfl, rfl⟩
    rw [← HV.out]
    go_wp2_with fail
    (try simp only [Exit.inBlock, Exit.then])
    refine bodyPost_ret (v := .tuple #[.agg #[.slice (some ⟨w2.heap.size + 1 + 1 + 1, 0, none⟩) 3 3, .slice (some ⟨w5.heap.size, 0, none⟩) 3 3], .int .i64 0]) (by rw [results_cell_tmp rfl]; go_simp) rfl ?_
    exact retD_isg (w := w2) rfl (by omega) hz5 (by simp) (fun k h h' => (Below.heap_setCell _ _ _ _ (by intro e; simp at e; omega)).trans ((Below.heap_setCell _ _ _ _ (by intro e; simp at e; omega)).trans (HB5.out.block k (by simp; omega)))) ((HBX.out.setCell (Nat.le_refl _) _).setCell (Nat.le_refl _) _) H.out
set_option maxHeartbeats 2000000 in
theorem w_FnExactIsingData (xa xb : Int) (w : World) :
    Calls Try.prog 4 #[.int .i64 xa, .int .i64 xb] w fun e w' => e = .returned (.bool true) ∧ Below w.heap.size w w' := by
  obtain ⟨SM, SL⟩ := isg_small xa xb
  have ST := SM.total
  have SN := totK_nonneg (isgN xa xb).1.1 (isgN xa xb).1.1.length
  have SL' : (isgN xa xb).1.2.length ≤ 17592186043904 := by omega
  go_enter Try.func4, Try.ntmps4
  go_wp2_with fail
  refine (c_SIsingData xa xb _).mono ?_
  rintro e w1 ⟨s1, t1, m1, rfl, ha1, hm1, ho1, hp1, hb1⟩
  obtain ⟨sp1, sn1, sc1, rfl⟩ := ho1.slice
  obtain ⟨tp1, tn1, tc1, rfl⟩ := hp1.slice
  have hz1 := hb1.size
  have HB1 := Lib.hid (hb1.alloc hz1 (.cells #[.slice sp1 sn1 sc1, .slice tp1 tn1 tc1] 25))
  have O1 := Lib.hid (ho1.alloc hm1 (.cells #[.slice sp1 sn1 sc1, .slice tp1 tn1 tc1] 25))
  have P1 := Lib.hid (hp1.alloc (.cells #[.slice sp1 sn1 sc1, .slice tp1 tn1 tc1] 25))
  clear hb1 ho1 hp1
  go_wp2_with fail
  refine (c_IsingData xa xb _).mono ?_
  rintro e w2 ⟨s2, t2, m2, rfl, ha2, hm2, ho2, hp2, hb2⟩
  obtain ⟨sp2, sn2, sc2, rfl⟩ := ho2.slice
  obtain ⟨tp2, tn2, tc2, rfl⟩ := hp2.slice
  simp only [World.size_alloc] at ha2 ho2
  have hz2 : w1.heap.size + 1 ≤ w2.heap.size := by have := hb2.size; simpa using this
  have hlt2 : w1.heap.size < w2.heap.size := by omega
  have hc1 : w2.cell? ⟨w1.heap.size, 0, none⟩ = some (.slice sp1 sn1 sc1) := bcell hb2 (by simp)
  have hc2 : w2.cell? ⟨w1.heap.size, 1, none⟩ = some (.slice tp1 tn1 tc1) := bcell hb2 (by simp)
  have HB2 := Lib.hid ((HB1.out.trans (hb2.mono HB1.out.size)).alloc (by omega) (.cells #[.slice sp2 sn2 sc2, .slice tp2 tn2 tc2] 25))
  have O1 := Lib.hid ((O1.out.keep hb2 (by simp; omega)).alloc (by omega) (.cells #[.slice sp2 sn2 sc2, .slice tp2 tn2 tc2] 25))
  have P1 := Lib.hid ((P1.out.keep hb2 (by simp)).alloc (.cells #[.slice sp2 sn2 sc2, .slice tp2 tn2 tc2] 25))
  have O2 := Lib.hid (ho2.alloc hm2 (.cells #[.slice sp2 sn2 sc2, .slice tp2 tn2 tc2] 25))
  have P2 := Lib.hid (hp2.alloc (.cells #[.slice sp2 sn2 sc2, .slice tp2 tn2 tc2] 25))
  clear hb2 ho2 hp2
  go_wp2_with fail
  refine (c_eqData _ _ _ _ _ _ _ (O2.out.rows SM.len SM.row) (P2.out.ints SL') (O1.out.rows SM.len SM.row) (P1.out.ints SL')).mono ?_
  rintro e w3 ⟨rfl, hb3⟩
  have hz3 : w2.heap.size + 1 ≤ w3.heap.size := by have := hb3.size; simpa using this
  have hc1 : w3.cell? ⟨w1.heap.size, 0, none⟩ = some (.slice sp1 sn1 sc1) := bcell hb3 (bcell (below_alloc w2 _) hc1)
  have hc2 : w3.cell? ⟨w1.heap.size, 1, none⟩ = some (.slice tp1 tn1 tc1) := bcell hb3 (bcell (below_alloc w2 _) hc2)
  have hd1 : w3.cell? ⟨w2.heap.size, 0, none⟩ = some (.slice sp2 sn2 sc2) := bcell hb3 (by simp)
  have hd2 : w3.cell? ⟨w2.heap.size, 1, none⟩ = some (.slice tp2 tn2 tc2) := bcell hb3 (by simp)
  have HB3 := Lib.hid (HB2.out.trans (hb3.mono HB2.out.size))
  have O1 := Lib.hid (O1.out.keep hb3 (by simp; omega))
  have P1 := Lib.hid (P1.out.keep hb3 (by simp; omega))
  have O2 := Lib.hid (O2.out.keep hb3 (by simp; omega))
  have P2 := Lib.hid (P2.out.keep hb3 (by simp))
  clear hb3 HB1 HB2
  go_wp2_with fail
  refine (c_markData _ _ _ _ 1 _ _ _ _ O2.out P2.out ha2 hm2 (by omega) SM SL (by omega) (by omega)).mono ?_
  rintro e w4 ⟨rfl, ho2, hp2, hb4, hx4⟩
  have hz4 := hb4.size
  have hc1 : w4.cell? ⟨w1.heap.size, 0, none⟩ = some (.slice sp1 sn1 sc1) := cell_sameD (hb4.block _ (by omega)) hc1
  have hc2 : w4.cell? ⟨w1.heap.size, 1, none⟩ = some (.slice tp1 tn1 tc1) := cell_sameD (hb4.block _ (by omega)) hc2
  have hd1 : w4.cell? ⟨w2.heap.size, 0, none⟩ = some (.slice sp2 sn2 sc2) := cell_sameD (hx4 _ (Nat.le_refl _) (by omega)) hd1
  have hd2 : w4.cell? ⟨w2.heap.size, 1, none⟩ = some (.slice tp2 tn2 tc2) := cell_sameD (hx4 _ (Nat.le_refl _) (by omega)) hd2
  have HB4 := Lib.hid (HB3.out.trans (hb4.mono (by omega)))
  have O1 := Lib.hid (O1.out.keep hb4 (by omega))
  have P1 := Lib.hid (P1.out.keep hb4 (by omega))
  have O2 := Lib.hid ho2
  have P2 := Lib.hid hp2
  clear hb4 HB3 ho2 hp2 hx4
  go_wp2_with fail
  refine (c_heldData _ _ _ (isgN xa xb).1.2.length 1 _ (O2.out.rows (marks_len SM.len) (marks_row SM.row)) (P2.out.ints (by rw [upFrom_length]; exact SL')) SM SL (by omega) (by omega)).mono ?_
  rintro e w5 ⟨rfl, hb5⟩
  have hz5 := hb5.size
  have hc1 : w5.cell? ⟨w1.heap.size, 0, none⟩ = some (.slice sp1 sn1 sc1) := bcell hb5 hc1
  have hc2 : w5.cell? ⟨w1.heap.size, 1, none⟩ = some (.slice tp1 tn1 tc1) := bcell hb5 hc2
  have hd1 : w5.cell? ⟨w2.heap.size, 0, none⟩ = some (.slice sp2 sn2 sc2) := bcell hb5 hd1
  have hd2 : w5.cell? ⟨w2.heap.size, 1, none⟩ = some (.slice tp2 tn2 tc2) := bcell hb5 hd2
  have HB5 := Lib.hid (HB4.out.trans (hb5.mono HB4.out.size))
  have O1 := Lib.hid (O1.out.keep hb5 (by omega))
  have P1 := Lib.hid (P1.out.keep hb5 (by omega))
  have O2 := Lib.hid (O2.out.keep hb5 (by omega))
  have P2 := Lib.hid (P2.out.keep hb5 (by omega))
  clear hb5 HB4
  go_wp2_with fail
  refine (c_IsingData xa xb _).mono ?_
  rintro e w6 ⟨s3, t3, m3, rfl, ha3, hm3, ho3, hp3, hb6⟩
  obtain ⟨sp3, sn3, sc3, rfl⟩ := ho3.slice
  obtain ⟨tp3, tn3, tc3, rfl⟩ := hp3.slice
  have hz6 := hb6.size
  have hc1 : w6.cell? ⟨w1.heap.size, 0, none⟩ = some (.slice sp1 sn1 sc1) := bcell hb6 hc1
  have hc2 : w6.cell? ⟨w1.heap.size, 1, none⟩ = some (.slice tp1 tn1 tc1) := bcell hb6 hc2
  have hd1 : w6.cell? ⟨w2.heap.size, 0, none⟩ = some (.slice sp2 sn2 sc2) := bcell hb6 hd1
  have hd2 : w6.cell? ⟨w2.heap.size, 1, none⟩ = some (.slice tp2 tn2 tc2) := bcell hb6 hd2
  have HB6 := Lib.hid ((HB5.out.trans (hb6.mono HB5.out.size)).alloc (by omega) (.cells #[.slice sp3 sn3 sc3, .slice tp3 tn3 tc3] 25))
  have O1 := Lib.hid ((O1.out.keep hb6 (by omega)).alloc (by omega) (.cells #[.slice sp3 sn3 sc3, .slice tp3 tn3 tc3] 25))
  have P1 := Lib.hid ((P1.out.keep hb6 (by omega)).alloc (.cells #[.slice sp3 sn3 sc3, .slice tp3 tn3 tc3] 25))
  have O2 := Lib.hid ((O2.out.keep hb6 (by omega)).alloc (by omega) (.cells #[.slice sp3 sn3 sc3, .slice tp3 tn3 tc3] 25))
  have P2 := Lib.hid ((P2.out.keep hb6 (by omega)).alloc (.cells #[.slice sp3 sn3 sc3, .slice tp3 tn3 tc3] 25))
  have O3 := Lib.hid (ho3.alloc hm3 (.cells #[.slice sp3 sn3 sc3, .slice tp3 tn3 tc3] 25))
  have P3 := Lib.hid (hp3.alloc (.cells #[.slice sp3 sn3 sc3, .slice tp3 tn3 tc3] 25))
  have hl1 : w1.heap.size < w6.heap.size := by omega
  have hl2 : w2.heap.size < w6.heap.size := by omega
  clear hb6 HB5 ho3 hp3
  go_wp2_with fail
  refine (c_eqData _ _ _ _ _ _ _ (O3.out.rows SM.len SM.row) (P3.out.ints SL') (O1.out.rows SM.len SM.row) (P1.out.ints SL')).mono ?_
  rintro e w7 ⟨rfl, hb7⟩
  have hd1 : w7.cell? ⟨w2.heap.size, 0, none⟩ = some (.slice sp2 sn2 sc2) := bcell hb7 (bcell (below_alloc w6 _) hd1)
  have hd2 : w7.cell? ⟨w2.heap.size, 1, none⟩ = some (.slice tp2 tn2 tc2) := bcell hb7 (bcell (below_alloc w6 _) hd2)
  have HB7 := Lib.hid (HB6.out.trans (hb7.mono HB6.out.size))
  have O2 := Lib.hid (O2.out.keep hb7 (by simp; omega))
  have P2 := Lib.hid (P2.out.keep hb7 (by simp; omega))
  clear hb7 HB6 O1 P1 O3 P3
  go_wp2_with fail
  refine (c_heldData _ _ _ (isgN xa xb).1.2.length 1 _ (O2.out.rows (marks_len SM.len) (marks_row SM.row)) (P2.out.ints (by rw [upFrom_length]; exact SL')) SM SL (by omega) (by omega)).mono ?_
  rintro e w8 ⟨rfl, hb8⟩
  have HB8 := Lib.hid (HB7.out.trans (hb8.mono HB7.out.size))
  clear hb8 HB7
  go_wp2_with fail
  go_ret
  exact ⟨rfl, HB8.out⟩
end Go.Proofs.Ytelbfocdgnhnfaa
