/- Walks: unit matrices and powers of matrices, program and reference. -/
import Derived.Test.YtmbcncmmgfnlmaaGro
import Derived.Test.YtmbcncmmgfnlmaaTim
import Derived.Test.YtmbcncmmgfnlmaaAlg
namespace Go.Proofs.Ytmbcncmmgfnlmaa
open Go.RowKit
open Fus (F Mx toI ofI toI_bd toI_of ofI_toI ofI_mul ofI_add sm mm one)

theorem ofI_sum (n : Nat) (f g : Nat → F) : ofI (sumK n fun j => toI (f j) * toI (g j)) = sm n fun j => f j * g j := by
  induction n with
  | zero => simp only [sumK, sm]; exact Fus.ofI_zero
  | succ n ih => simp only [sumK]; rw [ofI_add, ih, ofI_mul, ofI_toI, ofI_toI]; rfl
theorem ent_F {r c i j : Nat} {f : Mx} (hi : i < r) (hj : j < c) : ent (tabF r c f) i j = toI (f i j) := ent_at (tabF_at c f hi) (zl_at _ hj)
theorem width_F {r c : Nat} {f : Mx} (h : 0 < r) : width (tabF r c f) = c := by rw [width_eq (tabF_at c f h), zl_length]
theorem good_tabF (r c : Nat) (f : Mx) : Good (tabF r c f) c := fun i x hx => ⟨tabF_mem (List.mem_of_getElem? hx), by
  obtain ⟨k, _, rfl⟩ := vec_mem (List.mem_of_getElem? hx); exact zl_num _ _⟩
theorem mulZ_F {r n c : Nat} (hn : 0 < n) (f g : Mx) : mulZ (tabF r n f) (tabF n c g) = tabF r c (mm n f g) := by
  unfold mulZ
  rw [tabF_length, tabF_length, width_F hn]
  show tab r c _ = tab r c fun i j => toI (mm n f g i j)
  refine tab_congr fun i k hi hk => ?_
  rw [sumK_congr (g := fun j => toI (f i j) * toI (g j k)) (fun j hj => by rw [ent_F hi hj, ent_F hj hk])]
  exact (toI_of (ofI_sum n (fun j => f i j) (fun j => g j k))).symm
theorem c_multiplyF (u v : Value) (r n c : Nat) (f g : Mx) (w : World) (hu : IntRows w u (tabF r n f)) (hv : IntRows w v (tabF n c g)) (hn : 0 < n) (hc : 0 < c) (h1 : r ≤ 1000) (h2 : n ≤ 1000) (h3 : c ≤ 1000) :
    Calls Try.prog 50 #[u, v] w (RetM (tabF r c (mm n f g)) w) := by
  have h := c_multiply u v _ _ w hu hv (by rw [tabF_length]; exact good_tabF r n f) (by rw [width_F hn]; exact good_tabF n c g) (by rw [tabF_length]; exact hn) (by rw [width_F hn]; exact hc) (by rw [tabF_length]; omega) (by rw [tabF_length]; omega) (by rw [width_F hn]; omega)
  rw [mulZ_F hn] at h
  exact h
theorem c_l02TimesF (u v : Value) (r n c : Nat) (f g : Mx) (w : World) (hu : IntRows w u (tabF r n f)) (hv : IntRows w v (tabF n c g)) (hn : 0 < n) (h1 : r ≤ 1000) (h2 : n ≤ 1000) (h3 : c ≤ 1000) :
    Calls Try.prog 52 #[u, v] w (RetM (tabF r c (mm n f g)) w) := by
  have h := c_l02Times u v _ _ w hu hv (by rw [tabF_length]; exact good_tabF r n f) (by rw [width_F hn]; exact good_tabF n c g) (by rw [tabF_length]; exact hn) (by rw [tabF_length]; omega) (by rw [tabF_length]; omega) (by rw [width_F hn]; omega)
  rw [mulZ_F hn] at h
  exact h
theorem OwnM.rowsF {w : World} {B : Nat} {v : Value} {r c : Nat} {f : Mx} (h : OwnM w B v (tabF r c f)) (hr : r ≤ 1000000) (hc : c ≤ 1000000) : IntRows w v (tabF r c f) :=
  h.rows (by rw [tabF_length]; omega) (fun xs hx => by rw [tabF_mem hx]; omega)
/-- ones on the diagonal of the first rows -/
def oneTo (k : Nat) : Mx := fun i j => if i < k ∧ i = j then 1 else 0
theorem oneTo_zero (n : Nat) : (tab n n fun _ _ => (0 : Int)) = tabF n n (oneTo 0) := by
  rw [tabF_tab]; exact tab_congr fun i j _ _ => by simp only [oneTo]; rw [if_neg (by omega), Fus.toI_zero]
theorem oneTo_next (n k : Nat) : (tabF n n fun a b => if a = k ∧ b = k then 1 else oneTo k a b) = tabF n n (oneTo (k + 1)) := tabF_congr fun a b _ _ => by
  simp only [oneTo]
  by_cases e : a = k ∧ b = k
  · rw [if_pos e, if_pos ⟨by omega, by omega⟩]
  · rw [if_neg e]
    by_cases e2 : a < k ∧ a = b
    · rw [if_pos e2, if_pos ⟨by omega, e2.2⟩]
    · rw [if_neg e2, if_neg (by omega)]
theorem oneTo_end (n : Nat) : tabF n n (oneTo n) = tabF n n one := tabF_congr fun a b ha _ => by
  simp only [oneTo, one]; by_cases e : a = b
  · rw [if_pos ⟨ha, e⟩, if_pos e]
  · rw [if_neg (fun h => e h.2), if_neg e]
theorem c_unitMatrix (n : Nat) (w : World) (hn : n ≤ 1000) :
    Calls Try.prog 110 #[.int .i64 n, .int .i64 1] w (RetM (tabF n n one) w) := by
  go_enter Try.func110, Try.ntmps110
  go_wp2_with fail
  refine (c_zeros n n _ (by omega) (by omega)).mono ?_
  rintro e w1 ⟨z, rfl, ho1, hb1⟩
  by_cases hn0 : n = 0
  · subst hn0
    have HO := Lib.hid ho1
    have HB := Lib.hid hb1
    clear ho1 hb1
    go_wp2_with fail
    go_loop [11] (fun i => i = .int .i64 0) (fun _ => 0)
    case atStart => exact rfl
    case round =>
      obtain rfl := hrel
      go_wp2_with fail
      go_ret
      exact ⟨_, rfl, HO.out, HB.out⟩
  · obtain ⟨g, cap, rfl, hg1, hg2⟩ := ho1.shape' (by rw [tab_length]; omega)
    rw [tab_length] at ho1
    rw [tab_length]
    rw [oneTo_zero] at ho1
    have HO := Lib.hid ho1
    have HB := Lib.hid hb1
    clear ho1 hb1
    go_wp2_with fail
    go_loopw [11] (fun i wr => ∃ k : Nat, k ≤ n ∧ i = .int .i64 k ∧ OwnM wr w.heap.size (.slice (some ⟨g, 0, none⟩) n cap) (tabF n n (oneTo k)) ∧ Below w.heap.size w wr) (fun i _ => n - (intOf i).toNat)
    case atStart => exact ⟨0, Nat.zero_le _, rfl, HO.out, HB.out⟩
    case round =>
      obtain ⟨k, hk, rfl, hown, hbel⟩ := hrel
      clear HO HB
      by_cases hlt : k < n
      · obtain ⟨gk, ck, e1, e2, e3, e4, e5, e6, _⟩ := hown.entryI (tabF_at n _ hlt) (zl_at _ hlt)
        rw [zl_length] at e1
        have HB := Lib.hid hbel
        have HU : Hid (OwnM (wr.setCell ⟨gk, k, none⟩ (.int .i64 1)) w.heap.size (.slice (some ⟨g, 0, none⟩) n cap) (tabF n n (oneTo (k + 1)))) := Lib.hid (by
          have := e6 (toI 1)
          rw [tabF_upd, oneTo_next, Fus.toI_one] at this
          exact this)
        clear hown hbel e6
        go_wp2_with fail
        go_roundw
        case rel => exact ⟨k + 1, by omega, by go_num, HU.out, below_set HB.out e4⟩
        case measure => simp [intOf]; omega
      · obtain rfl : n = k := by omega
        rw [oneTo_end] at hown
        have HO := Lib.hid hown
        have HB := Lib.hid hbel
        clear hown hbel
        go_wp2_with fail
        go_ret
        exact ⟨_, rfl, HO.out, HB.out⟩
theorem unit_row (n k : Nat) : (vec n fun _ => (0 : Int)).set k 1 = zl n (one k) := by
  unfold zl
  rw [vec_set]
  refine vec_congr fun j _ => ?_
  show (if j = k then (1 : Int) else 0) = toI (if k = j then 1 else 0)
  by_cases e : j = k
  · rw [if_pos e, if_pos e.symm, Fus.toI_one]
  · rw [if_neg e, if_neg (fun h => e h.symm), Fus.toI_zero]
set_option maxRecDepth 100000 in
theorem c_l02Unit (n : Nat) (w : World) (hn : n ≤ 1000) :
    Calls Try.prog 114 #[.int .i64 n] w (RetM (tabF n n one) w) := by
  have hmk := run_make_row' (P := Try.prog) 35 2 (.int .i64 0) 8 Try.underlying35 info_int rfl .i64 .i64 n (by omega) (by omega)
  go_enter Try.func114, Try.ntmps114
  go_wp2_with fail
  go_loopw [3, 4] (fun s i wr => ∃ (k : Nat), k ≤ n ∧ i = .int .i64 k ∧ OwnM wr w.heap.size s (tabF k n one) ∧ Below w.heap.size w wr) (fun _ i _ => n - (intOf i).toNat)
  case atStart => exact ⟨0, Nat.zero_le _, rfl, ownM_empty _ _ (Nat.le_refl _), below_alloc _ _⟩
  case round =>
    obtain ⟨k, hk, rfl, hown, hbel⟩ := hrel
    by_cases hlt : k < n
    · have HOW := Lib.hid hown
      have HB := Lib.hid hbel
      have hsz := hbel.size
      have hz0 := own_zeros wr n (by omega)
      have hold := Own.cell hz0 (i := k) (u := vi 0) (by rw [List.getElem?_map, vec_at _ hlt]; rfl)
      have hfr := Own.frozen hz0 k
      have hset := World.setCell_alloc_new (w := wr) (madeCells #[.int .i64 0] n) 2 k (.int .i64 1)
      have HO : Hid (OwnI (wr.alloc (.cells ((madeCells #[.int .i64 0] n).setIfInBounds k (.int .i64 1)) 2)) wr.heap.size (.slice (some ⟨wr.heap.size, 0, none⟩) n n) (zl n (one k))) := Lib.hid (by
        rw [← hset]
        have := Own.store hz0 k (vi 1)
        rw [← List.map_set, unit_row] at this
        exact this)
      have HA : Hid (Below wr.heap.size wr (wr.alloc (.cells ((madeCells #[.int .i64 0] n).setIfInBounds k (.int .i64 1)) 2))) := Lib.hid (below_alloc _ _)
      clear hset
      clear hown hbel hz0
      go_wp2_with (at_builtin; refine wp_pushM HOW.out HA.out HO.out rfl _ _ rfl rfl rfl (by first | with_reducible rfl | simp) (by omega) (by rw [tabF_length]; omega) ?_; intro v' w2 ho2 hb2)
      go_roundw
      case rel => exact ⟨k + 1, by omega, by go_num, by rw [tabF_snoc]; exact ho2, (HB.out.trans (HA.out.mono hsz)).trans hb2⟩
      case measure => simp [intOf]; omega
    · obtain rfl : n = k := by omega
      have HOW := Lib.hid hown
      have HB := Lib.hid hbel
      clear hown hbel
      go_wp2_with fail
      go_ret
      exact ⟨_, rfl, HOW.out, HB.out⟩
/-- the loop of a power -/
def ploop (n : Nat) (p a : Mx) (k : Nat) : Mx := if h : k = 0 then p else ploop n (if k % 2 = 1 then mm n p a else p) (mm n a a) (k / 2)
termination_by k
decreasing_by omega
theorem ploop_zero (n : Nat) (p a : Mx) : ploop n p a 0 = p := by rw [ploop]; simp
theorem ploop_odd {n : Nat} {p a : Mx} {k : Nat} (h : k % 2 = 1) : ploop n p a k = ploop n (mm n p a) (mm n a a) (k / 2) := by
  rw [ploop, dif_neg (by omega), if_pos h]
theorem ploop_even {n : Nat} {p a : Mx} {k : Nat} (h : k % 2 = 0) (h0 : 0 < k) : ploop n p a k = ploop n p (mm n a a) (k / 2) := by
  rw [ploop, dif_neg (by omega), if_neg (by omega)]
set_option maxHeartbeats 1000000 in
theorem c_powerMatrix (u : Value) (n : Nat) (f : Mx) (k : Nat) (w : World) (hu : IntRows w u (tabF n n f)) (hn : 0 < n) (hn2 : n ≤ 1000) (hk : k ≤ 1000000) :
    Calls Try.prog 73 #[u, .int .i64 k] w (RetM (tabF n n (ploop n one f k)) w) := by
  have HU := Lib.hid hu
  obtain ⟨a, cap, hueq, _, _⟩ := hu
  rw [tabF_length] at hueq
  subst hueq
  go_enter Try.func73, Try.ntmps73
  go_wp2_with fail
  refine (c_unitMatrix n _ hn2).mono ?_
  rintro e w1 ⟨v1, rfl, ho1, hb1⟩
  have HO := Lib.hid ho1
  have HB := Lib.hid hb1
  have HU1 := Lib.hid (HU.out.keep hb1)
  clear ho1 hb1
  go_wp2_with fail
  go_loopw [0, 1, 5] (fun a k' p wr => ∃ (q : Nat) (A P : Mx), q ≤ k ∧ k' = .int .i64 q ∧ Hid (ploop n P A q = ploop n one f k) ∧ IntRows wr a (tabF n n A) ∧ OwnM wr w.heap.size p (tabF n n P) ∧ Below w.heap.size w wr) (fun _ k _ _ => (intOf k).toNat)
  case atStart => exact ⟨k, f, one, Nat.le_refl _, rfl, rfl, HU1.out, HO.out, HB.out⟩
  case round =>
    obtain ⟨q, A, P, hq, rfl, HL, ha, hp, hbel⟩ := hrel
    clear HO HB HU1
    have HA := Lib.hid ha
    have HP := Lib.hid hp
    have HB := Lib.hid hbel
    have hsz := hbel.size
    clear ha hp hbel
    by_cases hq0 : q = 0
    · subst hq0
      have HE : Hid (P = ploop n one f k) := Lib.hid (by rw [← HL.out, ploop_zero])
      go_wp2_with fail
      go_ret
      exact ⟨_, rfl, by rw [← HE.out]; exact HP.out, HB.out⟩
    · have hqI : (0 : Int) < (q : Int) := by omega
      rcases Nat.mod_two_eq_zero_or_one q with h2 | h2
      · have h2B : ((q : Int) % 2 == 1) = false := by rw [beq_eq_false_iff_ne]; omega
        have HN : Hid (ploop n P (mm n A A) (q / 2) = ploop n one f k) := Lib.hid (by rw [← HL.out, ploop_even h2 (by omega)])
        clear h2
        go_wp2_with fail
        refine (c_multiplyF _ _ n n n A A _ HA.out HA.out hn hn hn2 hn2 hn2).mono ?_
        rintro e w3 ⟨v3, rfl, ho3, hb3⟩
        have HO3 := Lib.hid (ho3.rowsF (by omega) (by omega))
        have HP3 := Lib.hid (HP.out.keep hb3)
        have HB3 := Lib.hid (HB.out.trans (hb3.mono hsz))
        clear ho3 hb3
        go_wp2_with fail
        go_roundw
        case rel => exact ⟨q / 2, _, _, by omega, by go_num, HN.out, HO3.out, HP3.out, HB3.out⟩
        case measure => simp [intOf]; omega
      · have h2B : ((q : Int) % 2 == 1) = true := by rw [beq_iff_eq]; omega
        have HN : Hid (ploop n (mm n P A) (mm n A A) (q / 2) = ploop n one f k) := Lib.hid (by rw [← HL.out, ploop_odd h2])
        clear h2
        go_wp2_with fail
        refine (c_multiplyF _ _ n n n P A _ (HP.out.rowsF (by omega) (by omega)) HA.out hn hn hn2 hn2 hn2).mono ?_
        rintro e w2 ⟨v2, rfl, ho2, hb2⟩
        have HP2 := Lib.hid ho2
        have HA2 := Lib.hid (HA.out.keep hb2)
        have HB2 := Lib.hid (HB.out.trans (hb2.mono hsz))
        have hsz2 := hb2.size
        clear ho2 hb2
        go_wp2_with fail
        refine (c_multiplyF _ _ n n n A A _ HA2.out HA2.out hn hn hn2 hn2 hn2).mono ?_
        rintro e w3 ⟨v3, rfl, ho3, hb3⟩
        have HO3 := Lib.hid (ho3.rowsF (by omega) (by omega))
        have HP3 := Lib.hid ((HP2.out.keep hb3).mono hsz)
        have HB3 := Lib.hid (HB2.out.trans (hb3.mono (by omega)))
        clear ho3 hb3
        go_wp2_with fail
        go_roundw
        case rel => exact ⟨q / 2, _, _, by omega, by go_num, HN.out, HO3.out, HP3.out, HB3.out⟩
        case measure => simp [intOf]; omega
set_option maxHeartbeats 1000000 in
theorem c_l02Power (u : Value) (n : Nat) (f : Mx) (k : Nat) (w : World) (hu : IntRows w u (tabF n n f)) (hn : 0 < n) (hn2 : n ≤ 1000) (hk : k ≤ 1000000) :
    Calls Try.prog 82 #[u, .int .i64 k] w (RetM (tabF n n (ploop n one f k)) w) := by
  have HU := Lib.hid hu
  obtain ⟨a, cap, hueq, _, _⟩ := hu
  rw [tabF_length] at hueq
  subst hueq
  go_enter Try.func82, Try.ntmps82
  go_wp2_with fail
  refine (c_l02Unit n _ hn2).mono ?_
  rintro e w1 ⟨v1, rfl, ho1, hb1⟩
  have HO1 := Lib.hid ho1
  have HB1 := Lib.hid hb1
  have HU1 := Lib.hid (HU.out.keep hb1)
  have hsz1 := hb1.size
  clear ho1 hb1
  go_wp2_with fail
  refine (c_l01Own2 _ _ _ HU1.out (fun xs hx => by rw [tabF_mem hx]; omega) (by rw [tabF_length]; omega)).mono ?_
  rintro e w2 ⟨v2, rfl, ho2, hb2⟩
  have HA := Lib.hid (ho2.rowsF (by omega) (by omega))
  have HO := Lib.hid (HO1.out.keep hb2)
  have HB := Lib.hid (HB1.out.trans (hb2.mono hsz1))
  clear ho2 hb2
  go_wp2_with fail
  go_loopw [1, 5, 6] (fun k' p a wr => ∃ (q : Nat) (A P : Mx), q ≤ k ∧ k' = .int .i64 q ∧ Hid (ploop n P A q = ploop n one f k) ∧ IntRows wr a (tabF n n A) ∧ OwnM wr w.heap.size p (tabF n n P) ∧ Below w.heap.size w wr) (fun k _ _ _ => (intOf k).toNat)
  case atStart => exact ⟨k, f, one, Nat.le_refl _, rfl, rfl, HA.out, HO.out, HB.out⟩
  case round =>
    obtain ⟨q, A, P, hq, rfl, HL, ha, hp, hbel⟩ := hrel
    clear HO HB HU1 HA
    have HA := Lib.hid ha
    have HP := Lib.hid hp
    have HB := Lib.hid hbel
    have hsz := hbel.size
    clear ha hp hbel
    by_cases hq0 : q = 0
    · subst hq0
      have HE : Hid (P = ploop n one f k) := Lib.hid (by rw [← HL.out, ploop_zero])
      go_wp2_with fail
      go_ret
      exact ⟨_, rfl, by rw [← HE.out]; exact HP.out, HB.out⟩
    · have hqI : (0 : Int) < (q : Int) := by omega
      rcases Nat.mod_two_eq_zero_or_one q with h2 | h2
      · have h2B : ((q : Int) % 2 == 1) = false := by rw [beq_eq_false_iff_ne]; omega
        have HN : Hid (ploop n P (mm n A A) (q / 2) = ploop n one f k) := Lib.hid (by rw [← HL.out, ploop_even h2 (by omega)])
        clear h2
        go_wp2_with fail
        refine (c_l02TimesF _ _ n n n A A _ HA.out HA.out hn hn2 hn2 hn2).mono ?_
        rintro e w3 ⟨v3, rfl, ho3, hb3⟩
        have HO3 := Lib.hid (ho3.rowsF (by omega) (by omega))
        have HP3 := Lib.hid (HP.out.keep hb3)
        have HB3 := Lib.hid (HB.out.trans (hb3.mono hsz))
        clear ho3 hb3
        go_wp2_with fail
        go_roundw
        case rel => exact ⟨q / 2, _, _, by omega, by go_num, HN.out, HO3.out, HP3.out, HB3.out⟩
        case measure => simp [intOf]; omega
      · have h2B : ((q : Int) % 2 == 1) = true := by rw [beq_iff_eq]; omega
        have HN : Hid (ploop n (mm n P A) (mm n A A) (q / 2) = ploop n one f k) := Lib.hid (by rw [← HL.out, ploop_odd h2])
        clear h2
        go_wp2_with fail
        refine (c_l02TimesF _ _ n n n P A _ (HP.out.rowsF (by omega) (by omega)) HA.out hn hn2 hn2 hn2).mono ?_
        rintro e w2 ⟨v2, rfl, ho2, hb2⟩
        have HP2 := Lib.hid ho2
        have HA2 := Lib.hid (HA.out.keep hb2)
        have HB2 := Lib.hid (HB.out.trans (hb2.mono hsz))
        have hsz2 := hb2.size
        clear ho2 hb2
        go_wp2_with fail
        refine (c_l02TimesF _ _ n n n A A _ HA2.out HA2.out hn hn2 hn2 hn2).mono ?_
        rintro e w3 ⟨v3, rfl, ho3, hb3⟩
        have HO3 := Lib.hid (ho3.rowsF (by omega) (by omega))
        have HP3 := Lib.hid ((HP2.out.keep hb3).mono hsz)
        have HB3 := Lib.hid (HB2.out.trans (hb3.mono (by omega)))
        clear ho3 hb3
        go_wp2_with fail
        go_roundw
        case rel => exact ⟨q / 2, _, _, by omega, by go_num, HN.out, HO3.out, HP3.out, HB3.out⟩
        case measure => simp [intOf]; omega
end Go.Proofs.Ytmbcncmmgfnlmaa

/- Walks: powers of matrices with their codes, program and reference. -/
namespace Go.Proofs.Ytmbcncmmgfnlmaa
open Go.RowKit
open Fus (F Mx toI ofI toI_bd mm one)

theorem sqF {m : List (List Int)} {b : Bool} (h : sqCode m b = 0) : m = tabF m.length m.length (entF m) :=
  good_F (fun i x hx => (sq_rows h).2.2 i x hx)
theorem smallF {r c : Nat} {f : Mx} (hr : r ≤ 4096) (hc : c ≤ 4096) : Small 4096 (tabF r c f) :=
  ⟨by rw [tabF_length]; exact hr, fun xs hx => by rw [tabF_mem hx]; exact hc⟩
def powM (m : List (List Int)) (k : Int) : List (List Int) × Int :=
  if sqCode m (inR 0 1000000 k) = 0 then (tabF m.length m.length (ploop m.length one (entF m) k.toNat), 0) else ([], sqCode m (inR 0 1000000 k))
theorem powM_small (m : List (List Int)) (k : Int) : Small 4096 (powM m k).1 := by
  unfold powM
  split
  · rename_i h; have := (sq_rows h).2.1; exact smallF (by omega) (by omega)
  · exact ⟨by simp, fun _ h => by simp at h⟩
theorem c_PowerMatrix (u : Value) (m : List (List Int)) (k : Int) (w : World) (hu : IntRows w u m) :
    Calls Try.prog 33 #[u, .int .i64 k] w (RetMC (powM m k) w) := by
  have HU := Lib.hid hu
  by_cases h : sqCode m (inR 0 1000000 k) = 0
  · have HR := Lib.hid (sq_rows h)
    have HT := Lib.hid (sqF h)
    have hk := inR_true (sq_parts h).2.2
    obtain ⟨hk1, hk2⟩ := hk
    have H : Hid (powM m k = (tabF m.length m.length (ploop m.length one (entF m) k.toNat), 0)) := Lib.hid (if_pos h)
    have hB : (sqCode m (inR 0 1000000 k) != 0) = false := by simp [h]
    have HK : Hid (k = ((k.toNat : Nat) : Int)) := Lib.hid (by omega)
    clear h hu
    go_enter Try.func33, Try.ntmps33
    go_wp2_with fail
    refine (c_within _ _ _ _).mono ?_
    rintro e w0 ⟨rfl, rfl⟩
    go_wp2_with fail
    refine (c_squareCode u m _ _ HU.out).mono ?_
    rintro e w1 ⟨rfl, hb⟩
    have HB := Lib.hid hb
    have HV : Hid (IntRows w1 u (tabF m.length m.length (entF m))) := Lib.hid (by rw [← HT.out]; exact HU.out.keep hb)
    clear hb
    go_wp2_with fail
    have hc := c_powerMatrix u m.length (entF m) k.toNat w1 HV.out HR.out.1 (by have := HR.out.2.1; omega) (by omega)
    rw [← HK.out] at hc
    refine hc.mono ?_
    rintro e w2 ⟨v2, rfl, ho2, hb2⟩
    clear hc
    go_wp2_with fail
    go_ret2
    refine ⟨v2, ?_, ?_, HB.out.trans (hb2.mono HB.out.size)⟩
    · rw [H.out]; rfl
    · rw [H.out]; exact ho2.mono HB.out.size
  · have H : Hid (powM m k = ([], sqCode m (inR 0 1000000 k))) := Lib.hid (if_neg h)
    have hB : (sqCode m (inR 0 1000000 k) != 0) = true := by rw [bne_iff_ne]; exact h
    clear h hu
    go_enter Try.func33, Try.ntmps33
    go_wp2_with fail
    refine (c_within _ _ _ _).mono ?_
    rintro e w0 ⟨rfl, rfl⟩
    go_wp2_with fail
    refine (c_squareCode u m _ _ HU.out).mono ?_
    rintro e w1 ⟨rfl, hb⟩
    have HB := Lib.hid hb
    clear hb
    go_wp2_with fail
    go_ret2
    refine ⟨.slice none 0 0, ?_, ?_, HB.out⟩
    · rw [H.out]; rfl
    · rw [H.out]; exact OwnM.nil _ _
end Go.Proofs.Ytmbcncmmgfnlmaa
