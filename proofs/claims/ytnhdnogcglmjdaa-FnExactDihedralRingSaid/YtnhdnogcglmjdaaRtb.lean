/- Rings told by a table of products: fromTable with the closures of the program. -/
import Derived.Test.YtnhdnogcglmjdaaRsp
namespace Go.Proofs.Ytnhdnogcglmjdaa
open Go.RowKit

/-- entries told before the pair i, j -/
def tabG (n : Nat) (T : Nat → Nat → Nat) (i j : Nat) (a b k : Nat) : Int := if (a < i ∧ b < n) ∨ (a = i ∧ b < j) then (if k = T a b then 1 else 0) else 0
/-- .. all: n rows of n labels, in a cube that may be greater -/
def tabE (n : Nat) (T : Nat → Nat → Nat) (a b k : Nat) : Int := if a < n ∧ b < n ∧ k = T a b then 1 else 0
theorem tb_start (N n : Nat) (T : Nat → Nat → Nat) : cub N (tabG n T 0 0) = cub N fun _ _ _ => 0 :=
  cub_congr fun a b k _ _ _ => by unfold tabG; rw [if_neg (by omega)]
theorem tb_next (N n : Nat) (T : Nat → Nat → Nat) (i j : Nat) (hj : j < n) : cub N (upd3 (tabG n T i j) i j (T i j) 1) = cub N (tabG n T i (j + 1)) := by
  refine cub_congr fun a b k _ _ _ => ?_
  unfold upd3 tabG
  by_cases e : a = i ∧ b = j
  · obtain ⟨rfl, rfl⟩ := e
    by_cases e2 : k = T a b
    · rw [if_pos ⟨rfl, rfl, e2⟩, if_pos (by omega), if_pos e2]
    · rw [if_neg (fun h => e2 h.2.2), if_neg (by omega), if_pos (by omega), if_neg e2]
  · rw [if_neg (fun h => e ⟨h.1, h.2.1⟩)]
    by_cases e2 : (a < i ∧ b < n) ∨ (a = i ∧ b < j)
    · have e3 : (a < i ∧ b < n) ∨ (a = i ∧ b < j + 1) := by omega
      rw [if_pos e2, if_pos e3]
    · have e3 : ¬ ((a < i ∧ b < n) ∨ (a = i ∧ b < j + 1)) := by omega
      rw [if_neg e2, if_neg e3]
theorem tb_row (N n : Nat) (T : Nat → Nat → Nat) (i : Nat) : cub N (tabG n T i n) = cub N (tabG n T (i + 1) 0) := by
  refine cub_congr fun a b k _ _ _ => ?_
  unfold tabG
  by_cases e2 : (a < i ∧ b < n) ∨ (a = i ∧ b < n)
  · have e3 : (a < i + 1 ∧ b < n) ∨ (a = i + 1 ∧ b < 0) := by omega
    rw [if_pos e2, if_pos e3]
  · have e3 : ¬ ((a < i + 1 ∧ b < n) ∨ (a = i + 1 ∧ b < 0)) := by omega
    rw [if_neg e2, if_neg e3]
theorem tb_end (N n : Nat) (T : Nat → Nat → Nat) : cub N (tabG n T n 0) = cub N (tabE n T) := by
  refine cub_congr fun a b k _ _ _ => ?_
  unfold tabG tabE
  by_cases e2 : a < n ∧ b < n
  · rw [if_pos (by omega)]
    by_cases e3 : k = T a b
    · rw [if_pos e3, if_pos ⟨e2.1, e2.2, e3⟩]
    · rw [if_neg e3, if_neg (fun h => e3 h.2.2)]
  · rw [if_neg (by omega), if_neg (fun h => e2 ⟨h.1, h.2.1⟩)]
theorem InBox.call {w wr w5 : World} {b0 b1 lo : Nat} {v : Value} {c : List (List (List Int))} (h : InBox w b0 b1 lo v c wr) (hb : Below wr.heap.size wr w5) : InBox w b0 b1 lo v c w5 :=
  ⟨bcell hb h.c0, bfrozen hb h.c0 h.f0, bcell hb h.c1, Nat.lt_of_lt_of_le h.size hb.size, h.own.keep hb (Nat.le_of_lt h.size), h.below.trans (hb.mono h.below.size)⟩
theorem InOne.call {w wr w5 : World} {hi : Nat} {v : Value} {c : List (List (List Int))} (h : InOne w hi v c wr) (hb : Below wr.heap.size wr w5) : InOne w hi v c w5 :=
  ⟨Nat.le_trans h.size hb.size, h.own.keep hb h.size, h.below.trans (hb.mono h.below.size)⟩
/-- a store at an entry whose blocks were read before -/
theorem OwnCB.setAt {w : World} {lo hi g N cap n c1 c2 g1 g2 : Nat} {f : Nat → Nat → Nat → Int} {m1 m2 : Nat} (h : OwnCB w lo hi (.slice (some ⟨g, 0, none⟩) N cap) (cub n f)) {i j k : Nat} (hi' : i < n) (hj : j < n) (hk : k < n)
    (h1 : w.cell? ⟨g, i, none⟩ = some (.slice (some ⟨g1, 0, none⟩) m1 c1)) (h2 : w.cell? ⟨g1, j, none⟩ = some (.slice (some ⟨g2, 0, none⟩) m2 c2)) (x : Int) :
    OwnCB (w.setCell ⟨g2, k, none⟩ (vi x)) lo hi (.slice (some ⟨g, 0, none⟩) N cap) (cub n (upd3 f i j k x)) := by
  obtain ⟨g1', c1', g2', c2', e1, e2, e3, e4, e5, e6, e7, e8, e9⟩ := h.at hi' hj hk
  rw [h1] at e1
  cases e1
  rw [h2] at e2
  cases e2
  exact e9 x
theorem tt_rfl (a m : Nat) : (a : Int).tmod (m : Int) = ((a % m : Nat) : Int) := rfl
theorem td_rfl (a m : Nat) : (a : Int).tdiv (m : Int) = ((a / m : Nat) : Int) := rfl
set_option maxRecDepth 100000 in
set_option maxHeartbeats 2000000 in
theorem c_fromTable_dih (n : Nat) (p : Addr) (T : Nat → Nat → Nat) (w : World) (hn1 : 0 < n) (hn : n ≤ 100) (hT : ∀ i j, i < n → j < n → T i j < n)
    (hφ : ∀ w', Below w.heap.size w w' → ∀ i j : Nat, i < n → j < n → Calls Try.prog 61 #[.int .i64 i, .int .i64 j, .pointer (some p)] w' fun e w'' => e = .returned (.int .i64 (T i j)) ∧ Below w'.heap.size w' w'') :
    Calls Try.prog 60 #[.int .i64 n, .func (.func 61) #[] #[.pointer (some p)]] w (RetR1 (cub n (tabE n T)) w) := by
  have HT := Lib.hid hT
  have HF := Lib.hid hφ
  clear hT hφ
  go_enter Try.func60, Try.ntmps60
  go_wp2_with fail
  refine (c_emptyCube n _ (by omega)).mono ?_
  rintro e w1 ⟨v1, rfl, ho1, hb1⟩
  obtain ⟨g, cap, rfl, hg1, hg2⟩ := ho1.shape' (by rw [cub_length]; omega)
  rw [cub_length] at ho1 ⊢
  have hsz1 : w.heap.size + 1 ≤ w1.heap.size := by have := hb1.size; simpa using this
  have hlt1 : w.heap.size < w1.heap.size := by omega
  have HIN : Hid (InBox w w.heap.size w1.heap.size (w.heap.size + 1) (.slice (some ⟨g, 0, none⟩) n cap) (cub n (tabG n T 0 0)) (w1.alloc (.cells #[.slice (some ⟨g, 0, none⟩) n cap] 31))) := Lib.hid
    ⟨bcell (below_alloc _ _) (bcell hb1 (v := .slice none 0 0) (by simp)), bfrozen (below_alloc _ _) (bcell hb1 (v := .slice none 0 0) (by simp)) (bfrozen hb1 (v := .slice none 0 0) (by simp) (by simp)), by simp, by simp, by rw [tb_start]; exact (ho1.mono (by simp) (Nat.le_refl _)).alloc (Nat.le_refl _) _, below_after (hb1.alloc hb1.size _)⟩
  clear ho1 hb1
  go_wp2_with fail
  go_loopw [11] (fun i wr => ∃ k : Nat, k ≤ n ∧ i = .int .i64 k ∧ Hid (InBox w w.heap.size w1.heap.size (w.heap.size + 1) (.slice (some ⟨g, 0, none⟩) n cap) (cub n (tabG n T k 0)) wr)) (fun i _ => n - (intOf i).toNat)
  case atStart => exact ⟨0, Nat.zero_le _, rfl, HIN⟩
  case round =>
    obtain ⟨i, hi, rfl, hin⟩ := hrel
    have hc0 := hin.out.c0
    have hf0 := hin.out.f0
    have hc1 := hin.out.c1
    have hsz := hin.out.size
    by_cases hlt : i < n
    · go_wp2_with fail
      go_loopw [15] (fun j wr => ∃ k : Nat, k ≤ n ∧ j = .int .i64 k ∧ Hid (InBox w w.heap.size w1.heap.size (w.heap.size + 1) (.slice (some ⟨g, 0, none⟩) n cap) (cub n (tabG n T i k)) wr)) (fun j _ => n - (intOf j).toNat)
      case atStart => exact ⟨0, Nat.zero_le _, rfl, hin⟩
      case round =>
        clear hin hc0 hf0 hc1 hsz
        obtain ⟨j, hj, rfl, hin⟩ := hrel
        have hc0 := hin.out.c0
        have hf0 := hin.out.f0
        have hc1 := hin.out.c1
        have hsz := hin.out.size
        by_cases hlt2 : j < n
        · obtain ⟨t, ht⟩ : ∃ t, t = T i j := ⟨_, rfl⟩
          have hq : t < n := by rw [ht]; exact HT.out i j hlt hlt2
          have HTT := Lib.hid ht
          clear ht
          obtain ⟨g1, c1, g2, c2, e1, e2, e3, e4, e5, e6, e7, e8, _⟩ := hin.out.own.at hlt hlt2 hq
          go_wp2_with fail
          go_region_law
            (go_simp; go_at_call 61; refine (HF.out _ hin.out.drew.below i j hlt hlt2).mono ?_; rintro e w5 ⟨rfl, hb5⟩; rw [← HTT.out]; have hB5 : Below wr.heap.size wr w5 := below_drewed (Below.refl _ _) hb5; have k1 := bcell hB5 hc1; have k2 := bcell hB5 e1; have k3 := bcell hB5 e2; have k4 := bcell hB5 e3; have k5 := bfrozen hB5 e3 e4)
          all_goals
            have hnew : Hid (InBox w w.heap.size w1.heap.size (w.heap.size + 1) (.slice (some ⟨g, 0, none⟩) n cap) (cub n (tabG n T i (j + 1))) (w5.setCell ⟨g2, t, none⟩ (vi 1))) := Lib.hid (by
              have h1 := hin.out.call hB5
              have h2 := h1.own.setAt hlt hlt2 hq k2 k3 1
              rw [HTT.out, tb_next n n T i j hlt2] at h2
              rw [HTT.out]
              exact h1.set (by omega) (by omega) e5 e6 h2)
            clear hin k1 k2 k3 k4 k5 hb5 hB5 e1 e2 e3 e4 hc0 hc1 hf0
            go_wp2_with fail
            go_roundw
            case rel => exact ⟨j + 1, by omega, by go_num, hnew⟩
            case measure => simp [intOf]; omega
        · obtain rfl : n = j := by omega
          go_wp2_with fail
          go_roundw
          case rel => exact ⟨i + 1, by omega, by go_num, Lib.hid (by rw [← tb_row]; exact hin.out)⟩
          case measure => simp [intOf]; omega
    · obtain rfl : n = i := by omega
      go_wp2_with fail
      (try simp only [Exit.inBlock, Exit.then])
      refine bodyPost_ret (v := .agg #[.slice (some ⟨g, 0, none⟩) n cap]) (by rw [results_cell1 rfl]; go_simp) rfl ?_
      refine ⟨_, rfl, ?_, below_set hin.out.below (Nat.le_refl _)⟩
      have h := hin.out.own
      rw [tb_end] at h
      have h2 : OwnCB (wr.setCell ⟨w.heap.size, 0, none⟩ (.slice (some ⟨g, 0, none⟩) n cap)) (w.heap.size + 1) w1.heap.size (.slice (some ⟨g, 0, none⟩) n cap) (cub n (tabE n T)) := h.same fun x h1 h2 => Below.heap_setCell wr ⟨w.heap.size, 0, none⟩ _ _ (fun e => by have e' : x = w.heap.size := e; omega)
      exact h2.mono (by omega) (Nat.le_trans (Nat.le_of_lt hsz) (by simp))

/-- products of a dihedral group -/
def dihT (m x y : Nat) : Nat := (if y < m then (if x < m then 0 else m) else (if x < m then m else 0)) + (if x < m then (x + y) % m else (x + m - y % m) % m)
theorem dihT_lt {m x y : Nat} (hm : 0 < m) : dihT m x y < 2 * m := by
  unfold dihT
  have h1 := Nat.mod_lt (x + y) hm
  have h2 := Nat.mod_lt (x + m - y % m) hm
  (repeat' split) <;> omega
def dihR (m : Nat) : List (List (List Int)) := cub (2 * m) (tabE (2 * m) (dihT m))
theorem c_dih (m x y : Nat) (p : Addr) (w : World) (hm : 0 < m) (hm2 : m ≤ 100) (hx : x < 2 * m) (hy : y < 2 * m) (hp : w.cell? p = some (.int .i64 m)) :
    Calls Try.prog 61 #[.int .i64 x, .int .i64 y, .pointer (some p)] w fun e w' => e = .returned (.int .i64 (dihT m x y)) ∧ Below w.heap.size w w' := by
  have hq0 : y < m → y / m = 0 := fun h => Nat.div_eq_of_lt h
  have hq1 : ¬ y < m → y / m = 1 := fun h => Nat.div_eq_of_lt_le (by omega) (by omega)
  have hl1 := Nat.mod_lt (x + y) hm
  have hl2 := Nat.mod_lt y hm
  have hl3 := Nat.mod_lt (x + m - y % m) hm
  have HD : Hid (dihT m x y = (if y < m then (if x < m then 0 else m) else (if x < m then m else 0)) + (if x < m then (x + y) % m else (x + m - y % m) % m)) := Lib.hid rfl
  obtain ⟨q, hq⟩ : ∃ q, q = y / m := ⟨_, rfl⟩
  obtain ⟨r1, hr1⟩ : ∃ r, r = (x + y) % m := ⟨_, rfl⟩
  obtain ⟨r2, hr2⟩ : ∃ r, r = y % m := ⟨_, rfl⟩
  rw [← hr2] at hl3 HD
  obtain ⟨r3, hr3⟩ : ∃ r, r = (x + m - r2) % m := ⟨_, rfl⟩
  rw [← hq] at hq0 hq1
  rw [← hr1] at hl1 HD
  rw [← hr2] at hl2
  rw [← hr3] at hl3 HD
  have f1 : (y : Int).tdiv (m : Int) = (q : Int) := by rw [hq]; rfl
  have f2 : ((x : Int) + (y : Int)).tmod (m : Int) = (r1 : Int) := by rw [hr1]; rfl
  have f3 : (y : Int).tmod (m : Int) = (r2 : Int) := by rw [hr2]; rfl
  have f4 : ((x : Int) + (m : Int) - (r2 : Int)).tmod (m : Int) = (r3 : Int) := by
    rw [show (x : Int) + (m : Int) - (r2 : Int) = ((x + m - r2 : Nat) : Int) by omega, hr3]; rfl
  clear hq hr1 hr2 hr3
  by_cases h1 : x < m
  · by_cases h2 : y < m
    · obtain rfl := hq0 h2
      have HR : Hid (dihT m x y = r1) := Lib.hid (by rw [HD.out, if_pos h2, if_pos h1, if_pos h1, Nat.zero_add])
      clear hq0 hq1 HD
      go_enter Try.func61, Try.ntmps61
      go_wp2_with fail
      go_region
      go_wp2_with fail
      go_ret
      exact ⟨ret_int (by rw [HR.out]), (Below.refl _ _).drew⟩
    · obtain rfl := hq1 h2
      have HR : Hid (dihT m x y = m + r1) := Lib.hid (by rw [HD.out, if_neg h2, if_pos h1, if_pos h1])
      clear hq0 hq1 HD
      go_enter Try.func61, Try.ntmps61
      go_wp2_with fail
      go_region
      go_wp2_with fail
      go_ret
      exact ⟨ret_int (by rw [HR.out]; go_num), (Below.refl _ _).drew⟩
  · by_cases h2 : y < m
    · obtain rfl := hq0 h2
      have HR : Hid (dihT m x y = m + r3) := Lib.hid (by rw [HD.out, if_pos h2, if_neg h1, if_neg h1])
      clear hq0 hq1 HD
      go_enter Try.func61, Try.ntmps61
      go_wp2_with fail
      go_region
      go_wp2_with fail
      go_ret
      exact ⟨ret_int (by rw [HR.out]; go_num), (Below.refl _ _).drew⟩
    · obtain rfl := hq1 h2
      have HR : Hid (dihT m x y = r3) := Lib.hid (by rw [HD.out, if_neg h2, if_neg h1, if_neg h1, Nat.zero_add])
      clear hq0 hq1 HD
      go_enter Try.func61, Try.ntmps61
      go_wp2_with fail
      go_region
      go_wp2_with fail
      go_ret
      exact ⟨ret_int (by rw [HR.out]), (Below.refl _ _).drew⟩

def dihN (k : Int) : List (List (List Int)) × Int := if inR 1 8 k = true then (dihR k.toNat, 0) else ([], 2)
theorem c_DihedralGroupRing (k : Int) (w : World) : Calls Try.prog 28 #[.int .i64 k] w (RetR (dihN k) w) := by
  cases h : inR 1 8 k
  · have H : Hid (dihN k = ([], 2)) := Lib.hid (if_neg (by rw [h]; decide))
    go_enter Try.func28, Try.ntmps28
    go_wp2_with fail
    refine (c_within _ _ _ _).mono ?_
    rintro e w1 ⟨rfl, rfl⟩
    rw [h]
    go_wp2_with fail
    (try simp only [Exit.inBlock, Exit.then])
    refine bodyPost_ret (v := .tuple #[.agg #[.slice none 0 0], .int .i64 2]) (by rw [results_cell_tmp rfl]; go_simp) rfl ?_
    exact ⟨_, by rw [H.out], by rw [H.out]; exact OwnCB.nil _ _ _, below_alloc w _⟩
  · obtain ⟨hk1, hk2⟩ := inR_true h
    obtain ⟨m, rfl⟩ : ∃ L : Nat, k = L := ⟨k.toNat, by omega⟩
    have H : Hid (dihN m = (dihR m, 0)) := Lib.hid (if_pos h)
    have HE : Hid ((2 : Int) * (m : Int) = ((2 * m : Nat) : Int)) := Lib.hid (by omega)
    go_enter Try.func28, Try.ntmps28
    go_wp2_with fail
    refine (c_within _ _ _ _).mono ?_
    rintro e w1 ⟨rfl, rfl⟩
    rw [h]
    clear h
    go_wp2_with fail
    rw [HE.out]
    refine (c_fromTable_dih (2 * m) _ (dihT m) _ (by omega) (by omega) (fun i j _ _ => dihT_lt (by omega)) (fun w' hb i j hi hj => c_dih m i j _ w' (by omega) (by omega) hi hj (bcell hb (by simp)))).mono ?_
    rintro e w2 ⟨v2, rfl, ho2, hb2⟩
    obtain ⟨p, n, cc, rfl⟩ := ho2.slice
    have hlt : w.heap.size < w2.heap.size := by have := hb2.size; simp at this; omega
    have hc0 : w2.cell? ⟨w.heap.size, 0, none⟩ = some (.slice none 0 0) := bcell hb2 (by simp)
    have hf0 : w2.frozen? ⟨w.heap.size, 0, none⟩ = false := bfrozen hb2 (v := .slice none 0 0) (by simp) (by simp)
    have HO : Hid (OwnCB (w2.setCell ⟨w.heap.size, 0, none⟩ (.slice p n cc)) (w.heap.size + 1) w2.heap.size (.slice p n cc) (dihR m)) := Lib.hid ((ho2.mono (by simp) (Nat.le_refl _)).same fun x h1 h2 => Below.heap_setCell w2 ⟨w.heap.size, 0, none⟩ _ _ (fun e => by have e' : x = w.heap.size := e; omega))
    have HB : Hid (Below w.heap.size w (w2.setCell ⟨w.heap.size, 0, none⟩ (.slice p n cc))) := Lib.hid (below_set (below_after (below_after hb2)) (Nat.le_refl _))
    clear ho2 hb2
    go_wp2_with fail
    (try simp only [Exit.inBlock, Exit.then])
    refine bodyPost_ret (v := .tuple #[.agg #[.slice p n cc], .int .i64 0]) (by rw [results_cell_tmp rfl]; go_simp) rfl ?_
    exact ⟨_, by rw [H.out], by rw [H.out]; exact HO.out.mono (by omega) (by simp), HB.out⟩

theorem dih_a {m x y : Nat} : (x % m + y % m) % m = (x + y) % m := (Nat.add_mod x y m).symm
theorem dih_b {m x y : Nat} (hm : 0 < m) (h1 : m ≤ x) (h2 : x < 2 * m) : (x % m + m - y % m) % m = (x + m - y % m) % m := by
  have e : x % m = x - m := by rw [Nat.mod_eq_sub_mod h1]; exact Nat.mod_eq_of_lt (by omega)
  have hl := Nat.mod_lt y hm
  rw [e, show x + m - y % m = (x - m + m - y % m) + m by omega, Nat.add_mod_right]
set_option maxRecDepth 100000 in
set_option maxHeartbeats 2000000 in
theorem c_l06DihedralGroup (m : Nat) (w : World) (hm : 0 < m) (hm2 : m ≤ 50) :
    Calls Try.prog 59 #[.int .i64 m] w (RetC (dihR m) w) := by
  obtain ⟨n, hn⟩ : ∃ n, n = 2 * m := ⟨_, rfl⟩
  have HNE : Hid ((2 : Int) * (m : Int) = (n : Int)) := Lib.hid (by omega)
  have HN := Lib.hid hn
  go_enter Try.func59, Try.ntmps59
  go_wp2_with fail
  rw [HNE.out]
  refine (c_l06Empty n _ (by omega)).mono ?_
  rintro e w1 ⟨v1, rfl, ho1, hb1⟩
  obtain ⟨g, cap, rfl, hg1, hg2⟩ := ho1.shape' (by rw [cub_length]; omega)
  rw [cub_length] at ho1 ⊢
  have HIN : Hid (InOne w w1.heap.size (.slice (some ⟨g, 0, none⟩) n cap) (cub n (tabG n (dihT m) 0 0)) w1) := Lib.hid ⟨Nat.le_refl _, by rw [tb_start]; exact ho1, hb1⟩
  clear ho1 hb1
  go_wp2_with fail
  go_loopw [4] (fun i wr => ∃ k : Nat, k ≤ n ∧ i = .int .i64 k ∧ Hid (InOne w w1.heap.size (.slice (some ⟨g, 0, none⟩) n cap) (cub n (tabG n (dihT m) k 0)) wr)) (fun i _ => n - (intOf i).toNat)
  case atStart => exact ⟨0, Nat.zero_le _, rfl, HIN⟩
  case round =>
    obtain ⟨i, hi, rfl, hin⟩ := hrel
    by_cases hlt : i < n
    · go_wp2_with fail
      go_loopw [5] (fun j wr => ∃ k : Nat, k ≤ n ∧ j = .int .i64 k ∧ Hid (InOne w w1.heap.size (.slice (some ⟨g, 0, none⟩) n cap) (cub n (tabG n (dihT m) i k)) wr)) (fun j _ => n - (intOf j).toNat)
      case atStart => exact ⟨0, Nat.zero_le _, rfl, hin⟩
      case round =>
        clear hin
        obtain ⟨j, hj, rfl, hin⟩ := hrel
        by_cases hlt2 : j < n
        · have hq : dihT m i j < n := by rw [hn]; exact dihT_lt hm
          obtain ⟨g1, c1, g2, c2, e1, e2, e3, e4, e5, e6, e7, e8, e9⟩ := hin.out.own.at hlt hlt2 hq
          have hnew : Hid (InOne w w1.heap.size (.slice (some ⟨g, 0, none⟩) n cap) (cub n (tabG n (dihT m) i (j + 1))) (wr.setCell ⟨g2, dihT m i j, none⟩ (vi 1)).drew) := Lib.hid (by
            rw [← tb_next n n (dihT m) i j hlt2]
            exact (hin.out.set e5 (e9 1)).drew)
          clear e9 hin
          obtain ⟨t, ht⟩ : ∃ t, t = dihT m i j := ⟨_, rfl⟩
          rw [← ht] at hnew e3 e4 hq
          have HD : Hid (t = (if j < m then (if i < m then 0 else m) else (if i < m then m else 0)) + (if i < m then (i + j) % m else (i + m - j % m) % m)) := Lib.hid ht
          clear ht
          have hl0 := Nat.mod_lt i hm
          have hl1 := Nat.mod_lt (i + j) hm
          have hl2 := Nat.mod_lt j hm
          have hl3 := Nat.mod_lt (i + m - j % m) hm
          have ha : (i % m + j % m) % m = (i + j) % m := dih_a
          have hb : ¬ i < m → (i % m + m - j % m) % m = (i + m - j % m) % m := fun h => dih_b hm (by omega) (by omega)
          obtain ⟨q0, hq0⟩ : ∃ r, r = i % m := ⟨_, rfl⟩
          obtain ⟨r1, hr1⟩ : ∃ r, r = (i + j) % m := ⟨_, rfl⟩
          obtain ⟨r2, hr2⟩ : ∃ r, r = j % m := ⟨_, rfl⟩
          rw [← hr2] at hl3 HD ha hb hl2
          obtain ⟨r3, hr3⟩ : ∃ r, r = (i + m - r2) % m := ⟨_, rfl⟩
          rw [← hq0] at ha hb hl0
          rw [← hr1] at hl1 HD ha
          rw [← hr3] at hl3 HD hb
          have f1 : (i : Int).tmod (m : Int) = (q0 : Int) := by rw [hq0]; rfl
          have f2 : (j : Int).tmod (m : Int) = (r2 : Int) := by rw [hr2]; rfl
          have f3 : ((q0 : Int) + (r2 : Int)).tmod (m : Int) = (r1 : Int) := by rw [← ha]; rfl
          have f4 : ¬ i < m → ((q0 : Int) - (r2 : Int) + (m : Int)).tmod (m : Int) = (r3 : Int) := fun h => by
            rw [show (q0 : Int) - (r2 : Int) + (m : Int) = ((q0 + m - r2 : Nat) : Int) by omega, ← hb h]; rfl
          clear hq0 hr1 hr2 hr3 ha hb
          by_cases h1 : i < m
          · by_cases h2 : j < m
            · obtain rfl : t = r1 := by rw [HD.out, if_pos h2, if_pos h1, if_pos h1, Nat.zero_add]
              clear HD f4
              go_wp2_with fail
              go_region
              go_wp2_with fail
              exact ⟨⟨j + 1, by omega, by go_num, hnew⟩, by simp [intOf]; omega⟩
            · have ht : t = r1 + m := by rw [Nat.add_comm, HD.out, if_neg h2, if_pos h1, if_pos h1]
              subst ht
              clear HD f4
              go_wp2_with fail
              go_region
              go_wp2_with fail
              exact ⟨⟨j + 1, by omega, by go_num, hnew⟩, by simp [intOf]; omega⟩
          · by_cases h2 : j < m
            · have hdj : decide (m ≤ j) = false := decide_eq_false (by omega)
              have ht : t = r3 + m := by rw [Nat.add_comm, HD.out, if_pos h2, if_neg h1, if_neg h1]
              subst ht
              replace f4 := f4 h1
              clear HD
              go_wp2_with fail
              go_region
              go_wp2_with fail
              exact ⟨⟨j + 1, by omega, by go_num, hnew⟩, by simp [intOf]; omega⟩
            · have hdj : decide (m ≤ j) = true := decide_eq_true (by omega)
              obtain rfl : t = r3 := by rw [HD.out, if_neg h2, if_neg h1, if_neg h1, Nat.zero_add]
              replace f4 := f4 h1
              clear HD
              go_wp2_with fail
              go_region
              go_wp2_with fail
              exact ⟨⟨j + 1, by omega, by go_num, hnew⟩, by simp [intOf]; omega⟩
        · obtain rfl : n = j := by omega
          go_wp2_with fail
          go_roundw
          case rel => exact ⟨i + 1, by omega, by go_num, Lib.hid (by rw [← tb_row]; exact hin.out)⟩
          case measure => simp [intOf]; omega
    · obtain rfl : n = i := by omega
      obtain rfl := HN.out
      go_wp2_with fail
      go_ret
      refine ⟨_, rfl, ?_, hin.out.below⟩
      have h := hin.out.own
      rw [tb_end] at h
      exact h.mono (Nat.le_refl _) hin.out.size

theorem c_SDihedralGroupRing (k : Int) (w : World) : Calls Try.prog 27 #[.int .i64 k] w (RetR (dihN k) w) := by
  cases h : inR 1 8 k
  · have H : Hid (dihN k = ([], 2)) := Lib.hid (if_neg (by rw [h]; decide))
    go_enter Try.func27, Try.ntmps27
    go_wp2_with fail
    refine (c_l01In _ _ _ _).mono ?_
    rintro e w1 ⟨rfl, rfl⟩
    rw [h]
    go_wp2_with fail
    (try simp only [Exit.inBlock, Exit.then])
    refine bodyPost_ret (v := .tuple #[.agg #[.slice none 0 0], .int .i64 2]) (by rw [results_cell_tmp rfl]; go_simp) rfl ?_
    exact ⟨_, by rw [H.out], by rw [H.out]; exact OwnCB.nil _ _ _, below_alloc w _⟩
  · obtain ⟨hk1, hk2⟩ := inR_true h
    obtain ⟨m, rfl⟩ : ∃ L : Nat, k = L := ⟨k.toNat, by omega⟩
    have H : Hid (dihN m = (dihR m, 0)) := Lib.hid (if_pos h)
    go_enter Try.func27, Try.ntmps27
    go_wp2_with fail
    refine (c_l01In _ _ _ _).mono ?_
    rintro e w1 ⟨rfl, rfl⟩
    rw [h]
    clear h
    go_wp2_with fail
    refine (c_l06DihedralGroup m _ (by omega) (by omega)).mono ?_
    rintro e w2 ⟨v2, rfl, ho2, hb2⟩
    obtain ⟨p, n, cc, rfl⟩ := ho2.slice
    have hlt : w.heap.size < w2.heap.size := by have := hb2.size; simp at this; omega
    have hc0 : w2.cell? ⟨w.heap.size, 0, none⟩ = some (.slice none 0 0) := bcell hb2 (by simp)
    have hf0 : w2.frozen? ⟨w.heap.size, 0, none⟩ = false := bfrozen hb2 (v := .slice none 0 0) (by simp) (by simp)
    have HO : Hid (OwnCB (w2.setCell ⟨w.heap.size, 0, none⟩ (.slice p n cc)) (w.heap.size + 1) w2.heap.size (.slice p n cc) (dihR m)) := Lib.hid ((ho2.mono (by simp) (Nat.le_refl _)).same fun x h1 h2 => Below.heap_setCell w2 ⟨w.heap.size, 0, none⟩ _ _ (fun e => by have e' : x = w.heap.size := e; omega))
    have HB : Hid (Below w.heap.size w (w2.setCell ⟨w.heap.size, 0, none⟩ (.slice p n cc))) := Lib.hid (below_set (below_after hb2) (Nat.le_refl _))
    clear ho2 hb2
    go_wp2_with fail
    (try simp only [Exit.inBlock, Exit.then])
    refine bodyPost_ret (v := .tuple #[.agg #[.slice p n cc], .int .i64 0]) (by rw [results_cell_tmp rfl]; go_simp) rfl ?_
    exact ⟨_, by rw [H.out], by rw [H.out]; exact HO.out.mono (by omega) (by simp), HB.out⟩
theorem dihN_small (k : Int) : SmallC (dihN k).1 := by
  unfold dihN
  split
  · rename_i h
    obtain ⟨h1, h2⟩ := inR_true h
    exact smallC_cub _ (by omega)
  · exact smallC_nil
end Go.Proofs.Ytnhdnogcglmjdaa
