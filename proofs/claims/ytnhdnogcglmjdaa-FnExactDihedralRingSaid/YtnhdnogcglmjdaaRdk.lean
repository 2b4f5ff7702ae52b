/- Dihedral rings: the reference's table. -/
import Derived.Test.YtnhdnogcglmjdaaRdi
namespace Go.Proofs.Ytnhdnogcglmjdaa
open Go.RowKit

/-- the labels of V(h) -/
def turnN (n h : Nat) : List Nat := if spM n h = 0 then [0, 1] else if 2 * spM n h = n then [2, 3] else [spM n h + (if n % 2 = 1 then 1 else 3)]
def ofN (xs : List Nat) : List Int := xs.map fun (x : Nat) => (x : Int)
theorem cnt_one (x k : Nat) : List.count k [x] = if k = x then 1 else 0 := by
  rw [List.count_cons, List.count_nil]
  by_cases e : k = x
  · subst e; simp
  · rw [if_neg e, if_neg (by simp; omega)]
theorem cnt_two (x y k : Nat) (h : x ≠ y) : List.count k [x, y] = if k = x ∨ k = y then 1 else 0 := by
  rw [List.count_cons, cnt_one]
  by_cases e : k = x
  · subst e
    rw [if_neg h, if_pos (by simp), if_pos (Or.inl rfl)]
  · by_cases e2 : k = y
    · rw [if_pos e2, if_neg (by simp; omega), if_pos (Or.inr e2)]
    · rw [if_neg e2, if_neg (by simp; omega), if_neg (by omega)]
theorem turn_cnt (n h k : Nat) : (((turnN n h).count k : Nat) : Int) = spF n h k := by
  unfold turnN spF
  split
  · rw [cnt_two 0 1 k (by omega)]
    split <;> rfl
  · split
    · rw [cnt_two 2 3 k (by omega)]
      split <;> rfl
    · rw [cnt_one]
      generalize spM n h + (if n % 2 = 1 then 1 else 3) = c
      split <;> rfl
theorem turn_len (n h : Nat) : (turnN n h).length ≤ 2 := by
  unfold turnN
  (repeat' split) <;> simp
theorem turn_lt {n h L x : Nat} (hn1 : 1 ≤ n) (hL : (n % 2 = 1 ∧ L = 2 + (n - 1) / 2) ∨ (n % 2 = 0 ∧ L = 4 + (n - 1) / 2)) (hx : x ∈ turnN n h) : x < L := by
  have hm : 2 * spM n h ≤ n := by unfold spM; omega
  unfold turnN at hx
  split at hx
  · simp at hx; omega
  · split at hx
    · simp at hx; omega
    · simp at hx
      split at hx <;> omega
set_option maxHeartbeats 1000000 in
theorem c_l06Turn (n hh : Nat) (h : Int) (w : World) (he : h = (hh : Int)) (hn1 : 1 ≤ n) (hn2 : n ≤ 18) (hhn : hh ≤ n) :
    Calls Try.prog 92 #[.int .i64 n, .int .i64 h] w (RetI (ofN (turnN n hh)) w) := by
  subst he
  by_cases hc : 2 * hh ≤ n
  · have HM : Hid (spM n hh = hh) := Lib.hid (by unfold spM; omega)
    by_cases h0 : hh = 0
    · have h0B : ((hh : Int) == 0) = true := by rw [beq_iff_eq]; omega
      by_cases h2 : n % 2 = 0
      · have h2B : (((n : Int) % 2) == 0) = true := by rw [beq_iff_eq]; omega
        go_enter Try.func92, Try.ntmps92
        go_wp2_with fail
        go_ret
        have e : ofN (turnN n hh) = [0, 1] := by
          unfold turnN ofN
          rw [HM.out]
          rw [if_pos h0]; rfl
        refine ⟨_, rfl, ?_, below_alloc w _⟩
        rw [e]
        exact Own.lit (B := w.heap.size) w 2 [vi 0, vi 1] (Nat.le_refl _) (by simp [maxLen])
      · have h2B : (((n : Int) % 2) == 0) = false := by rw [beq_eq_false_iff_ne]; omega
        go_enter Try.func92, Try.ntmps92
        go_wp2_with fail
        go_ret
        have e : ofN (turnN n hh) = [0, 1] := by
          unfold turnN ofN
          rw [HM.out]
          rw [if_pos h0]; rfl
        refine ⟨_, rfl, ?_, below_alloc w _⟩
        rw [e]
        exact Own.lit (B := w.heap.size) w 2 [vi 0, vi 1] (Nat.le_refl _) (by simp [maxLen])
    · have h0B : ((hh : Int) == 0) = false := by rw [beq_eq_false_iff_ne]; omega
      by_cases h1 : 2 * hh = n
      · have h1B : (((2 : Int) * (hh : Int)) == (n : Int)) = true := by rw [beq_iff_eq]; omega
        by_cases h2 : n % 2 = 0
        · have h2B : (((n : Int) % 2) == 0) = true := by rw [beq_iff_eq]; omega
          go_enter Try.func92, Try.ntmps92
          go_wp2_with fail
          go_ret
          have e : ofN (turnN n hh) = [2, 3] := by
            unfold turnN ofN
            rw [HM.out]
            rw [if_neg h0, if_pos h1]; rfl
          refine ⟨_, rfl, ?_, below_alloc w _⟩
          rw [e]
          exact Own.lit (B := w.heap.size) w 2 [vi 2, vi 3] (Nat.le_refl _) (by simp [maxLen])
        · have h2B : (((n : Int) % 2) == 0) = false := by rw [beq_eq_false_iff_ne]; omega
          exact absurd h1 (by omega)
      · have h1B : (((2 : Int) * (hh : Int)) == (n : Int)) = false := by rw [beq_eq_false_iff_ne]; omega
        by_cases h2 : n % 2 = 0
        · have h2B : (((n : Int) % 2) == 0) = true := by rw [beq_iff_eq]; omega
          go_enter Try.func92, Try.ntmps92
          go_wp2_with fail
          go_ret
          have e : ofN (turnN n hh) = [(3 : Int) + (hh : Int)] := by
            unfold turnN ofN
            rw [HM.out]
            rw [if_neg h0, if_neg h1, if_neg (by omega)]; simp; omega
          refine ⟨_, rfl, ?_, below_alloc w _⟩
          rw [e]
          exact Own.lit (B := w.heap.size) w 2 [vi ((3 : Int) + (hh : Int))] (Nat.le_refl _) (by simp [maxLen])
        · have h2B : (((n : Int) % 2) == 0) = false := by rw [beq_eq_false_iff_ne]; omega
          go_enter Try.func92, Try.ntmps92
          go_wp2_with fail
          go_ret
          have e : ofN (turnN n hh) = [(1 : Int) + (hh : Int)] := by
            unfold turnN ofN
            rw [HM.out]
            rw [if_neg h0, if_neg h1, if_pos (by omega)]; simp; omega
          refine ⟨_, rfl, ?_, below_alloc w _⟩
          rw [e]
          exact Own.lit (B := w.heap.size) w 2 [vi ((1 : Int) + (hh : Int))] (Nat.le_refl _) (by simp [maxLen])
  · obtain ⟨m, hm⟩ : ∃ m, m = n - hh := ⟨_, rfl⟩
    have HM : Hid (spM n hh = m) := Lib.hid (by unfold spM; omega)
    have hmI : (n : Int) - (hh : Int) = (m : Int) := by omega
    have hhm : hh + m = n := by omega
    have hmn : 2 * m < n := by omega
    clear hm
    by_cases h0 : m = 0
    · have h0B : ((m : Int) == 0) = true := by rw [beq_iff_eq]; omega
      by_cases h2 : n % 2 = 0
      · have h2B : (((n : Int) % 2) == 0) = true := by rw [beq_iff_eq]; omega
        go_enter Try.func92, Try.ntmps92
        go_wp2_with fail
        go_ret
        have e : ofN (turnN n hh) = [0, 1] := by
          unfold turnN ofN
          rw [HM.out]
          rw [if_pos h0]; rfl
        refine ⟨_, rfl, ?_, below_alloc w _⟩
        rw [e]
        exact Own.lit (B := w.heap.size) w 2 [vi 0, vi 1] (Nat.le_refl _) (by simp [maxLen])
      · have h2B : (((n : Int) % 2) == 0) = false := by rw [beq_eq_false_iff_ne]; omega
        go_enter Try.func92, Try.ntmps92
        go_wp2_with fail
        go_ret
        have e : ofN (turnN n hh) = [0, 1] := by
          unfold turnN ofN
          rw [HM.out]
          rw [if_pos h0]; rfl
        refine ⟨_, rfl, ?_, below_alloc w _⟩
        rw [e]
        exact Own.lit (B := w.heap.size) w 2 [vi 0, vi 1] (Nat.le_refl _) (by simp [maxLen])
    · have h0B : ((m : Int) == 0) = false := by rw [beq_eq_false_iff_ne]; omega
      have h1 : ¬ 2 * m = n := by omega
      have h1B : (((2 : Int) * (m : Int)) == (n : Int)) = false := by rw [beq_eq_false_iff_ne]; omega
      by_cases h2 : n % 2 = 0
      · have h2B : (((n : Int) % 2) == 0) = true := by rw [beq_iff_eq]; omega
        go_enter Try.func92, Try.ntmps92
        go_wp2_with fail
        go_ret
        have e : ofN (turnN n hh) = [(3 : Int) + (m : Int)] := by
          unfold turnN ofN
          rw [HM.out]
          rw [if_neg h0, if_neg h1, if_neg (by omega)]; simp; omega
        refine ⟨_, rfl, ?_, below_alloc w _⟩
        rw [e]
        exact Own.lit (B := w.heap.size) w 2 [vi ((3 : Int) + (m : Int))] (Nat.le_refl _) (by simp [maxLen])
      · have h2B : (((n : Int) % 2) == 0) = false := by rw [beq_eq_false_iff_ne]; omega
        go_enter Try.func92, Try.ntmps92
        go_wp2_with fail
        go_ret
        have e : ofN (turnN n hh) = [(1 : Int) + (m : Int)] := by
          unfold turnN ofN
          rw [HM.out]
          rw [if_neg h0, if_neg h1, if_pos (by omega)]; simp; omega
        refine ⟨_, rfl, ?_, below_alloc w _⟩
        rw [e]
        exact Own.lit (B := w.heap.size) w 2 [vi ((1 : Int) + (m : Int))] (Nat.le_refl _) (by simp [maxLen])
/-! increments -/
def incs (f : Nat → Nat → Nat → Int) (a b : Nat) (xs : List Nat) (A B K : Nat) : Int := f A B K + (if A = a ∧ B = b then ((xs.count K : Nat) : Int) else 0)
theorem incs_nil (f : Nat → Nat → Nat → Int) (a b : Nat) : incs f a b [] = f := by
  funext A B K; unfold incs; simp
theorem inc1 (f : Nat → Nat → Nat → Int) (a b x : Nat) (xs : List Nat) : upd3 (incs f a b xs) a b x (incs f a b xs a b x + 1) = incs f a b (xs ++ [x]) := by
  funext A B K
  show (if A = a ∧ B = b ∧ K = x then incs f a b xs a b x + 1 else incs f a b xs A B K) = incs f a b (xs ++ [x]) A B K
  by_cases h : A = a ∧ B = b ∧ K = x
  · obtain ⟨rfl, rfl, rfl⟩ := h
    rw [if_pos ⟨rfl, rfl, rfl⟩]
    unfold incs
    rw [if_pos ⟨rfl, rfl⟩, if_pos ⟨rfl, rfl⟩, List.count_append, cnt_one, if_pos rfl]
    omega
  · rw [if_neg h]
    unfold incs
    by_cases e : A = a ∧ B = b
    · rw [if_pos e, if_pos e, List.count_append, cnt_one, if_neg (fun e2 => h ⟨e.1, e.2, e2⟩)]
      omega
    · rw [if_neg e, if_neg e]
theorem inc2 (f : Nat → Nat → Nat → Int) (a b c d x : Nat) (ys : List Nat) (h : ¬ (a = c ∧ b = d)) : upd3 (incs f c d ys) a b x (incs f c d ys a b x + 1) = incs (upd3 f a b x (f a b x + 1)) c d ys := by
  funext A B K
  show (if A = a ∧ B = b ∧ K = x then incs f c d ys a b x + 1 else incs f c d ys A B K) = (if A = a ∧ B = b ∧ K = x then f a b x + 1 else f A B K) + (if A = c ∧ B = d then ((ys.count K : Nat) : Int) else 0)
  by_cases e : A = a ∧ B = b ∧ K = x
  · obtain ⟨rfl, rfl, rfl⟩ := e
    rw [if_pos ⟨rfl, rfl, rfl⟩, if_pos ⟨rfl, rfl, rfl⟩]
    unfold incs
    rw [if_neg h]
    omega
  · rw [if_neg e, if_neg e]
    rfl
/-- what is told so far: columns and rows below v, of v those below a; of v and the others those below u -/
def stE (S : Nat) (F : Nat → Nat → Nat → Int) (v a u : Nat) (A B K : Nat) : Int :=
  if A < S ∧ B < S then F A B K else if A < S then (if B < v ∨ (B = v ∧ A < a) then F A B K else 0) else if B < S then (if A < v ∨ (A = v ∧ B < a) then F A B K else 0) else (if A < v ∨ (A = v ∧ B < u) then F A B K else 0)
theorem st_turn (L S : Nat) (F : Nat → Nat → Nat → Int) (v : Nat) : cub L (stE S F v S L) = cub L (stE S F (v + 1) 0 S) := by
  refine cub_congr fun A B K _ hB _ => ?_
  unfold stE
  by_cases h1 : A < S ∧ B < S
  · rw [if_pos h1, if_pos h1]
  · rw [if_neg h1, if_neg h1]
    by_cases h2 : A < S
    · rw [if_pos h2, if_pos h2]
      by_cases h3 : B < v ∨ (B = v ∧ A < S)
      · have h4 : B < v + 1 ∨ (B = v + 1 ∧ A < 0) := by omega
        rw [if_pos h3, if_pos h4]
      · have h4 : ¬ (B < v + 1 ∨ (B = v + 1 ∧ A < 0)) := by omega
        rw [if_neg h3, if_neg h4]
    · rw [if_neg h2, if_neg h2]
      by_cases h5 : B < S
      · rw [if_pos h5, if_pos h5]
        by_cases h3 : A < v ∨ (A = v ∧ B < S)
        · have h4 : A < v + 1 ∨ (A = v + 1 ∧ B < 0) := by omega
          rw [if_pos h3, if_pos h4]
        · have h4 : ¬ (A < v + 1 ∨ (A = v + 1 ∧ B < 0)) := by omega
          rw [if_neg h3, if_neg h4]
      · rw [if_neg h5, if_neg h5]
        by_cases h3 : A < v ∨ (A = v ∧ B < L)
        · have h4 : A < v + 1 ∨ (A = v + 1 ∧ B < S) := by omega
          rw [if_pos h3, if_pos h4]
        · have h4 : ¬ (A < v + 1 ∨ (A = v + 1 ∧ B < S)) := by omega
          rw [if_neg h3, if_neg h4]
theorem st_done (L S : Nat) (F : Nat → Nat → Nat → Int) : cub L (stE S F L 0 S) = cub L F := by
  refine cub_congr fun A B K hA hB _ => ?_
  unfold stE
  split
  · rfl
  · split
    · rw [if_pos (by omega)]
    · split
      · rw [if_pos (by omega)]
      · rw [if_pos (by omega)]
theorem st_pair {L S : Nat} {F : Nat → Nat → Nat → Int} {v a : Nat} {xs : List Nat} (ha : a < S) (hv : S ≤ v) (h1 : ∀ K, F a v K = ((xs.count K : Nat) : Int)) (h2 : ∀ K, F v a K = ((xs.count K : Nat) : Int)) :
    cub L (incs (incs (stE S F v a S) a v xs) v a xs) = cub L (stE S F v (a + 1) S) := by
  refine cub_congr fun A B K hA hB _ => ?_
  unfold incs
  by_cases e1 : A = a ∧ B = v
  · obtain ⟨rfl, rfl⟩ := e1
    rw [if_pos ⟨rfl, rfl⟩, if_neg (by omega)]
    unfold stE
    rw [if_neg (by omega), if_pos ha, if_neg (by omega), if_neg (by omega), if_pos ha, if_pos (by omega), h1]
    omega
  · rw [if_neg e1]
    by_cases e2 : A = v ∧ B = a
    · obtain ⟨rfl, rfl⟩ := e2
      rw [if_pos ⟨rfl, rfl⟩]
      unfold stE
      rw [if_neg (by omega), if_neg (by omega), if_pos ha, if_neg (by omega), if_neg (by omega), if_neg (by omega), if_pos ha, if_pos (by omega), h2]
      omega
    · rw [if_neg e2]
      unfold stE
      by_cases h1 : A < S ∧ B < S
      · rw [if_pos h1, if_pos h1]; omega
      · rw [if_neg h1, if_neg h1]
        by_cases h2 : A < S
        · rw [if_pos h2, if_pos h2]
          by_cases h3 : B < v ∨ (B = v ∧ A < a)
          · have h4 : B < v ∨ (B = v ∧ A < a + 1) := by omega
            rw [if_pos h3, if_pos h4]; omega
          · have h4 : ¬ (B < v ∨ (B = v ∧ A < a + 1)) := by omega
            rw [if_neg h3, if_neg h4]; omega
        · rw [if_neg h2, if_neg h2]
          by_cases h5 : B < S
          · rw [if_pos h5, if_pos h5]
            by_cases h3 : A < v ∨ (A = v ∧ B < a)
            · have h4 : A < v ∨ (A = v ∧ B < a + 1) := by omega
              rw [if_pos h3, if_pos h4]; omega
            · have h4 : ¬ (A < v ∨ (A = v ∧ B < a + 1)) := by omega
              rw [if_neg h3, if_neg h4]; omega
          · rw [if_neg h5, if_neg h5]; omega
theorem st_own {L S : Nat} {F : Nat → Nat → Nat → Int} {v u : Nat} {xs : List Nat} (hu : S ≤ u) (hv : S ≤ v) (h1 : ∀ K, F v u K = ((xs.count K : Nat) : Int)) :
    cub L (incs (stE S F v S u) v u xs) = cub L (stE S F v S (u + 1)) := by
  refine cub_congr fun A B K hA hB _ => ?_
  unfold incs
  by_cases e1 : A = v ∧ B = u
  · obtain ⟨rfl, rfl⟩ := e1
    rw [if_pos ⟨rfl, rfl⟩]
    unfold stE
    rw [if_neg (by omega), if_neg (by omega), if_neg (by omega), if_neg (by omega), if_neg (by omega), if_neg (by omega), if_neg (by omega), if_pos (by omega), h1]
    omega
  · rw [if_neg e1]
    unfold stE
    by_cases h1 : A < S ∧ B < S
    · rw [if_pos h1, if_pos h1]; omega
    · rw [if_neg h1, if_neg h1]
      by_cases h2 : A < S
      · rw [if_pos h2, if_pos h2]; omega
      · rw [if_neg h2, if_neg h2]
        by_cases h5 : B < S
        · rw [if_pos h5, if_pos h5]; omega
        · rw [if_neg h5, if_neg h5]
          by_cases h3 : A < v ∨ (A = v ∧ B < u)
          · have h4 : A < v ∨ (A = v ∧ B < u + 1) := by omega
            rw [if_pos h3, if_pos h4]; omega
          · have h4 : ¬ (A < v ∨ (A = v ∧ B < u + 1)) := by omega
            rw [if_neg h3, if_neg h4]; omega
theorem dgF_bd (n S i j k : Nat) : 0 ≤ dgF n S i j k ∧ dgF n S i j k ≤ 2000 := by
  unfold dgF
  split
  · split <;> omega
  · split
    · have := spF_bd n (if i < 2 then j + 1 - S else df (n / 2) (j + 1 - S)) k; omega
    · split
      · have := spF_bd n (if j < 2 then i + 1 - S else df (n / 2) (i + 1 - S)) k; omega
      · have := spF_bd n ((i + 1 - S) + (j + 1 - S)) k
        have := spF_bd n (df (i + 1 - S) (j + 1 - S)) k
        omega
theorem stE_bd {S n v a u A B K : Nat} : 0 ≤ stE S (dgF n S) v a u A B K ∧ stE S (dgF n S) v a u A B K ≤ 2000 := by
  have := dgF_bd n S A B K
  unfold stE
  (repeat' split) <;> omega
theorem incs_bd {f : Nat → Nat → Nat → Int} {a b A B K : Nat} {xs : List Nat} {c : Int} (h : 0 ≤ f A B K ∧ f A B K ≤ c) (hx : xs.length ≤ 10) : 0 ≤ incs f a b xs A B K ∧ incs f a b xs A B K ≤ c + 10 := by
  unfold incs
  have h1 : xs.count K ≤ xs.length := List.count_le_length
  split <;> omega
end Go.Proofs.Ytnhdnogcglmjdaa
