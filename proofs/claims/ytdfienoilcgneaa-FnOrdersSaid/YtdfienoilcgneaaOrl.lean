/- The law on orders, logarithms and square roots: it returns true. -/
import Derived.Test.YtdfienoilcgneaaOrd
namespace Go.Proofs.Ytdfienoilcgneaa
open Go.RowKit

theorem c_DrawLogarithmOf (q : Value) (bs : List Int) (w : World) (hq : Bytes w q bs) (hl : bs.length ≤ 4096) :
    Calls Try.prog 5 #[q] w fun e w' => ∃ a : Int, e = .returned (.int .i64 a) ∧ Below w.heap.size w w' := by
  have HQ := Lib.hid hq
  clear hq
  go_enter Try.func5, Try.ntmps5
  go_wp2_with fail
  refine (c_l01From q bs _ HQ.out hl).mono ?_
  rintro e w1 ⟨v, rfl, hs, hb⟩
  have HS := Lib.hid hs
  have HB := Lib.hid hb
  clear hs hb
  go_wp2_with fail
  refine (c_l01Spoil v _ _ _ HS.out).mono ?_
  rintro e w2 ⟨x, rfl, hs2, hb2⟩
  have HB2 := Lib.hid (HB.out.trans hb2)
  clear hs2 hb2
  go_wp2_with fail
  go_ret
  exact ⟨_, rfl, HB2.out⟩
theorem c_DrawRootOfUnity (q : Value) (bs : List Int) (w : World) (hq : Bytes w q bs) (hl : bs.length ≤ 4096) :
    Calls Try.prog 12 #[q] w fun e w' => ∃ a : Int, e = .returned (.int .i64 a) ∧ Below w.heap.size w w' := by
  have HQ := Lib.hid hq
  clear hq
  go_enter Try.func12, Try.ntmps12
  go_wp2_with fail
  refine (c_l01From q bs _ HQ.out hl).mono ?_
  rintro e w1 ⟨v, rfl, hs, hb⟩
  have HS := Lib.hid hs
  have HB := Lib.hid hb
  clear hs hb
  go_wp2_with fail
  refine (c_next v 60 _ _ _ HS.out (by omega) (by omega)).mono ?_
  rintro e w2 ⟨x1, rfl, hx1, hx1', hs, hb⟩
  have HS := Lib.hid hs
  have HB := Lib.hid (HB.out.trans hb)
  clear hs hb
  go_wp2_with fail
  refine (c_pick v _ [1 + x1, 55440, 5040, 720, 0, -2, 13, 55441] _ _ _ HS.out (by simp) (by simp)).mono ?_
  rintro e w5 ⟨p, rfl, _, hs, hb⟩
  have HB := Lib.hid (HB.out.trans hb)
  clear hs hb
  go_wp2_with fail
  go_ret
  exact ⟨_, rfl, HB.out⟩
theorem c_DrawSquareRoot (q : Value) (bs : List Int) (w : World) (hq : Bytes w q bs) (hl : bs.length ≤ 4096) :
    Calls Try.prog 15 #[q] w fun e w' => ∃ a : Int, e = .returned (.int .i64 a) ∧ Below w.heap.size w w' := by
  have HQ := Lib.hid hq
  clear hq
  go_enter Try.func15, Try.ntmps15
  go_wp2_with fail
  refine (c_l01From q bs _ HQ.out hl).mono ?_
  rintro e w1 ⟨v, rfl, hs, hb⟩
  have HS := Lib.hid hs
  have HB := Lib.hid hb
  clear hs hb
  go_wp2_with fail
  refine (c_l01Spoil v _ _ _ HS.out).mono ?_
  rintro e w2 ⟨x, rfl, hs2, hb2⟩
  have HS := Lib.hid hs2
  have HB := Lib.hid (HB.out.trans hb2)
  clear hs2 hb2
  go_wp2_with fail
  refine (c_l01Number x _).mono ?_
  rintro e w3 ⟨rfl, rfl⟩
  cases hx : isNum x
  · go_wp2_with fail
    go_ret
    exact ⟨_, rfl, HB.out⟩
  · obtain ⟨hx1, hx2⟩ := isNum_true hx
    obtain ⟨hp1, hp2⟩ := prod_bd hx1 hx2 hx1 hx2
    clear hx
    go_wp2_with fail
    refine (c_next v 2 _ _ _ HS.out (by omega) (by omega)).mono ?_
    rintro e w4 ⟨x1, rfl, hx1, hx1', hs, hb⟩
    have HB := Lib.hid (HB.out.trans hb)
    clear hs hb
    by_cases h0 : x1 = 0
    · go_wp2_with fail
      go_ret
      exact ⟨_, rfl, HB.out⟩
    · have h0B : (x1 == 0) = false := by rw [beq_eq_false_iff_ne]; exact h0
      go_wp2_with fail
      go_ret
      exact ⟨_, rfl, HB.out⟩
/-! what the results say -/
theorem log_facts {a K C1 : Int} (h : logNum a = (K, C1)) (h1 : C1 = 0) : ∃ k o P : Nat, K = k ∧ ordNum a = ((o : Int), 0) ∧ powN 38 K = (a, 0) ∧ k < 55440 ∧ 1 ≤ o ∧ o ≤ 55440 ∧ k * o = P ∧ P % 55440 = 0 ∧
    ∀ p, p = 2 ∨ p = 3 ∨ p = 5 ∨ p = 7 ∨ p = 11 → o % p = 0 → k * (o / p) % 55440 ≠ 0 := by
  subst h1
  unfold logNum at h
  split at h
  · rename_i hn
    obtain ⟨hn1, hn2⟩ := isNum_true hn
    split at h
    · cases h
    · rename_i h0
      have e : ilog a = K := congrArg Prod.fst h
      obtain ⟨n, rfl⟩ : ∃ n : Nat, a = n := ⟨a.toNat, by omega⟩
      have l := Fus.log_ord n (by omega) (by omega)
      obtain ⟨s1, s2, _⟩ := Fus.logN_spec n (by omega) (by omega)
      have hb := Fus.ordN_bd n
      refine ⟨Fus.logN n, Fus.ordN n, Fus.logN n * Fus.ordN n, by rw [← e]; unfold ilog; simp, by unfold ordNum; rw [if_pos hn, if_neg h0, iord_eq]; simp, ?_, s1, hb.1, hb.2, rfl, l.1, l.2⟩
      have ek : K = (Fus.logN n : Nat) := by rw [← e]; unfold ilog; simp
      rw [powN_ok (by rfl) (by omega) (by omega) (by omega)]
      unfold zpw
      rw [if_neg (by omega), ipw_eq, ek]
      simp only [Int.toNat_natCast]
      rw [show (38 : Int).toNat = 38 from rfl, s2]
  · cases h
theorem root_facts {n R C5 : Int} (h : rootN n = (R, C5)) (h5 : C5 = 0) : ordNum R = (n, 0) := by
  subst h5
  unfold rootN at h
  split at h
  · cases h
  · rename_i hn
    split at h
    · rename_i ho
      have e : iroot n = R := congrArg Prod.fst h
      obtain ⟨m, rfl⟩ : ∃ m : Nat, n = m := ⟨n.toNat, by omega⟩
      unfold isOrd at ho
      simp at ho
      have hd : m ∣ 55440 := by
        have h1 := ho.2
        have h2 : ((55440 % m : Nat) : Int) = 0 := h1
        exact Nat.dvd_of_mod_eq_zero (by omega)
      have hm : 1 ≤ m := by omega
      have hr : R = (Fus.pw 38 (55440 / m) : Nat) := by
        rw [← e]; unfold iroot
        rw [ipw_eq]
        rw [show (38 : Int).toNat = 38 from rfl, show ((55440 : Int) / (m : Int)).toNat = 55440 / m from rfl]
      have hp := Fus.pw38_pos (55440 / m)
      have hl := Fus.pw_lt 38 (55440 / m)
      unfold ordNum
      rw [if_pos (by rw [hr]; simp [isNum, inR]; omega), if_neg (by omega), iord_eq, hr]
      simp only [Int.toNat_natCast]
      rw [Fus.ord_root hm hd]
    · cases h
theorem rootF_some {b : Int} (h : 0 ≤ Fus.rootF b) : Fus.rootF b * Fus.rootF b % 55441 = b ∧ Fus.rootF b ≤ 27720 := by
  refine ⟨?_, (Fus.rootF_bd b).2⟩
  unfold Fus.rootF at *
  rcases Fus.least_cases (Fus.isRoot b) 27721 with ⟨k, hk, hp, _, e⟩ | ⟨_, e⟩
  · rw [e]
    unfold Fus.isRoot at hp
    exact of_decide_eq_true hp
  · rw [e] at h
    simp at h
theorem rootF_none {b : Int} (h : Fus.rootF b < 0) : ∀ s : Nat, s < 55441 → (s : Int) * s % 55441 ≠ b := by
  intro s hs
  rw [Fus.rootF_full] at h
  rcases Fus.least_cases (Fus.isRoot b) 55441 with ⟨k, hk, hp, _, e⟩ | ⟨hn, e⟩
  · rw [e] at h
    simp at h
    omega
  · have h1 := hn s hs
    unfold Fus.isRoot at h1
    exact of_decide_eq_false h1
theorem sq_facts {b X C8 : Int} (h : sqrtN b = (X, C8)) :
    (C8 = 0 ∧ ∃ x P : Nat, X = x ∧ x ≤ 27720 ∧ x * x = P ∧ P ≤ 27720 * 27720 ∧ (P : Int) % 55441 = b ∧ (logNum b = (0, 5) ∨ ∃ l : Nat, logNum b = ((l : Int), 0) ∧ l < 55440 ∧ l % 2 = 0)) ∨
    (C8 = 4 ∧ ∃ l : Nat, logNum b = ((l : Int), 0) ∧ l < 55440 ∧ l % 2 = 1) ∨ C8 = 2 := by
  unfold sqrtN at h
  split at h
  · rename_i hn
    obtain ⟨hn1, hn2⟩ := isNum_true hn
    obtain ⟨n, rfl⟩ : ∃ n : Nat, b = n := ⟨b.toNat, by omega⟩
    have hlog : n ≠ 0 → logNum n = (((Fus.logN n : Nat) : Int), (0 : Int)) := fun h0 => by
      unfold logNum
      rw [if_pos hn, if_neg (by omega)]
      unfold ilog
      simp
    split at h
    · rename_i hr
      cases h
      have hno := rootF_none hr
      have h0 : n ≠ 0 := fun e => hno 0 (by omega) (by subst e; rfl)
      obtain ⟨s1, s2, _⟩ := Fus.logN_spec n (by omega) (by omega)
      refine .inr (.inl ⟨rfl, Fus.logN n, hlog h0, s1, ?_⟩)
      rcases Nat.mod_two_eq_zero_or_one (Fus.logN n) with e | e
      · exfalso
        have h1 := Fus.even_root (a := n) (by omega) (by omega) e
        refine hno (Fus.pw 38 (Fus.logN n / 2)) (Fus.pw_lt _ _) ?_
        rw [← Int.natCast_mul]
        generalize Fus.pw 38 (Fus.logN n / 2) * Fus.pw 38 (Fus.logN n / 2) = z at h1 ⊢
        omega
      · exact e
    · rename_i hr
      cases h
      obtain ⟨q1, q2⟩ := rootF_some (show 0 ≤ Fus.rootF n by omega)
      obtain ⟨x, hx⟩ : ∃ x : Nat, Fus.rootF n = x := ⟨(Fus.rootF n).toNat, by omega⟩
      rw [hx] at q1 q2 ⊢
      have hP : ((x * x : Nat) : Int) % 55441 = n := by rw [Int.natCast_mul]; exact q1
      refine .inl ⟨rfl, x, x * x, rfl, by omega, rfl, Nat.mul_le_mul (by omega) (by omega), hP, ?_⟩
      by_cases h0 : n = 0
      · left
        subst h0
        unfold logNum
        rw [if_pos hn, if_pos (by rfl : ((0 : Nat) : Int) = 0)]
      · right
        obtain ⟨s1, s2, _⟩ := Fus.logN_spec n (by omega) (by omega)
        exact ⟨Fus.logN n, hlog h0, s1, Fus.root_even (s := x) (by omega) (by omega) (by omega) (by omega)⟩
  · cases h
    exact .inr (.inr rfl)
set_option maxRecDepth 100000 in
set_option maxHeartbeats 0 in
theorem w_FnOrders (u : Value) (bs : List Int) (w : World) (hu : Bytes w u bs) :
    Calls Try.prog 3 #[u] w fun e w' => e = .returned (.bool true) ∧ Below w.heap.size w w' := by
  have HU := Lib.hid hu
  obtain ⟨ap, cp, rfl, _, _⟩ := hu
  by_cases hl : bs.length ≤ 4096
  case neg =>
    have HDB : Hid (decide (4096 < (bs.length : Int)) = true) := Lib.hid (decide_eq_true (by omega))
    go_enter Try.func3, Try.ntmps3
    go_wp2_with fail
    refine (c_big _ bs _ HU.out).mono ?_
    rintro e w1 ⟨rfl, rfl⟩
    rw [HDB.out]
    go_wp2_with fail
    go_ret
    exact ⟨rfl, Below.refl _ _⟩
  have HDB : Hid (decide (4096 < (bs.length : Int)) = false) := Lib.hid (decide_eq_false (by omega))
  go_enter Try.func3, Try.ntmps3
  go_wp2_with fail
  refine (c_big _ bs _ HU.out).mono ?_
  rintro e w1 ⟨rfl, rfl⟩
  rw [HDB.out]
  go_wp2_with fail
  refine (c_DrawLogarithmOf _ bs _ HU.out hl).mono ?_
  rintro e w1 ⟨a, rfl, hb⟩
  have HB := Lib.hid hb
  clear hb
  obtain ⟨⟨K, C1⟩, hd⟩ : ∃ r, logNum a = r := ⟨_, rfl⟩
  have HD := Lib.hid hd
  clear hd
  obtain ⟨⟨O, C3⟩, he⟩ : ∃ r, ordNum a = r := ⟨_, rfl⟩
  have HE := Lib.hid he
  clear he
  go_wp2_with fail
  refine (c_LogarithmOf a _).mono ?_
  rintro e w2 ⟨rfl, hb⟩
  rw [HD.out]
  unfold two
  have HB := Lib.hid (HB.out.trans (hb.mono HB.out.size))
  clear hb
  go_wp2_with fail
  refine (c_SLogarithmOf a _).mono ?_
  rintro e w3 ⟨rfl, hb⟩
  rw [HD.out]
  unfold two
  have HB := Lib.hid (HB.out.trans (hb.mono HB.out.size))
  clear hb
  go_wp2_with fail
  refine (c_OrderOfNumber a _).mono ?_
  rintro e w4 ⟨rfl, hb⟩
  rw [HE.out]
  unfold two
  have HB := Lib.hid (HB.out.trans (hb.mono HB.out.size))
  clear hb
  go_wp2_with fail
  refine (c_SOrderOfNumber a _).mono ?_
  rintro e w5 ⟨rfl, hb⟩
  rw [HE.out]
  unfold two
  have HB := Lib.hid (HB.out.trans (hb.mono HB.out.size))
  clear hb
  go_wp2_with fail
  refine (c_PrimitiveNumber _).mono ?_
  rintro e w6 ⟨rfl, rfl⟩
  go_wp2_with fail
  refine (c_SPrimitiveNumber _).mono ?_
  rintro e w6 ⟨rfl, hb⟩
  have HB := Lib.hid (HB.out.trans (hb.mono HB.out.size))
  clear hb
  go_wp2_with fail
  refine (c_DrawRootOfUnity _ bs _ (HU.out.keep HB.out) hl).mono ?_
  rintro e w7 ⟨n, rfl, hb⟩
  have HB := Lib.hid (HB.out.trans (hb.mono HB.out.size))
  clear hb
  obtain ⟨⟨R, C5⟩, hr⟩ : ∃ r, rootN n = r := ⟨_, rfl⟩
  have HR := Lib.hid hr
  clear hr
  go_wp2_with fail
  refine (c_RootOfUnity n _).mono ?_
  rintro e w11 ⟨rfl, rfl⟩
  rw [HR.out]
  unfold two
  go_wp2_with fail
  refine (c_SRootOfUnity n _).mono ?_
  rintro e w12 ⟨rfl, hb⟩
  rw [HR.out]
  unfold two
  have HB := Lib.hid (HB.out.trans (hb.mono HB.out.size))
  clear hb
  by_cases h5 : C5 = 0
  · have HOR := Lib.hid (root_facts HR.out h5)
    subst h5
    go_wp2_with fail
    refine (c_OrderOfNumber R _).mono ?_
    rintro e w13 ⟨rfl, hb⟩
    rw [HOR.out]
    unfold two
    have HB := Lib.hid (HB.out.trans (hb.mono HB.out.size))
    clear hb
    go_wp2_with fail
    refine (c_DrawSquareRoot _ bs _ (HU.out.keep HB.out) hl).mono ?_
    rintro e w8 ⟨b, rfl, hb⟩
    have HB := Lib.hid (HB.out.trans (hb.mono HB.out.size))
    clear hb
    obtain ⟨⟨X, C8⟩, hs⟩ : ∃ r, sqrtN b = r := ⟨_, rfl⟩
    have HS := Lib.hid hs
    clear hs
    go_wp2_with fail
    refine (c_SquareRoot b _).mono ?_
    rintro e w11 ⟨rfl, rfl⟩
    rw [HS.out]
    unfold two
    go_wp2_with fail
    refine (c_SSquareRoot b _).mono ?_
    rintro e w11 ⟨rfl, rfl⟩
    rw [HS.out]
    unfold two
    rcases sq_facts HS.out with ⟨rfl, x, Pq, rfl, hx, hxx, hPq, hb0, hlog⟩ | ⟨rfl, l, hlog, hl1, hl2⟩ | rfl
    · have hxI : (x : Int) * (x : Int) = (Pq : Int) := by rw [← hxx]; exact (Int.natCast_mul _ _).symm
      clear hxx
      have HB0 := Lib.hid hb0
      have HLOG := Lib.hid hlog
      clear hb0 hlog
      go_wp2_with fail
      refine (c_mod5 _ _).mono ?_
      rintro e w11 ⟨rfl, rfl⟩
      rw [HB0.out]
      go_wp2_with fail
      refine (c_LogarithmOf b _).mono ?_
      rcases HLOG.out with hlog | ⟨l, hlog, hl1, hl2⟩
      · rw [hlog]
        unfold two
        rintro e w9 ⟨rfl, hb⟩
        have HB := Lib.hid (HB.out.trans (hb.mono HB.out.size))
        clear hb
        clear hlog
        by_cases h1 : C1 = 0
        · obtain ⟨k, o, P, rfl, hO, hpw, hk, ho1, ho2, hP, hP0, hfac⟩ := log_facts HD.out h1
          rw [HE.out] at hO
          cases hO
          subst h1
          have HPW := Lib.hid hpw
          have HFAC := Lib.hid hfac
          have hPb : P ≤ 55440 * 55440 := by rw [← hP]; exact Nat.mul_le_mul (by omega) ho2
          have hPI : (k : Int) * (o : Int) = (P : Int) := by rw [← hP]; exact (Int.natCast_mul _ _).symm
          have hPB : (((P : Int) % 55440) != 0) = false := by rw [bne_eq_false_iff_eq]; omega
          clear hP hpw hfac
          go_wp2_with fail
          refine (c_PowerNumber 38 k _).mono ?_
          rintro e w20 ⟨rfl, rfl⟩
          rw [HPW.out]
          unfold two
          go_wp2_with fail
          have HBC := Lib.hid (below_alloc w9 (.cells #[.int .i64 2, .int .i64 3, .int .i64 5, .int .i64 7, .int .i64 11] 2))
          have HC := Lib.hid (ordP_cell w9 2)
          go_loop [30] (fun i => ∃ j : Nat, j ≤ 5 ∧ i = .int .i64 j) (fun i => 5 - (intOf i).toNat)
          case atStart => exact ⟨0, Nat.zero_le _, rfl⟩
          case round =>
            obtain ⟨j, hj, rfl⟩ := hrel
            by_cases hlt : j < 5
            · obtain ⟨p, hp⟩ : ∃ p : Nat, ordP[j]? = some (p : Int) ∧ (p = 2 ∨ p = 3 ∨ p = 5 ∨ p = 7 ∨ p = 11) := by
                match j, hlt with
                | 0, _ => exact ⟨2, rfl, by omega⟩
                | 1, _ => exact ⟨3, rfl, by omega⟩
                | 2, _ => exact ⟨5, rfl, by omega⟩
                | 3, _ => exact ⟨7, rfl, by omega⟩
                | 4, _ => exact ⟨11, rfl, by omega⟩
                | j + 5, h => omega
              have hcell := HC.out j _ hp.1
              have hp0 : 2 ≤ p := by omega
              have hp1 : p ≤ 11 := by omega
              obtain ⟨r, hr⟩ : ∃ r, r = o % p := ⟨_, rfl⟩
              obtain ⟨d, hd⟩ : ∃ d, d = o / p := ⟨_, rfl⟩
              obtain ⟨Q, hQ⟩ : ∃ Q, Q = k * d := ⟨_, rfl⟩
              have f1 : (o : Int).tmod (p : Int) = (r : Int) := by rw [hr]; rfl
              have f2 : (o : Int).tdiv (p : Int) = (d : Int) := by rw [hd]; rfl
              have f3 : (k : Int) * (d : Int) = (Q : Int) := by rw [hQ]; exact (Int.natCast_mul _ _).symm
              have hdo : d ≤ o := by rw [hd]; exact Nat.div_le_self _ _
              have hQb : Q ≤ 55440 * 55440 := by rw [hQ]; exact Nat.mul_le_mul (by omega) (by omega)
              have hrl : r ≤ o := by rw [hr]; exact Nat.mod_le _ _
              have hQ0 : r = 0 → Q % 55440 ≠ 0 := fun h => by rw [hQ, hd]; exact HFAC.out p hp.2 (by rw [← hr]; exact h)
              clear hr hd hQ hp
              by_cases hr0 : r = 0
              · have hQ1 := hQ0 hr0
                subst hr0
                have hQB : (((Q : Int) % 55440) == 0) = false := by rw [beq_eq_false_iff_ne]; omega
                clear hQ0
                go_wp2_with fail
                go_round
                case rel => exact ⟨j + 1, by omega, by go_num⟩
                case measure => simp [intOf]; omega
              · have hrB : ((r : Int) == 0) = false := by rw [beq_eq_false_iff_ne]; omega
                clear hQ0
                go_wp2_with fail
                go_round
                case rel => exact ⟨j + 1, by omega, by go_num⟩
                case measure => simp [intOf]; omega
            · obtain rfl : j = 5 := by omega
              go_wp2_with fail
              go_ret
              exact ⟨rfl, (HB.out.trans (HBC.out.mono HB.out.size))⟩
        · have h1B : (C1 != 0) = true := by rw [bne_iff_ne]; exact h1
          have h1C : (C1 == 0) = false := by rw [beq_eq_false_iff_ne]; exact h1
          go_wp2_with fail
          go_ret
          exact ⟨rfl, HB.out⟩
      · rw [hlog]
        unfold two
        rintro e w9 ⟨rfl, hb⟩
        have HB := Lib.hid (HB.out.trans (hb.mono HB.out.size))
        clear hb
        clear hlog
        have hlB : (((l : Int) % 2) == 0) = true := by rw [beq_iff_eq]; omega
        by_cases h1 : C1 = 0
        · obtain ⟨k, o, P, rfl, hO, hpw, hk, ho1, ho2, hP, hP0, hfac⟩ := log_facts HD.out h1
          rw [HE.out] at hO
          cases hO
          subst h1
          have HPW := Lib.hid hpw
          have HFAC := Lib.hid hfac
          have hPb : P ≤ 55440 * 55440 := by rw [← hP]; exact Nat.mul_le_mul (by omega) ho2
          have hPI : (k : Int) * (o : Int) = (P : Int) := by rw [← hP]; exact (Int.natCast_mul _ _).symm
          have hPB : (((P : Int) % 55440) != 0) = false := by rw [bne_eq_false_iff_eq]; omega
          clear hP hpw hfac
          go_wp2_with fail
          refine (c_PowerNumber 38 k _).mono ?_
          rintro e w20 ⟨rfl, rfl⟩
          rw [HPW.out]
          unfold two
          go_wp2_with fail
          have HBC := Lib.hid (below_alloc w9 (.cells #[.int .i64 2, .int .i64 3, .int .i64 5, .int .i64 7, .int .i64 11] 2))
          have HC := Lib.hid (ordP_cell w9 2)
          go_loop [30] (fun i => ∃ j : Nat, j ≤ 5 ∧ i = .int .i64 j) (fun i => 5 - (intOf i).toNat)
          case atStart => exact ⟨0, Nat.zero_le _, rfl⟩
          case round =>
            obtain ⟨j, hj, rfl⟩ := hrel
            by_cases hlt : j < 5
            · obtain ⟨p, hp⟩ : ∃ p : Nat, ordP[j]? = some (p : Int) ∧ (p = 2 ∨ p = 3 ∨ p = 5 ∨ p = 7 ∨ p = 11) := by
                match j, hlt with
                | 0, _ => exact ⟨2, rfl, by omega⟩
                | 1, _ => exact ⟨3, rfl, by omega⟩
                | 2, _ => exact ⟨5, rfl, by omega⟩
                | 3, _ => exact ⟨7, rfl, by omega⟩
                | 4, _ => exact ⟨11, rfl, by omega⟩
                | j + 5, h => omega
              have hcell := HC.out j _ hp.1
              have hp0 : 2 ≤ p := by omega
              have hp1 : p ≤ 11 := by omega
              obtain ⟨r, hr⟩ : ∃ r, r = o % p := ⟨_, rfl⟩
              obtain ⟨d, hd⟩ : ∃ d, d = o / p := ⟨_, rfl⟩
              obtain ⟨Q, hQ⟩ : ∃ Q, Q = k * d := ⟨_, rfl⟩
              have f1 : (o : Int).tmod (p : Int) = (r : Int) := by rw [hr]; rfl
              have f2 : (o : Int).tdiv (p : Int) = (d : Int) := by rw [hd]; rfl
              have f3 : (k : Int) * (d : Int) = (Q : Int) := by rw [hQ]; exact (Int.natCast_mul _ _).symm
              have hdo : d ≤ o := by rw [hd]; exact Nat.div_le_self _ _
              have hQb : Q ≤ 55440 * 55440 := by rw [hQ]; exact Nat.mul_le_mul (by omega) (by omega)
              have hrl : r ≤ o := by rw [hr]; exact Nat.mod_le _ _
              have hQ0 : r = 0 → Q % 55440 ≠ 0 := fun h => by rw [hQ, hd]; exact HFAC.out p hp.2 (by rw [← hr]; exact h)
              clear hr hd hQ hp
              by_cases hr0 : r = 0
              · have hQ1 := hQ0 hr0
                subst hr0
                have hQB : (((Q : Int) % 55440) == 0) = false := by rw [beq_eq_false_iff_ne]; omega
                clear hQ0
                go_wp2_with fail
                go_round
                case rel => exact ⟨j + 1, by omega, by go_num⟩
                case measure => simp [intOf]; omega
              · have hrB : ((r : Int) == 0) = false := by rw [beq_eq_false_iff_ne]; omega
                clear hQ0
                go_wp2_with fail
                go_round
                case rel => exact ⟨j + 1, by omega, by go_num⟩
                case measure => simp [intOf]; omega
            · obtain rfl : j = 5 := by omega
              go_wp2_with fail
              go_ret
              exact ⟨rfl, (HB.out.trans (HBC.out.mono HB.out.size))⟩
        · have h1B : (C1 != 0) = true := by rw [bne_iff_ne]; exact h1
          have h1C : (C1 == 0) = false := by rw [beq_eq_false_iff_ne]; exact h1
          go_wp2_with fail
          go_ret
          exact ⟨rfl, HB.out⟩
    · have HLOG := Lib.hid hlog
      clear hlog
      go_wp2_with fail
      refine (c_LogarithmOf b _).mono ?_
      rw [HLOG.out]
      unfold two
      rintro e w9 ⟨rfl, hb⟩
      have HB := Lib.hid (HB.out.trans (hb.mono HB.out.size))
      clear hb
      have hlB : (((l : Int) % 2) == 0) = false := by rw [beq_eq_false_iff_ne]; omega
      by_cases h1 : C1 = 0
      · obtain ⟨k, o, P, rfl, hO, hpw, hk, ho1, ho2, hP, hP0, hfac⟩ := log_facts HD.out h1
        rw [HE.out] at hO
        cases hO
        subst h1
        have HPW := Lib.hid hpw
        have HFAC := Lib.hid hfac
        have hPb : P ≤ 55440 * 55440 := by rw [← hP]; exact Nat.mul_le_mul (by omega) ho2
        have hPI : (k : Int) * (o : Int) = (P : Int) := by rw [← hP]; exact (Int.natCast_mul _ _).symm
        have hPB : (((P : Int) % 55440) != 0) = false := by rw [bne_eq_false_iff_eq]; omega
        clear hP hpw hfac
        go_wp2_with fail
        refine (c_PowerNumber 38 k _).mono ?_
        rintro e w20 ⟨rfl, rfl⟩
        rw [HPW.out]
        unfold two
        go_wp2_with fail
        have HBC := Lib.hid (below_alloc w9 (.cells #[.int .i64 2, .int .i64 3, .int .i64 5, .int .i64 7, .int .i64 11] 2))
        have HC := Lib.hid (ordP_cell w9 2)
        go_loop [30] (fun i => ∃ j : Nat, j ≤ 5 ∧ i = .int .i64 j) (fun i => 5 - (intOf i).toNat)
        case atStart => exact ⟨0, Nat.zero_le _, rfl⟩
        case round =>
          obtain ⟨j, hj, rfl⟩ := hrel
          by_cases hlt : j < 5
          · obtain ⟨p, hp⟩ : ∃ p : Nat, ordP[j]? = some (p : Int) ∧ (p = 2 ∨ p = 3 ∨ p = 5 ∨ p = 7 ∨ p = 11) := by
              match j, hlt with
              | 0, _ => exact ⟨2, rfl, by omega⟩
              | 1, _ => exact ⟨3, rfl, by omega⟩
              | 2, _ => exact ⟨5, rfl, by omega⟩
              | 3, _ => exact ⟨7, rfl, by omega⟩
              | 4, _ => exact ⟨11, rfl, by omega⟩
              | j + 5, h => omega
            have hcell := HC.out j _ hp.1
            have hp0 : 2 ≤ p := by omega
            have hp1 : p ≤ 11 := by omega
            obtain ⟨r, hr⟩ : ∃ r, r = o % p := ⟨_, rfl⟩
            obtain ⟨d, hd⟩ : ∃ d, d = o / p := ⟨_, rfl⟩
            obtain ⟨Q, hQ⟩ : ∃ Q, Q = k * d := ⟨_, rfl⟩
            have f1 : (o : Int).tmod (p : Int) = (r : Int) := by rw [hr]; rfl
            have f2 : (o : Int).tdiv (p : Int) = (d : Int) := by rw [hd]; rfl
            have f3 : (k : Int) * (d : Int) = (Q : Int) := by rw [hQ]; exact (Int.natCast_mul _ _).symm
            have hdo : d ≤ o := by rw [hd]; exact Nat.div_le_self _ _
            have hQb : Q ≤ 55440 * 55440 := by rw [hQ]; exact Nat.mul_le_mul (by omega) (by omega)
            have hrl : r ≤ o := by rw [hr]; exact Nat.mod_le _ _
            have hQ0 : r = 0 → Q % 55440 ≠ 0 := fun h => by rw [hQ, hd]; exact HFAC.out p hp.2 (by rw [← hr]; exact h)
            clear hr hd hQ hp
            by_cases hr0 : r = 0
            · have hQ1 := hQ0 hr0
              subst hr0
              have hQB : (((Q : Int) % 55440) == 0) = false := by rw [beq_eq_false_iff_ne]; omega
              clear hQ0
              go_wp2_with fail
              go_round
              case rel => exact ⟨j + 1, by omega, by go_num⟩
              case measure => simp [intOf]; omega
            · have hrB : ((r : Int) == 0) = false := by rw [beq_eq_false_iff_ne]; omega
              clear hQ0
              go_wp2_with fail
              go_round
              case rel => exact ⟨j + 1, by omega, by go_num⟩
              case measure => simp [intOf]; omega
          · obtain rfl : j = 5 := by omega
            go_wp2_with fail
            go_ret
            exact ⟨rfl, (HB.out.trans (HBC.out.mono HB.out.size))⟩
      · have h1B : (C1 != 0) = true := by rw [bne_iff_ne]; exact h1
        have h1C : (C1 == 0) = false := by rw [beq_eq_false_iff_ne]; exact h1
        go_wp2_with fail
        go_ret
        exact ⟨rfl, HB.out⟩
    · obtain ⟨w9, rfl⟩ : ∃ x, x = w8 := ⟨_, rfl⟩
      by_cases h1 : C1 = 0
      · obtain ⟨k, o, P, rfl, hO, hpw, hk, ho1, ho2, hP, hP0, hfac⟩ := log_facts HD.out h1
        rw [HE.out] at hO
        cases hO
        subst h1
        have HPW := Lib.hid hpw
        have HFAC := Lib.hid hfac
        have hPb : P ≤ 55440 * 55440 := by rw [← hP]; exact Nat.mul_le_mul (by omega) ho2
        have hPI : (k : Int) * (o : Int) = (P : Int) := by rw [← hP]; exact (Int.natCast_mul _ _).symm
        have hPB : (((P : Int) % 55440) != 0) = false := by rw [bne_eq_false_iff_eq]; omega
        clear hP hpw hfac
        go_wp2_with fail
        refine (c_PowerNumber 38 k _).mono ?_
        rintro e w20 ⟨rfl, rfl⟩
        rw [HPW.out]
        unfold two
        go_wp2_with fail
        have HBC := Lib.hid (below_alloc w9 (.cells #[.int .i64 2, .int .i64 3, .int .i64 5, .int .i64 7, .int .i64 11] 2))
        have HC := Lib.hid (ordP_cell w9 2)
        go_loop [30] (fun i => ∃ j : Nat, j ≤ 5 ∧ i = .int .i64 j) (fun i => 5 - (intOf i).toNat)
        case atStart => exact ⟨0, Nat.zero_le _, rfl⟩
        case round =>
          obtain ⟨j, hj, rfl⟩ := hrel
          by_cases hlt : j < 5
          · obtain ⟨p, hp⟩ : ∃ p : Nat, ordP[j]? = some (p : Int) ∧ (p = 2 ∨ p = 3 ∨ p = 5 ∨ p = 7 ∨ p = 11) := by
              match j, hlt with
              | 0, _ => exact ⟨2, rfl, by omega⟩
              | 1, _ => exact ⟨3, rfl, by omega⟩
              | 2, _ => exact ⟨5, rfl, by omega⟩
              | 3, _ => exact ⟨7, rfl, by omega⟩
              | 4, _ => exact ⟨11, rfl, by omega⟩
              | j + 5, h => omega
            have hcell := HC.out j _ hp.1
            have hp0 : 2 ≤ p := by omega
            have hp1 : p ≤ 11 := by omega
            obtain ⟨r, hr⟩ : ∃ r, r = o % p := ⟨_, rfl⟩
            obtain ⟨d, hd⟩ : ∃ d, d = o / p := ⟨_, rfl⟩
            obtain ⟨Q, hQ⟩ : ∃ Q, Q = k * d := ⟨_, rfl⟩
            have f1 : (o : Int).tmod (p : Int) = (r : Int) := by rw [hr]; rfl
            have f2 : (o : Int).tdiv (p : Int) = (d : Int) := by rw [hd]; rfl
            have f3 : (k : Int) * (d : Int) = (Q : Int) := by rw [hQ]; exact (Int.natCast_mul _ _).symm
            have hdo : d ≤ o := by rw [hd]; exact Nat.div_le_self _ _
            have hQb : Q ≤ 55440 * 55440 := by rw [hQ]; exact Nat.mul_le_mul (by omega) (by omega)
            have hrl : r ≤ o := by rw [hr]; exact Nat.mod_le _ _
            have hQ0 : r = 0 → Q % 55440 ≠ 0 := fun h => by rw [hQ, hd]; exact HFAC.out p hp.2 (by rw [← hr]; exact h)
            clear hr hd hQ hp
            by_cases hr0 : r = 0
            · have hQ1 := hQ0 hr0
              subst hr0
              have hQB : (((Q : Int) % 55440) == 0) = false := by rw [beq_eq_false_iff_ne]; omega
              clear hQ0
              go_wp2_with fail
              go_round
              case rel => exact ⟨j + 1, by omega, by go_num⟩
              case measure => simp [intOf]; omega
            · have hrB : ((r : Int) == 0) = false := by rw [beq_eq_false_iff_ne]; omega
              clear hQ0
              go_wp2_with fail
              go_round
              case rel => exact ⟨j + 1, by omega, by go_num⟩
              case measure => simp [intOf]; omega
          · obtain rfl : j = 5 := by omega
            go_wp2_with fail
            go_ret
            exact ⟨rfl, (HB.out.trans (HBC.out.mono HB.out.size))⟩
      · have h1B : (C1 != 0) = true := by rw [bne_iff_ne]; exact h1
        have h1C : (C1 == 0) = false := by rw [beq_eq_false_iff_ne]; exact h1
        go_wp2_with fail
        go_ret
        exact ⟨rfl, HB.out⟩
  · have h5B : (C5 == 0) = false := by rw [beq_eq_false_iff_ne]; exact h5
    go_wp2_with fail
    refine (c_DrawSquareRoot _ bs _ (HU.out.keep HB.out) hl).mono ?_
    rintro e w8 ⟨b, rfl, hb⟩
    have HB := Lib.hid (HB.out.trans (hb.mono HB.out.size))
    clear hb
    obtain ⟨⟨X, C8⟩, hs⟩ : ∃ r, sqrtN b = r := ⟨_, rfl⟩
    have HS := Lib.hid hs
    clear hs
    go_wp2_with fail
    refine (c_SquareRoot b _).mono ?_
    rintro e w11 ⟨rfl, rfl⟩
    rw [HS.out]
    unfold two
    go_wp2_with fail
    refine (c_SSquareRoot b _).mono ?_
    rintro e w11 ⟨rfl, rfl⟩
    rw [HS.out]
    unfold two
    rcases sq_facts HS.out with ⟨rfl, x, Pq, rfl, hx, hxx, hPq, hb0, hlog⟩ | ⟨rfl, l, hlog, hl1, hl2⟩ | rfl
    · have hxI : (x : Int) * (x : Int) = (Pq : Int) := by rw [← hxx]; exact (Int.natCast_mul _ _).symm
      clear hxx
      have HB0 := Lib.hid hb0
      have HLOG := Lib.hid hlog
      clear hb0 hlog
      go_wp2_with fail
      refine (c_mod5 _ _).mono ?_
      rintro e w11 ⟨rfl, rfl⟩
      rw [HB0.out]
      go_wp2_with fail
      refine (c_LogarithmOf b _).mono ?_
      rcases HLOG.out with hlog | ⟨l, hlog, hl1, hl2⟩
      · rw [hlog]
        unfold two
        rintro e w9 ⟨rfl, hb⟩
        have HB := Lib.hid (HB.out.trans (hb.mono HB.out.size))
        clear hb
        clear hlog
        by_cases h1 : C1 = 0
        · obtain ⟨k, o, P, rfl, hO, hpw, hk, ho1, ho2, hP, hP0, hfac⟩ := log_facts HD.out h1
          rw [HE.out] at hO
          cases hO
          subst h1
          have HPW := Lib.hid hpw
          have HFAC := Lib.hid hfac
          have hPb : P ≤ 55440 * 55440 := by rw [← hP]; exact Nat.mul_le_mul (by omega) ho2
          have hPI : (k : Int) * (o : Int) = (P : Int) := by rw [← hP]; exact (Int.natCast_mul _ _).symm
          have hPB : (((P : Int) % 55440) != 0) = false := by rw [bne_eq_false_iff_eq]; omega
          clear hP hpw hfac
          go_wp2_with fail
          refine (c_PowerNumber 38 k _).mono ?_
          rintro e w20 ⟨rfl, rfl⟩
          rw [HPW.out]
          unfold two
          go_wp2_with fail
          have HBC := Lib.hid (below_alloc w9 (.cells #[.int .i64 2, .int .i64 3, .int .i64 5, .int .i64 7, .int .i64 11] 2))
          have HC := Lib.hid (ordP_cell w9 2)
          go_loop [30] (fun i => ∃ j : Nat, j ≤ 5 ∧ i = .int .i64 j) (fun i => 5 - (intOf i).toNat)
          case atStart => exact ⟨0, Nat.zero_le _, rfl⟩
          case round =>
            obtain ⟨j, hj, rfl⟩ := hrel
            by_cases hlt : j < 5
            · obtain ⟨p, hp⟩ : ∃ p : Nat, ordP[j]? = some (p : Int) ∧ (p = 2 ∨ p = 3 ∨ p = 5 ∨ p = 7 ∨ p = 11) := by
                match j, hlt with
                | 0, _ => exact ⟨2, rfl, by omega⟩
                | 1, _ => exact ⟨3, rfl, by omega⟩
                | 2, _ => exact ⟨5, rfl, by omega⟩
                | 3, _ => exact ⟨7, rfl, by omega⟩
                | 4, _ => exact ⟨11, rfl, by omega⟩
                | j + 5, h => omega
              have hcell := HC.out j _ hp.1
              have hp0 : 2 ≤ p := by omega
              have hp1 : p ≤ 11 := by omega
              obtain ⟨r, hr⟩ : ∃ r, r = o % p := ⟨_, rfl⟩
              obtain ⟨d, hd⟩ : ∃ d, d = o / p := ⟨_, rfl⟩
              obtain ⟨Q, hQ⟩ : ∃ Q, Q = k * d := ⟨_, rfl⟩
              have f1 : (o : Int).tmod (p : Int) = (r : Int) := by rw [hr]; rfl
              have f2 : (o : Int).tdiv (p : Int) = (d : Int) := by rw [hd]; rfl
              have f3 : (k : Int) * (d : Int) = (Q : Int) := by rw [hQ]; exact (Int.natCast_mul _ _).symm
              have hdo : d ≤ o := by rw [hd]; exact Nat.div_le_self _ _
              have hQb : Q ≤ 55440 * 55440 := by rw [hQ]; exact Nat.mul_le_mul (by omega) (by omega)
              have hrl : r ≤ o := by rw [hr]; exact Nat.mod_le _ _
              have hQ0 : r = 0 → Q % 55440 ≠ 0 := fun h => by rw [hQ, hd]; exact HFAC.out p hp.2 (by rw [← hr]; exact h)
              clear hr hd hQ hp
              by_cases hr0 : r = 0
              · have hQ1 := hQ0 hr0
                subst hr0
                have hQB : (((Q : Int) % 55440) == 0) = false := by rw [beq_eq_false_iff_ne]; omega
                clear hQ0
                go_wp2_with fail
                go_round
                case rel => exact ⟨j + 1, by omega, by go_num⟩
                case measure => simp [intOf]; omega
              · have hrB : ((r : Int) == 0) = false := by rw [beq_eq_false_iff_ne]; omega
                clear hQ0
                go_wp2_with fail
                go_round
                case rel => exact ⟨j + 1, by omega, by go_num⟩
                case measure => simp [intOf]; omega
            · obtain rfl : j = 5 := by omega
              go_wp2_with fail
              go_ret
              exact ⟨rfl, (HB.out.trans (HBC.out.mono HB.out.size))⟩
        · have h1B : (C1 != 0) = true := by rw [bne_iff_ne]; exact h1
          have h1C : (C1 == 0) = false := by rw [beq_eq_false_iff_ne]; exact h1
          go_wp2_with fail
          go_ret
          exact ⟨rfl, HB.out⟩
      · rw [hlog]
        unfold two
        rintro e w9 ⟨rfl, hb⟩
        have HB := Lib.hid (HB.out.trans (hb.mono HB.out.size))
        clear hb
        clear hlog
        have hlB : (((l : Int) % 2) == 0) = true := by rw [beq_iff_eq]; omega
        by_cases h1 : C1 = 0
        · obtain ⟨k, o, P, rfl, hO, hpw, hk, ho1, ho2, hP, hP0, hfac⟩ := log_facts HD.out h1
          rw [HE.out] at hO
          cases hO
          subst h1
          have HPW := Lib.hid hpw
          have HFAC := Lib.hid hfac
          have hPb : P ≤ 55440 * 55440 := by rw [← hP]; exact Nat.mul_le_mul (by omega) ho2
          have hPI : (k : Int) * (o : Int) = (P : Int) := by rw [← hP]; exact (Int.natCast_mul _ _).symm
          have hPB : (((P : Int) % 55440) != 0) = false := by rw [bne_eq_false_iff_eq]; omega
          clear hP hpw hfac
          go_wp2_with fail
          refine (c_PowerNumber 38 k _).mono ?_
          rintro e w20 ⟨rfl, rfl⟩
          rw [HPW.out]
          unfold two
          go_wp2_with fail
          have HBC := Lib.hid (below_alloc w9 (.cells #[.int .i64 2, .int .i64 3, .int .i64 5, .int .i64 7, .int .i64 11] 2))
          have HC := Lib.hid (ordP_cell w9 2)
          go_loop [30] (fun i => ∃ j : Nat, j ≤ 5 ∧ i = .int .i64 j) (fun i => 5 - (intOf i).toNat)
          case atStart => exact ⟨0, Nat.zero_le _, rfl⟩
          case round =>
            obtain ⟨j, hj, rfl⟩ := hrel
            by_cases hlt : j < 5
            · obtain ⟨p, hp⟩ : ∃ p : Nat, ordP[j]? = some (p : Int) ∧ (p = 2 ∨ p = 3 ∨ p = 5 ∨ p = 7 ∨ p = 11) := by
                match j, hlt with
                | 0, _ => exact ⟨2, rfl, by omega⟩
                | 1, _ => exact ⟨3, rfl, by omega⟩
                | 2, _ => exact ⟨5, rfl, by omega⟩
                | 3, _ => exact ⟨7, rfl, by omega⟩
                | 4, _ => exact ⟨11, rfl, by omega⟩
                | j + 5, h => omega
              have hcell := HC.out j _ hp.1
              have hp0 : 2 ≤ p := by omega
              have hp1 : p ≤ 11 := by omega
              obtain ⟨r, hr⟩ : ∃ r, r = o % p := ⟨_, rfl⟩
              obtain ⟨d, hd⟩ : ∃ d, d = o / p := ⟨_, rfl⟩
              obtain ⟨Q, hQ⟩ : ∃ Q, Q = k * d := ⟨_, rfl⟩
              have f1 : (o : Int).tmod (p : Int) = (r : Int) := by rw [hr]; rfl
              have f2 : (o : Int).tdiv (p : Int) = (d : Int) := by rw [hd]; rfl
              have f3 : (k : Int) * (d : Int) = (Q : Int) := by rw [hQ]; exact (Int.natCast_mul _ _).symm
              have hdo : d ≤ o := by rw [hd]; exact Nat.div_le_self _ _
              have hQb : Q ≤ 55440 * 55440 := by rw [hQ]; exact Nat.mul_le_mul (by omega) (by omega)
              have hrl : r ≤ o := by rw [hr]; exact Nat.mod_le _ _
              have hQ0 : r = 0 → Q % 55440 ≠ 0 := fun h => by rw [hQ, hd]; exact HFAC.out p hp.2 (by rw [← hr]; exact h)
              clear hr hd hQ hp
              by_cases hr0 : r = 0
              · have hQ1 := hQ0 hr0
                subst hr0
                have hQB : (((Q : Int) % 55440) == 0) = false := by rw [beq_eq_false_iff_ne]; omega
                clear hQ0
                go_wp2_with fail
                go_round
                case rel => exact ⟨j + 1, by omega, by go_num⟩
                case measure => simp [intOf]; omega
              · have hrB : ((r : Int) == 0) = false := by rw [beq_eq_false_iff_ne]; omega
                clear hQ0
                go_wp2_with fail
                go_round
                case rel => exact ⟨j + 1, by omega, by go_num⟩
                case measure => simp [intOf]; omega
            · obtain rfl : j = 5 := by omega
              go_wp2_with fail
              go_ret
              exact ⟨rfl, (HB.out.trans (HBC.out.mono HB.out.size))⟩
        · have h1B : (C1 != 0) = true := by rw [bne_iff_ne]; exact h1
          have h1C : (C1 == 0) = false := by rw [beq_eq_false_iff_ne]; exact h1
          go_wp2_with fail
          go_ret
          exact ⟨rfl, HB.out⟩
    · have HLOG := Lib.hid hlog
      clear hlog
      go_wp2_with fail
      refine (c_LogarithmOf b _).mono ?_
      rw [HLOG.out]
      unfold two
      rintro e w9 ⟨rfl, hb⟩
      have HB := Lib.hid (HB.out.trans (hb.mono HB.out.size))
      clear hb
      have hlB : (((l : Int) % 2) == 0) = false := by rw [beq_eq_false_iff_ne]; omega
      by_cases h1 : C1 = 0
      · obtain ⟨k, o, P, rfl, hO, hpw, hk, ho1, ho2, hP, hP0, hfac⟩ := log_facts HD.out h1
        rw [HE.out] at hO
        cases hO
        subst h1
        have HPW := Lib.hid hpw
        have HFAC := Lib.hid hfac
        have hPb : P ≤ 55440 * 55440 := by rw [← hP]; exact Nat.mul_le_mul (by omega) ho2
        have hPI : (k : Int) * (o : Int) = (P : Int) := by rw [← hP]; exact (Int.natCast_mul _ _).symm
        have hPB : (((P : Int) % 55440) != 0) = false := by rw [bne_eq_false_iff_eq]; omega
        clear hP hpw hfac
        go_wp2_with fail
        refine (c_PowerNumber 38 k _).mono ?_
        rintro e w20 ⟨rfl, rfl⟩
        rw [HPW.out]
        unfold two
        go_wp2_with fail
        have HBC := Lib.hid (below_alloc w9 (.cells #[.int .i64 2, .int .i64 3, .int .i64 5, .int .i64 7, .int .i64 11] 2))
        have HC := Lib.hid (ordP_cell w9 2)
        go_loop [30] (fun i => ∃ j : Nat, j ≤ 5 ∧ i = .int .i64 j) (fun i => 5 - (intOf i).toNat)
        case atStart => exact ⟨0, Nat.zero_le _, rfl⟩
        case round =>
          obtain ⟨j, hj, rfl⟩ := hrel
          by_cases hlt : j < 5
          · obtain ⟨p, hp⟩ : ∃ p : Nat, ordP[j]? = some (p : Int) ∧ (p = 2 ∨ p = 3 ∨ p = 5 ∨ p = 7 ∨ p = 11) := by
              match j, hlt with
              | 0, _ => exact ⟨2, rfl, by omega⟩
              | 1, _ => exact ⟨3, rfl, by omega⟩
              | 2, _ => exact ⟨5, rfl, by omega⟩
              | 3, _ => exact ⟨7, rfl, by omega⟩
              | 4, _ => exact ⟨11, rfl, by omega⟩
              | j + 5, h => omega
            have hcell := HC.out j _ hp.1
            have hp0 : 2 ≤ p := by omega
            have hp1 : p ≤ 11 := by omega
            obtain ⟨r, hr⟩ : ∃ r, r = o % p := ⟨_, rfl⟩
            obtain ⟨d, hd⟩ : ∃ d, d = o / p := ⟨_, rfl⟩
            obtain ⟨Q, hQ⟩ : ∃ Q, Q = k * d := ⟨_, rfl⟩
            have f1 : (o : Int).tmod (p : Int) = (r : Int) := by rw [hr]; rfl
            have f2 : (o : Int).tdiv (p : Int) = (d : Int) := by rw [hd]; rfl
            have f3 : (k : Int) * (d : Int) = (Q : Int) := by rw [hQ]; exact (Int.natCast_mul _ _).symm
            have hdo : d ≤ o := by rw [hd]; exact Nat.div_le_self _ _
            have hQb : Q ≤ 55440 * 55440 := by rw [hQ]; exact Nat.mul_le_mul (by omega) (by omega)
            have hrl : r ≤ o := by rw [hr]; exact Nat.mod_le _ _
            have hQ0 : r = 0 → Q % 55440 ≠ 0 := fun h => by rw [hQ, hd]; exact HFAC.out p hp.2 (by rw [← hr]; exact h)
            clear hr hd hQ hp
            by_cases hr0 : r = 0
            · have hQ1 := hQ0 hr0
              subst hr0
              have hQB : (((Q : Int) % 55440) == 0) = false := by rw [beq_eq_false_iff_ne]; omega
              clear hQ0
              go_wp2_with fail
              go_round
              case rel => exact ⟨j + 1, by omega, by go_num⟩
              case measure => simp [intOf]; omega
            · have hrB : ((r : Int) == 0) = false := by rw [beq_eq_false_iff_ne]; omega
              clear hQ0
              go_wp2_with fail
              go_round
              case rel => exact ⟨j + 1, by omega, by go_num⟩
              case measure => simp [intOf]; omega
          · obtain rfl : j = 5 := by omega
            go_wp2_with fail
            go_ret
            exact ⟨rfl, (HB.out.trans (HBC.out.mono HB.out.size))⟩
      · have h1B : (C1 != 0) = true := by rw [bne_iff_ne]; exact h1
        have h1C : (C1 == 0) = false := by rw [beq_eq_false_iff_ne]; exact h1
        go_wp2_with fail
        go_ret
        exact ⟨rfl, HB.out⟩
    · obtain ⟨w9, rfl⟩ : ∃ x, x = w8 := ⟨_, rfl⟩
      by_cases h1 : C1 = 0
      · obtain ⟨k, o, P, rfl, hO, hpw, hk, ho1, ho2, hP, hP0, hfac⟩ := log_facts HD.out h1
        rw [HE.out] at hO
        cases hO
        subst h1
        have HPW := Lib.hid hpw
        have HFAC := Lib.hid hfac
        have hPb : P ≤ 55440 * 55440 := by rw [← hP]; exact Nat.mul_le_mul (by omega) ho2
        have hPI : (k : Int) * (o : Int) = (P : Int) := by rw [← hP]; exact (Int.natCast_mul _ _).symm
        have hPB : (((P : Int) % 55440) != 0) = false := by rw [bne_eq_false_iff_eq]; omega
        clear hP hpw hfac
        go_wp2_with fail
        refine (c_PowerNumber 38 k _).mono ?_
        rintro e w20 ⟨rfl, rfl⟩
        rw [HPW.out]
        unfold two
        go_wp2_with fail
        have HBC := Lib.hid (below_alloc w9 (.cells #[.int .i64 2, .int .i64 3, .int .i64 5, .int .i64 7, .int .i64 11] 2))
        have HC := Lib.hid (ordP_cell w9 2)
        go_loop [30] (fun i => ∃ j : Nat, j ≤ 5 ∧ i = .int .i64 j) (fun i => 5 - (intOf i).toNat)
        case atStart => exact ⟨0, Nat.zero_le _, rfl⟩
        case round =>
          obtain ⟨j, hj, rfl⟩ := hrel
          by_cases hlt : j < 5
          · obtain ⟨p, hp⟩ : ∃ p : Nat, ordP[j]? = some (p : Int) ∧ (p = 2 ∨ p = 3 ∨ p = 5 ∨ p = 7 ∨ p = 11) := by
              match j, hlt with
              | 0, _ => exact ⟨2, rfl, by omega⟩
              | 1, _ => exact ⟨3, rfl, by omega⟩
              | 2, _ => exact ⟨5, rfl, by omega⟩
              | 3, _ => exact ⟨7, rfl, by omega⟩
              | 4, _ => exact ⟨11, rfl, by omega⟩
              | j + 5, h => omega
            have hcell := HC.out j _ hp.1
            have hp0 : 2 ≤ p := by omega
            have hp1 : p ≤ 11 := by omega
            obtain ⟨r, hr⟩ : ∃ r, r = o % p := ⟨_, rfl⟩
            obtain ⟨d, hd⟩ : ∃ d, d = o / p := ⟨_, rfl⟩
            obtain ⟨Q, hQ⟩ : ∃ Q, Q = k * d := ⟨_, rfl⟩
            have f1 : (o : Int).tmod (p : Int) = (r : Int) := by rw [hr]; rfl
            have f2 : (o : Int).tdiv (p : Int) = (d : Int) := by rw [hd]; rfl
            have f3 : (k : Int) * (d : Int) = (Q : Int) := by rw [hQ]; exact (Int.natCast_mul _ _).symm
            have hdo : d ≤ o := by rw [hd]; exact Nat.div_le_self _ _
            have hQb : Q ≤ 55440 * 55440 := by rw [hQ]; exact Nat.mul_le_mul (by omega) (by omega)
            have hrl : r ≤ o := by rw [hr]; exact Nat.mod_le _ _
            have hQ0 : r = 0 → Q % 55440 ≠ 0 := fun h => by rw [hQ, hd]; exact HFAC.out p hp.2 (by rw [← hr]; exact h)
            clear hr hd hQ hp
            by_cases hr0 : r = 0
            · have hQ1 := hQ0 hr0
              subst hr0
              have hQB : (((Q : Int) % 55440) == 0) = false := by rw [beq_eq_false_iff_ne]; omega
              clear hQ0
              go_wp2_with fail
              go_round
              case rel => exact ⟨j + 1, by omega, by go_num⟩
              case measure => simp [intOf]; omega
            · have hrB : ((r : Int) == 0) = false := by rw [beq_eq_false_iff_ne]; omega
              clear hQ0
              go_wp2_with fail
              go_round
              case rel => exact ⟨j + 1, by omega, by go_num⟩
              case measure => simp [intOf]; omega
          · obtain rfl : j = 5 := by omega
            go_wp2_with fail
            go_ret
            exact ⟨rfl, (HB.out.trans (HBC.out.mono HB.out.size))⟩
      · have h1B : (C1 != 0) = true := by rw [bne_iff_ne]; exact h1
        have h1C : (C1 == 0) = false := by rw [beq_eq_false_iff_ne]; exact h1
        go_wp2_with fail
        go_ret
        exact ⟨rfl, HB.out⟩
end Go.Proofs.Ytdfienoilcgneaa
