/- Walks: how many metrics a group has: the program and the reference. -/
import Derived.Test.YtoaphakhfedgeaaMet
namespace Go.Proofs.Ytoaphakhfedgeaa
open Go.RowKit

def mulW (a b : Int) : Int := IntKind.i64.wrap (a * b)
theorem mulW_eq (a b : Int) : IntKind.i64.wrap (a * b) = mulW a b := rfl
attribute [irreducible] mulW
def cntB (n m a : Int) : Bool := ((2 * a * n) % m == 0) && ((a * n * n) % m == 0)
def cntK (n m : Int) : Nat → Int
  | 0 => 0
  | k + 1 => cntK n m k + (if cntB n m k = true then 1 else 0)
theorem cntK_bd (n m : Int) : ∀ k : Nat, 0 ≤ cntK n m k ∧ cntK n m k ≤ k
  | 0 => by simp [cntK]
  | k + 1 => by
    have ih := cntK_bd n m k
    unfold cntK
    split <;> omega
theorem cntK_yes {n m : Int} {k : Nat} (h1 : ((2 * k * n) % m == 0) = true) (h2 : ((k * n * n) % m == 0) = true) : cntK n m (k + 1) = cntK n m k + 1 := by
  show cntK n m k + _ = _
  rw [if_pos (by unfold cntB; rw [h1, h2]; rfl)]
theorem cntK_no1 {n m : Int} {k : Nat} (h1 : ((2 * k * n) % m == 0) = false) : cntK n m (k + 1) = cntK n m k := by
  show cntK n m k + _ = _
  rw [if_neg (by unfold cntB; rw [h1]; simp)]; simp
theorem cntK_no2 {n m : Int} {k : Nat} (h2 : ((k * n * n) % m == 0) = false) : cntK n m (k + 1) = cntK n m k := by
  show cntK n m k + _ = _
  rw [if_neg (by unfold cntB; rw [h2]; simp)]; simp
def gg (n y m : Int) : Int := (Int.gcd ((Int.gcd n y : Nat) : Int) m : Nat)
def inK (xs : List Int) (n m : Int) (s : Nat) (o : Int) : Nat → Int
  | 0 => o
  | t + 1 => mulW (inK xs n m s o t) (gg n (xs.getD (s + t) 0) m)
def outK (xs : List Int) (m : Int) : Nat → Int
  | 0 => 1
  | i + 1 => inK xs (xs.getD i 0) m (i + 1) (mulW (outK xs m i) (cntK (xs.getD i 0) m m.toNat)) (xs.length - (i + 1))
theorem outK_next {xs : List Int} {m n : Int} {i : Nat} (h : xs.getD i 0 = n) : outK xs m (i + 1) = inK xs n m (i + 1) (mulW (outK xs m i) (cntK n m m.toNat)) (xs.length - (i + 1)) := by
  subst h; rfl
theorem inK_next {xs : List Int} {n m y o : Int} {s t : Nat} (h : xs.getD (s + t) 0 = y) : inK xs n m s o (t + 1) = mulW (inK xs n m s o t) (gg n y m) := by
  subst h; rfl
attribute [irreducible] cntK inK outK
theorem cntK_zero (n m : Int) : cntK n m 0 = 0 := by unfold cntK; rfl
theorem inK_zero (xs : List Int) (n m : Int) (s : Nat) (o : Int) : inK xs n m s o 0 = o := by unfold inK; rfl
theorem outK_zero (xs : List Int) (m : Int) : outK xs m 0 = 1 := by unfold outK; rfl
def cntM (xs : List Int) (m : Int) : Int × Int := if isGrp xs = true ∧ isOrd m = true then (outK xs m xs.length, 0) else (0, 2)
theorem cntM_yes {xs : List Int} {m : Int} (h : isGrp xs = true) (h' : isOrd m = true) : cntM xs m = (outK xs m xs.length, 0) := if_pos ⟨h, h'⟩
theorem cntM_no1 {xs : List Int} {m : Int} (h : isGrp xs = false) : cntM xs m = (0, 2) := if_neg (by rw [h]; simp)
theorem cntM_no2 {xs : List Int} {m : Int} (h : isOrd m = false) : cntM xs m = (0, 2) := if_neg (by rw [h]; simp)
attribute [irreducible] cntM
theorem isGrp_parts {xs : List Int} (h : isGrp xs = true) : 1 ≤ xs.length ∧ xs.length ≤ 4 ∧ xs.all (inR 2 16) = true := by
  rw [isGrp_eq] at h
  simp only [Bool.and_eq_true, decide_eq_true_iff] at h
  exact ⟨h.1.1.1, h.1.1.2, h.1.2⟩
theorem gcd_bd {n y : Int} (h1 : 2 ≤ n) (h2 : n ≤ 16) : 0 ≤ ((Int.gcd n y : Nat) : Int) ∧ ((Int.gcd n y : Nat) : Int) ≤ 16 := by
  have := Int.gcd_le_natAbs_left (a := n) y (by omega)
  omega
theorem cnt_prods {k : Nat} {n m : Int} (hk : (k : Int) < m) (hm : m ≤ 55440) (h1 : 2 ≤ n) (h2 : n ≤ 16) :
    0 ≤ 2 * (k : Int) * n ∧ 2 * (k : Int) * n ≤ 1774080 ∧ 0 ≤ (k : Int) * n ∧ (k : Int) * n ≤ 887040 ∧ 0 ≤ (k : Int) * n * n ∧ (k : Int) * n * n ≤ 14192640 := by
  have a1 : 0 ≤ 2 * (k : Int) * n := Int.mul_nonneg (by omega) (by omega)
  have a2 : 2 * (k : Int) * n ≤ 110880 * 16 := Int.mul_le_mul (by omega) h2 (by omega) (by omega)
  have a3 : 0 ≤ (k : Int) * n := Int.mul_nonneg (by omega) (by omega)
  have a4 : (k : Int) * n ≤ 55440 * 16 := Int.mul_le_mul (by omega) h2 (by omega) (by omega)
  have a5 : 0 ≤ (k : Int) * n * n := Int.mul_nonneg a3 (by omega)
  have a6 : (k : Int) * n * n ≤ 887040 * 16 := Int.mul_le_mul (by omega) h2 (by omega) (by omega)
  omega
theorem OwnI.caps {w : World} {B : Nat} {v : Value} {xs : List Int} (h : OwnI w B v xs) : ∃ a c, v = .slice a xs.length c ∧ xs.length ≤ c := by
  rcases Own.shape h with ⟨rfl, e⟩ | ⟨g, cap, rfl, _, _, hc⟩
  · have : xs = [] := by cases xs with
      | nil => rfl
      | cons => simp at e
    subst this
    exact ⟨none, 0, rfl, Nat.le_refl _⟩
  · exact ⟨some ⟨g, 0, none⟩, cap, by simp, by simpa using hc⟩

set_option maxHeartbeats 2000000 in
theorem c_SCountMetrics (v : Value) (xs : List Int) (m : Int) (w : World) (hv : Ints w v xs) :
    Calls Try.prog 39 #[v, .int .i64 m] w fun e w' => e = .returned (two (cntM xs m)) ∧ Below w.heap.size w w' := by
  have HV := Lib.hid hv
  obtain ⟨a, cap, rfl, _, hc⟩ := hv
  have HC := Lib.hid hc
  clear hc
  cases hg : isGrp xs
  · have H : Hid (cntM xs m = (0, 2)) := Lib.hid (cntM_no1 hg)
    have HG := Lib.hid hg
    clear hg
    go_enter Try.func39, Try.ntmps39
    go_wp2_with (go_at_call 78; refine (c_l10Orders _ xs _ HV.out).mono ?_; rintro e w' ⟨rfl, rfl⟩; rw [HG.out])
    go_ret2
    exact ⟨ret_two H.out, Below.refl _ _⟩
  · have HG := Lib.hid hg
    cases ho : isOrd m
    · have H : Hid (cntM xs m = (0, 2)) := Lib.hid (cntM_no2 ho)
      have HO := Lib.hid ho
      clear hg ho
      go_enter Try.func39, Try.ntmps39
      go_wp2_with (first | (go_at_call 78; refine (c_l10Orders _ xs _ HV.out).mono ?_; rintro e w' ⟨rfl, rfl⟩; rw [HG.out]) | (go_at_call 79; refine (c_l01Divisor _ _).mono ?_; rintro e w' ⟨rfl, rfl⟩; rw [HO.out]))
      go_ret2
      exact ⟨ret_two H.out, Below.refl _ _⟩
    · have H : Hid (cntM xs m = (outK xs m xs.length, 0)) := Lib.hid (cntM_yes hg ho)
      have HO := Lib.hid ho
      obtain ⟨hm1, _, hm2⟩ := isOrd_true ho
      obtain ⟨hl1, hl2, ha⟩ := isGrp_parts hg
      have HA := Lib.hid ha
      clear hg ho ha
      go_enter Try.func39, Try.ntmps39
      go_wp2_with (first | (go_at_call 78; refine (c_l10Orders _ xs _ HV.out).mono ?_; rintro e w' ⟨rfl, rfl⟩; rw [HG.out]) | (go_at_call 79; refine (c_l01Divisor _ _).mono ?_; rintro e w' ⟨rfl, rfl⟩; rw [HO.out]))
      go_loopw [6, 7] (fun s i wr => ∃ (k : Nat), k ≤ xs.length ∧ i = .int .i64 k ∧ s = .int .i64 (outK xs m k) ∧ Below w.heap.size w wr) (fun _ i _ => xs.length - (intOf i).toNat)
      case atStart => exact ⟨0, Nat.zero_le _, rfl, by rw [outK_zero], Below.refl _ _⟩
      case round =>
        obtain ⟨i, hi, rfl, rfl, hbel⟩ := hrel
        by_cases hlt : i < xs.length
        · obtain ⟨n, hx⟩ : ∃ x, xs[i]? = some x := ⟨xs[i], by simp [hlt]⟩
          obtain ⟨b, off, rfl, hcell⟩ := HC.out i n hx
          have hcw := bcell hbel hcell
          obtain ⟨hn1, hn2⟩ := all_at HA.out hx
          have HN := Lib.hid (outK_next (m := m) (getD_ofM hx))
          have HB := Lib.hid hbel
          obtain ⟨o, hov⟩ : ∃ o, o = outK xs m i := ⟨_, rfl⟩
          rw [← hov] at HN ⊢
          clear hx hcell hbel hov
          go_wp2_with fail
          go_quiet (fail)
          go_wp2_with fail
          obtain ⟨wo, rfl⟩ : ∃ wo : World, wo = wr := ⟨_, rfl⟩
          go_loopw [8, 10] (fun c a wr => ∃ (k : Nat), (k : Int) ≤ m ∧ a = .int .i64 k ∧ c = .int .i64 (cntK n m k) ∧ Below w.heap.size w wr) (fun _ a _ => (m - intOf a).toNat)
          case atStart => exact ⟨0, by omega, rfl, by rw [cntK_zero], HB.out.trans (below_toDrewN _ _ _)⟩
          case round =>
            obtain ⟨k, hk, rfl, rfl, hbel⟩ := hrel
            have HB2 := Lib.hid hbel
            clear hbel
            obtain ⟨c, hcv⟩ : ∃ c, c = cntK n m k := ⟨_, rfl⟩
            have hcb := cntK_bd n m k
            rw [← hcv] at hcb ⊢
            obtain ⟨hc1, hc2⟩ := hcb
            by_cases hlk : (k : Int) < m
            · obtain ⟨q1, q2, q3, q4, q5, q6⟩ := cnt_prods hlk hm2 hn1 hn2
              have hm0 : ¬ m = 0 := by omega
              cases e1 : ((2 * (k : Int) * n) % m == 0)
              · have HE := Lib.hid (cntK_no1 e1)
                rw [← hcv] at HE
                clear hcv
                go_wp2_with fail
                go_roundw
                case rel => exact ⟨k + 1, by omega, by go_num, by rw [HE.out], HB2.out⟩
                case measure => simp [intOf]; omega
              · cases e2 : (((k : Int) * n * n) % m == 0)
                · have HE := Lib.hid (cntK_no2 e2)
                  rw [← hcv] at HE
                  clear hcv
                  go_wp2_with fail
                  go_roundw
                  case rel => exact ⟨k + 1, by omega, by go_num, by rw [HE.out], HB2.out⟩
                  case measure => simp [intOf]; omega
                · have HE := Lib.hid (cntK_yes e1 e2)
                  rw [← hcv] at HE
                  clear hcv
                  go_wp2_with fail
                  go_roundw
                  case rel => exact ⟨k + 1, by omega, by go_num, by rw [HE.out], HB2.out⟩
                  case measure => simp [intOf]; omega
            · have hkm : k = m.toNat := by omega
              have HN2 : Hid (outK xs m (i + 1) = inK xs n m (i + 1) (mulW o c) (xs.length - (i + 1))) := Lib.hid (by rw [HN.out, hcv, hkm])
              have hwA := mulW_eq o c
              clear hc1 hc2 hkm hcv HN
              go_wp2_with fail
              obtain ⟨wo2, rfl⟩ : ∃ wo2 : World, wo2 = wr := ⟨_, rfl⟩
              obtain ⟨z, hz⟩ : ∃ z, z = mulW o c := ⟨_, rfl⟩
              rw [← hz] at HN2 ⊢
              clear hz hwA
              go_loopw [6, 11] (fun s j wr => ∃ (t : Nat), i + 1 + t ≤ xs.length ∧ j = .int .i64 ((i + 1 + t : Nat) : Int) ∧ s = .int .i64 (inK xs n m (i + 1) z t) ∧ Below w.heap.size w wr) (fun _ j _ => xs.length - (intOf j).toNat)
              case atStart => exact ⟨0, by omega, by go_num, by rw [inK_zero], HB2.out⟩
              case round =>
                obtain ⟨t, ht, rfl, rfl, hbel⟩ := hrel
                have HB3 := Lib.hid hbel
                by_cases hlt2 : i + 1 + t < xs.length
                · obtain ⟨y, hy⟩ : ∃ x, xs[i + 1 + t]? = some x := ⟨xs[i + 1 + t], by simp [hlt2]⟩
                  obtain ⟨b', off', hab, hcell⟩ := HC.out (i + 1 + t) y hy
                  cases hab
                  have hcw2 := bcell hbel hcell
                  have hyb := all_at HA.out hy
                  have HS := Lib.hid (inK_next (xs := xs) (n := n) (m := m) (o := z) (getD_ofM hy))
                  obtain ⟨p, hp⟩ : ∃ p, p = inK xs n m (i + 1) z t := ⟨_, rfl⟩
                  rw [← hp] at HS ⊢
                  obtain ⟨g, hgv⟩ : ∃ g : Int, g = (Int.gcd n y : Nat) := ⟨_, rfl⟩
                  have hgb := gcd_bd (y := y) hn1 hn2
                  rw [← hgv] at hgb
                  have hgg : gg n y m = (Int.gcd g m : Nat) := by unfold gg; rw [← hgv]
                  rw [hgg] at HS
                  obtain ⟨r, hrv⟩ : ∃ r : Int, r = (Int.gcd g m : Nat) := ⟨_, rfl⟩
                  rw [← hrv] at HS
                  have C1 : Hid ((0 ≤ n ∧ n ≤ 1000000000000) ∧ (0 ≤ y ∧ y ≤ 1000000000000)) := Lib.hid ⟨⟨by omega, by omega⟩, ⟨by omega, by omega⟩⟩
                  have C2 : Hid ((0 ≤ g ∧ g ≤ 1000000000000) ∧ (0 ≤ m ∧ m ≤ 1000000000000)) := Lib.hid ⟨⟨by omega, by omega⟩, ⟨by omega, by omega⟩⟩
                  have hwB := mulW_eq p r
                  have HGV := Lib.hid hgv
                  have HRV := Lib.hid hrv
                  clear hy hcell hbel hp hgg hgv hrv
                  go_wp2_with fail
                  refine (c_l10Common n y _ C1.out.1.1 C1.out.1.2 C1.out.2.1 C1.out.2.2).mono ?_
                  rintro e w' ⟨rfl, rfl⟩
                  rw [← HGV.out]
                  go_wp2_with fail
                  refine (c_l10Common g m _ C2.out.1.1 C2.out.1.2 C2.out.2.1 C2.out.2.2).mono ?_
                  rintro e w' ⟨rfl, rfl⟩
                  rw [← HRV.out]
                  go_wp2_with fail
                  go_roundw
                  case rel => exact ⟨t + 1, by omega, by go_num, by rw [HS.out], HB3.out⟩
                  case measure => simp [intOf]; omega
                · have htt : t = xs.length - (i + 1) := by omega
                  have HE : Hid (inK xs n m (i + 1) z t = outK xs m (i + 1)) := Lib.hid (by rw [HN2.out, htt])
                  clear htt hbel
                  go_wp2_with fail
                  go_roundw
                  case rel => exact ⟨i + 1, by omega, by go_num, by rw [HE.out], HB3.out⟩
                  case measure => simp [intOf]; omega
        · obtain rfl : i = xs.length := by omega
          go_wp2_with fail
          go_ret2
          exact ⟨ret_two H.out, hbel⟩
set_option maxHeartbeats 2000000 in
theorem c_CountMetrics (v : Value) (xs : List Int) (m : Int) (w : World) (hv : Ints w v xs) (hcap : ∃ a c, v = .slice a xs.length c ∧ xs.length ≤ c) :
    Calls Try.prog 40 #[v, .int .i64 m] w fun e w' => e = .returned (two (cntM xs m)) ∧ Below w.heap.size w w' := by
  have HV := Lib.hid hv
  obtain ⟨a, cap, rfl, _, hc⟩ := hv
  obtain ⟨a0, cap0, hcv, hcap⟩ := hcap
  cases hcv
  have HC := Lib.hid hc
  clear hc
  cases hg : isGrp xs
  · have H : Hid (cntM xs m = (0, 2)) := Lib.hid (cntM_no1 hg)
    have HG := Lib.hid hg
    clear hg
    go_enter Try.func40, Try.ntmps40
    go_wp2_with (go_at_call 72; refine (c_isGroup _ xs _ HV.out).mono ?_; rintro e w' ⟨rfl, hb⟩; rw [HG.out])
    go_ret2
    exact ⟨ret_two H.out, hb⟩
  · have HG := Lib.hid hg
    cases ho : isOrd m
    · have H : Hid (cntM xs m = (0, 2)) := Lib.hid (cntM_no2 ho)
      have HO := Lib.hid ho
      clear hg ho
      go_enter Try.func40, Try.ntmps40
      go_wp2_with (first | (go_at_call 72; refine (c_isGroup _ xs _ HV.out).mono ?_; rintro e w' ⟨rfl, hb⟩; rw [HG.out]) | (go_at_call 81; refine (c_isOrder _ _).mono ?_; rintro e w' ⟨rfl, rfl⟩; rw [HO.out]))
      go_ret2
      exact ⟨ret_two H.out, hb⟩
    · have H : Hid (cntM xs m = (outK xs m xs.length, 0)) := Lib.hid (cntM_yes hg ho)
      have HO := Lib.hid ho
      obtain ⟨hm1, _, hm2⟩ := isOrd_true ho
      obtain ⟨hl1, hl2, ha⟩ := isGrp_parts hg
      have HA := Lib.hid ha
      clear hg ho ha
      go_enter Try.func40, Try.ntmps40
      go_wp2_with (first | (go_at_call 72; refine (c_isGroup _ xs _ HV.out).mono ?_; rintro e w' ⟨rfl, hb⟩; rw [HG.out]) | (go_at_call 81; refine (c_isOrder _ _).mono ?_; rintro e w' ⟨rfl, rfl⟩; rw [HO.out]))
      go_loopw [6, 23] (fun s i wr => ∃ (k : Nat), k ≤ xs.length ∧ i = .int .i64 k ∧ s = .int .i64 (outK xs m k) ∧ Below w.heap.size w wr) (fun _ i _ => xs.length - (intOf i).toNat)
      case atStart => exact ⟨0, Nat.zero_le _, rfl, by rw [outK_zero], hb⟩
      case round =>
        obtain ⟨i, hi, rfl, rfl, hbel⟩ := hrel
        by_cases hlt : i < xs.length
        · obtain ⟨n, hx⟩ : ∃ x, xs[i]? = some x := ⟨xs[i], by simp [hlt]⟩
          obtain ⟨b, off, rfl, hcell⟩ := HC.out i n hx
          have hcw := bcell hbel hcell
          obtain ⟨hn1, hn2⟩ := all_at HA.out hx
          have HN := Lib.hid (outK_next (m := m) (getD_ofM hx))
          have HB := Lib.hid hbel
          obtain ⟨o, hov⟩ : ∃ o, o = outK xs m i := ⟨_, rfl⟩
          rw [← hov] at HN ⊢
          clear hx hcell hbel hov
          go_wp2_with fail
          obtain ⟨wo, rfl⟩ : ∃ wo : World, wo = wr := ⟨_, rfl⟩
          go_loopw [9, 29] (fun c a wr => ∃ (k : Nat), (k : Int) ≤ m ∧ a = .int .i64 k ∧ c = .int .i64 (cntK n m k) ∧ Below w.heap.size w wr) (fun _ a _ => (m - intOf a).toNat)
          case atStart => exact ⟨0, by omega, rfl, by rw [cntK_zero], HB.out⟩
          case round =>
            obtain ⟨k, hk, rfl, rfl, hbel⟩ := hrel
            have HB2 := Lib.hid hbel
            clear hbel
            obtain ⟨c, hcv⟩ : ∃ c, c = cntK n m k := ⟨_, rfl⟩
            have hcb := cntK_bd n m k
            rw [← hcv] at hcb ⊢
            obtain ⟨hc1, hc2⟩ := hcb
            by_cases hlk : (k : Int) < m
            · obtain ⟨q1, q2, q3, q4, q5, q6⟩ := cnt_prods hlk hm2 hn1 hn2
              have hm0 : ¬ m = 0 := by omega
              cases e1 : ((2 * (k : Int) * n) % m == 0)
              · have HE := Lib.hid (cntK_no1 e1)
                rw [← hcv] at HE
                clear hcv
                go_wp2_with fail
                go_roundw
                case rel => exact ⟨k + 1, by omega, by go_num, by rw [HE.out], HB2.out⟩
                case measure => simp [intOf]; omega
              · cases e2 : (((k : Int) * n * n) % m == 0)
                · have HE := Lib.hid (cntK_no2 e2)
                  rw [← hcv] at HE
                  clear hcv
                  go_wp2_with fail
                  go_roundw
                  case rel => exact ⟨k + 1, by omega, by go_num, by rw [HE.out], HB2.out⟩
                  case measure => simp [intOf]; omega
                · have HE := Lib.hid (cntK_yes e1 e2)
                  rw [← hcv] at HE
                  clear hcv
                  go_wp2_with fail
                  go_roundw
                  case rel => exact ⟨k + 1, by omega, by go_num, by rw [HE.out], HB2.out⟩
                  case measure => simp [intOf]; omega
            · have hkm : k = m.toNat := by omega
              have HN2 : Hid (outK xs m (i + 1) = inK xs n m (i + 1) (mulW o c) (xs.length - (i + 1))) := Lib.hid (by rw [HN.out, hcv, hkm])
              have hwA := mulW_eq o c
              clear hc1 hc2 hkm hcv HN
              go_wp2_with fail
              case inl h =>
                obtain ⟨wo2, rfl⟩ : ∃ wo2 : World, wo2 = wr := ⟨_, rfl⟩
                obtain ⟨z, hz⟩ : ∃ z, z = mulW o c := ⟨_, rfl⟩
                have hle : xs.length = i + 1 := by omega
                rw [← hz] at HN2 ⊢
                have HN3 : Hid (z = outK xs m (i + 1)) := Lib.hid (by rw [HN2.out, hle, Nat.sub_self, inK_zero])
                rw [← h]
                clear hz hwA h HN2
                go_loopw [6, 60] (fun s j wr => j = .int .i64 (0 : Nat) ∧ s = .int .i64 z ∧ Below w.heap.size w wr) (fun _ j _ => 0)
                case atStart => exact ⟨rfl, rfl, HB2.out⟩
                case round =>
                  obtain ⟨rfl, rfl, hbel⟩ := hrel
                  have HB3 := Lib.hid hbel
                  clear hbel
                  go_wp2_with fail
                  go_roundw
                  case rel => exact ⟨i + 1, by omega, by go_num, by rw [← HN3.out], HB3.out⟩
                  case measure => simp [intOf]; omega
              case inr h =>
                obtain ⟨wo2, rfl⟩ : ∃ wo2 : World, wo2 = wr := ⟨_, rfl⟩
                obtain ⟨z, hz⟩ : ∃ z, z = mulW o c := ⟨_, rfl⟩
                rw [← hz] at HN2 ⊢
                clear hz hwA
                go_loopw [6, 60] (fun s j wr => ∃ (t : Nat), i + 1 + t ≤ xs.length ∧ j = .int .i64 (t : Nat) ∧ s = .int .i64 (inK xs n m (i + 1) z t) ∧ Below w.heap.size w wr) (fun _ j _ => xs.length - (intOf j).toNat)
                case atStart => exact ⟨0, by omega, by go_num, by rw [inK_zero], HB2.out⟩
                case round =>
                  obtain ⟨t, ht, rfl, rfl, hbel⟩ := hrel
                  have HB3 := Lib.hid hbel
                  by_cases hlt2 : i + 1 + t < xs.length
                  · obtain ⟨y, hy⟩ : ∃ x, xs[i + 1 + t]? = some x := ⟨xs[i + 1 + t], by simp [hlt2]⟩
                    obtain ⟨b', off', hab, hcell⟩ := HC.out (i + 1 + t) y hy
                    cases hab
                    have hcw2 := bcell hbel hcell
                    have hcw3 := hcw2
                    rw [← Nat.add_assoc] at hcw3
                    have hyb := all_at HA.out hy
                    have HS := Lib.hid (inK_next (xs := xs) (n := n) (m := m) (o := z) (getD_ofM hy))
                    obtain ⟨p, hp⟩ : ∃ p, p = inK xs n m (i + 1) z t := ⟨_, rfl⟩
                    rw [← hp] at HS ⊢
                    obtain ⟨g, hgv⟩ : ∃ g : Int, g = (Int.gcd n y : Nat) := ⟨_, rfl⟩
                    have hgb := gcd_bd (y := y) hn1 hn2
                    rw [← hgv] at hgb
                    have hgg : gg n y m = (Int.gcd g m : Nat) := by unfold gg; rw [← hgv]
                    rw [hgg] at HS
                    obtain ⟨r, hrv⟩ : ∃ r : Int, r = (Int.gcd g m : Nat) := ⟨_, rfl⟩
                    rw [← hrv] at HS
                    have C1 : Hid ((-1000000000000 ≤ n ∧ n ≤ 1000000000000) ∧ (-1000000000000 ≤ y ∧ y ≤ 1000000000000)) := Lib.hid ⟨⟨by omega, by omega⟩, ⟨by omega, by omega⟩⟩
                    have C2 : Hid ((-1000000000000 ≤ g ∧ g ≤ 1000000000000) ∧ (-1000000000000 ≤ m ∧ m ≤ 1000000000000)) := Lib.hid ⟨⟨by omega, by omega⟩, ⟨by omega, by omega⟩⟩
                    have hwB := mulW_eq p r
                    have HGV := Lib.hid hgv
                    have HRV := Lib.hid hrv
                    clear hy hcell hbel hp hgg hgv hrv
                    go_wp2_with fail
                    refine (c_gcd n y _ C1.out.1.1 C1.out.1.2 C1.out.2.1 C1.out.2.2).mono ?_
                    rintro e w2 ⟨rfl, hb2⟩
                    have HB3 := Lib.hid (HB3.out.trans (hb2.mono HB3.out.size))
                    clear hb2
                    rw [← HGV.out]
                    go_wp2_with fail
                    refine (c_gcd g m _ C2.out.1.1 C2.out.1.2 C2.out.2.1 C2.out.2.2).mono ?_
                    rintro e w3 ⟨rfl, hb3⟩
                    have HB3 := Lib.hid (HB3.out.trans (hb3.mono HB3.out.size))
                    clear hb3
                    rw [← HRV.out]
                    go_wp2_with fail
                    go_roundw
                    case rel => exact ⟨t + 1, by omega, by go_num, by rw [HS.out], HB3.out⟩
                    case measure => simp [intOf]; omega
                  · have htt : t = xs.length - (i + 1) := by omega
                    have HE : Hid (inK xs n m (i + 1) z t = outK xs m (i + 1)) := Lib.hid (by rw [HN2.out, htt])
                    clear htt hbel
                    go_wp2_with fail
                    go_roundw
                    case rel => exact ⟨i + 1, by omega, by go_num, by rw [HE.out], HB3.out⟩
                    case measure => simp [intOf]; omega
        · obtain rfl : i = xs.length := by omega
          go_wp2_with fail
          go_ret2
          exact ⟨ret_two H.out, hbel⟩
end Go.Proofs.Ytoaphakhfedgeaa
