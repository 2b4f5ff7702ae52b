/- The law FnInverses: its walk. -/
import Derived.Test.YtmbcncmmgfnlmaaMlf
import Derived.Test.YtmbcncmmgfnlmaaMdx
import Derived.Test.YtmbcncmmgfnlmaaMhl
import Derived.Test.YtmbcncmmgfnlmaaMip
import Derived.Test.YtmbcncmmgfnlmaaInn
import Derived.Test.YtmbcncmmgfnlmaaDtn
import Derived.Test.YtmbcncmmgfnlmaaChn
import Derived.StillTailTactics
namespace Go.Proofs.Ytmbcncmmgfnlmaa
open Go.RowKit
attribute [local go_sem ↓] Go.wp_at_zero Go.wp_at_succ
open Fus (F Mx toI ofI toI_bd toI_of toI_ofI ofI_toI ofI_add ofI_mul ofI_neg mm tr ap sm sm_succ one mpw mm_assoc D D_red redR trc hpoly hpoly_lead hpoly_trace hpoly_det cayley invM mm_invM invM_mm toI_zero toI_one toI_neg setR)
theorem intAt {w : World} {a : Option Addr} {n cap i : Nat} {xs : List Int} {x : Int} (h : Ints w (.slice a n cap) xs) (hx : xs[i]? = some x) :
    ∃ b off, a = some ⟨b, off, none⟩ ∧ w.cell? ⟨b, off + i, none⟩ = some (.int .i64 x) := by
  obtain ⟨a', cap', e, _, hc⟩ := h
  cases e
  exact hc i x hx
/-- the sum of the first k powers with their coefficients -/
def ttl (n : Nat) (f : Mx) (k : Nat) : Mx := fun i j => sm k fun l => hpoly n f l * mpw n f l i j
/-- .. where the first i rows are one further -/
def mixT (n : Nat) (f : Mx) (k i : Nat) : Mx := fun a b => if a < i then ttl n f (k + 1) a b else ttl n f k a b
theorem ttl_zero (n : Nat) (f : Mx) : (tabF n n fun _ _ => 0) = tabF n n (ttl n f 0) := rfl
theorem mixT_zero (n : Nat) (f : Mx) (k : Nat) : tabF n n (ttl n f k) = tabF n n (mixT n f k 0) := tabF_congr fun i j _ _ => by unfold mixT; rw [if_neg (by omega)]
theorem mixT_end (n : Nat) (f : Mx) (k : Nat) : tabF n n (mixT n f k n) = tabF n n (ttl n f (k + 1)) := tabF_congr fun i j hi _ => by unfold mixT; rw [if_pos hi]
theorem mixT_row {n : Nat} (f : Mx) (k i : Nat) : zl n (mixT n f k i i) = zl n (ttl n f k i) := zl_congr fun j _ => by unfold mixT; rw [if_neg (by omega)]
theorem mixT_next {n : Nat} (f : Mx) (k i : Nat) : (tabF n n (mixT n f k i)).set i (zl n fun j => ttl n f k i j + hpoly n f k * mpw n f k i j) = tabF n n (mixT n f k (i + 1)) := by
  rw [tabF_set]
  refine tabF_congr fun a b _ _ => ?_
  unfold setR mixT
  by_cases e : a = i
  · subst e
    rw [if_pos rfl, if_pos (by omega)]
    rfl
  · rw [if_neg e]
    by_cases h : a < i
    · rw [if_pos h, if_pos (by omega)]
    · rw [if_neg h, if_neg (by omega)]
theorem ttl_end {n : Nat} (hn : Sz n) (f : Mx) {i : Nat} (hi : i < n) : zl n (ttl n f (n + 1) i) = zl n fun _ => 0 := zl_congr fun j hj => cayley hn.1 (by have := hn.2; omega) f hi hj
theorem below_drewed2' {w w' : World} (h : Below w.drew.heap.size w.drew w') : Below w.heap.size w w' := ⟨h.os, h.tape, h.output, h.size, h.block⟩
theorem Own.len' {w : World} {T : TypeId} {B : Nat} {a : Option Addr} {n c : Nat} {us : List Value} (h : Own w T B (.slice a n c) us) : n = us.length := by
  rcases Own.shape h with ⟨e, e2⟩ | ⟨g, cap, e, _⟩
  · cases e; subst e2; rfl
  · cases e; rfl
theorem zl_zero (n : Nat) : (zl n fun _ => (0 : F)) = vec n fun _ => (0 : Int) := by unfold zl; simp only [Fus.toI_zero]
theorem inv_forms {m b : List (List Int)} {p : List Int} {c1 c3 : Int} (h1 : invN m = (b, c1)) (h3 : charN m = (p, c3)) :
    (c3 ≠ 0 ∧ c1 = c3) ∨ (c3 = 0 ∧ ∃ (n : Nat) (f : Mx), m = tabF n n f ∧ Sz n ∧ p = zl (n + 1) (hpoly n f) ∧ detN m = (toI (D n f), 0) ∧ trN m = (toI (trc n f), 0) ∧
      (∀ k : Nat, k ≤ 1000 → powM m k = (tabF n n (mpw n f k), 0)) ∧ ((D n f = 0 ∧ c1 = 5) ∨ (D n f ≠ 0 ∧ c1 = 0 ∧ b = tabF n n (invM n f)))) := by
  by_cases h : sqCode m true = 0
  · right
    unfold invN at h1
    unfold charN at h3
    rw [if_pos h] at h1 h3
    have hm := isMat_parts (sq_parts h).1
    refine ⟨(congrArg Prod.snd h3).symm, m.length, entF m, sqF h, ⟨hm.1, hm.2.1⟩, (congrArg Prod.fst h3).symm, ?_, ?_, fun k hk => powM_ok h (by omega), ?_⟩
    · unfold detN; rw [if_pos h, D_red]
    · unfold trN
      rw [if_pos h]
      have e : trZ m = trZ (tabF m.length m.length (entF m)) := congrArg trZ (sqF h)
      rw [e, trZ_F]
    · by_cases hd : D m.length (entF m) = 0
      · rw [if_pos hd] at h1
        exact .inl ⟨hd, (congrArg Prod.snd h1).symm⟩
      · rw [if_neg hd] at h1
        exact .inr ⟨hd, (congrArg Prod.snd h1).symm, (congrArg Prod.fst h1).symm⟩
  · left
    unfold invN at h1
    unfold charN at h3
    rw [if_neg h] at h1 h3
    have e1 := congrArg Prod.snd h1
    have e3 := congrArg Prod.snd h3
    exact ⟨fun e => h (by rw [e] at e3; exact e3), e1.symm.trans e3⟩
set_option maxRecDepth 100000 in
set_option maxHeartbeats 8000000 in
theorem w_FnInverses (u : Value) (bs : List Int) (w : World) (hu : Bytes w u bs) :
    Calls Try.prog 4 #[u] w fun e w' => e = .returned (.bool true) ∧ Below w.heap.size w w' := by
  have HU := Lib.hid hu
  obtain ⟨ap, cp, rfl, _, _⟩ := hu
  by_cases hl : bs.length ≤ 4096
  case neg =>
    have HDB : Hid (decide (4096 < (bs.length : Int)) = true) := Lib.hid (decide_eq_true (by omega))
    go_enter Try.func4, Try.ntmps4
    go_wp2_with fail
    refine (c_big _ bs _ HU.out).mono ?_
    rintro e w1 ⟨rfl, rfl⟩
    rw [HDB.out]
    go_wp2_with fail
    go_ret
    exact ⟨rfl, Below.refl _ _⟩
  have HDB : Hid (decide (4096 < (bs.length : Int)) = false) := Lib.hid (decide_eq_false (by omega))
  have HB : Hid (Below w.heap.size w w) := Lib.hid (Below.refl _ _)
  go_enter Try.func4, Try.ntmps4
  go_wp2_with fail
  refine (c_big _ bs _ HU.out).mono ?_
  rintro e w0 ⟨rfl, rfl⟩
  rw [HDB.out]
  go_wp2_with fail
  refine (c_DrawInverseMatrix _ bs _ HU.out hl).mono ?_
  rintro e w1 ⟨um, m, rfl, hm, hb⟩
  have M := Lib.hid hm
  have HB := Lib.hid (HB.out.trans (hb.mono HB.out.size))
  obtain ⟨⟨b, c1⟩, hi⟩ : ∃ r, invN m = r := ⟨_, rfl⟩
  obtain ⟨⟨p, c3⟩, hc⟩ : ∃ r, charN m = r := ⟨_, rfl⟩
  have HI := Lib.hid hi
  have HC := Lib.hid hc
  have HSI : Hid (Small 4096 b) := Lib.hid (by have := invN_small m; rw [hi] at this; exact this)
  have HSC : Hid (p.length ≤ 100000) := Lib.hid (by have := charN_small m; rw [hc] at this; dsimp only at this; omega)
  clear hm hb hi hc
  go_wp2_with fail
  refine (c_InverseMatrix _ m _ M.out).mono ?_
  rw [HI.out]
  rintro e w2 ⟨uBi, rfl, ho, hb⟩
  have Bi := Lib.hid (readM HSI.out ho)
  have M := Lib.hid (M.out.keep hb)
  have HB := Lib.hid (HB.out.trans (hb.mono HB.out.size))
  clear ho hb
  go_wp2_with fail
  refine (c_SInverseMatrix _ m _ M.out).mono ?_
  rw [HI.out]
  rintro e w3 ⟨uB2, rfl, ho, hb⟩
  have B2 := Lib.hid (readM HSI.out ho)
  have M := Lib.hid (M.out.keep hb)
  have Bi := Lib.hid (Bi.out.keep hb)
  have HB := Lib.hid (HB.out.trans (hb.mono HB.out.size))
  clear ho hb
  go_wp2_with fail
  refine (c_CharacteristicPolynomial _ m _ M.out).mono ?_
  rw [HC.out]
  rintro e w4 ⟨uP, rfl, ho, hb⟩
  have P := Lib.hid (readI HSC.out ho)
  have M := Lib.hid (M.out.keep hb)
  have Bi := Lib.hid (Bi.out.keep hb)
  have B2 := Lib.hid (B2.out.keep hb)
  have HB := Lib.hid (HB.out.trans (hb.mono HB.out.size))
  clear ho hb
  go_wp2_with fail
  refine (c_SCharacteristicPolynomial _ m _ M.out).mono ?_
  rw [HC.out]
  rintro e w5 ⟨uP2, rfl, ho, hb⟩
  have P2 := Lib.hid (readI HSC.out ho)
  have M := Lib.hid (M.out.keep hb)
  have Bi := Lib.hid (Bi.out.keep hb)
  have B2 := Lib.hid (B2.out.keep hb)
  have P := Lib.hid (P.out.keep hb)
  have HB := Lib.hid (HB.out.trans (hb.mono HB.out.size))
  clear ho hb
  go_wp2_with fail
  refine (q_likeRows5 _ _ b _ Bi.out B2.out).mono ?_
  rintro e w6 ⟨rfl, hd⟩
  have hb := hd.below w5.heap.size
  have M := Lib.hid (M.out.keep hb)
  have Bi := Lib.hid (Bi.out.keep hb)
  have B2 := Lib.hid (B2.out.keep hb)
  have P := Lib.hid (P.out.keep hb)
  have P2 := Lib.hid (P2.out.keep hb)
  have HB := Lib.hid (HB.out.trans (hb.mono HB.out.size))
  clear hb hd
  go_wp2_with fail
  refine (q_likeInts _ _ p _ P.out P2.out).mono ?_
  rintro e w7 ⟨rfl, hd⟩
  have hb := hd.below w6.heap.size
  have M := Lib.hid (M.out.keep hb)
  have Bi := Lib.hid (Bi.out.keep hb)
  have B2 := Lib.hid (B2.out.keep hb)
  have P := Lib.hid (P.out.keep hb)
  have P2 := Lib.hid (P2.out.keep hb)
  have HB := Lib.hid (HB.out.trans (hb.mono HB.out.size))
  clear hb hd
  clear B2 P2
  rcases inv_forms HI.out HC.out with ⟨h3, h1⟩ | ⟨h3, n, f, hmf, hn, rfl, hdet, htr, hpw, hcase⟩
  · subst h1
    have h3B : (c1 != 0) = true := by simp [h3]
    go_wp2_with fail
    go_ret
    exact ⟨by simp, HB.out⟩
  subst h3
  have HMF := Lib.hid hmf
  obtain ⟨X, hX⟩ : ∃ X, X = toI (D n f) := ⟨_, rfl⟩
  obtain ⟨T, hT⟩ : ∃ T, T = toI (trc n f) := ⟨_, rfl⟩
  have hTb := toI_bd (trc n f)
  have hXb := toI_bd (D n f)
  rw [← hT] at hTb htr
  rw [← hX] at hXb hdet
  obtain ⟨hT1, hT2⟩ := hTb
  obtain ⟨hX1, hX2⟩ := hXb
  have HX := Lib.hid hX
  have HT := Lib.hid hT
  have HDET := Lib.hid hdet
  have HTR := Lib.hid htr
  have HPW := Lib.hid hpw
  have HCASE := Lib.hid hcase
  have hml : m.length = n := by rw [hmf, tabF_length]
  obtain ⟨hn1, hn2⟩ := id hn
  obtain ⟨aM, cM, rfl⟩ := rowsShape M.out
  rw [hml] at M ⊢
  obtain ⟨aP, cP, rfl⟩ := intsShape P.out
  rw [zl_length] at P ⊢
  obtain ⟨bP, oP, rfl, _⟩ := intAt P.out (zl_at (hpoly n f) (show 0 < n + 1 by omega))
  obtain ⟨aB, cB, rfl⟩ := rowsShape Bi.out
  clear hmf hdet htr hpw hcase hml HI HC HSC HSI hX hT
  go_wp2_with fail
  refine (c_Determinant _ m _ M.out).mono ?_
  rw [HDET.out]
  unfold two
  rintro e w8 ⟨rfl, hb⟩
  have M := Lib.hid (M.out.keep hb)
  have Bi := Lib.hid (Bi.out.keep hb)
  have P := Lib.hid (P.out.keep hb)
  have HB := Lib.hid (HB.out.trans (hb.mono HB.out.size))
  clear hb
  go_wp2_with fail
  refine (c_TraceOf _ m _ M.out).mono ?_
  rw [HTR.out]
  unfold two
  rintro e w9 ⟨rfl, hb⟩
  have M := Lib.hid (M.out.keep hb)
  have Bi := Lib.hid (Bi.out.keep hb)
  have P := Lib.hid (P.out.keep hb)
  have HB := Lib.hid (HB.out.trans (hb.mono HB.out.size))
  clear hb
  obtain ⟨q, hq0⟩ : ∃ q, n = q + 1 := ⟨n - 1, by omega⟩
  have hq : (n : Int) - 1 = (q : Int) := by omega
  have hqn : q < n := by omega
  have HQN : Hid (n - 1 = q) := Lib.hid (by omega)
  clear hq0
  go_upto_region 15 with fail
  go_cut [127] (fun s wx => s = .bool false ∧ Below w9.heap.size w9 wx)
  case first =>
    obtain ⟨y, hy⟩ : ∃ y, y = toI (hpoly n f q) := ⟨_, rfl⟩
    have hyT : (-T) % 55441 = y := by rw [hy, ← HQN.out, hpoly_trace hn1 (by omega), toI_neg, ← HT.out]
    have HQ : Hid (∀ w1 : World, Calls Try.prog 32 #[.int .i64 (-T)] w1 fun e w' => e = .returned (.int .i64 y) ∧ w' = w1) := Lib.hid (fun w1 => (c_mod5 (-T) w1).mono fun e w' h => ⟨by rw [h.1, hyT], h.2.symm⟩)
    have hneg : IntKind.i64.wrap (-T) = -T := IntWalk.i64_in _ (by omega)
    obtain ⟨_, _, e1, g1⟩ := intAt P.out (zl_at (hpoly n f) (show n < n + 1 by omega))
    cases e1
    rw [hpoly_lead, toI_one] at g1
    obtain ⟨_, _, e2, g2⟩ := intAt P.out (zl_at (hpoly n f) (show q < n + 1 by omega))
    cases e2
    rw [← hy] at g2
    have hyy : (y != y) = false := by simp
    clear hy hyT
    rcases HCASE.out with ⟨hd, hc1⟩ | ⟨hd, hc1, hbb⟩
    · subst hc1
      have hxB : (X != 0) = false := by rw [HX.out, hd, Fus.toI_zero]; rfl
      clear hd
      go_quiet ((go_at_call 32; exact Calls.quiet_of_same (HQ.out _)))
      go_wp2_with fail
      go_meet
      case rel => exact ⟨rfl, below_toDrewN _ _ _⟩
    · subst hc1
      have hxB : (X != 0) = true := by
        rw [bne_iff_ne, HX.out]
        exact fun e => hd (Fus.toI_eq_zero.1 e)
      clear hd hbb
      go_quiet ((go_at_call 32; exact Calls.quiet_of_same (HQ.out _)))
      go_wp2_with fail
      go_meet
      case rel => exact ⟨rfl, below_toDrewN _ _ _⟩
  obtain ⟨rfl, hb⟩ := hcut
  have M := Lib.hid (M.out.keep hb)
  have Bi := Lib.hid (Bi.out.keep hb)
  have P := Lib.hid (P.out.keep hb)
  have HB := Lib.hid (HB.out.trans (hb.mono HB.out.size))
  clear hb HDET HTR hq hqn HQN
  obtain ⟨wD, rfl⟩ : ∃ wD : World, wD = wc := ⟨_, rfl⟩
  go_upto_if 130 with fail
  obtain ⟨z, hz⟩ : ∃ z, z = toI (hpoly n f 0) := ⟨_, rfl⟩
  go_cut [13] (fun s wx => s = .int .i64 z ∧ wx = wD)
  case first =>
    have hdt := hpoly_det hn1 f
    by_cases hpar : n % 2 = 1
    · have hp1 : ((n : Int) % 2 == 1) = true := by simp; omega
      have hp2 : (n : Int) % 2 = 1 := by omega
      have hzX : (-X) % 55441 = z := by rw [hz, hdt, if_neg (by omega), toI_neg, ← HX.out]
      have hneg : IntKind.i64.wrap (-X) = -X := IntWalk.i64_in _ (by omega)
      clear hdt hz
      go_wp2_with fail
      refine (c_mod5 (-X) _).mono ?_
      rintro e wz ⟨rfl, rfl⟩
      rw [hzX]
      go_wp2_with fail
      go_meet
      case rel => exact ⟨rfl, rfl⟩
    · have hp1 : ((n : Int) % 2 == 1) = false := by simp; omega
      have hp2 : ¬ (n : Int) % 2 = 1 := by omega
      have hzX : X = z := by rw [hz, hdt, if_pos (by omega), HX.out]
      clear hdt hz
      go_wp2_with fail
      go_meet
      case rel => exact ⟨by rw [hzX], rfl⟩
  obtain ⟨rfl, rfl⟩ := hcut
  obtain ⟨_, _, e1, g1⟩ := intAt P.out (zl_at (hpoly n f) (show 0 < n + 1 by omega))
  cases e1
  rw [← hz, Nat.add_zero] at g1
  have hzz : (z != z) = false := by simp
  have hmk := run_make_row' (P := Try.prog) 35 2 (.int .i64 0) 8 Try.underlying35 info_int rfl .i64 .i64 n (by omega) (by omega)
  clear hz
  go_wp2_with fail
  obtain ⟨wB, rfl⟩ : ∃ wB : World, wB = wc := ⟨_, rfl⟩
  go_loopw [17, 18] (fun s i wr => ∃ k : Nat, k ≤ n ∧ i = .int .i64 k ∧ Hid (OwnM wr wB.heap.size s (tabF k n fun _ _ => 0)) ∧ Hid (Below wB.heap.size wB wr)) (fun _ i _ => n - (intOf i).toNat)
  case atStart => exact ⟨0, Nat.zero_le _, rfl, Lib.hid (ownM_empty _ _ (Nat.le_refl _)), Lib.hid (below_alloc _ _)⟩
  case round =>
    obtain ⟨k, hk, rfl, HO, HBL⟩ := hrel
    have hszl := HBL.out.size
    by_cases hlt : k < n
    · have HA := Lib.hid (below_alloc wr (.cells (madeCells #[.int .i64 0] n) 2))
      have HZ : Hid (OwnI (wr.alloc (.cells (madeCells #[.int .i64 0] n) 2)) wr.heap.size (.slice (some ⟨wr.heap.size, 0, none⟩) n n) (zl n fun _ => 0)) := Lib.hid (by rw [zl_zero]; exact own_zeros wr n (by omega))
      have hlen : (tabF k n fun _ _ => 0).length ≤ 1000000 := by rw [tabF_length]; omega
      go_wp2_with (at_builtin; refine wp_pushM HO.out HA.out HZ.out rfl _ _ rfl rfl rfl (by first | with_reducible rfl | simp) hszl hlen ?_; intro v' w2 ho2 hb2)
      have HO2 : Hid (OwnM w2 wB.heap.size v' (tabF (k + 1) n fun _ _ => 0)) := Lib.hid (by rw [tabF_snoc]; exact ho2)
      have HB2 := Lib.hid ((HBL.out.trans (HA.out.mono hszl)).trans hb2)
      clear ho2 hb2
      go_roundw
      case rel => exact ⟨k + 1, by omega, by go_num, HO2, HB2⟩
      case measure => simp [intOf]; omega
    obtain rfl : n = k := by omega
    obtain ⟨gt, ct, rfl, hgt1, _⟩ : ∃ gt ct, u17 = .slice (some ⟨gt, 0, none⟩) n ct ∧ wB.heap.size ≤ gt ∧ True := by
      obtain ⟨g, c, e, h1, _⟩ := HO.out.shape' (by rw [tabF_length]; exact hn1)
      exact ⟨g, c, by rw [e, tabF_length], h1, trivial⟩
    have hst : Hid (OwnM wr wB.heap.size (.slice (some ⟨gt, 0, none⟩) n ct) (tabF n n (ttl n f 0))) := HO
    clear HO hmk
    go_wp2_with fail
    obtain ⟨w1x, rfl⟩ : ∃ w1x : World, w1x = wr := ⟨_, rfl⟩
    go_loopw [19] (fun i wr => ∃ k : Nat, k ≤ n + 1 ∧ i = .int .i64 k ∧ Hid (OwnM wr wB.heap.size (.slice (some ⟨gt, 0, none⟩) n ct) (tabF n n (ttl n f k))) ∧ Hid (Below wB.heap.size wB wr)) (fun i _ => n + 1 - (intOf i).toNat)
    case atStart => exact ⟨0, Nat.zero_le _, rfl, hst, HBL⟩
    case round =>
      clear hst HBL hszl
      obtain ⟨k, hk, rfl, HO, HBL⟩ := hrel
      have hszl := HBL.out.size
      by_cases hkn : k ≤ n
      · have hkI : (k : Int) ≤ (n : Int) := by omega
        have MW := Lib.hid (M.out.keep HBL.out)
        obtain ⟨w0, rfl⟩ : ∃ w0 : World, w0 = wr := ⟨_, rfl⟩
        go_wp2_with fail
        refine (c_PowerMatrix _ m _ _ MW.out).mono ?_
        rw [HPW.out k (by omega)]
        rintro e w5 ⟨uq, rfl, ho, hb⟩
        have HQW := Lib.hid (ho.rowsOn (by rw [tabF_length]; omega) (fun xs hx => by rw [tabF_mem hx]; omega))
        have HO5 := Lib.hid (HO.out.keep hb)
        have HB5 := Lib.hid (HBL.out.trans (hb.mono hszl))
        have hgt2 : gt < w0.heap.size := (HO.out.lt).2
        have hsz5 := hb.size
        obtain ⟨aQ, cQ, rfl⟩ := rowsShape HQW.out.now
        rw [tabF_length] at HQW ⊢
        clear ho hb MW HO
        have hst : Hid (OwnM w5 wB.heap.size (.slice (some ⟨gt, 0, none⟩) n ct) (tabF n n (mixT n f k 0))) := Lib.hid (by rw [← mixT_zero]; exact HO5.out)
        go_wp2_with fail
        go_loopw [22] (fun i wr => ∃ i' : Nat, i' ≤ n ∧ i = .int .i64 i' ∧ Hid (OwnM wr wB.heap.size (.slice (some ⟨gt, 0, none⟩) n ct) (tabF n n (mixT n f k i'))) ∧ Hid (∀ x, w0.heap.size ≤ x → x < w5.heap.size → wr.heap[x]? = w5.heap[x]?) ∧ w5.heap.size ≤ wr.heap.size ∧ Hid (Below wB.heap.size wB wr)) (fun i _ => n - (intOf i).toNat)
        case atStart => exact ⟨0, Nat.zero_le _, rfl, hst, Lib.hid (fun _ _ _ => rfl), Nat.le_refl _, HB5⟩
        case round =>
          clear hst HO5 HB5 HBL
          obtain ⟨i, hi, rfl, HO, HXB, hszx, HBL⟩ := hrel
          have hszl := HBL.out.size
          by_cases hin : i < n
          · obtain ⟨ut, k1, k2⟩ := HO.out.rowAt (tabF_at n (mixT n f k i) hin)
            have k2' := k2.ints (by rw [zl_length]; omega)
            rw [mixT_row] at k2'
            obtain ⟨pt, nt, cat, rfl⟩ := k2.slice
            have kf := HO.out.frozenAt i
            obtain ⟨bq, oq, uv, rfl, k3, k4⟩ := rowAt (HQW.out wr HXB.out) (tabF_at n (mpw n f k) hin)
            obtain ⟨av, cv, rfl⟩ := intsShape k4
            have PW := P.out.keep HBL.out
            obtain ⟨_, _, e5, k5⟩ := intAt PW (zl_at (hpoly n f) (show k < n + 1 by omega))
            cases e5
            have HPL := Lib.hid (c_plus5 _ _ n _ _ (hpoly n f k) (wr.drew) k2' k4 (by omega))
            have hkI2 : (k : Int) < (n : Int) + 1 := by omega
            have hinI : (i : Int) < (n : Int) := by omega
            clear k2 k2' k4 PW
            go_wp2_with fail
            go_still_tail 12, (by kernel_rfl)
            change wpList _ _ _ _ _ wr.drew
            go_wp2_with fail
            refine HPL.out.mono ?_
            rintro e w7 ⟨uw, rfl, ho, hb⟩
            have hb7 : Below wr.heap.size wr w7 := below_drewed2' hb
            have HSET : Hid (OwnM (w7.setCell ⟨gt, i, none⟩ uw) wB.heap.size (.slice (some ⟨gt, 0, none⟩) n ct) (tabF n n (mixT n f k (i + 1)))) := Lib.hid (by
              rw [← mixT_next]
              exact HO.out.set hb7 hszl ho i)
            have hgt3 : gt < wr.heap.size := by omega
            have q1 := bcell hb7 k1
            have q2 := bfrozen hb7 k1 kf
            obtain ⟨aw, nw, cw, rfl⟩ := ho.slice
            have hnw : n = nw := by
              have h := Own.len' ho
              rw [List.length_map, zl_length] at h
              exact h.symm
            subst hnw
            have HBN : Hid (Below wB.heap.size wB (w7.setCell ⟨gt, i, none⟩ (.slice aw n cw))) := Lib.hid (below_set (HBL.out.trans (hb7.mono hszl)) hgt1)
            have HXN : Hid (∀ x, w0.heap.size ≤ x → x < w5.heap.size → (w7.setCell ⟨gt, i, none⟩ (.slice aw n cw)).heap[x]? = w5.heap[x]?) := Lib.hid (fun x h1 h2 => (Below.heap_setCell _ _ _ _ (fun e => by simp at e; omega)).trans ((hb7.block x (by omega)).trans (HXB.out x h1 h2)))
            have hszn : w5.heap.size ≤ w7.heap.size := Nat.le_trans hszx hb7.size
            clear ho hb hb7 k1 kf k3 k5
            go_wp2_with fail
            go_roundw
            case rel => exact ⟨i + 1, by omega, by go_num, HSET, HXN, by simpa using hszn, HBN⟩
            case measure => simp [intOf]; omega
          · obtain rfl : n = i := by omega
            have HON : Hid (OwnM wr wB.heap.size (.slice (some ⟨gt, 0, none⟩) n ct) (tabF n n (ttl n f (k + 1)))) := Lib.hid (by rw [← mixT_end]; exact HO.out)
            go_wp2_with fail
            go_roundw
            case rel => exact ⟨k + 1, by omega, by go_num, HON, HBL⟩
            case measure => simp [intOf]; omega
      · have hk1 : k = n + 1 := by omega
        have hkI : ¬ (k : Int) ≤ (n : Int) := by omega
        rw [hk1] at HO
        have HKE := Lib.hid hk1
        clear hk1
        have HROW : Hid (∀ i, i < n → ∃ u, wr.cell? ⟨gt, i, none⟩ = some u ∧ Ints wr u (zl n fun _ => 0)) := Lib.hid (fun i hi => by
          obtain ⟨u, h1, h2⟩ := HO.out.rowAt (tabF_at n (ttl n f (n + 1)) hi)
          rw [ttl_end hn f hi] at h2
          exact ⟨u, h1, h2.ints (by rw [zl_length]; omega)⟩)
        go_wp2_with fail
        obtain ⟨wz, rfl⟩ : ∃ wz : World, wz = wr := ⟨_, rfl⟩
        go_loopw [24] (fun i wr => ∃ i' : Nat, i' ≤ n ∧ i = .int .i64 i' ∧ wz = wr) (fun i _ => n - (intOf i).toNat)
        case atStart => exact ⟨0, Nat.zero_le _, rfl, rfl⟩
        case round =>
          obtain ⟨i, hi, rfl, rfl⟩ := hrel
          by_cases hin : i < n
          · obtain ⟨uw, k1, k2⟩ := HROW.out i hin
            have K2 := Lib.hid k2
            clear k2
            go_wp2_with fail
            refine (c_zero5 _ n _ K2.out).mono ?_
            rintro e wy ⟨rfl, rfl⟩
            go_wp2_with fail
            go_roundw
            case rel => exact ⟨i + 1, by omega, by go_num, trivial⟩
            case measure => simp [intOf]; omega
          · obtain rfl : n = i := by omega
            rcases HCASE.out with ⟨hd, hc1⟩ | ⟨hd, hc1, hbb⟩
            · subst hc1
              clear hd
              go_wp2_with fail
              go_ret
              exact ⟨rfl, HB.out.trans (HBL.out.mono HB.out.size)⟩
            · subst hc1
              have M1 : Hid (IntRows wz (.slice aM n cM) (tabF n n f)) := Lib.hid (by rw [← HMF.out]; exact M.out.keep HBL.out)
              have B1 : Hid (IntRows wz (.slice aB b.length cB) (tabF n n (invM n f))) := Lib.hid (by rw [← hbb]; exact Bi.out.keep HBL.out)
              have e1 : tabF n n (mm n f (invM n f)) = tabF n n one := tabF_congr fun i j hi hj => mm_invM hd hi hj
              have e2 : tabF n n (mm n (invM n f) f) = tabF n n one := tabF_congr fun i j hi hj => invM_mm hd hi hj
              have E1 : Hid (mulM m b = (tabF n n one, 0)) := Lib.hid (by rw [HMF.out, hbb, mulM_F _ _ hn hn hn, e1])
              have E2 : Hid (mulM b m = (tabF n n one, 0)) := Lib.hid (by rw [HMF.out, hbb, mulM_F _ _ hn hn hn, e2])
              have HB := Lib.hid (HB.out.trans (HBL.out.mono HB.out.size))
              have M2 := Lib.hid (M.out.keep HBL.out)
              have B2 := Lib.hid (Bi.out.keep HBL.out)
              clear hd hbb e1 e2 M1 B1 HBL M Bi P HROW
              go_wp2_with fail
              refine (c_MultiplyMatrices _ m _ b _ M2.out B2.out).mono ?_
              rw [E1.out]
              rintro e w2 ⟨uL, rfl, ho, hb⟩
              have LL := Lib.hid (readF hn hn ho)
              have M2 := Lib.hid (M2.out.keep hb)
              have B2 := Lib.hid (B2.out.keep hb)
              have HB := Lib.hid (HB.out.trans (hb.mono HB.out.size))
              clear ho hb
              go_wp2_with fail
              refine (c_MultiplyMatrices _ b _ m _ B2.out M2.out).mono ?_
              rw [E2.out]
              rintro e w3 ⟨uR, rfl, ho, hb⟩
              have RR := Lib.hid (readF hn hn ho)
              have LL := Lib.hid (LL.out.keep hb)
              have HB := Lib.hid (HB.out.trans (hb.mono HB.out.size))
              clear ho hb M2 B2
              go_wp2_with fail
              refine (c_unit5 n _ (by omega)).mono ?_
              rintro e w4 ⟨uU, rfl, ho, hb⟩
              have UU := Lib.hid (readF hn hn ho)
              have RR := Lib.hid (RR.out.keep hb)
              have LL := Lib.hid (LL.out.keep hb)
              have HB := Lib.hid (HB.out.trans (hb.mono HB.out.size))
              clear ho hb
              go_wp2_with fail
              refine (q_likeRows5 _ _ _ _ LL.out UU.out).mono ?_
              rintro e w5 ⟨rfl, hd⟩
              have hb := hd.below w4.heap.size
              have RR := Lib.hid (RR.out.keep hb)
              have HB := Lib.hid (HB.out.trans (hb.mono HB.out.size))
              clear hd hb LL UU
              go_wp2_with fail
              refine (c_unit5 n _ (by omega)).mono ?_
              rintro e w6 ⟨uU2, rfl, ho, hb⟩
              have UU := Lib.hid (readF hn hn ho)
              have RR := Lib.hid (RR.out.keep hb)
              have HB := Lib.hid (HB.out.trans (hb.mono HB.out.size))
              clear ho hb
              go_wp2_with fail
              refine (q_likeRows5 _ _ _ _ RR.out UU.out).mono ?_
              rintro e w7 ⟨rfl, hd⟩
              have hb := hd.below w6.heap.size
              have HB := Lib.hid (HB.out.trans (hb.mono HB.out.size))
              clear hd hb RR UU
              go_wp2_with fail
              go_ret
              exact ⟨rfl, HB.out⟩
end Go.Proofs.Ytmbcncmmgfnlmaa
