/- Texts of numbers: the walks of NumberText on both sides. -/
import Derived.Test.YtcgmbpkichfalaaDoorNtx
import Derived.Test.YtcgmbpkichfalaaDoorByt
import Derived.Test.YtcgmbpkichfalaaDoorShf
import Derived.Test.YtcgmbpkichfalaaDoorLad
import Derived.Lib.AppendIntMem
import Derived.Lib.ItoaLen
import Derived.Deep.RegionWith
import Derived.Deep.RegionLaw
import Derived.BigRegion
namespace Go.Proofs.YtcgmbpkichfalaaDoor
open Go.RowKit Txt

/-- a text as a value -/
def tv (l : List UInt8) : Value := .string ⟨l.toArray⟩
theorem tv_inj (s : ByteArray) : tv s.data.toList = .string s := rfl
theorem ba_app (a b : List UInt8) : (⟨a.toArray⟩ : ByteArray) ++ ⟨b.toArray⟩ = ⟨(a ++ b).toArray⟩ := by
  apply ByteArray.ext
  simp
theorem ba_app3 (a b : List UInt8) : (⟨(a ++ [47]).toArray⟩ : ByteArray) ++ ⟨b.toArray⟩ = ⟨(a ++ 47 :: b).toArray⟩ := by
  rw [ba_app]; simp
theorem ret_str {a : ByteArray} {l : List UInt8} (h : a = ⟨l.toArray⟩) : Ending.returned (.string a) = .returned (tv l) := by rw [h]; rfl
theorem c_decimal (n : Int) (w : World) (h : -9223372036854775808 ≤ n) (h' : n ≤ 9223372036854775807) (ht : TabW w) :
    Calls Tryd.prog 39 #[.int .i64 n] w fun e w' => e = .returned (tv (Lib.itoa n)) ∧ Below w.heap.size w w' := by
  have HT := Lib.hid ht
  clear ht
  go_enter Tryd.func39, Tryd.ntmps39
  go_wp2_with fail
  refine (Any.strconv_FormatInt_10 Tryd.laysM173 n h h' _ HT.out).mono ?_
  rintro e w' ⟨rfl, k, os, rfl⟩
  have hb := Lib.below_grow w.heap.size w (Nat.le_refl _) k os
  generalize Go.Sort.grow (w.drewN k) os = wz at *
  go_wp2_with fail
  go_ret
  exact ⟨rfl, hb⟩
set_option maxHeartbeats 2000000 in
theorem c_numberText (a : Int) (w : World) (h1 : 0 ≤ a) (h2 : a < 55441) (ht : TabW w) :
    Calls Tryd.prog 24 #[.int .i64 a] w fun e w' => e = .returned (tv (txt a)) ∧ Below w.heap.size w w' := by
  have HT := Lib.hid ht
  clear ht
  have hsf := Fus.shortF_cases a
  have htx : txt a = if (Fus.shortF a).2 = 0 then Lib.itoa a else if (Fus.shortF a).2 = 1 then Lib.itoa (Fus.shortF a).1 else Lib.itoa (Fus.shortF a).1 ++ 47 :: Lib.itoa (Fus.shortF a).2 := rfl
  have hS := c_shortFraction a w h1 h2
  obtain ⟨p, q, hpq⟩ : ∃ p q, Fus.shortF a = (p, q) := ⟨_, _, rfl⟩
  rw [hpq] at hS htx
  have hbd : -166 ≤ p ∧ p ≤ 166 ∧ 0 ≤ q ∧ q ≤ 166 := by
    rcases hsf with e | ⟨q', e1, e2, e3, e4, e5, _⟩
    · rw [hpq] at e; cases e; omega
    · rw [hpq] at e3; cases e3; omega
  obtain ⟨b1, b2, b3, b4⟩ := hbd
  have HX := Lib.hid htx
  clear htx hsf hpq
  have hSS := Lib.hid hS
  clear hS
  by_cases hq0 : q = 0
  · subst hq0
    go_enter Tryd.func24, Tryd.ntmps24
    go_wp2_with fail
    refine hSS.out.mono ?_
    rintro e w1 ⟨rfl, hb1⟩
    unfold two
    go_wp2_with fail
    refine (c_decimal a _ (by omega) (by omega) (HT.out.keep hb1)).mono ?_
    rintro e w2 ⟨rfl, hb2⟩
    go_wp2_with fail
    go_ret
    exact ⟨by rw [HX.out]; rfl, hb1.trans (hb2.mono hb1.size)⟩
  · by_cases hq1 : q = 1
    · subst hq1
      go_enter Tryd.func24, Tryd.ntmps24
      go_wp2_with fail
      refine hSS.out.mono ?_
      rintro e w1 ⟨rfl, hb1⟩
      unfold two
      go_wp2_with fail
      refine (c_decimal p _ (by omega) (by omega) (HT.out.keep hb1)).mono ?_
      rintro e w2 ⟨rfl, hb2⟩
      go_wp2_with fail
      go_ret
      exact ⟨by rw [HX.out]; rfl, hb1.trans (hb2.mono hb1.size)⟩
    · have hl1 := Lib.itoa_length_le p (by omega) (by omega)
      have hl2 := Lib.itoa_length_le q (by omega) (by omega)
      have hx : txt a = Lib.itoa p ++ 47 :: Lib.itoa q := by rw [HX.out, if_neg hq0, if_neg hq1]
      have HX2 := Lib.hid hx
      clear hx
      go_enter Tryd.func24, Tryd.ntmps24
      go_wp2_with fail
      refine hSS.out.mono ?_
      rintro e w1 ⟨rfl, hb1⟩
      unfold two
      go_wp2_with fail
      refine (c_decimal p _ (by omega) (by omega) (HT.out.keep hb1)).mono ?_
      rintro e w2 ⟨rfl, hb2⟩
      unfold tv
      have hb12 := hb1.trans (hb2.mono hb1.size)
      go_wp2_with fail
      refine (c_decimal q _ (by omega) (by omega) (HT.out.keep hb12)).mono ?_
      rintro e w3 ⟨rfl, hb3⟩
      unfold tv
      go_wp2_with fail
      go_ret
      exact ⟨ret_str (by rw [HX2.out]; exact (congrArg (· ++ _) (ba_app (Lib.itoa p) [47])).trans (ba_app3 _ _)), hb12.trans (hb3.mono hb12.size)⟩
/-- the text of a number with its code -/
def textN (a : Int) : List UInt8 × Int := if isNum a = true then (txt a, 0) else ([], 2)
def twoT (r : List UInt8 × Int) : Value := .tuple #[.string ⟨r.1.toArray⟩, .int .i64 r.2]
set_option maxHeartbeats 2000000 in
theorem c_NumberText (a : Int) (w : World) (ht : TabW w) :
    Calls Tryd.prog 9 #[.int .i64 a] w fun e w' => e = .returned (twoT (textN a)) ∧ Below w.heap.size w w' := by
  have HT := Lib.hid ht
  clear ht
  cases hn : isNum a
  · have HF : Hid (textN a = ([], 2)) := Lib.hid (by unfold textN; rw [if_neg (by rw [hn]; simp)])
    have HN := Lib.hid hn
    clear hn
    go_enter Tryd.func9, Tryd.ntmps9
    go_wp2_with fail
    refine (c_IsNumber a _).mono ?_
    rw [HN.out]
    rintro e w1 ⟨rfl, rfl⟩
    go_wp2_with fail
    go_ret2
    exact ⟨by rw [HF.out]; rfl, Below.refl _ _⟩
  · have HF : Hid (textN a = (txt a, 0)) := Lib.hid (by unfold textN; rw [if_pos hn])
    have HN := Lib.hid hn
    have hbd := isNum_true hn
    clear hn
    go_enter Tryd.func9, Tryd.ntmps9
    go_wp2_with fail
    refine (c_IsNumber a _).mono ?_
    rw [HN.out]
    rintro e w1 ⟨rfl, rfl⟩
    go_wp2_with fail
    refine (c_numberText a _ hbd.1 hbd.2 HT.out).mono ?_
    rintro e w1 ⟨rfl, hb⟩
    unfold tv
    go_wp2_with fail
    go_ret2
    exact ⟨by rw [HF.out]; rfl, hb⟩
/-- a digit's byte -/
def dgt (d : Nat) : UInt8 := UInt8.ofNat (48 + d)
theorem dgt_one {i : Nat} (h : i < 10) : Lib.decDigits i = [dgt i] := Lib.decDigits_one h
theorem dgt_app {u : Nat} (h : ¬ u < 10) : Lib.decDigits u = Lib.decDigits (u / 10) ++ [dgt (u % 10)] := by rw [Lib.decDigits, dif_neg h]; rfl
theorem dgt_val {d : Int} (h1 : 0 ≤ d) (h2 : d ≤ 9) : Value.int .u8 (48 + d) = vb (dgt d.toNat) := by
  unfold dgt vb
  rw [UInt8.toNat_ofNat']
  congr 1
  omega
attribute [irreducible] dgt
/-- a digit as a text -/
theorem digit_text (d : Int) (h1 : 0 ≤ d) (h2 : d ≤ 9) (w w' : World) (h : w'.heap[w.heap.size]? = (w.alloc (.cells #[.int .u8 (48 + d)] 5)).heap[w.heap.size]?) :
    (convert 28 9 (.slice (some ⟨w.heap.size, 0, none⟩) 1 1)).run Tryd.prog w' = .ok (.string ⟨#[dgt d.toNat]⟩) w' := by
  rw [dgt_val h1 h2] at h
  have ho := Own.lit (B := w.heap.size) w 5 [vb (dgt d.toNat)] (Nat.le_refl _) (by simp [maxLen])
  have ho' : OwnB w' w.heap.size (.slice (some ⟨w.heap.size, 0, none⟩) 1 1) [dgt d.toNat] := Own.of_block ho (fun g hg => by
    simp [Value.ownBlock] at hg
    subst hg
    exact h)
  exact OwnB.text (l := [dgt d.toNat]) ho'
set_option maxHeartbeats 4000000 in
set_option maxRecDepth 100000 in
theorem l01Dec_all (k : Nat) : ∀ (n : Int) (w : World), 0 ≤ n → n < 10 ^ (k + 1) → k ≤ 8 →
    Calls Tryd.prog 33 #[.int .i64 n] w fun e w' => e = .returned (tv (Lib.decDigits n.toNat)) ∧ Below w.heap.size w w' := by
  have one : ∀ (n : Int) (w : World), 0 ≤ n → n < 10 → Calls Tryd.prog 33 #[.int .i64 n] w fun e w' => e = .returned (tv (Lib.decDigits n.toNat)) ∧ Below w.heap.size w w' := by
    intro n w h1 h2
    have hd := digit_text n h1 (by omega) w _ rfl
    have HD : Hid (Lib.decDigits n.toNat = [dgt n.toNat]) := Lib.hid (dgt_one (by omega))
    have hw1 : IntKind.i64.wrap (48 + n) = 48 + n := IntWalk.i64_in _ (by omega)
    have hw2 : IntKind.u8.wrap (48 + n) = 48 + n := IntWalk.u8_in _ (by omega)
    go_enter Tryd.func33, Tryd.ntmps33
    go_wp2_with fail
    go_ret
    exact ⟨by rw [HD.out]; rfl, below_alloc _ _⟩
  induction k with
  | zero => intro n w h1 h2 _; exact one n w h1 (by omega)
  | succ k ih =>
    intro n w h1 h2 hk
    by_cases hn : n < 10
    · exact one n w h1 hn
    · have hp : (10 : Int) ^ (k + 1 + 1) = 10 ^ (k + 1) * 10 := Int.pow_succ _ _
      have hp2 : (10 : Int) ^ (k + 1) ≤ 1000000000 := by
        have : (10 : Nat) ^ (k + 1) ≤ 10 ^ 9 := Nat.pow_le_pow_right (by omega) (by omega)
        have h3 : ((10 ^ (k + 1) : Nat) : Int) ≤ ((10 ^ 9 : Nat) : Int) := Int.ofNat_le.2 this
        simpa using h3
      obtain ⟨d, hd⟩ : ∃ d, d = n % 10 := ⟨_, rfl⟩
      obtain ⟨m, hm⟩ : ∃ m, m = n / 10 := ⟨_, rfl⟩
      have IH := fun w => ih m w (by omega) (by omega) (by omega)
      have hmt : n.tdiv 10 = m := by rw [hm]; exact Int.tdiv_eq_ediv_of_nonneg h1
      have hdt : n.tmod 10 = d := by rw [hd]; exact Int.tmod_eq_emod_of_nonneg h1
      have hd0 : 0 ≤ d ∧ d ≤ 9 := by omega
      have hw1 : IntKind.i64.wrap (48 + d) = 48 + d := IntWalk.i64_in _ (by omega)
      have hw2 : IntKind.u8.wrap (48 + d) = 48 + d := IntWalk.u8_in _ (by omega)
      have hw3 : IntKind.i64.wrap m = m := IntWalk.i64_in _ (by omega)
      have hw4 : IntKind.i64.wrap d = d := IntWalk.i64_in _ (by omega)
      have HD : Hid (Lib.decDigits n.toNat = Lib.decDigits m.toNat ++ [dgt d.toNat]) := Lib.hid (by
        have e1 : m.toNat = n.toNat / 10 := by omega
        have e2 : d.toNat = n.toNat % 10 := by omega
        rw [e1, e2]; exact dgt_app (by omega))
      have hL : (Lib.decDigits m.toNat).length ≤ 21 := by
        have := Lib.itoa_length_le m (by omega) (by omega)
        unfold Lib.itoa at this
        rwa [if_neg (by omega)] at this
      have HI := Lib.hid IH
      have hc1 := fun w : World => digit_text d hd0.1 hd0.2 w (w.alloc (.cells #[.int .u8 (48 + d)] 5)) rfl
      have hc2 := fun w : World => digit_text d hd0.1 hd0.2 w (w.alloc (.cells #[.int .u8 (48 + d)] 5)).drew rfl
      have HC3 : Hid (∀ w w' : World, Below (w.alloc (.cells #[.int .u8 (48 + d)] 5)).drew.heap.size (w.alloc (.cells #[.int .u8 (48 + d)] 5)).drew w' → (convert 28 9 (.slice (some ⟨w.heap.size, 0, none⟩) 1 1)).run Tryd.prog w' = .ok (.string ⟨#[dgt d.toNat]⟩) w') := Lib.hid (fun w w' hb => digit_text d hd0.1 hd0.2 w w' (hb.block _ (by simp)))
      clear ih one hp hp2 hd hm IH h2
      go_enter Tryd.func33, Tryd.ntmps33
      go_wp2_with fail
      go_region_with (go_at_call 33; refine (HI.out _).mono ?_; rintro e w' ⟨rfl, hb⟩; unfold tv; try have hc4 := HC3.out _ _ hb)
      all_goals go_wp2_with fail
      all_goals go_ret
      all_goals refine ⟨ret_str (by rw [HD.out]; exact ba_app _ _), ?_⟩
      all_goals first
        | exact ((below_toDrewN 1 _ w).trans hb).alloc hb.size _
        | exact ((below_alloc w _).trans (below_toDrewN 1 _ _)).trans (hb.mono (by simp))
theorem c_l01Dec (n : Int) (w : World) (h : 0 ≤ n) (h' : n < 1000000000) : Calls Tryd.prog 33 #[.int .i64 n] w fun e w' => e = .returned (tv (Lib.decDigits n.toNat)) ∧ Below w.heap.size w w' :=
  l01Dec_all 8 n w h (by omega) (by omega)
theorem itoa_pos {n : Int} (h : 0 ≤ n) : Lib.itoa n = Lib.decDigits n.toNat := by unfold Lib.itoa; rw [if_neg (by omega)]
theorem itoa_min {n : Int} (h : n < 0) : Lib.itoa n = 45 :: Lib.decDigits (-n).toNat := by unfold Lib.itoa; rw [if_pos h]; congr 2; omega
theorem dec_len {n : Int} (h : 0 ≤ n) (h' : n < 1000000000) : (Lib.decDigits n.toNat).length ≤ 21 := by
  have := Lib.itoa_length_le n (by omega) (by omega)
  rwa [itoa_pos h] at this
end Go.Proofs.YtcgmbpkichfalaaDoor
