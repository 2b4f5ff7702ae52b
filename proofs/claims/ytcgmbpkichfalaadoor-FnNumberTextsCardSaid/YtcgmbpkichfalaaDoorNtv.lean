/- Texts of numbers: the reference's text, and the law of NumberText. -/
import Derived.Test.YtcgmbpkichfalaaDoorNtw
namespace Go.Proofs.YtcgmbpkichfalaaDoor
open Go.RowKit Txt
theorem ba1 (a : List UInt8) : (⟨#[]⟩ : ByteArray) ++ ⟨a.toArray⟩ = ⟨a.toArray⟩ := by
  apply ByteArray.ext
  simp
theorem ba2 (a : List UInt8) : (⟨#[45]⟩ : ByteArray) ++ ⟨a.toArray⟩ = ⟨([45] ++ a).toArray⟩ := ba_app [45] a
theorem ba4 (a b : List UInt8) : (⟨#[45]⟩ : ByteArray) ++ ⟨a.toArray⟩ ++ ⟨#[47]⟩ ++ ⟨b.toArray⟩ = ⟨([45] ++ a ++ 47 :: b).toArray⟩ := by
  apply ByteArray.ext
  simp
theorem ba3 (a b : List UInt8) : (⟨a.toArray⟩ : ByteArray) ++ ⟨#[47]⟩ ++ ⟨b.toArray⟩ = ⟨(a ++ 47 :: b).toArray⟩ := by
  apply ByteArray.ext
  simp
set_option maxHeartbeats 4000000 in
theorem c_l01Text (a : Int) (w : World) (h1 : 0 ≤ a) (h2 : a < 55441) :
    Calls Tryd.prog 20 #[.int .i64 a] w fun e w' => e = .returned (tv (txt a)) ∧ Below w.heap.size w w' := by
  have hsf := Fus.shortF_cases a
  have htx : txt a = if (Fus.shortF a).2 = 0 then Lib.itoa a else if (Fus.shortF a).2 = 1 then Lib.itoa (Fus.shortF a).1 else Lib.itoa (Fus.shortF a).1 ++ 47 :: Lib.itoa (Fus.shortF a).2 := rfl
  have hS := c_l01Short a w h1 h2
  obtain ⟨p, q, hpq⟩ : ∃ p q, Fus.shortF a = (p, q) := ⟨_, _, rfl⟩
  rw [hpq] at hS htx
  have hbd : -166 ≤ p ∧ p ≤ 166 ∧ 0 ≤ q ∧ q ≤ 166 := by
    rcases hsf with e | ⟨q', e1, e2, e3, e4, e5, _⟩
    · rw [hpq] at e; cases e; omega
    · rw [hpq] at e3; cases e3; omega
  obtain ⟨b1, b2, b3, b4⟩ := hbd
  have HX := Lib.hid htx
  clear htx hsf hpq
  have hSS := Lib.hid hS
  clear hS
  by_cases hq0 : q = 0
  · have HT : Hid (txt a = Lib.decDigits a.toNat) := Lib.hid (by rw [HX.out, if_pos hq0, itoa_pos h1])
    subst hq0
    clear HX
    go_enter Tryd.func20, Tryd.ntmps20
    go_wp2_with fail
    refine hSS.out.mono ?_
    rintro e w1 ⟨rfl, rfl⟩
    unfold two
    go_wp2_with fail
    refine (c_l01Dec a _ (by omega) (by omega)).mono ?_
    rintro e w2 ⟨rfl, hb2⟩
    unfold tv
    go_wp2_with fail
    go_ret
    exact ⟨ret_str (by rw [HT.out]), hb2⟩
  · have hl2 := dec_len b3 (by omega)
    have HIq : Hid (Lib.itoa q = Lib.decDigits q.toNat) := Lib.hid (itoa_pos b3)
    by_cases hp : p < 0
    · have hneg : IntKind.i64.wrap (-p) = -p := IntWalk.i64_in _ (by omega)
      have hl1 := dec_len (n := -p) (by omega) (by omega)
      by_cases hq1 : q = 1
      · have HT : Hid (txt a = [45] ++ Lib.decDigits (-p).toNat) := Lib.hid (by rw [HX.out, if_neg hq0, if_pos hq1, itoa_min hp]; rfl)
        subst hq1
        clear HX
        go_enter Tryd.func20, Tryd.ntmps20
        go_wp2_with fail
        refine hSS.out.mono ?_
        rintro e w1 ⟨rfl, rfl⟩
        unfold two
        go_wp2_with fail
        refine (c_l01Dec (-p) _ (by omega) (by omega)).mono ?_
        rintro e w2 ⟨rfl, hb2⟩
        unfold tv
        go_wp2_with fail
        go_ret
        exact ⟨ret_str (by rw [HT.out]; exact ba2 _), hb2⟩
      · have HT : Hid (txt a = [45] ++ Lib.decDigits (-p).toNat ++ 47 :: Lib.decDigits q.toNat) := Lib.hid (by rw [HX.out, if_neg hq0, if_neg hq1, itoa_min hp, HIq.out]; rfl)
        have hq2 : ¬ q ≤ 1 := by omega
        clear HX
        go_enter Tryd.func20, Tryd.ntmps20
        go_wp2_with fail
        refine hSS.out.mono ?_
        rintro e w1 ⟨rfl, rfl⟩
        unfold two
        go_wp2_with fail
        refine (c_l01Dec (-p) _ (by omega) (by omega)).mono ?_
        rintro e w2 ⟨rfl, hb2⟩
        unfold tv
        go_wp2_with fail
        refine (c_l01Dec q _ (by omega) (by omega)).mono ?_
        rintro e w3 ⟨rfl, hb3⟩
        unfold tv
        go_wp2_with fail
        go_ret
        exact ⟨ret_str (by rw [HT.out]; exact ba4 _ _), hb2.trans (hb3.mono hb2.size)⟩
    · have hl1 := dec_len (n := p) (by omega) (by omega)
      by_cases hq1 : q = 1
      · have HT : Hid (txt a = Lib.decDigits p.toNat) := Lib.hid (by rw [HX.out, if_neg hq0, if_pos hq1, itoa_pos (by omega)])
        subst hq1
        clear HX
        go_enter Tryd.func20, Tryd.ntmps20
        go_wp2_with fail
        refine hSS.out.mono ?_
        rintro e w1 ⟨rfl, rfl⟩
        unfold two
        go_wp2_with fail
        refine (c_l01Dec p _ (by omega) (by omega)).mono ?_
        rintro e w2 ⟨rfl, hb2⟩
        unfold tv
        go_wp2_with fail
        go_ret
        exact ⟨ret_str (by rw [HT.out]; exact ba1 _), hb2⟩
      · have HT : Hid (txt a = Lib.decDigits p.toNat ++ 47 :: Lib.decDigits q.toNat) := Lib.hid (by rw [HX.out, if_neg hq0, if_neg hq1, itoa_pos (by omega), HIq.out])
        have hq2 : ¬ q ≤ 1 := by omega
        clear HX
        go_enter Tryd.func20, Tryd.ntmps20
        go_wp2_with fail
        refine hSS.out.mono ?_
        rintro e w1 ⟨rfl, rfl⟩
        unfold two
        go_wp2_with fail
        refine (c_l01Dec p _ (by omega) (by omega)).mono ?_
        rintro e w2 ⟨rfl, hb2⟩
        unfold tv
        go_wp2_with fail
        refine (c_l01Dec q _ (by omega) (by omega)).mono ?_
        rintro e w3 ⟨rfl, hb3⟩
        unfold tv
        go_wp2_with fail
        go_ret
        exact ⟨ret_str (by rw [HT.out]; exact ba3 _ _), hb2.trans (hb3.mono hb2.size)⟩
set_option maxHeartbeats 2000000 in
theorem c_SNumberText (a : Int) (w : World) :
    Calls Tryd.prog 8 #[.int .i64 a] w fun e w' => e = .returned (twoT (textN a)) ∧ Below w.heap.size w w' := by
  cases hn : isNum a
  · have HF : Hid (textN a = ([], 2)) := Lib.hid (by unfold textN; rw [if_neg (by rw [hn]; simp)])
    have HN := Lib.hid hn
    clear hn
    go_enter Tryd.func8, Tryd.ntmps8
    go_wp2_with fail
    refine (c_l01Number a _).mono ?_
    rw [HN.out]
    rintro e w1 ⟨rfl, rfl⟩
    go_wp2_with fail
    go_ret2
    exact ⟨by rw [HF.out]; rfl, Below.refl _ _⟩
  · have HF : Hid (textN a = (txt a, 0)) := Lib.hid (by unfold textN; rw [if_pos hn])
    have HN := Lib.hid hn
    have hbd := isNum_true hn
    clear hn
    go_enter Tryd.func8, Tryd.ntmps8
    go_wp2_with fail
    refine (c_l01Number a _).mono ?_
    rw [HN.out]
    rintro e w1 ⟨rfl, rfl⟩
    go_wp2_with fail
    refine (c_l01Text a _ hbd.1 hbd.2).mono ?_
    rintro e w1 ⟨rfl, hb⟩
    unfold tv
    go_wp2_with fail
    go_ret2
    exact ⟨by rw [HF.out]; rfl, hb⟩
set_option maxHeartbeats 2000000 in
theorem w_FnExactNumberText (a : Int) (w : World) (ht : TabW w) :
    Calls Tryd.prog 4 #[.int .i64 a] w fun e w' => e = .returned (.bool true) ∧ Below w.heap.size w w' := by
  have HT := Lib.hid ht
  clear ht
  go_enter Tryd.func4, Tryd.ntmps4
  go_wp2_with fail
  refine (c_SNumberText a _).mono ?_
  rintro e w1 ⟨rfl, hb1⟩
  unfold twoT
  go_wp2_with fail
  refine (c_NumberText a _ (HT.out.keep hb1)).mono ?_
  rintro e w2 ⟨rfl, hb2⟩
  unfold twoT
  go_wp2_with fail
  go_ret
  exact ⟨rfl, hb1.trans (hb2.mono hb1.size)⟩
end Go.Proofs.YtcgmbpkichfalaaDoor
