/- Walks: the draws of the law FnEigenspaces. -/
import Derived.Test.YtmbcncmmgfnlmaaMsl
import Derived.Test.YtmbcncmmgfnlmaaGpw
import Derived.Test.YtmbcncmmgfnlmaaGin
import Derived.Test.YtmbcncmmgfnlmaaDtw
import Derived.Test.YtmbcncmmgfnlmaaChn
import Derived.Test.YtmbcncmmgfnlmaaDia
namespace Go.Proofs.Ytmbcncmmgfnlmaa
open Go.RowKit
attribute [local go_sem ↓] Go.wp_at_zero Go.wp_at_succ
open Fus (F Mx toI ofI toI_bd toI_of toI_ofI ofI_toI mm one D D_red redR invM rts hpoly)
attribute [local irreducible] Fus.rts Fus.fnat
/-- what a draw of an own table out of a code answers -/
def TabO (w : World) : Ending → World → Prop := fun e w' => ∃ (u : Value) (m : List (List Int)), e = .returned u ∧ OwnM w' w.heap.size u m ∧ (m.length ≤ 1000000 ∧ ∀ xs ∈ m, xs.length ≤ 1000000) ∧ Below w.heap.size w w'
/-- an entry of bounded rows is read or written -/
theorem OwnB.entryB {w : World} {lo hi g n cap : Nat} {xss : List (List Int)} {k i : Nat} {xs : List Int} {y : Int} (h : OwnB w lo hi (.slice (some ⟨g, 0, none⟩) n cap) xss) (hx : xss[k]? = some xs) (hy : xs[i]? = some y) :
    ∃ gk ck, w.cell? ⟨g, k, none⟩ = some (.slice (some ⟨gk, 0, none⟩) xs.length ck) ∧ w.cell? ⟨gk, i, none⟩ = some (vi y) ∧ w.frozen? ⟨gk, i, none⟩ = false ∧ lo ≤ gk ∧ gk < hi ∧ gk ≠ g ∧
      ∀ x, OwnB (w.setCell ⟨gk, i, none⟩ (vi x)) lo hi (.slice (some ⟨g, 0, none⟩) n cap) (xss.set k (xs.set i x)) := by
  obtain ⟨us, ho, hlen, hr, ha, hb1, hb2⟩ := h
  have hk := (List.getElem?_eq_some_iff.1 hx).1
  obtain ⟨u, hu⟩ : ∃ u, us[k]? = some u := ⟨us[k]'(by omega), by simp⟩
  have hrow := hr k u xs hu hx
  rcases hrow.shape with ⟨_, hnil⟩ | ⟨gk, ck, rfl, hB, hlt, _⟩
  · rw [List.map_eq_nil_iff] at hnil; subst hnil; simp at hy
  · rw [List.length_map] at hu hrow
    have hne : gk ≠ g := fun e => Own.other ho hrow (by decide) rfl (by rw [e]; rfl)
    refine ⟨gk, ck, Own.cell ho hu, Own.cell hrow (u := vi y) (by simp [hy]), Own.frozen hrow i, hB, hb2 k _ hu gk rfl, hne, fun x => ⟨us, ?_, by simp [hlen], ?_, ha, hb1, hb2⟩⟩
    · exact Own.keepOther (a := ⟨gk, i, none⟩) ho (fun e => hne (by cases e; rfl)) _
    · intro j u' xs' h1 h2
      rw [List.getElem?_set] at h2
      by_cases e : k = j
      · subst e
        rw [if_pos rfl, if_pos hk] at h2
        rw [hu] at h1
        cases h1; cases h2
        have := Own.store hrow i (vi x)
        rw [← List.map_set] at this
        exact this
      · rw [if_neg e] at h2
        refine Own.keepOther (a := ⟨gk, i, none⟩) (hr j u' xs' h1 h2) (fun hb => ?_) _
        exact ha k j _ u' hu h1 e gk rfl hb
theorem OwnB.off {w : World} {lo hi k i : Nat} {v u : Value} {xss : List (List Int)} (h : OwnB w lo hi v xss) (hk : k < lo ∨ hi ≤ k) : OwnB (w.setCell ⟨k, i, none⟩ u) lo hi v xss :=
  h.same fun j h1 h2 => Below.heap_setCell _ _ _ _ (fun e => by simp at e; omega)
theorem unit_upd {n i k : Nat} {f : Mx} {t : Int} (h1 : 0 ≤ t) (h2 : t < 55441) : (tabF n n f).set i ((zl n (f i)).set k t) = tabF n n (fun a b => if a = i ∧ b = k then ofI t else f a b) := by
  rw [← tabF_upd, toI_ofI]
  rw [show t % 55441 = t from by omega]
set_option maxHeartbeats 1000000 in
theorem o_l02DrawSquare (q : Value) (bs : List Int) (w : World) (hq : Bytes w q bs) (hl : bs.length ≤ 4096) :
    Calls Try.prog 63 #[q] w (TabO w) := by
  go_enter Try.func63, Try.ntmps63
  go_wp2_with fail
  refine (c_l01From _ bs _ hq hl).mono ?_
  rintro e w1 ⟨v, rfl, hs1, hb1⟩
  have HS1 := Lib.hid hs1
  have HB1 := Lib.hid hb1
  clear hs1 hb1
  go_wp2_with fail
  refine (k_l02Size v _ _ _ HS1.out).mono ?_
  rintro e w2 ⟨n, rfl, hn1, hn2, hs2, hk⟩
  have HS2 := Lib.hid hs2
  have HB2 := Lib.hid (Kept.belowN HB1.out hk)
  clear hs2 hk
  go_wp2_with fail
  refine (k_next v 24 _ _ _ HS2.out (by omega) (by omega)).mono ?_
  rintro e w3 ⟨z, rfl, _, _, hs3, hk⟩
  have HS3 := Lib.hid hs3
  have HB3 := Lib.hid (Kept.belowN HB2.out hk)
  have hz3 := HB3.out.size
  clear hs3 hk
  by_cases hz : z = 0
  · subst hz
    go_wp2_with fail
    have hn1 : IntKind.i64.wrap ((n : Int) + 1) = ((n + 1 : Nat) : Int) := by rw [IntWalk.i64_in _ (by omega)]; rfl
    refine (k_l02SpoilO v n (n + 1) _ _ _ HS3.out (by omega) (by omega) (by omega) (by omega)).mono ?_
    rintro e w4 ⟨u, mu, rfl, hr, hm, hs4, hk⟩
    have HRu := Lib.hid (hr.mono hz3)
    have HM := Lib.hid hm
    have HB4 := Lib.hid (Kept.belowN HB3.out hk)
    clear hs4 hr hk hm
    go_wp2_with fail
    go_ret
    exact ⟨u, mu, rfl, HRu.out, HM.out, HB4.out⟩
  · have hzB : (z == 0) = false := by simp [hz]
    go_wp2_with fail
    refine (k_l02SpoilO v n n _ _ _ HS3.out (by omega) (by omega) (by omega) (by omega)).mono ?_
    rintro e w4 ⟨u, mu, rfl, hr, hm, hs4, hk⟩
    have HRu := Lib.hid (hr.mono hz3)
    have HM := Lib.hid hm
    have HB4 := Lib.hid (Kept.belowN HB3.out hk)
    clear hs4 hr hk hm
    go_wp2_with fail
    go_ret
    exact ⟨u, mu, rfl, HRu.out, HM.out, HB4.out⟩
set_option maxRecDepth 100000 in
set_option maxHeartbeats 8000000 in
theorem o_l02DrawSmall (q : Value) (bs : List Int) (w : World) (hq : Bytes w q bs) (hl : bs.length ≤ 4096) :
    Calls Try.prog 74 #[q] w (TabO w) := by
  have HQ := Lib.hid hq
  go_enter Try.func74, Try.ntmps74
  go_wp2_with fail
  refine (c_l01From _ bs _ hq hl).mono ?_
  rintro e w1 ⟨v, rfl, hs1, hb1⟩
  have HS1 := Lib.hid hs1
  have HB1 := Lib.hid hb1
  clear hs1 hb1 hq
  go_wp2_with fail
  refine (k_next v 4 _ _ _ HS1.out (by omega) (by omega)).mono ?_
  rintro e w2 ⟨x, rfl, hx1, hx2, hs2, hk⟩
  obtain ⟨x, rfl⟩ := Int.eq_ofNat_of_zero_le hx1
  have HS2 := Lib.hid hs2
  have HB2 := Lib.hid (Kept.belowN HB1.out hk)
  have hnw : IntKind.i64.wrap (1 + (x : Int)) = ((1 + x : Nat) : Int) := by rw [IntWalk.i64_in _ (by omega)]; rfl
  clear hs2 hk
  go_wp2_with fail
  refine (k_next v 3 _ _ _ HS2.out (by omega) (by omega)).mono ?_
  rintro e w3 ⟨z, rfl, _, _, hs3, hk⟩
  have HS3 := Lib.hid hs3
  have HB3 := Lib.hid (Kept.belowN HB2.out hk)
  have hz3 := HB3.out.size
  clear hs3 hk HS1 HS2 HB1 HB2
  by_cases hz : z = 0
  · subst hz
    have HQ3 := Lib.hid (HQ.out.keep HB3.out)
    go_wp2_with fail
    refine (o_l02DrawSquare _ bs _ HQ3.out hl).mono ?_
    rintro e w4 ⟨u, mu, rfl, hr, hm, hb⟩
    have HRu := Lib.hid (hr.mono hz3)
    have HM := Lib.hid hm
    have HB4 := Lib.hid (HB3.out.trans (hb.mono hz3))
    clear hr hm hb
    go_wp2_with fail
    go_ret
    exact ⟨u, mu, rfl, HRu.out, HM.out, HB4.out⟩
  have hzB : (z == 0) = false := by simp [hz]
  obtain ⟨n, hn⟩ : ∃ n, n = 1 + x := ⟨_, rfl⟩
  have hnn : (1 + (x : Int)) = (n : Int) := by omega
  rw [hnn]
  clear hnw hnn
  have hn1 : 0 < n := by omega
  have hn4 : n ≤ 4 := by omega
  clear hz hn hx1
  go_wp2_with fail
  refine (c_l02Unit n _ (by omega)).mono ?_
  rintro e w4 ⟨ud, rfl, ho4, hb4⟩
  obtain ⟨gd, cd, rfl, hgd1, hgd2⟩ := ho4.shape' (by rw [tabF_length]; exact hn1)
  rw [tabF_length] at ho4 ⊢
  have hgl := HS3.out.lo
  have HD4 := Lib.hid ho4.bound
  have HS4 := Lib.hid (HS3.out.keep hb4)
  have HB4 := Lib.hid (HB3.out.trans (hb4.mono hz3))
  have hz4 := hb4.size
  clear ho4 hb4
  go_wp2_with fail
  refine (k_l02Draw v n n _ _ _ HS4.out (by omega) hn1 (by omega)).mono ?_
  rintro e w5 ⟨um, fm, rfl, ho5, hs5, hk5⟩
  have HD5 := Lib.hid (HD4.out.kept hk5 hgl.2 (Nat.le_refl _))
  have HM5 := Lib.hid ho5.bound
  have HS5 := Lib.hid hs5
  have HB5 := Lib.hid (Kept.belowN HB4.out hk5)
  have hz5 := hk5.size
  clear ho5 hs5 hk5 HD4 HS4 HS3 HB3 HB4
  go_wp2_with fail
  obtain ⟨wo, hwo⟩ : ∃ wo : World, wo = w5 := ⟨_, rfl⟩
  subst hwo
  go_loopw [7] (fun i wr => ∃ (k : Nat) (f : Mx), k ≤ n ∧ i = .int .i64 k ∧ Hid (OwnB wr w3.heap.size w4.heap.size (.slice (some ⟨gd, 0, none⟩) n cd) (tabF n n f)) ∧ Hid (OwnB wr w4.heap.size wo.heap.size um (tabF n n fm)) ∧ Hid (SrcG wr w.heap.size w.heap.size v) ∧ Hid (Below w.heap.size w wr) ∧ wo.heap.size ≤ wr.heap.size) (fun i _ => n - (intOf i).toNat)
  case atStart => exact ⟨0, one, Nat.zero_le _, rfl, HD5, HM5, HS5, HB5, Nat.le_refl _⟩
  case round =>
    obtain ⟨k, f, hk, rfl, HD, HM, HS, HB, hszo⟩ := hrel
    clear HD5 HM5 HS5 HB5
    have hgs := HS.out.lo.2
    by_cases hlt : k < n
    · have hltI : (k : Int) < (n : Int) := by omega
      obtain ⟨gk, ck, k1, k2, k3, k4, k4', k5, k6⟩ := HD.out.entryB (k := k) (i := k) (tabF_at n f hlt) (zl_at (f k) hlt)
      rw [zl_length] at k1
      have hne1 : gd ≠ w.heap.size := by omega
      have hne2 : gk ≠ w.heap.size := by omega
      clear k6
      go_wp2_with fail
      refine (k_l01Draw v _ _ _ HS.out).mono ?_
      rintro e w6 ⟨y, rfl, hy, hs6, hk6⟩
      have HS6 := Lib.hid hs6
      have HK6 := Lib.hid hk6
      clear hs6 hk6
      go_wp2_with fail
      refine (k_pick v _ [0, 1, 2, y] _ _ _ HS6.out (by simp) (by simp)).mono ?_
      rintro e w7 ⟨t, rfl, ht, hs7, hk7⟩
      have hK7 := HK6.out.trans hk7
      have htb : 0 ≤ t ∧ t < 55441 := by simp at ht; omega
      have hD7 := HD.out.kept hK7 hgl.2 (by omega)
      have q1 := hK7.cell k1 hne1
      obtain ⟨gk', ck', q1', q2, q3, _, _, _, q6⟩ := hD7.entryB (k := k) (i := k) (tabF_at n f hlt) (zl_at (f k) hlt)
      rw [zl_length, q1] at q1'
      cases q1'
      have hD8 := q6 t
      rw [unit_upd htb.1 htb.2] at hD8
      have HD8 := Lib.hid hD8
      have HM8 : Hid (OwnB (w7.setCell ⟨gk, k, none⟩ (vi t)) w4.heap.size wo.heap.size um (tabF n n fm)) := Lib.hid ((HM.out.kept hK7 (by omega) hszo).off (.inl k4'))
      have HS8 : Hid (SrcG (w7.setCell ⟨gk, k, none⟩ (vi t)) w.heap.size w.heap.size v) := Lib.hid (SrcG.setNew hs7 hgl.2 k4)
      have HB8 : Hid (Below w.heap.size w (w7.setCell ⟨gk, k, none⟩ (vi t))) := Lib.hid (below_set (Kept.belowN HB.out hK7) (by omega))
      have hz8 : wo.heap.size ≤ (w7.setCell ⟨gk, k, none⟩ (vi t)).heap.size := by simpa using Nat.le_trans hszo hK7.size
      clear hD8 hD7 hK7 hs7 hk7 HS6 HK6 HD HM HS HB k1 k2 k3 q6 htb ht hy
      by_cases hk1 : k + 1 < n
      · have hk1I : (k : Int) + 1 < (n : Int) := by omega
        go_wp2_with fail
        refine (k_next v 4 _ _ _ HS8.out (by omega) (by omega)).mono ?_
        rintro e w9 ⟨z2, rfl, _, _, hs9, hk9⟩
        have hD9 := HD8.out.kept hk9 hgl.2 (by omega)
        have HM9 := Lib.hid (HM8.out.kept hk9 (by omega) hz8)
        have HB9 := Lib.hid (Kept.belowN HB8.out hk9)
        have hz9 := Nat.le_trans hz8 hk9.size
        by_cases hz2 : z2 = 0
        · subst hz2
          have q1s : (w7.setCell ⟨gk, k, none⟩ (vi t)).cell? ⟨gd, k, none⟩ = some (.slice (some ⟨gk, 0, none⟩) n ck) := by
            rw [← q1]; exact World.cell?_of_block (Below.heap_setCell _ _ _ _ (fun e => k5 (by simpa using e.symm)))
          have q9 := hk9.cell q1s hne1
          obtain ⟨gk2, ck2, p1, p2, p3, _, _, _, p6⟩ := hD9.entryB (k := k) (i := k + 1) (tabF_at n _ hlt) (zl_at _ hk1)
          rw [zl_length, q9] at p1
          cases p1
          have hD10 := p6 1
          rw [unit_upd (by omega) (by omega)] at hD10
          have HD10 := Lib.hid hD10
          have HM10 : Hid (OwnB (w9.setCell ⟨gk, k + 1, none⟩ (vi 1)) w4.heap.size wo.heap.size um (tabF n n fm)) := Lib.hid (HM9.out.off (.inl k4'))
          have HS10 : Hid (SrcG (w9.setCell ⟨gk, k + 1, none⟩ (vi 1)) w.heap.size w.heap.size v) := Lib.hid (SrcG.setNew hs9 hgl.2 k4)
          have HB10 : Hid (Below w.heap.size w (w9.setCell ⟨gk, k + 1, none⟩ (vi 1))) := Lib.hid (below_set HB9.out (by omega))
          have hz10 : wo.heap.size ≤ (w9.setCell ⟨gk, k + 1, none⟩ (vi 1)).heap.size := by simpa using hz9
          clear hD9 hD10 hs9 hk9 HM9 HB9 p6 q1s
          go_wp2_with fail
          go_roundw
          case rel => exact ⟨k + 1, _, by omega, by go_num, HD10, HM10, HS10, HB10, hz10⟩
          case measure => simp [intOf]; omega
        · have hz2B : (z2 == 0) = false := by simp [hz2]
          have HD9 := Lib.hid hD9
          have HS9 := Lib.hid hs9
          clear hD9 hs9 hk9 hz2
          go_wp2_with fail
          go_roundw
          case rel => exact ⟨k + 1, _, by omega, by go_num, HD9, HM9, HS9, HB9, hz9⟩
          case measure => simp [intOf]; omega
      · have hk1I : ¬ (k : Int) + 1 < (n : Int) := by omega
        go_wp2_with fail
        go_roundw
        case rel => exact ⟨k + 1, _, by omega, by go_num, HD8, HM8, HS8, HB8, hz8⟩
        case measure => simp [intOf]; omega
    · obtain rfl : k = n := by omega
      have hsm : ∀ h : Mx, (tabF k k h).length ≤ 1000000 ∧ ∀ xs ∈ tabF k k h, xs.length ≤ 1000000 := fun h => small_tabD h (by omega) (by omega)
      have HSM := Lib.hid hsm
      have HMr : Hid (IntRows wr um (tabF k k fm)) := Lib.hid (HM.out.rows (by have := (hsm fm).1; omega) fun xs hx => by have := (hsm fm).2 xs hx; omega)
      have HDr : Hid (IntRows wr (.slice (some ⟨gd, 0, none⟩) k cd) (tabF k k f)) := Lib.hid (HD.out.rows (by have := (hsm f).1; omega) fun xs hx => by have := (hsm f).2 xs hx; omega)
      clear hsm HS
      go_wp2_with fail
      refine (c_l02Det um k fm _ HMr.out hn1 (by omega)).mono ?_
      rintro e w6 ⟨rfl, hb6⟩
      rw [← D_red]
      have HMr := Lib.hid (HMr.out.keep hb6)
      have HDr := Lib.hid (HDr.out.keep hb6)
      have HD6 := Lib.hid (HD.out.keep hb6 (by omega))
      have HB6 := Lib.hid (HB.out.trans (hb6.mono HB.out.size))
      have hz6 := HB6.out.size
      clear hb6 HD HM HB
      by_cases hD : D k fm = 0
      · rw [hD, Fus.toI_zero]
        go_wp2_with fail
        go_ret
        exact ⟨_, _, rfl, HD6.out.own.mono hz3, HSM.out f, HB6.out⟩
      · have hDB : (toI (D k fm) == 0) = false := by
          rw [beq_eq_false_iff_ne]; exact fun e => hD (Fus.toI_eq_zero.1 e)
        have HDD := Lib.hid hD
        clear hD
        go_wp2_with fail
        refine (c_l02TimesF um _ k k k fm f _ HMr.out HDr.out hn1 (by omega) (by omega) (by omega)).mono ?_
        rintro e w7 ⟨u7, rfl, ho7, hb7⟩
        have H7 : Hid (IntRows w7 u7 (tabF k k (mm k fm f))) := Lib.hid (ho7.rowsF (by omega) (by omega))
        have HMr := Lib.hid (HMr.out.keep hb7)
        have HB7 := Lib.hid (HB6.out.trans (hb7.mono HB6.out.size))
        clear ho7 hb7
        go_wp2_with fail
        refine (c_l02Inverse um k fm _ HMr.out hn1 (by omega) HDD.out).mono ?_
        rintro e w8 ⟨u8, rfl, ho8, hb8⟩
        have H8 : Hid (IntRows w8 u8 (tabF k k (invM k fm))) := Lib.hid (ho8.rowsF (by omega) (by omega))
        have H7 := Lib.hid (H7.out.keep hb8)
        have HB8 := Lib.hid (HB7.out.trans (hb8.mono HB7.out.size))
        have hz8 := HB8.out.size
        clear ho8 hb8
        go_wp2_with fail
        refine (c_l02TimesF u7 u8 k k k _ _ _ H7.out H8.out hn1 (by omega) (by omega) (by omega)).mono ?_
        rintro e w9 ⟨u9, rfl, ho9, hb9⟩
        have HO9 := Lib.hid (ho9.mono hz8)
        have HB9 := Lib.hid (HB8.out.trans (hb9.mono HB8.out.size))
        clear ho9 hb9
        go_wp2_with fail
        go_ret
        exact ⟨_, _, rfl, HO9.out, HSM.out _, HB9.out⟩
set_option maxRecDepth 100000 in
set_option maxHeartbeats 4000000 in
theorem c_DrawEigenspaceOf (q : Value) (bs : List Int) (w : World) (hq : Bytes w q bs) (hl : bs.length ≤ 4096) :
    Calls Try.prog 36 #[q] w (fun e w' => ∃ (u : Value) (m : List (List Int)) (x : Int), e = .returned (.tuple #[u, .int .i64 x]) ∧ IntRows w' u m ∧ Below w.heap.size w w') := by
  have HQ := Lib.hid hq
  go_enter Try.func36, Try.ntmps36
  go_wp2_with fail
  refine (c_l01From _ bs _ hq hl).mono ?_
  rintro e w1 ⟨v, rfl, hs1, hb1⟩
  have hgl := hs1.lo.2
  have HS1 := Lib.hid hs1
  have HB1 := Lib.hid hb1
  have HQ1 := Lib.hid (HQ.out.keep hb1)
  clear hs1 hb1 hq HQ
  go_wp2_with fail
  refine (o_l02DrawSmall _ bs _ HQ1.out hl).mono ?_
  rintro e w2 ⟨um, m, rfl, hr, hm, hb⟩
  have HR := Lib.hid (hr.rowsOn hm.1 hm.2)
  have HS := Lib.hid (HS1.out.keep hb)
  have HB := Lib.hid (HB1.out.trans (hb.mono HB1.out.size))
  clear hr hm hb HS1 HB1 HQ1
  go_wp2_with fail
  refine (c_l02Square um m _ HR.out.now).mono ?_
  rintro e w3 ⟨rfl, hb⟩
  have HR := Lib.hid (HR.out.keep hb)
  have HS := Lib.hid (HS.out.keep hb)
  have HB := Lib.hid (HB.out.trans (hb.mono HB.out.size))
  clear hb
  by_cases h : sqCode m true = 0
  case neg =>
    have hB : (sqCode m true == 0) = false := by rw [beq_eq_false_iff_ne]; exact h
    go_wp2_with fail
    refine (k_l01Spoil v _ _ _ HS.out).mono ?_
    rintro e w9 ⟨x, rfl, _, hk⟩
    have HR := Lib.hid (HR.out.kept hk hgl)
    have HB := Lib.hid (Kept.belowN HB.out hk)
    clear hk
    go_wp2_with fail
    go_ret2
    exact ⟨um, m, x, rfl, HR.out.now, HB.out⟩
  have hB : (sqCode m true == 0) = true := by rw [beq_iff_eq]; exact h
  go_wp2_with fail
  refine (k_next v 3 _ _ _ HS.out (by omega) (by omega)).mono ?_
  rintro e w4 ⟨z, rfl, _, _, hs, hk⟩
  have HR := Lib.hid (HR.out.kept hk hgl)
  have HS := Lib.hid hs
  have hg4 := hs.lo.2
  have HB := Lib.hid (Kept.belowN HB.out hk)
  clear hk hs
  by_cases hz : 0 < z
  case neg =>
    go_wp2_with fail
    refine (k_l01Spoil v _ _ _ HS.out).mono ?_
    rintro e w9 ⟨x, rfl, _, hk⟩
    have HR := Lib.hid (HR.out.kept hk hgl)
    have HB := Lib.hid (Kept.belowN HB.out hk)
    clear hk
    go_wp2_with fail
    go_ret2
    exact ⟨um, m, x, rfl, HR.out.now, HB.out⟩
  have hsq := sq_rows h
  have HV : Hid (IntRows w4 um (tabF m.length m.length (entF m))) := Lib.hid (by rw [← sqF h]; exact HR.out.now)
  go_wp2_with fail
  refine (c_l02Values um m.length (entF m) _ HV.out hsq.1 (by omega)).mono ?_
  rintro e w5 ⟨uv, rfl, ho, hb⟩
  have HR := Lib.hid (HR.out.keep hb)
  have HS := Lib.hid (HS.out.keep hb)
  have HBX := Lib.hid (HB.out.trans (hb.mono HB.out.size))
  have hlen := Fus.rts_length (m.length + 1) (hpoly m.length (entF m)) 55441
  generalize rts (m.length + 1) (hpoly m.length (entF m)) 55441 = vals at *
  have hgw := HB.out.size
  obtain ⟨pv, nv, cv, rfl⟩ := ho.slice
  have HO := Lib.hid ho
  clear ho hb HV hsq
  have HB := HBX
  clear HBX
  by_cases hv : 0 < vals.length
  case neg =>
    have hv0 : vals.length = 0 := by omega
    have hnv : nv = 0 := by
      rcases Own.shape HO.out with ⟨e, _⟩ | ⟨g, cap, e, _⟩
      · cases e; rfl
      · cases e; rw [List.length_map]; exact hv0
    subst hnv
    clear hv0
    go_wp2_with fail
    refine (k_l01Spoil v _ _ _ HS.out).mono ?_
    rintro e w9 ⟨x, rfl, _, hk⟩
    have HR := Lib.hid (HR.out.kept hk hgl)
    have HB := Lib.hid (Kept.belowN HB.out hk)
    clear hk
    go_wp2_with fail
    go_ret2
    exact ⟨um, m, x, rfl, HR.out.now, HB.out⟩
  obtain ⟨gv, cv', e5, hgv, _⟩ := HO.out.shapeN rfl hv
  cases e5
  have HC : Hid (∀ j, j < vals.length → ∃ y, w5.cell? ⟨gv, j, none⟩ = some (.int .i64 y)) := Lib.hid (fun j hj => ⟨vals[j], Own.cell HO.out (by rw [List.getElem?_map, List.getElem?_eq_getElem hj]; rfl)⟩)
  have hne : gv ≠ w.heap.size := by omega
  have hvI : (0 : Int) < (vals.length : Int) := by omega
  generalize vals.length = N at *
  have hsD := HS.out.drewN 1
  go_wp2_with fail
  go_region_with
    (go_at_call 49; refine (k_next v N _ _ _ (by assumption) (by omega) (by omega)).mono ?_; rintro e w6 ⟨x, rfl, hx1, hx2, hs6, hk6⟩; obtain ⟨x, rfl⟩ := Int.eq_ofNat_of_zero_le hx1; obtain ⟨y, hy⟩ := HC.out x (by omega); have q1 := hk6.cell hy hne)
  all_goals
    have hk5 : Kept w.heap.size w5 w6 := ⟨hk6.os, hk6.tape, hk6.output, hk6.size, hk6.block⟩
    have HR := Lib.hid (HR.out.kept hk5 hgl)
    have HB := Lib.hid (Kept.belowN HB.out hk5)
    clear hs6 hk6 hk5 q1 hy
    go_wp2_with fail
    go_ret2
    exact ⟨um, m, y, rfl, HR.out.now, HB.out⟩
/-- where the walk of DrawCommonSpace stands -/
structure Cm (w w1 w2 W : World) (v L V : Value) (c : List (List (List Int))) (xs : List Int) : Prop where
  lst : Lst W w2.heap.size w.heap.size L V c xs
  src : SrcG W w.heap.size w.heap.size v
  bel : Below w.heap.size w W
  mid : ∀ k, w1.heap.size ≤ k → k < w2.heap.size → W.heap[k]? = w2.heap[k]?
  sz : w2.heap.size ≤ W.heap.size
  g1 : w.heap.size < w1.heap.size
  s12 : w1.heap.size ≤ w2.heap.size
section
variable {w w1 w2 W W' : World} {v L V : Value} {c : List (List (List Int))} {xs : List Int}
theorem Cm.kept (h : Cm w w1 w2 W v L V c xs) (hk : Kept w.heap.size W W') (hs : SrcG W' w.heap.size w.heap.size v) : Cm w w1 w2 W' v L V c xs :=
  ⟨h.lst.kept hk (by have := h.g1; have := h.s12; omega), hs, Kept.belowN h.bel hk, fun k h1 h2 => (hk.block k (by have := h.sz; omega) (by have := h.g1; omega)).trans (h.mid k h1 h2), Nat.le_trans h.sz hk.size, h.g1, h.s12⟩
theorem Cm.keep (h : Cm w w1 w2 W v L V c xs) (hb : Below W.heap.size W W') : Cm w w1 w2 W' v L V c xs := h.kept (Kept.ofBelow hb) (h.src.keep hb)
/-- .. where one of the two lists is another one -/
theorem Cm.goes {L' V' : Value} {c' : List (List (List Int))} {xs' : List Int} (h : Cm w w1 w2 W v L V c xs) (hb : Below w2.heap.size W W') (hl : Lst W' w2.heap.size w.heap.size L' V' c' xs') : Cm w w1 w2 W' v L' V' c' xs' :=
  ⟨hl, h.src.keepC hb (by have := h.g1; have := h.s12; omega), h.bel.trans (hb.mono (by have := h.g1; have := h.s12; omega)), fun k h1 h2 => (hb.block k h2).trans (h.mid k h1 h2), Nat.le_trans h.sz hb.size, h.g1, h.s12⟩
theorem Cm.newV (h : Cm w w1 w2 W v L V c xs) (x : Int) : Cm w w1 w2 (W.alloc (.cells #[.int .i64 x] 2)) v L (.slice (some ⟨W.heap.size, 0, none⟩) 1 1) c [x] :=
  h.goes ((below_alloc _ _).mono h.sz) (h.lst.newV h.sz x)
theorem Cm.newL (h : Cm w w1 w2 W v L V c xs) : Cm w w1 w2 (W.alloc (.cells #[] 24)) v (.slice (some ⟨W.heap.size, 0, none⟩) 0 0) V [] xs :=
  h.goes ((below_alloc _ _).mono h.sz) (h.lst.newL h.sz)
theorem Cm.pushV {V' : Value} {y : Int} (h : Cm w w1 w2 W v L V c xs) (ho : OwnI W' w2.heap.size V' (xs ++ [y])) (hb : Below w2.heap.size W W')
    (hk : ∀ b, b < W.heap.size → V.ownBlock ≠ some b → W'.heap[b]? = W.heap[b]? ∧ V'.ownBlock ≠ some b) : Cm w w1 w2 W' v L V' c (xs ++ [y]) :=
  h.goes hb (h.lst.pushV ho hb hk)
theorem Cm.ownV (h : Cm w w1 w2 W v L V c xs) : OwnI W w2.heap.size V xs := by
  obtain ⟨S, us, _, _, _, _, _, h6, _⟩ := h.lst
  exact h6
end
set_option maxRecDepth 100000 in
set_option maxHeartbeats 8000000 in
theorem c_DrawCommonSpace (q : Value) (bs : List Int) (w : World) (hq : Bytes w q bs) (hl : bs.length ≤ 4096) :
    Calls Try.prog 43 #[q] w (fun e w' => ∃ (u uu : Value) (c : List (List (List Int))) (xs : List Int), e = .returned (.tuple #[u, uu]) ∧ IntCubes w' u c ∧ Ints w' uu xs ∧ Below w.heap.size w w') := by
  have HQ := Lib.hid hq
  go_enter Try.func43, Try.ntmps43
  go_wp2_with fail
  refine (c_l01From _ bs _ hq hl).mono ?_
  rintro e w1 ⟨v, rfl, hs1, hb1⟩
  have hgl := hs1.lo.2
  have HS1 := Lib.hid hs1
  have HB1 := Lib.hid hb1
  have HQ1 := Lib.hid (HQ.out.keep hb1)
  clear hs1 hb1 hq HQ
  go_wp2_with fail
  refine (o_l02DrawSmall _ bs _ HQ1.out hl).mono ?_
  rintro e w2 ⟨um, m, rfl, hr, hm, hb⟩
  obtain ⟨pm, nm, cm, rfl⟩ := hr.slice
  have hsz := hb.size
  have HM := Lib.hid (hr.rowsOn hm.1 hm.2)
  have HL0 := Lib.hid (Lst.one (B := w2.heap.size) HM.out (Nat.le_refl _) hgl)
  have HS2 := Lib.hid ((HS1.out.keep hb).keep (below_alloc w2 (.cells #[.slice pm nm cm] 24)))
  have HB2 := Lib.hid ((HB1.out.trans (hb.mono HB1.out.size)).trans ((below_alloc w2 (.cells #[.slice pm nm cm] 24)).mono (by omega)))
  clear hr hm hb HS1 HB1 HQ1
  go_wp2_with fail
  refine (k_l01Spoil v _ _ _ HS2.out).mono ?_
  rintro e w3 ⟨x, rfl, hs3, hk3⟩
  have HC3 : Hid (Cm w w1 w2 w3 v (.slice (some ⟨w2.heap.size, 0, none⟩) 1 1) (.slice none 0 0) [m] []) := Lib.hid
    ((Cm.mk HL0.out HS2.out HB2.out (fun k _ h2 => Below.heap_alloc _ _ _ h2) (by simp) hgl hsz : Cm w w1 w2 _ v _ _ [m] []).kept hk3 hs3)
  clear hs3 hk3 HL0 HS2 HB2
  have HC4 := Lib.hid (HC3.out.newV x)
  clear HC3
  have HMI : Hid (IntRows (w3.alloc (.cells #[.int .i64 x] 2)) (.slice pm nm cm) m) := Lib.hid (HM.out _ fun k h1 h2 => HC4.out.mid k h1 h2)
  go_wp2_with fail
  refine (c_l02Square _ m _ HMI.out).mono ?_
  rintro e w5 ⟨rfl, hb5⟩
  have HC5 := Lib.hid (HC4.out.keep hb5)
  clear hb5 HC4 HMI
  go_upto_if 22 with fail
  go_cut [6, 7] (fun L V wx => ∃ (c : List (List (List Int))) (xs : List Int), Cm w w1 w2 wx v L V c xs ∧ c.length ≤ 3 ∧ xs.length ≤ 3)
  case first =>
    by_cases h : sqCode m true = 0
    case neg =>
      have hB : (sqCode m true == 0) = false := by rw [beq_eq_false_iff_ne]; exact h
      go_wp2_with fail
      go_meet
      case rel => exact ⟨_, _, HC5.out, by simp, by simp⟩
    have hB : (sqCode m true == 0) = true := by rw [beq_iff_eq]; exact h
    have hsq := sq_rows h
    have HE := Lib.hid (sqF h)
    have HV : Hid (IntRows w5 (.slice pm nm cm) (tabF m.length m.length (entF m))) := Lib.hid (by rw [← HE.out]; exact HM.out _ fun k h1 h2 => HC5.out.mid k h1 h2)
    go_wp2_with fail
    refine (c_l02Values _ m.length (entF m) _ HV.out hsq.1 (by omega)).mono ?_
    rintro e w6 ⟨uv, rfl, ho, hb⟩
    have HC6 := Lib.hid (HC5.out.keep hb)
    have hlen := Fus.rts_length (m.length + 1) (hpoly m.length (entF m)) 55441
    have HBD : Hid (∀ y ∈ rts (m.length + 1) (hpoly m.length (entF m)) 55441, 0 ≤ y ∧ y < 55441) := Lib.hid (fun y hy => rts_bd (by decide) hy)
    have hgw := HC5.out.src.lo.2
    generalize rts (m.length + 1) (hpoly m.length (entF m)) 55441 = vals at *
    obtain ⟨pv, nv, cv, rfl⟩ := ho.slice
    have HO := Lib.hid ho
    clear ho hb HV HC5
    by_cases hv : 0 < vals.length
    case neg =>
      have hv0 : vals.length = 0 := by omega
      have hnv : nv = 0 := by
        rcases Own.shape HO.out with ⟨e, _⟩ | ⟨g, cap, e, _⟩
        · cases e; rfl
        · cases e; rw [List.length_map]; exact hv0
      subst hnv
      clear hv0
      go_wp2_with fail
      go_meet
      case rel => exact ⟨_, _, HC6.out, by simp, by simp⟩
    obtain ⟨gv, cv', e5, hgv, _⟩ := HO.out.shapeN rfl hv
    cases e5
    have HC : Hid (∀ j, j < vals.length → ∃ y, w6.cell? ⟨gv, j, none⟩ = some (.int .i64 y) ∧ 0 ≤ y ∧ y < 55441) := Lib.hid (fun j hj => ⟨vals[j], Own.cell HO.out (by rw [List.getElem?_map, List.getElem?_eq_getElem hj]; rfl), HBD.out _ (List.getElem_mem hj)⟩)
    have hne : gv ≠ w.heap.size := by omega
    have hvI : (0 : Int) < (vals.length : Int) := by omega
    generalize vals.length = N at *
    go_wp2_with fail
    refine (k_next v 4 _ _ _ HC6.out.src (by omega) (by omega)).mono ?_
    rintro e w7 ⟨z, rfl, _, _, hs, hk⟩
    have HC7 := Lib.hid (HC6.out.kept hk hs)
    have HK7 := Lib.hid hk
    clear hk hs HC6
    by_cases hz : 0 < z
    case neg =>
      go_wp2_with fail
      go_meet
      case rel => exact ⟨_, _, HC7.out, by simp, by simp⟩
    go_wp2_with fail
    refine (k_next v N _ _ _ HC7.out.src (by omega) (by omega)).mono ?_
    rintro e w8 ⟨j, rfl, hj1, hj2, hs, hk⟩
    obtain ⟨j, rfl⟩ := Int.eq_ofNat_of_zero_le hj1
    obtain ⟨y, hy, hy1, hy2⟩ := HC.out j (by omega)
    have q1 := (HK7.out.trans hk).cell hy hne
    have HC8 := Lib.hid (HC7.out.kept hk hs)
    clear hk hs HC7 HK7 hy HC HBD hz
    have HC9 := Lib.hid (HC8.out.newV y)
    go_wp2_with fail
    refine (k_next v 3 _ _ _ HC9.out.src (by omega) (by omega)).mono ?_
    rintro e w10 ⟨z, rfl, hz1, hz2, hs, hk⟩
    obtain ⟨z, rfl⟩ := Int.eq_ofNat_of_zero_le hz1
    have HC10 := Lib.hid (HC9.out.kept hk hs)
    clear hk hs HC8 HC9 HO q1 hgv hlen hgw
    go_wp2_with fail
    go_loopw [6, 7, 10] (fun L V k wr => ∃ (j : Nat) (c : List (List (List Int))) (xs : List Int), j ≤ 2 ∧ k = .int .i64 j ∧ Hid (Cm w w1 w2 wr v L V c xs) ∧ c.length + j ≤ 3 ∧ xs.length + j ≤ 3) (fun _ _ k _ => (intOf k).toNat)
    case atStart => exact ⟨z, _, _, by omega, rfl, HC10, by simp; omega, by simp; omega⟩
    case round =>
      obtain ⟨j, c, xs, hj, rfl, HC, hcl, hxl⟩ := hrel
      clear HC10
      obtain ⟨⟨pL, nL, cL, rfl⟩, ⟨pV, nV, cV, rfl⟩⟩ := HC.out.lst.slice
      by_cases hj0 : 0 < j
      · obtain ⟨i, rfl⟩ : ∃ i, j = i + 1 := ⟨j - 1, by omega⟩
        have hjI : (0 : Int) < ((i + 1 : Nat) : Int) := by omega
        have hjw : IntKind.i64.wrap (((i + 1 : Nat) : Int) + 1) = ((i + 2 : Nat) : Int) := by rw [IntWalk.i64_in _ (by omega)]; rfl
        have hjm : IntKind.i64.wrap (((i + 1 : Nat) : Int) - 1) = (i : Int) := by rw [IntWalk.i64_in _ (by omega)]; omega
        have HV : Hid (IntRows wr (.slice pm nm cm) (tabF m.length m.length (entF m))) := Lib.hid (by rw [← HE.out]; exact HM.out _ fun k h1 h2 => HC.out.mid k h1 h2)
        obtain ⟨J, hJ⟩ : ∃ J : Int, J = ((i + 1 : Nat) : Int) := ⟨_, rfl⟩
        rw [← hJ] at hjI hjw hjm ⊢
        go_wp2_with fail
        refine (c_l02Power _ m.length (entF m) (i + 2) _ HV.out hsq.1 (by omega) (by omega)).mono ?_
        rintro e w11 ⟨u11, rfl, ho, hb⟩
        have HR := Lib.hid (ho.rowsOn (by rw [tabF_length]; omega) (fun xs hx => by rw [tabF_mem hx]; omega))
        obtain ⟨p11, n11, c11, rfl⟩ := ho.slice
        have HKB := Lib.hid hb
        have hszr := HC.out.sz
        clear ho HV
        go_wp2_with (at_builtin; refine wp_pushL HC.out.lst (Kept.ofBelow HKB.out) (by omega) HR.out ⟨_, _, _, rfl⟩ rfl _ _ rfl rfl rfl (by first | with_reducible rfl | simp) hszr (by omega) ?_; intro L' w12 hL12 hb12)
        have HC12 := Lib.hid (HC.out.goes ((HKB.out.mono hszr).trans hb12) hL12)
        clear hL12 hb12 HC HR HKB
        go_wp2_with fail
        refine (c_l01Pow y ((i + 2 : Nat) : Int) _ hy1 hy2 (by omega) (by omega)).mono ?_
        rintro e w13 ⟨rfl, rfl⟩
        have hsz12 := HC12.out.sz
        have HOV := Lib.hid HC12.out.ownV
        generalize ipw y ((i + 2 : Nat) : Int) = yy
        go_wp2_with (at_builtin; refine wp_pushI3 HOV.out rfl _ _ rfl rfl rfl (by first | with_reducible rfl | simp) hsz12 (by omega) ?_; intro V' w14 hV14 hb14 hk14)
        have HC14 := Lib.hid (HC12.out.pushV hV14 hb14 hk14)
        clear hV14 hb14 hk14 HC12 HOV
        go_wp2_with fail
        go_roundw
        case rel => exact ⟨i, _, _, by omega, rfl, HC14, by simp; omega, by simp; omega⟩
        case measure => simp [intOf]; omega
      · obtain rfl : j = 0 := by omega
        go_wp2_with fail
        go_meet
        case rel => exact ⟨_, _, HC.out, by omega, by omega⟩
  obtain ⟨c, xs, hcm, hcl, hxl⟩ := hcut
  obtain ⟨⟨pL, nL, cL, rfl⟩, ⟨pV, nV, cV, rfl⟩⟩ := hcm.lst.slice
  have HC := Lib.hid hcm
  clear hcm HC5
  go_wp2_with fail
  refine (k_next v 24 _ _ _ HC.out.src (by omega) (by omega)).mono ?_
  rintro e w7 ⟨z, rfl, _, _, hs, hk⟩
  have HC := Lib.hid (HC.out.kept hk hs)
  have hsz7 := HC.out.sz
  clear hk hs
  by_cases h0 : z = 0
  · subst h0
    go_wp2_with fail
    go_ret2
    exact ⟨_, _, [], xs, rfl, HC.out.newL.lst.cubes (by simp), HC.out.newL.lst.ints (by omega), HC.out.newL.bel⟩
  by_cases h1 : z = 1
  · subst h1
    have HOV := Lib.hid HC.out.ownV
    go_wp2_with (at_builtin; refine wp_pushI3 HOV.out rfl _ _ rfl rfl rfl (by first | with_reducible rfl | simp) hsz7 (by omega) ?_; intro V' w14 hV14 hb14 hk14)
    have HC14 := Lib.hid (HC.out.pushV hV14 hb14 hk14)
    obtain ⟨_, ⟨p14, n14, c14, rfl⟩⟩ := HC14.out.lst.slice
    clear hV14 hb14 hk14 HC HOV
    go_wp2_with fail
    go_ret2
    exact ⟨_, _, c, _, rfl, HC14.out.lst.cubes (by omega), HC14.out.lst.ints (by simp; omega), HC14.out.bel⟩
  by_cases h2 : z = 2
  · subst h2
    go_wp2_with fail
    refine (k_l02Draw v 5 5 _ _ _ HC.out.src (by omega) (by omega) (by omega)).mono ?_
    rintro e w8 ⟨u8, f8, rfl, ho, hs, hk⟩
    have HR := Lib.hid (ho.rowsOn (by rw [tabF_length]; omega) (fun xs hx => by rw [tabF_mem hx]; omega))
    obtain ⟨p8, n8, c8, rfl⟩ := ho.slice
    have HK := Lib.hid hk
    have HC8 := Lib.hid (HC.out.kept hk hs)
    clear ho hs hk
    go_wp2_with (at_builtin; first
      | (refine wp_pushL HC.out.lst HK.out (by omega) HR.out ⟨_, _, _, rfl⟩ rfl _ _ rfl rfl rfl (by first | with_reducible rfl | simp) hsz7 (by omega) ?_; intro L' w12 hL12 hb12; have HC12 := Lib.hid (HC8.out.goes hb12 hL12); have hsz12 := HC12.out.sz; have HOV := Lib.hid HC12.out.ownV; obtain ⟨⟨p12, n12, c12, rfl⟩, _⟩ := HC12.out.lst.slice; clear hL12 hb12)
      | (refine wp_pushI3 HOV.out rfl _ _ rfl rfl rfl (by first | with_reducible rfl | simp) hsz12 (by omega) ?_; intro V' w14 hV14 hb14 hk14))
    have HC14 := Lib.hid (HC12.out.pushV hV14 hb14 hk14)
    obtain ⟨_, ⟨p14, n14, c14, rfl⟩⟩ := HC14.out.lst.slice
    clear hV14 hb14 hk14 HC12 HOV
    go_wp2_with fail
    go_ret2
    exact ⟨_, _, _, _, rfl, HC14.out.lst.cubes (by simp; omega), HC14.out.lst.ints (by simp; omega), HC14.out.bel⟩
  have b0 : (z == 0) = false := by simp [h0]
  have b1 : (z == 1) = false := by simp [h1]
  have b2 : (z == 2) = false := by simp [h2]
  clear h0 h1 h2
  go_wp2_with fail
  go_ret2
  exact ⟨_, _, c, xs, rfl, HC.out.lst.cubes (by omega), HC.out.lst.ints (by omega), HC.out.bel⟩
end Go.Proofs.Ytmbcncmmgfnlmaa
