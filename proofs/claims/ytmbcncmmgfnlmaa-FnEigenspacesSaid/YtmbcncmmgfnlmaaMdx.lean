/- Walks: tables that the laws on matrices draw, some of them spoiled. -/
import Derived.Test.YtmbcncmmgfnlmaaMdr
namespace Go.Proofs.Ytmbcncmmgfnlmaa
open Go.RowKit
attribute [local go_sem ↓] Go.wp_at_zero Go.wp_at_succ
open Fus (F Mx toI ofI toI_bd toI_of toI_ofI ofI_toI setR)
/-- a table that is read in all worlds with these blocks -/
def RowsOn (w : World) (B : Nat) (v : Value) (m : List (List Int)) : Prop := ∀ w' : World, (∀ k, B ≤ k → k < w.heap.size → w'.heap[k]? = w.heap[k]?) → IntRows w' v m
theorem RowsOn.now {w : World} {B : Nat} {v : Value} {m : List (List Int)} (h : RowsOn w B v m) : IntRows w v m := h w fun _ _ _ => rfl
theorem RowsOn.kept {w w' : World} {B g : Nat} {v : Value} {m : List (List Int)} (h : RowsOn w B v m) (hk : Kept g w w') (hg : g < B) : RowsOn w' B v m :=
  fun w2 h2 => h w2 fun k h1 hlt => (h2 k h1 (Nat.lt_of_lt_of_le hlt hk.size)).trans (hk.block k hlt (by omega))
theorem RowsOn.keep {w w' : World} {B : Nat} {v : Value} {m : List (List Int)} (h : RowsOn w B v m) (hb : Below w.heap.size w w') : RowsOn w' B v m :=
  fun w2 h2 => h w2 fun k h1 hlt => (h2 k h1 (Nat.lt_of_lt_of_le hlt hb.size)).trans (hb.block k hlt)
theorem RowsOn.mono {w : World} {B B' : Nat} {v : Value} {m : List (List Int)} (h : RowsOn w B v m) (hB : B' ≤ B) : RowsOn w B' v m :=
  fun w2 h2 => h w2 fun k h1 hlt => h2 k (by omega) hlt
theorem OwnM.rowsOn {w : World} {B : Nat} {v : Value} {m : List (List Int)} (h : OwnM w B v m) (hl : m.length ≤ 1000000) (hl' : ∀ xs ∈ m, xs.length ≤ 1000000) : RowsOn w B v m := fun w' hw => by
  obtain ⟨us, h1, h2, h3, h4⟩ := h
  have h' : OwnM w' B v m := ⟨us, h1.of_block fun g e => hw g (h1.lt e).1 (h1.lt e).2, h2, fun i u xs e1 e2 => (h3 i u xs e1 e2).of_block fun g e => hw g ((h3 i u xs e1 e2).lt e).1 ((h3 i u xs e1 e2).lt e).2, h4⟩
  exact h'.rows (by omega) fun xs hx => Nat.le_trans (hl' xs hx) (by omega)
theorem small_tabD {r c : Nat} (f : Mx) (hr : r ≤ 1000000) (hc : c ≤ 1000000) : (tabF r c f).length ≤ 1000000 ∧ ∀ xs ∈ tabF r c f, xs.length ≤ 1000000 :=
  ⟨by rw [tabF_length]; exact hr, fun xs hx => by rw [tabF_mem hx]; exact hc⟩
/-- what a draw of a table answers -/
def DrawnM (B g : Nat) (v : Value) (w : World) : Ending → World → Prop := fun e w' => ∃ (u : Value) (m : List (List Int)), e = .returned u ∧ RowsOn w' w.heap.size u m ∧ SrcG w' B g v ∧ Kept g w w'
/-- .. an own table -/
def DrawnO (B g : Nat) (v : Value) (w : World) : Ending → World → Prop := fun e w' => ∃ (u : Value) (m : List (List Int)), e = .returned u ∧ OwnM w' w.heap.size u m ∧ (m.length ≤ 1000000 ∧ ∀ xs ∈ m, xs.length ≤ 1000000) ∧ SrcG w' B g v ∧ Kept g w w'
/-- a row of an own table has grown and is put back -/
theorem OwnM.grown {w w' : World} {B g n cap : Nat} {xss : List (List Int)} {k : Nat} {xs ys : List Int} {u v' : Value} (h : OwnM w B (.slice (some ⟨g, 0, none⟩) n cap) xss) (hx : xss[k]? = some xs) (hu : w.cell? ⟨g, k, none⟩ = some u)
    (ho : OwnI w' B v' ys) (hk : ∀ b, b < w.heap.size → u.ownBlock ≠ some b → w'.heap[b]? = w.heap[b]? ∧ v'.ownBlock ≠ some b) :
    OwnM (w'.setCell ⟨g, k, none⟩ v') B (.slice (some ⟨g, 0, none⟩) n cap) (xss.set k ys) := by
  obtain ⟨us, h1, h2, h3, h4⟩ := h
  have hki := (List.getElem?_eq_some_iff.1 hx).1
  obtain ⟨u0, hu0⟩ : ∃ u, us[k]? = some u := ⟨us[k]'(by omega), by simp⟩
  have e0 := Own.cell h1 hu0
  rw [hu] at e0
  cases e0
  have hg := h1.lt (g := g) rfl
  have hug : u.ownBlock ≠ some g := fun e => Own.other (h3 k u xs hu0 hx) h1 (by decide) e rfl
  have h1' : Own w' 35 B (.slice (some ⟨g, 0, none⟩) n cap) us := h1.of_block fun b e => by cases e; exact (hk g hg.2 hug).1
  have hvg : v'.ownBlock ≠ some g := (hk g hg.2 hug).2
  refine ⟨us.set k v', Own.store h1' k v', by simp [h2], fun i u' xs' e1 e2 => ?_, fun i j u1 u2 e1 e2 hij b hb1 hb2 => ?_⟩
  · rw [List.getElem?_set] at e1 e2
    by_cases e : k = i
    · subst e
      rw [if_pos rfl, if_pos (by omega)] at e1
      rw [if_pos rfl, if_pos hki] at e2
      cases e1; cases e2
      exact Own.keepOther (a := ⟨g, k, none⟩) ho hvg _
    · rw [if_neg e] at e1 e2
      have hr := h3 i u' xs' e1 e2
      have hne : ∀ b, u'.ownBlock = some b → u.ownBlock ≠ some b := fun b hb => h4 i k u' u e1 hu0 (fun h => e h.symm) b hb
      refine Own.keepOther (a := ⟨g, k, none⟩) (hr.of_block fun b hb => (hk b (hr.lt hb).2 (hne b hb)).1) (fun hb => ?_) _
      exact Own.other hr h1 (by decide) hb rfl
  · rw [List.getElem?_set] at e1 e2
    have old : ∀ (j : Nat) (u' : Value), us[j]? = some u' → ∀ b, u'.ownBlock = some b → b < w.heap.size := by
      intro j u' h b hb'
      obtain ⟨xs', hx'⟩ : ∃ xs', xss[j]? = some xs' := ⟨xss[j]'(by rw [← h2]; exact (List.getElem?_eq_some_iff.1 h).1), by simp⟩
      exact ((h3 j u' xs' h hx').lt hb').2
    by_cases e : k = i
    · subst e
      rw [if_pos rfl, if_pos (by omega)] at e1
      rw [if_neg hij] at e2
      cases e1
      exact (hk b (old j u2 e2 b hb2) (h4 j k u2 u e2 hu0 (fun h => hij h.symm) b hb2)).2 hb1
    · rw [if_neg e] at e1
      by_cases e' : k = j
      · subst e'
        rw [if_pos rfl, if_pos (by omega)] at e2
        cases e2
        exact (hk b (old i u1 e1 b hb1) (h4 i k u1 u e1 hu0 hij b hb1)).2 hb2
      · rw [if_neg e'] at e2
        exact h4 i j u1 u2 e1 e2 hij b hb1 hb2
theorem Kept.cell {g b o : Nat} {w w' : World} {u : Value} (h : Kept g w w') (hc : w.cell? ⟨b, o, none⟩ = some u) (hb : b ≠ g) : w'.cell? ⟨b, o, none⟩ = some u := by
  rw [← hc]; exact World.cell?_of_block (h.block b (Ints.lt hc) hb)
theorem Kept.frozen {g b o : Nat} {w w' : World} {u : Value} (h : Kept g w w') (hc : w.cell? ⟨b, o, none⟩ = some u) (hf : w.frozen? ⟨b, o, none⟩ = false) (hb : b ≠ g) : w'.frozen? ⟨b, o, none⟩ = false := by
  rw [← hf]; simp only [World.frozen?, h.block b (Ints.lt hc) hb]
theorem k_l02Size (v : Value) (w : World) (B g : Nat) (hs : SrcG w B g v) :
    Calls Try.prog 47 #[v] w fun e w' => ∃ n : Nat, e = .returned (.int .i64 n) ∧ 1 ≤ n ∧ n ≤ 6 ∧ SrcG w' B g v ∧ Kept g w w' := by
  have HS := Lib.hid hs
  clear hs
  go_enter Try.func47, Try.ntmps47
  go_wp2_with fail
  refine (k_next v 3 _ B g HS.out (by omega) (by omega)).mono ?_
  rintro e w1 ⟨x, rfl, hx1, hx2, hs1, hk1⟩
  have HS1 := Lib.hid hs1
  have HK1 := Lib.hid hk1
  clear hs1 hk1
  go_wp2_with fail
  refine (k_next v 4 _ B g HS1.out (by omega) (by omega)).mono ?_
  rintro e w2 ⟨y, rfl, hy1, hy2, hs2, hk2⟩
  have HS2 := Lib.hid hs2
  have HK2 := Lib.hid (HK1.out.trans hk2)
  clear hs2 hk2
  go_wp2_with fail
  refine (k_next v 6 _ B g HS2.out (by omega) (by omega)).mono ?_
  rintro e w3 ⟨z, rfl, hz1, hz2, hs3, hk3⟩
  have HS3 := Lib.hid hs3
  have HK3 := Lib.hid (HK2.out.trans hk3)
  clear hs3 hk3
  go_wp2_with fail
  refine (k_pick v _ [x, y, z] _ B g HS3.out (by simp) (by simp)).mono ?_
  rintro e w4 ⟨t, rfl, ht, hs4, hk4⟩
  have ht' : 0 ≤ t ∧ t < 6 := by simp at ht; omega
  obtain ⟨ht1, ht2⟩ := ht'
  obtain ⟨t, rfl⟩ := Int.eq_ofNat_of_zero_le ht1
  have HS4 := Lib.hid hs4
  have HK4 := Lib.hid (HK3.out.trans hk4)
  clear hs4 hk4 ht
  go_wp2_with fail
  go_ret
  exact ⟨t + 1, by simp; omega, by omega, by omega, HS4.out, HK4.out⟩
set_option maxRecDepth 100000 in
set_option maxHeartbeats 2000000 in
theorem k_l02SpoilO (v : Value) (r c : Nat) (w : World) (B g : Nat) (hs : SrcG w B g v) (hr0 : 0 < r) (hr : r ≤ 40) (hc0 : 0 < c) (hc : c ≤ 40) :
    Calls Try.prog 48 #[v, .int .i64 r, .int .i64 c] w (DrawnO B g v w) := by
  have HS := Lib.hid hs
  have hgl := hs.lo.2
  clear hs
  go_enter Try.func48, Try.ntmps48
  go_wp2_with fail
  refine (k_l02Draw v r c _ B g HS.out hr hc0 hc).mono ?_
  rintro e w1 ⟨u, f, rfl, ho1, hs1, hk1⟩
  obtain ⟨gm, cm, rfl, hgm1, hgm2⟩ := ho1.shape' (by rw [tabF_length]; exact hr0)
  rw [tabF_length] at ho1 ⊢
  have HO1 := Lib.hid ho1
  have HS1 := Lib.hid hs1
  have HK1 := Lib.hid hk1
  clear ho1 hs1 hk1
  go_wp2_with fail
  refine (k_next v 40 _ B g HS1.out (by omega) (by omega)).mono ?_
  rintro e w2 ⟨z, rfl, _, _, hs2, hk2⟩
  have HO2 := Lib.hid (HO1.out.kept hk2 hgl)
  have HS2 := Lib.hid hs2
  have HK2 := Lib.hid (HK1.out.trans hk2)
  have hsm := small_tabD (r := r) (c := c) f (by omega) (by omega)
  have HSM := Lib.hid hsm
  have hz2 := HK2.out.size
  clear hs2 hk2 hsm HO1 HS1 HK1
  by_cases h0 : z = 0
  · subst h0
    obtain ⟨gk, ck, k1, k2, k3, k4, _, k6⟩ := HO2.out.entry (k := 0) (i := 0) (tabF_at c f hr0) (zl_at (f 0) hc0)
    rw [zl_length] at k1
    have HK6 := Lib.hid k6
    have hsD := HS2.out.drewN 1
    have hkD := HK2.out.drewN 1
    have hoD := HO2.out.drewN 1
    have hlt1 : gm < w2.heap.size := Ints.lt k1
    have hlt2 : gk < w2.heap.size := Ints.lt k2
    have hne1 : gm ≠ g := by omega
    have hne2 : gk ≠ g := by omega
    clear k6
    go_wp2_with fail
    go_region_with
      (go_at_call 90; refine (k_pick v _ [-1, 55441] _ B g (by assumption) (by decide) (by decide)).mono ?_; rintro e w6 ⟨x, rfl, hx, hs6, hk6⟩; have q1 := hk6.cell k1 hne1; have q2 := hk6.cell k2 hne2; have q3 := hk6.frozen k2 k3 hne2)
    all_goals
      have ho6 := hoD.kept hk6 hgl
      obtain ⟨gk', ck', q1', _, _, q4, _, q6⟩ := ho6.entry (k := 0) (i := 0) (tabF_at c f hr0) (zl_at (f 0) hc0)
      rw [zl_length, q1] at q1'
      cases q1'
      have HO6 := Lib.hid (q6 x)
      have HS6 := Lib.hid (SrcG.setNew (i := 0) (u := .int .i64 x) hs6 hgl q4)
      have HK6 := Lib.hid (Kept.setNew (i := 0) (u := .int .i64 x) (hkD.trans hk6) q4)
      clear hs6 hk6 ho6 q1 q2 q3 q6
      go_wp2_with fail
      go_ret
      refine ⟨_, _, rfl, HO6.out, ⟨by rw [List.length_set]; exact HSM.out.1, fun xs hx => ?_⟩, HS6.out, HK6.out⟩
      rcases List.mem_or_eq_of_mem_set hx with h | rfl
      · exact HSM.out.2 xs h
      · rw [List.length_set, zl_length]; omega
  by_cases h1 : z = 1
  · subst h1
    obtain ⟨u, k1, k2⟩ := HO2.out.rowAt (k := 0) (tabF_at c f hr0)
    obtain ⟨gk, ck, rfl, hk3, hk4⟩ := k2.shapeN (zl_length _ _) hc0
    have HR := Lib.hid k2
    have hf2 : w2.frozen? ⟨gm, 0, none⟩ = false := HO2.out.frozenAt 0
    have hlen : (zl c (f 0)).length ≤ 1000000 := by rw [zl_length]; omega
    have HK1 := Lib.hid k1
    clear k2
    have hgg : (Value.slice (some ⟨gk, 0, none⟩) c ck).ownBlock ≠ some gm := fun e => by
      obtain ⟨us, h1, h2, h3, h4⟩ := HO2.out
      obtain ⟨u0, hu0⟩ : ∃ u, us[0]? = some u := ⟨us[0]'(by rw [h2, tabF_length]; exact hr0), by simp⟩
      have e0 := Own.cell h1 hu0
      rw [HK1.out] at e0
      cases e0
      exact Own.other (h3 0 _ _ hu0 (tabF_at c f hr0)) h1 (by decide) e rfl
    have HGG := Lib.hid hgg
    clear hgg
    go_wp2_with (at_builtin; refine wp_pushI3 HR.out rfl _ _ rfl rfl rfl (by first | with_reducible rfl | simp) hz2 hlen ?_; intro v' w3 ho3 hb3 hk5; have q1 := cell_same (hk5 gm (Ints.lt HK1.out) HGG.out).1 HK1.out; have q2 : w3.frozen? ⟨gm, 0, none⟩ = false := (by rw [← hf2]; simp only [World.frozen?, (hk5 gm (Ints.lt HK1.out) HGG.out).1]); obtain ⟨p3, n3, c3, rfl⟩ := ho3.slice)
    have HO3 := Lib.hid (HO2.out.grown (tabF_at c f hr0) HK1.out ho3 hk5)
    have hgw : w.heap.size ≤ gm := hgm1
    have HB3 := Lib.hid (below_set (i := 0) (u := .slice p3 n3 c3) hb3 hgw)
    have HS3 := Lib.hid (HS2.out.keepC HB3.out hgl)
    have HK3 := Lib.hid (HK2.out.then HB3.out)
    clear ho3 hb3 hk5
    go_wp2_with fail
    go_ret
    refine ⟨_, _, rfl, HO3.out, ⟨by rw [List.length_set]; exact HSM.out.1, fun xs hx => ?_⟩, HS3.out, HK3.out⟩
    rcases List.mem_or_eq_of_mem_set hx with h | rfl
    · exact HSM.out.2 xs h
    · rw [List.length_append, zl_length]; simp; omega
  by_cases h2 : z = 2
  · subst h2
    go_wp2_with fail
    go_ret
    exact ⟨_, [], rfl, ownM_empty w2 w.heap.size hz2, ⟨by simp, fun xs h => by simp at h⟩, HS2.out.keep (below_alloc _ _), HK2.out.then ((below_alloc _ _).mono hz2)⟩
  by_cases h3 : z = 3
  · subst h3
    go_wp2_with fail
    refine (k_l02Draw v 17 2 _ B g HS2.out (by omega) (by omega) (by omega)).mono ?_
    rintro e w3 ⟨u3, f3, rfl, ho3, hs3, hk3⟩
    have HO3 := Lib.hid (ho3.mono HK2.out.size)
    have HS3 := Lib.hid hs3
    have HK3 := Lib.hid (HK2.out.trans hk3)
    clear ho3 hs3 hk3
    go_wp2_with fail
    go_ret
    exact ⟨_, _, rfl, HO3.out, small_tabD f3 (by omega) (by omega), HS3.out, HK3.out⟩
  by_cases h4 : z = 4
  · subst h4
    go_wp2_with fail
    refine (k_l02Draw v 2 17 _ B g HS2.out (by omega) (by omega) (by omega)).mono ?_
    rintro e w3 ⟨u3, f3, rfl, ho3, hs3, hk3⟩
    have HO3 := Lib.hid (ho3.mono HK2.out.size)
    have HS3 := Lib.hid hs3
    have HK3 := Lib.hid (HK2.out.trans hk3)
    clear ho3 hs3 hk3
    go_wp2_with fail
    go_ret
    exact ⟨_, _, rfl, HO3.out, small_tabD f3 (by omega) (by omega), HS3.out, HK3.out⟩
  have b0 : (z == 0) = false := by simp [h0]
  have b1 : (z == 1) = false := by simp [h1]
  have b2 : (z == 2) = false := by simp [h2]
  have b3 : (z == 3) = false := by simp [h3]
  have b4 : (z == 4) = false := by simp [h4]
  clear h0 h1 h2 h3 h4
  go_wp2_with fail
  go_ret
  exact ⟨_, _, rfl, HO2.out, HSM.out, HS2.out, HK2.out⟩
theorem k_l02Spoil (v : Value) (r c : Nat) (w : World) (B g : Nat) (hs : SrcG w B g v) (hr0 : 0 < r) (hr : r ≤ 40) (hc0 : 0 < c) (hc : c ≤ 40) :
    Calls Try.prog 48 #[v, .int .i64 r, .int .i64 c] w (DrawnM B g v w) := by
  refine (k_l02SpoilO v r c w B g hs hr0 hr hc0 hc).mono ?_
  rintro e w' ⟨u, m, h1, h2, h3, h4, h5⟩
  exact ⟨u, m, h1, h2.rowsOn h3.1 h3.2, h4, h5⟩
/-- what a draw of a table out of a code answers -/
def TabC (w : World) : Ending → World → Prop := fun e w' => ∃ (u : Value) (m : List (List Int)), e = .returned u ∧ IntRows w' u m ∧ Below w.heap.size w w'
theorem Kept.belowN {w0 w w' : World} (hb : Below w0.heap.size w0 w) (h : Kept w0.heap.size w w') : Below w0.heap.size w0 w' := hb.trans (h.below (Nat.le_refl _) hb.size)
set_option maxHeartbeats 1000000 in
theorem c_l02Any (q : Value) (bs : List Int) (w : World) (hq : Bytes w q bs) (hl : bs.length ≤ 4096) :
    Calls Try.prog 57 #[q] w (TabC w) := by
  go_enter Try.func57, Try.ntmps57
  go_wp2_with fail
  refine (c_l01From _ bs _ hq hl).mono ?_
  rintro e w1 ⟨v, rfl, hs1, hb1⟩
  have HS1 := Lib.hid hs1
  have HB1 := Lib.hid hb1
  clear hs1 hb1
  go_wp2_with fail
  refine (k_l02Size v _ _ _ HS1.out).mono ?_
  rintro e w2 ⟨n, rfl, hn1, hn2, hs2, hk⟩
  have HS2 := Lib.hid hs2
  have HB2 := Lib.hid (Kept.belowN HB1.out hk)
  have HZ2 := Lib.hid hk
  clear hs2 hk
  go_wp2_with fail
  refine (k_l02Size v _ _ _ HS2.out).mono ?_
  rintro e w3 ⟨k, rfl, hk1, hk2, hs3, hk⟩
  have HS3 := Lib.hid hs3
  have HB3 := Lib.hid (Kept.belowN HB2.out hk)
  have HZ3 := Lib.hid hk
  clear hs3 hk
  go_wp2_with fail
  refine (k_l02Spoil v n k _ _ _ HS3.out (by omega) (by omega) (by omega) (by omega)).mono ?_
  rintro e w4 ⟨u, mu, rfl, hr, hs4, hk⟩
  have HRu := Lib.hid hr
  have HS4 := Lib.hid hs4
  have HB4 := Lib.hid (Kept.belowN HB3.out hk)
  have HZ4 := Lib.hid hk
  clear hs4 hr hk
  go_wp2_with fail
  go_ret
  exact ⟨u, mu, rfl, HRu.out.now, HB4.out⟩
set_option maxHeartbeats 1000000 in
theorem c_l02DrawSquare (q : Value) (bs : List Int) (w : World) (hq : Bytes w q bs) (hl : bs.length ≤ 4096) :
    Calls Try.prog 63 #[q] w (TabC w) := by
  go_enter Try.func63, Try.ntmps63
  go_wp2_with fail
  refine (c_l01From _ bs _ hq hl).mono ?_
  rintro e w1 ⟨v, rfl, hs1, hb1⟩
  have HS1 := Lib.hid hs1
  have HB1 := Lib.hid hb1
  clear hs1 hb1
  go_wp2_with fail
  refine (k_l02Size v _ _ _ HS1.out).mono ?_
  rintro e w2 ⟨n, rfl, hn1, hn2, hs2, hk⟩
  have HS2 := Lib.hid hs2
  have HB2 := Lib.hid (Kept.belowN HB1.out hk)
  have HZ2 := Lib.hid hk
  clear hs2 hk
  go_wp2_with fail
  refine (k_next v 24 _ _ _ HS2.out (by omega) (by omega)).mono ?_
  rintro e w3 ⟨z, rfl, _, _, hs3, hk⟩
  have HS3 := Lib.hid hs3
  have HB3 := Lib.hid (Kept.belowN HB2.out hk)
  have HZ3 := Lib.hid hk
  clear hs3 hk
  by_cases hz : z = 0
  · subst hz
    go_wp2_with fail
    have hn1 : IntKind.i64.wrap ((n : Int) + 1) = ((n + 1 : Nat) : Int) := by rw [IntWalk.i64_in _ (by omega)]; rfl
    refine (k_l02Spoil v n (n + 1) _ _ _ HS3.out (by omega) (by omega) (by omega) (by omega)).mono ?_
    rintro e w4 ⟨u, mu, rfl, hr, hs4, hk⟩
    have HRu := Lib.hid hr
    have HS4 := Lib.hid hs4
    have HB4 := Lib.hid (Kept.belowN HB3.out hk)
    have HZ4 := Lib.hid hk
    clear hs4 hr hk
    go_wp2_with fail
    go_ret
    exact ⟨u, mu, rfl, HRu.out.now, HB4.out⟩
  · have hzB : (z == 0) = false := by simp [hz]
    go_wp2_with fail
    refine (k_l02Spoil v n n _ _ _ HS3.out (by omega) (by omega) (by omega) (by omega)).mono ?_
    rintro e w4 ⟨u, mu, rfl, hr, hs4, hk⟩
    have HRu := Lib.hid hr
    have HS4 := Lib.hid hs4
    have HB4 := Lib.hid (Kept.belowN HB3.out hk)
    have HZ4 := Lib.hid hk
    clear hs4 hr hk
    go_wp2_with fail
    go_ret
    exact ⟨u, mu, rfl, HRu.out.now, HB4.out⟩
set_option maxHeartbeats 1000000 in
theorem c_DrawKernelBasis (q : Value) (bs : List Int) (w : World) (hq : Bytes w q bs) (hl : bs.length ≤ 4096) :
    Calls Try.prog 17 #[q] w (TabC w) := by
  go_enter Try.func17, Try.ntmps17
  go_wp2_with fail
  refine (c_l02Any _ bs _ hq hl).mono ?_
  rintro e w1 ⟨u, m, rfl, hr, hb⟩
  go_wp2_with fail
  go_ret
  exact ⟨u, m, rfl, hr, hb⟩
set_option maxHeartbeats 1000000 in
theorem c_DrawInverseMatrix (q : Value) (bs : List Int) (w : World) (hq : Bytes w q bs) (hl : bs.length ≤ 4096) :
    Calls Try.prog 24 #[q] w (TabC w) := by
  go_enter Try.func24, Try.ntmps24
  go_wp2_with fail
  refine (c_l02DrawSquare _ bs _ hq hl).mono ?_
  rintro e w1 ⟨u, m, rfl, hr, hb⟩
  go_wp2_with fail
  go_ret
  exact ⟨u, m, rfl, hr, hb⟩
set_option maxHeartbeats 1000000 in
theorem c_DrawMultiplyMatrices (q : Value) (bs : List Int) (w : World) (hq : Bytes w q bs) (hl : bs.length ≤ 4096) :
    Calls Try.prog 7 #[q] w (fun e w' => ∃ (u u' : Value) (m m' : List (List Int)), e = .returned (.tuple #[u, u']) ∧ IntRows w' u m ∧ IntRows w' u' m' ∧ Below w.heap.size w w') := by
  go_enter Try.func7, Try.ntmps7
  go_wp2_with fail
  refine (c_l01From _ bs _ hq hl).mono ?_
  rintro e w1 ⟨v, rfl, hs1, hb1⟩
  have HS1 := Lib.hid hs1
  have HB1 := Lib.hid hb1
  clear hs1 hb1
  go_wp2_with fail
  refine (k_l02Size v _ _ _ HS1.out).mono ?_
  rintro e w2 ⟨n, rfl, hn1, hn2, hs2, hk⟩
  have HS2 := Lib.hid hs2
  have HB2 := Lib.hid (Kept.belowN HB1.out hk)
  have HZ2 := Lib.hid hk
  clear hs2 hk
  go_wp2_with fail
  refine (k_l02Size v _ _ _ HS2.out).mono ?_
  rintro e w3 ⟨k, rfl, hk1, hk2, hs3, hk⟩
  have HS3 := Lib.hid hs3
  have HB3 := Lib.hid (Kept.belowN HB2.out hk)
  have HZ3 := Lib.hid hk
  clear hs3 hk
  go_wp2_with fail
  refine (k_l02Spoil v n k _ _ _ HS3.out (by omega) (by omega) (by omega) (by omega)).mono ?_
  rintro e w4 ⟨u, mu, rfl, hr, hs4, hk⟩
  have HRu := Lib.hid hr
  have HS4 := Lib.hid hs4
  have HB4 := Lib.hid (Kept.belowN HB3.out hk)
  have HZ4 := Lib.hid hk
  clear hs4 hr hk
  go_wp2_with fail
  refine (k_next v 24 _ _ _ HS4.out (by omega) (by omega)).mono ?_
  rintro e w5 ⟨z, rfl, _, _, hs5, hk⟩
  have HS5 := Lib.hid hs5
  have HB5 := Lib.hid (Kept.belowN HB4.out hk)
  have HZ5 := Lib.hid hk
  clear hs5 hk
  by_cases hz : z = 0
  · subst hz
    go_wp2_with fail
    refine (k_l02Size v _ _ _ HS5.out).mono ?_
    rintro e w6 ⟨t, rfl, ht1, ht2, hs6, hk⟩
    have HS6 := Lib.hid hs6
    have HB6 := Lib.hid (Kept.belowN HB5.out hk)
    have HZ6 := Lib.hid hk
    clear hs6 hk
    go_wp2_with fail
    refine (k_l02Spoil v (k + 1) t _ _ _ HS6.out (by omega) (by omega) (by omega) (by omega)).mono ?_
    rintro e w7 ⟨x, mx, rfl, hr, hs7, hk⟩
    have HRx := Lib.hid hr
    have HS7 := Lib.hid hs7
    have HB7 := Lib.hid (Kept.belowN HB6.out hk)
    have HZ7 := Lib.hid hk
    clear hs7 hr hk
    go_wp2_with fail
    go_ret2
    exact ⟨u, x, mu, mx, rfl, (HRu.out.kept (HZ5.out.trans (HZ6.out.trans HZ7.out)) HS3.out.lo.2).now, HRx.out.now, HB7.out⟩
  · have hzB : (z == 0) = false := by simp [hz]
    go_wp2_with fail
    refine (k_l02Size v _ _ _ HS5.out).mono ?_
    rintro e w6 ⟨t, rfl, ht1, ht2, hs6, hk⟩
    have HS6 := Lib.hid hs6
    have HB6 := Lib.hid (Kept.belowN HB5.out hk)
    have HZ6 := Lib.hid hk
    clear hs6 hk
    go_wp2_with fail
    refine (k_l02Spoil v k t _ _ _ HS6.out (by omega) (by omega) (by omega) (by omega)).mono ?_
    rintro e w7 ⟨x, mx, rfl, hr, hs7, hk⟩
    have HRx := Lib.hid hr
    have HS7 := Lib.hid hs7
    have HB7 := Lib.hid (Kept.belowN HB6.out hk)
    have HZ7 := Lib.hid hk
    clear hs7 hr hk
    go_wp2_with fail
    go_ret2
    exact ⟨u, x, mu, mx, rfl, (HRu.out.kept (HZ5.out.trans (HZ6.out.trans HZ7.out)) HS3.out.lo.2).now, HRx.out.now, HB7.out⟩
end Go.Proofs.Ytmbcncmmgfnlmaa
