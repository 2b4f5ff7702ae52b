/- Walks: matrices that are drawn. -/
import Derived.Test.YtmbcncmmgfnlmaaGdr
import Derived.Test.YtmbcncmmgfnlmaaGro
import Derived.Test.YtmbcncmmgfnlmaaAps
import Derived.Deep.RegionWith
import Derived.Deep.DrawnRows
import Derived.Deep.DeepCutAuto
import Derived.Deep.CutBlock
namespace Go.Proofs.Ytmbcncmmgfnlmaa
open Go.RowKit
attribute [local go_sem ↓] Go.wp_at_zero Go.wp_at_succ
open Fus (F Mx toI ofI toI_bd toI_of toI_ofI ofI_toI setR)

theorem OwnB.kept {w w' : World} {lo hi g : Nat} {v : Value} {xss : List (List Int)} (h : OwnB w lo hi v xss) (hk : Kept g w w') (hg : g < lo) (hh : hi ≤ w.heap.size) : OwnB w' lo hi v xss :=
  h.same fun k h1 h2 => hk.block k (by omega) (by omega)
/-- a row that was made later is appended -/
theorem OwnB.push {w w' : World} {lo hi : Nat} {v v' u : Value} {us : List Value} {xss : List (List Int)} {xs : List Int} (ho : Own w 35 lo v us) (hlen : us.length = xss.length)
    (hr : ∀ (i : Nat) (u : Value) (xs : List Int), us[i]? = some u → xss[i]? = some xs → OwnI w lo u xs) (ha : apart us) (hold : ∀ (i : Nat) u, us[i]? = some u → ∀ g, u.ownBlock = some g → g < hi) (hB : lo ≤ hi) (hu : OwnI w hi u xs)
    (h1 : Own w' 35 lo v' (us ++ [u])) (hg : (w.alloc (.cells #[u] 35)).grownBy w' v.ownBlock) : OwnM w' lo v' (xss ++ [xs]) := by
  have keepRow : ∀ {B'} {u' : Value} {xs' : List Int}, OwnI w B' u' xs' → OwnI w' B' u' xs' := by
    intro B' u' xs' hu'
    refine Own.grown (hu'.alloc _) hg ?_
    cases hub : u'.ownBlock with
    | none => exact .inl rfl
    | some b => exact .inr (fun e => Own.other hu' ho (by decide) hub e.symm)
  refine ⟨us ++ [u], h1, by simp [hlen], ?_, ?_⟩
  · intro j u' xs' h2 h3
    rcases Nat.lt_trichotomy j us.length with hj | hj | hj
    · rw [List.getElem?_append_left hj] at h2
      rw [List.getElem?_append_left (by omega)] at h3
      exact keepRow (hr j u' xs' h2 h3)
    · rw [List.getElem?_append_right (by omega)] at h2
      rw [List.getElem?_append_right (by omega)] at h3
      rw [hj, Nat.sub_self] at h2
      rw [hj, hlen, Nat.sub_self] at h3
      cases h2; cases h3
      exact (keepRow hu).mono hB
    · rw [List.getElem?_eq_none (by simp; omega)] at h2
      cases h2
  · intro j k u1 u2 h2 h3 hjk b hb1 hb2
    have cls : ∀ (j : Nat) (u' : Value), (us ++ [u])[j]? = some u' → (j < us.length ∧ us[j]? = some u') ∨ (j = us.length ∧ u' = u) := by
      intro j u' h
      rcases Nat.lt_trichotomy j us.length with hj | hj | hj
      · rw [List.getElem?_append_left hj] at h; exact .inl ⟨hj, h⟩
      · rw [List.getElem?_append_right (by omega), hj, Nat.sub_self] at h; cases h; exact .inr ⟨hj, rfl⟩
      · rw [List.getElem?_eq_none (by simp; omega)] at h; cases h
    rcases cls j u1 h2 with ⟨hj, e1⟩ | ⟨hj, rfl⟩ <;> rcases cls k u2 h3 with ⟨hk, e2⟩ | ⟨hk, rfl⟩
    · exact ha j k u1 u2 e1 e2 hjk b hb1 hb2
    · have := hold j u1 e1 b hb1; have := (hu.lt hb2).1; omega
    · have := hold k u2 e2 b hb2; have := (hu.lt hb1).1; omega
    · omega
theorem wp_pushB {ops : Array Oper} {rest : List Oper} {o : Oper} {a : Act} {Q : Exit → Act → World → Prop} {w : World} {lo hi : Nat} {v u : Value} {xss : List (List Int)} {xs : List Int} (hown : OwnB w lo hi v xss) (hlh : lo ≤ hi) (hu : OwnI w hi u xs) (hgd : o.guard = none) (s x : Operand)
    (ho : o.op = .call { callee := .builtin .append, args := #[s, x], argTypes := #[24, 24] })
    (hs : a.eval s = v) {gx : Nat} (hx : a.eval x = .slice (some ⟨gx, 0, none⟩) 1 1) (hgx : gx = w.heap.size)
    (hB : lo ≤ w.heap.size) (hlen : xss.length ≤ 1000000)
    (h : ∀ v' w', OwnM w' lo v' (xss ++ [xs]) → Below lo w w' → wpList Try.prog ops Q rest (a.put o.dst v') w') :
    wpList Try.prog ops Q (o :: rest) a (w.alloc (.cells #[u] 35)) := by
  obtain ⟨us, h1, h2, h3, h4, _, h6⟩ := hown
  obtain ⟨p, n, c, rfl⟩ := hu.slice
  exact wp_push w hgd s x _ ho 35 (.slice none 0 0) 24 Try.underlying24 info_ints rfl lo v (.slice p n c) us hs h1 hx hgx rfl hB (by omega) (by omega)
    (fun v' w' g1 g2 g3 => h v' w' (OwnB.push h1 h2 h3 h4 h6 hlh hu g1 g2) g3)
theorem Kept.setNew {g : Nat} {a b : World} {k i : Nat} {u : Value} (h : Kept g a b) (hk : a.heap.size ≤ k) : Kept g a (b.setCell ⟨k, i, none⟩ u) :=
  ⟨h.os, h.tape, h.output, by simpa using h.size, fun j hj hg => (Below.heap_setCell _ _ _ _ (fun e => by simp at e; omega)).trans (h.block j hj hg)⟩
theorem SrcG.setNew {w : World} {B g k i C : Nat} {v u : Value} (s : SrcG w B g v) (hg : g < C) (hk : C ≤ k) : SrcG (w.setCell ⟨k, i, none⟩ u) B g v :=
  s.keepC (C := C) (below_set (Below.refl _ _) hk) hg
theorem Kept.drewN {g : Nat} {a b : World} (h : Kept g a b) (n : Nat) : Kept g a (b.drewN n) := ⟨h.os, h.tape, h.output, h.size, h.block⟩
theorem SrcG.drewN {w : World} {B g : Nat} {v : Value} (s : SrcG w B g v) (n : Nat) : SrcG (w.drewN n) B g v := by
  obtain ⟨a, m, cap, k, h, e, s⟩ := s; exact ⟨a, m, cap, k, h, e, s.drewN n⟩
theorem zl_some {xs : List Int} {c : Nat} (hl : xs.length = c) (h : xs.all isNum = true) : ∃ f : Nat → F, xs = zl c f := ⟨_, by rw [← hl]; exact zl_eq_num h⟩
theorem tabF_add (r c : Nat) (f : Mx) (h : Nat → F) : tabF r c f ++ [zl c h] = tabF (r + 1) c (setR f r h) := by
  rw [tabF_snoc]
  congr 1
  · exact tabF_congr fun i j hi _ => by simp only [setR]; rw [if_neg (by omega)]
  · rw [show setR f r h r = h from by funext j; simp [setR]]
/-- what a row of a table gives in all later worlds -/
theorem OwnM.laterK {w : World} {B g : Nat} {gm n cap k : Nat} {xss : List (List Int)} {xs : List Int} (h : OwnM w B (.slice (some ⟨gm, 0, none⟩) n cap) xss) (hg : g < B) (hx : xss[k]? = some xs) (hp : 0 < xs.length) (hl : xs.length ≤ 100000) :
    ∃ gk ck, ∀ w', Kept g w w' → w'.cell? ⟨gm, k, none⟩ = some (.slice (some ⟨gk, 0, none⟩) xs.length ck) ∧ Ints w' (.slice (some ⟨gk, 0, none⟩) xs.length ck) xs := by
  obtain ⟨gk, ck, h1, h2, _, h4, h5⟩ := h.rowK hx hp
  refine ⟨gk, ck, fun w' hk => ⟨?_, ?_⟩⟩
  · have hlt := h.lt
    rw [← h1]
    exact World.cell?_of_block (hk.block gm hlt.2 (by omega))
  · exact OwnI.ints (OwnI.kept h2 hk hg) (by omega)
theorem later_own {X wS : World} {B g : Nat} {v u : Value} {xs : List Int} (ho : OwnI wS X.heap.size u xs) (hs : SrcG X B g v) (hl : xs.length ≤ 100000) : ∀ w', Kept g wS w' → Ints w' u xs :=
  fun _ h => OwnI.ints (OwnI.kept ho h hs.lo.2) (by omega)
set_option maxRecDepth 100000 in
set_option maxHeartbeats 8000000 in
theorem k_l02Draw (v : Value) (r c : Nat) (w : World) (B g : Nat) (hs : SrcG w B g v) (hr : r ≤ 40) (hc0 : 0 < c) (hc : c ≤ 40) :
    Calls Try.prog 84 #[v, .int .i64 r, .int .i64 c] w fun e w' => ∃ (u : Value) (f : Mx), e = .returned u ∧ OwnM w' w.heap.size u (tabF r c f) ∧ SrcG w' B g v ∧ Kept g w w' := by
  have HS := Lib.hid hs
  have hgl := hs.lo.2
  clear hs
  go_enter Try.func84, Try.ntmps84
  go_wp2_with fail
  refine (k_next v 2 _ B g (HS.out.keep (below_alloc _ _)) (by omega) (by omega)).mono ?_
  rintro e w1 ⟨z, rfl, _, _, hs1, hk1⟩
  obtain ⟨sm, hsm⟩ : ∃ sm, (z == 0) = sm := ⟨_, rfl⟩
  have HS1 := Lib.hid hs1
  have HK1 := Lib.hid ((Kept.ofBelow (g := g) (below_alloc w (.cells #[] 35))).trans hk1)
  have HE1 := Lib.hid ((ownM_empty w w.heap.size (Nat.le_refl _)).kept hk1 hgl)
  clear hs1 hk1
  go_wp2_with fail
  clear hsm
  go_loopw [7, 9] (fun m i wr => ∃ (k : Nat) (f : Mx), k ≤ r ∧ i = .int .i64 k ∧ OwnM wr w.heap.size m (tabF k c f) ∧ SrcG wr B g v ∧ Kept g w wr) (fun _ i _ => r - (intOf i).toNat)
  case atStart => exact ⟨0, fun _ _ => 0, Nat.zero_le _, rfl, HE1.out, HS1.out, HK1.out⟩
  case round =>
    obtain ⟨k, f, hk, rfl, hown, hs, hbel⟩ := hrel
    clear HE1 HS1 HK1
    have HS := Lib.hid hs
    have HO := Lib.hid hown
    have HB := Lib.hid hbel
    have hsz := hbel.size
    clear hs hown hbel
    by_cases hlt : k < r
    · have hkI : (k : Int) < (r : Int) := by omega
      go_wp2_with fail
      refine (k_l01List v c _ B g HS.out (by omega)).mono ?_
      rintro e w2 ⟨row, xs, rfl, ho2, hxl, hxn, hs2, hk2⟩
      obtain ⟨h0, rfl⟩ := zl_some hxl hxn
      obtain ⟨gr, cr, rfl, hgr1, hgr2⟩ := ho2.shapeN (zl_length _ _) hc0
      have HR2 := Lib.hid ho2
      have HS2 := Lib.hid hs2
      have HK2 := Lib.hid hk2
      have hglr : g < wr.heap.size := by omega
      clear ho2 hs2 hk2 hxl hxn
      obtain ⟨wo, hwo⟩ : ∃ wo : World, wo = wr := ⟨_, rfl⟩
      subst hwo
      go_upto_block 2 with fail
      go_cut [10] (fun s10 wx => ∃ h : Nat → F, OwnI wx wo.heap.size s10 (zl c h) ∧ SrcG wx B g v ∧ Kept g wo wx)
      case first =>
        go_wp2_with fail
        go_loopw [11] (fun jj wr => ∃ (j : Nat) (h : Nat → F), j ≤ c ∧ jj = .int .i64 j ∧ OwnI wr wo.heap.size (.slice (some ⟨gr, 0, none⟩) c cr) (zl c h) ∧ SrcG wr B g v ∧ Kept g wo wr) (fun jj _ => c - (intOf jj).toNat)
        case atStart => exact ⟨0, h0, Nat.zero_le _, rfl, HR2.out, HS2.out, HK2.out⟩
        case round =>
          obtain ⟨j, h, hj, rfl, ho, hs, hk3⟩ := hrel
          clear HR2 HS2 HK2
          have HO3 := Lib.hid ho
          have HS3 := Lib.hid hs
          have HK3 := Lib.hid hk3
          clear ho hs hk3
          by_cases hjc : j < c
          · have hjI : (j : Int) < (c : Int) := by omega
            cases sm
            · go_wp2_with fail
              go_meet
              case rel => exact ⟨h, HO3.out, HS3.out, HK3.out⟩
            · go_wp2_with fail
              refine (k_next v 3 _ B g HS3.out (by omega) (by omega)).mono ?_
              rintro e w5 ⟨x, rfl, hx1, hx2, hs5, hk5⟩
              have hO5 := HO3.out.kept hk5 hglr
              have hold := Own.cell hO5 (i := j) (u := vi (toI (h j))) (by rw [List.getElem?_map, zl_at _ hjc]; rfl)
              have hfr := Own.frozen hO5 j
              have HX : Hid (x = toI (ofI x)) := Lib.hid (by rw [toI_ofI]; omega)
              have HO6 : Hid (OwnI (w5.setCell ⟨gr, j, none⟩ (.int .i64 x)) wo.heap.size (.slice (some ⟨gr, 0, none⟩) c cr) (zl c fun i => if i = j then ofI x else h i)) := Lib.hid (by
                rw [← zl_set, ← HX.out]
                have := Own.store hO5 j (vi x)
                rw [← List.map_set] at this
                exact this)
              have HS6 := Lib.hid (SrcG.setNew (i := j) (u := .int .i64 x) hs5 hglr hgr1)
              have HK6 := Lib.hid (Kept.setNew (i := j) (u := .int .i64 x) (HK3.out.trans hk5) hgr1)
              clear hO5 hs5 hk5
              go_wp2_with fail
              go_roundw
              case rel => exact ⟨j + 1, _, by omega, by go_num, HO6.out, HS6.out, HK6.out⟩
              case measure => simp [intOf]; omega
          · obtain rfl : j = c := by omega
            go_wp2_with fail
            go_meet
            case rel => exact ⟨h, HO3.out, HS3.out, HK3.out⟩
      case rest =>
        obtain ⟨h, ho4, hs4, hk4⟩ := hcut
        obtain ⟨g4, c4, rfl, hg41, hg42⟩ := ho4.shapeN (zl_length _ _) hc0
        have HR4 := Lib.hid ho4
        have HS4 := Lib.hid hs4
        have HK4 := Lib.hid hk4
        clear HR2 HS2 HK2 ho4 hs4 hk4
        have hz4 := HK4.out.size
        by_cases hk0 : k = 0
        · have hk0I : ¬ (0 : Int) < (k : Int) := by omega
          have HM4 : Hid (OwnB wc w.heap.size wo.heap.size _ (tabF k c f)) := Lib.hid ((HO.out.bound).kept HK4.out hgl (Nat.le_refl _))
          clear hk0
          go_wp2_with (at_builtin; refine wp_pushB HM4.out hsz HR4.out rfl _ _ rfl rfl rfl (by first | with_reducible rfl | simp) (by omega) (by rw [tabF_length]; omega) ?_; intro v' w9 ho9 hb9)
          rw [tabF_add] at ho9
          go_roundw
          case rel => exact ⟨k + 1, _, by omega, by go_num, ho9, SrcG.keepC HS4.out hb9 hgl, (HB.out.trans HK4.out).then hb9⟩
          case measure => simp [intOf]; omega
        · have hk0I : (0 : Int) < (k : Int) := by omega
          obtain ⟨gm, cm, rfl, _, _⟩ := HO.out.shape' (by rw [tabF_length]; omega)
          rw [tabF_length] at HO ⊢
          have HROW : Hid (∀ j, j < k → ∃ gk ck, ∀ w', Kept g wo w' → w'.cell? ⟨gm, j, none⟩ = some (.slice (some ⟨gk, 0, none⟩) c ck) ∧ Ints w' (.slice (some ⟨gk, 0, none⟩) c ck) (zl c (f j))) := Lib.hid (fun j hj => by
            have := HO.out.laterK hgl (tabF_at c f hj) (by rw [zl_length]; exact hc0) (by rw [zl_length]; omega)
            rwa [zl_length] at this)
          go_wp2_with fail
          refine (k_next v 4 _ B g HS4.out (by omega) (by omega)).mono ?_
          rintro e w5 ⟨z2, rfl, _, _, hs5, hk5⟩
          have HK5 := Lib.hid (HK4.out.trans hk5)
          have HR5 := Lib.hid (HR4.out.kept hk5 hglr)
          have hz5 := hk5.size
          by_cases hz : z2 = 0
          · subst hz
            have hsD := hs5.drewN 1
            have hKD := HK5.out.drewN 1
            clear hs5 hk5
            go_wp2_with fail
            go_region_with
              (first
                | (go_at_call 49; refine (k_next v k _ B g (by assumption) (by omega) (by omega)).mono ?_; rintro e w6 ⟨x, rfl, hx1, hx2, hs6, hk6⟩; have hK6 := Kept.trans (a := wo) (by assumption) hk6; obtain ⟨j, hj⟩ := Int.eq_ofNat_of_zero_le hx1; subst hj; obtain ⟨gk, ck, hrow⟩ := HROW.out j (by omega); have hcl := (hrow _ hK6).1; have hjI : (j : Int) < (k : Int) := hx2; try (have hKS := Kept.trans (a := wS) (by assumption) hk6))
                | (go_at_call 116; refine (k_l01Draw v _ B g (by assumption)).mono ?_; rintro e w6 ⟨y, rfl, hy, hs6, hk6⟩; have hK6 := Kept.trans (a := wo) (by assumption) hk6; have hcl := (hrow _ hK6).1; obtain ⟨Y, hY⟩ : ∃ Y : F, y = toI Y := ⟨ofI y, by rw [toI_ofI]; omega⟩; subst hY; try (have hKS := Kept.trans (a := wS) (by assumption) hk6))
                | (go_at_call 121; refine (c_l02Scale _ c _ Y _ ((hrow _ (by assumption)).2) (by omega)).mono ?_; rintro e wS ⟨vS, rfl, hoS, hbS⟩; have hK6 := Kept.trans (a := wo) (by assumption) (Kept.ofBelow hbS); have hs6 := SrcG.keep (by assumption) hbS; have hKS := Kept.refl g wS; obtain ⟨pS, nS, cS, rfl⟩ := hoS.slice; have HIS := later_own (v := v) (B := B) hoS (by assumption) (by rw [zl_length]; omega))
                | (go_at_call 113; refine (c_l02Plus _ _ c c _ _ Y _ (HIS _ (by assumption)) ((hrow _ (by assumption)).2) (Nat.le_refl _) (by omega)).mono ?_; rintro e w7 ⟨v7, rfl, ho7, hb7⟩; have hK7 := Kept.trans (a := wo) (by assumption) (Kept.ofBelow hb7); have hs7 := SrcG.keep (by assumption) hb7; have hO7 := ho7.mono (Kept.size (g := g) (w := wo) (by assumption)); obtain ⟨p7, n7, c7, rfl⟩ := ho7.slice))
            all_goals
              have HM7 : Hid (OwnB w7 w.heap.size wo.heap.size _ (tabF k c f)) := Lib.hid ((HO.out.bound).kept hK7 hgl (Nat.le_refl _))
              have HR7 := Lib.hid hO7
              have HS7 := Lib.hid hs7
              have HK7 := Lib.hid hK7
              have hz7 := hK7.size
              clear hO7 hs7 hK7 ho7 hb7 hK6 hKS HIS hcl hrow
              go_wp2_with (at_builtin; refine wp_pushB HM7.out hsz HR7.out rfl _ _ rfl rfl rfl (by first | with_reducible rfl | simp) (by omega) (by rw [tabF_length]; omega) ?_; intro v' w9 ho9 hb9)
              rw [tabF_add] at ho9
              go_roundw
              case rel => exact ⟨k + 1, _, by omega, by go_num, ho9, SrcG.keepC HS7.out hb9 hgl, (HB.out.trans HK7.out).then hb9⟩
              case measure => simp [intOf]; omega
          · have hzB : (z2 == 0) = false := by simp [hz]
            have HM5 : Hid (OwnB w5 w.heap.size wo.heap.size _ (tabF k c f)) := Lib.hid ((HO.out.bound).kept HK5.out hgl (Nat.le_refl _))
            have HS5 := Lib.hid hs5
            clear hs5 hk5 hz
            go_wp2_with (at_builtin; refine wp_pushB HM5.out hsz HR5.out rfl _ _ rfl rfl rfl (by first | with_reducible rfl | simp) (by omega) (by rw [tabF_length]; omega) ?_; intro v' w9 ho9 hb9)
            rw [tabF_add] at ho9
            go_roundw
            case rel => exact ⟨k + 1, _, by omega, by go_num, ho9, SrcG.keepC HS5.out hb9 hgl, (HB.out.trans HK5.out).then hb9⟩
            case measure => simp [intOf]; omega
    · obtain rfl : k = r := by omega
      go_wp2_with fail
      go_ret
      exact ⟨_, f, rfl, HO.out, HS.out, HB.out⟩
end Go.Proofs.Ytmbcncmmgfnlmaa
