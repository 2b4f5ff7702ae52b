/- Trivalent graphs: the walk of the program, which counts in a map. -/
import Derived.Test.YtckcjlophnehmaaTrv
import Derived.Test.YtckcjlophnehmaaMat
import Derived.Test.YtckcjlophnehmaaOpenw
namespace Go.Proofs.Ytckcjlophnehmaa
open Go.RowKit Go.Maps

theorem lawK : Keyed Try.prog 2 := int_keyed Try.underlying2
theorem zeroV (w : World) : (zeroValue 3).run Try.prog w = .ok (.int .i64 0) w := by kernel_rfl
/-- what a map holds that counts the numbers us -/
def Tally {H : Type} (D : DataW H) (us : List Int) : Prop :=
  Tidy D ∧ (∃ ds, Dist ds us ∧ size D = ds.length) ∧ (∀ x, has D (.int .i64 x) = decide (x ∈ us)) ∧ ∀ x ∈ us, ∀ z, D.atKey (.int .i64 x) z = .lit (.int .i64 (us.count x : Nat))
theorem tally_nil {H : Type} : Tally (.map [] : DataW H) [] :=
  ⟨tidy_empty, ⟨[], ⟨List.nodup_nil, fun x => by simp⟩, rfl⟩, fun x => by simp [has], fun x hx => by simp at hx⟩
theorem tally_cur {H : Type} {D : DataW H} {us : List Int} {x c : Int} (h : Tally D us) (hat : D.atKey (.int .i64 x) (.lit (.int .i64 0)) = .lit (.int .i64 c)) : c = (us.count x : Nat) := by
  by_cases hx : x ∈ us
  · rw [h.2.2.2 x hx] at hat
    simpa using hat.symm
  · have h0 : has D (.int .i64 x) = false := by rw [h.2.2.1 x]; simpa using hx
    rw [atKey_of_not_has h0] at hat
    have : us.count x = 0 := List.count_eq_zero.2 hx
    rw [this]
    simpa using hat.symm
theorem tally_step {H : Type} {D : DataW H} {us : List Int} {x c : Int} (h : Tally D us) (hc : c = (us.count x : Nat)) : Tally (D.put (.int .i64 x) (.lit (.int .i64 (c + 1)))) (us ++ [x]) := by
  obtain ⟨h1, ⟨ds, ⟨hn, hm⟩, hs⟩, h3, h4⟩ := h
  have hk : WideAt.IsKeyLit (.int .i64 x) := trivial
  refine ⟨h1.put hk _, ?_, fun y => ?_, fun y hy z => ?_⟩
  · rw [size_put h1, h3 x]
    by_cases hx : x ∈ us
    · refine ⟨ds, ⟨hn, fun y => ?_⟩, by simp [hx, hs]⟩
      rw [hm y]
      constructor
      · intro h; simp [h]
      · intro h
        rcases List.mem_append.1 h with h | h
        · exact h
        · simp at h; subst h; exact hx
    · refine ⟨ds ++ [x], ⟨List.nodup_append.2 ⟨hn, by simp, fun a ha b hb => ?_⟩, fun y => by simp [hm y]⟩, by simp [hx, hs]⟩
      simp at hb
      subst hb
      intro e
      subst e
      exact hx ((hm a).1 ha)
  · by_cases e : y = x
    · subst e
      rw [has_put_same h1.isMap hk]
      simp
    · rw [has_put_other (by simpa using e), h3 y]
      simp [e]
  · by_cases e : y = x
    · subst e
      rw [atKey_put_same h1.isMap hk, hc]
      simp
    · have hy' : y ∈ us := by simpa [e] using hy
      rw [atKey_put_other (by simpa using e), h4 y hy']
      have : ([x] : List Int).count y = 0 := List.count_eq_zero.2 (by simpa using e)
      simp [this]
/-- a number that the map gives is one of the list, as often -/
theorem tally_at {H : Type} {D : DataW H} {us : List Int} {x c : Int} (h : Tally D us) (hat : ∀ z, D.atKey (.int .i64 x) z = .lit (.int .i64 c)) : x ∈ us ∧ c = (us.count x : Nat) := by
  have h0 := has_true_of_atKey hat
  rw [h.2.2.1 x] at h0
  have hx : x ∈ us := by simpa using h0
  refine ⟨hx, ?_⟩
  have := hat (.lit (.int .i64 0))
  rw [h.2.2.2 x hx] at this
  simpa using this.symm
theorem tally_size {H : Type} {D : DataW H} {us : List Int} (h : Tally D us) : ∃ ds, Dist ds us ∧ size D = ds.length := h.2.1
theorem tally_has {H : Type} {D : DataW H} {us : List Int} (h : Tally D us) (x : Int) : has D (.int .i64 x) = decide (x ∈ us) := h.2.2.1 x
theorem dist_len : ∀ {ds us : List Int}, Dist ds us → ds.length ≤ us.length
  | [], _, _ => Nat.zero_le _
  | d :: ds, us, h => by
    obtain ⟨h1, h2⟩ := h
    obtain ⟨h3, h4⟩ := List.nodup_cons.1 h1
    have hd : d ∈ us := (h2 d).1 (by simp)
    have ih := dist_len (ds := ds) (us := us.filter (fun x => decide (x ≠ d))) ⟨h4, fun x => by
      rw [List.mem_filter, ← h2 x]
      constructor
      · intro hx
        have : x ≠ d := fun e => h3 (e ▸ hx)
        simp [hx, this]
      · intro hx
        obtain ⟨ha, hb⟩ := hx
        have hb : x ≠ d := by simpa using hb
        simpa [hb] using ha⟩
    have := count_filter_ne us d
    have : 0 < us.count d := List.count_pos_iff.2 hd
    simp only [List.length_cons]
    omega
attribute [irreducible] Tally
set_option maxHeartbeats 4000000 in
set_option maxRecDepth 100000 in
theorem c_IsTrivalent (v : Value) (m : List (List Int)) (w : World) (hv : IntRowsW w v m) :
    Calls Try.prog 9 #[v] w fun e w' => e = .returned (.bool (triB m)) ∧ Below w.heap.size w w' := by
  obtain ⟨⟨a, cap, rfl, hl, hc⟩, hwf⟩ := hv
  have HC := Lib.hid hc
  have HWF := Lib.hid hwf
  clear hc hwf
  obtain ⟨V, hV⟩ : ∃ V, V = m.length := ⟨_, rfl⟩
  rw [← hV] at hl ⊢
  have HV := Lib.hid hV
  obtain ⟨T, hT⟩ : ∃ T, T = triB m := ⟨_, rfl⟩
  rw [← hT]
  have HT := Lib.hid hT
  clear hV hT
  have hmm := @run_makeMap Try.prog
  go_enter Try.func9, Try.ntmps9
  go_wp2_with fail
  go_loopw [13] (fun i wr => ∃ (k : Nat) (D : DataW Unit), k ≤ V ∧ i = .int .i64 k ∧ wr.ownsMap Try.prog 2 (plainElem Try.prog 3) w.heap.size (3 * k) D ∧ Below w.heap.size w wr ∧ Hid (Tally D (upto m k)) ∧ Hid (∀ i r, i < k → m[i]? = some r → r.length = 3)) (fun i _ => V - (intOf i).toNat)
  case atStart => exact ⟨0, .map [], Nat.zero_le _, rfl, World.ownsMap_made _ _ _ _, (Below.refl _ _).alloc (Nat.le_refl _) _, tally_nil, fun i r h => absurd h (Nat.not_lt_zero _)⟩
  case round =>
    obtain ⟨k, D, hk, rfl, hown, hbel, HTL, H⟩ := hrel
    by_cases hlt : k < V
    · obtain ⟨r, hr⟩ : ∃ r, m[k]? = some r := ⟨m[k]'(by rw [← HV.out]; exact hlt), by simp⟩
      obtain ⟨b, off, u, rfl, hcell, ⟨a1, cap1, rfl, hl1, hcr⟩⟩ := HC.out k r hr
      have HR := Lib.hid hr
      have HCR := Lib.hid hcr
      have HWR : Hid (WfI r) := Lib.hid (HWF.out r (List.mem_of_getElem? hr))
      have hcellw := bcell hbel hcell
      have HOW := Lib.hid hown
      have HB := Lib.hid hbel
      clear hr hcr hown hbel hcell
      by_cases h3 : ¬ r.length = 3
      · have h3B : ((r.length : Int) != 3) = true := by rw [bne_iff_ne]; omega
        have HF : Hid (T = false) := Lib.hid (by rw [HT.out]; exact triB_no (fun h => h3 (h.1 r (List.mem_of_getElem? HR.out))))
        clear h3
        go_wp2_with fail
        go_ret
        exact ⟨ret_bool HF.out.symm, HB.out⟩
      have h3 : r.length = 3 := by omega
      rw [h3] at hcellw
      have H33 := Lib.hid h3
      clear h3 hl1
      have HU : Hid ((upto m k).length = 3 * k) := Lib.hid (upto_len k (by rw [← HV.out]; omega) H.out)
      go_wp2_with fail
      obtain ⟨wo, rfl⟩ : ∃ wo : World, wo = wr := ⟨_, rfl⟩
      go_loopw [22] (fun i wr => ∃ (j : Nat) (D : DataW Unit), j ≤ 3 ∧ i = .int .i64 j ∧ wr.ownsMap Try.prog 2 (plainElem Try.prog 3) w.heap.size (3 * k + j) D ∧ Below w.heap.size w wr ∧ Hid (Tally D (upto m k ++ r.take j))) (fun i _ => 3 - (intOf i).toNat)
      case atStart => exact ⟨0, D, Nat.zero_le _, rfl, HOW.out, HB.out, Lib.hid (by simpa using HTL.out)⟩
      case round =>
        obtain ⟨j, D2, hj, rfl, hown, hbel, HTL2⟩ := hrel
        by_cases hltj : j < 3
        · obtain ⟨x, hx⟩ : ∃ x, r[j]? = some x := ⟨r[j]'(by rw [H33.out]; exact hltj), by simp⟩
          obtain ⟨b1, off1, rfl, hcx⟩ := HCR.out j x hx
          have hcxw := bcell hbel hcx
          have hkey : keyOf Try.prog 2 (.int .i64 x) = some (.int .i64 x) := keyOf_int_mk Try.underlying2 (HWR.out x (List.mem_of_getElem? hx))
          have HXX := Lib.hid hx
          have HB := Lib.hid hbel
          have hszr := hbel.size
          clear hx hcx hbel
          go_wp2_with (first
            | (at_lookup; refine wpList_lookup_own_int _ rfl _ _ 44 rfl 2 3 .i64 lawK Try.underlying44 Try.underlying3 (zeroV _) w.heap.size (3 * k + j) D2 rfl hown _ _ rfl hkey ?_; intro c hat hwc; have HCV := Lib.hid (tally_cur HTL2.out hat); have hcb : 0 ≤ c ∧ c ≤ 3 * (k : Int) + 3 := (by have h1 := List.count_le_length (a := x) (l := upto m k ++ r.take j); have h2 := HU.out; have h3 := HCV.out; rw [List.length_append, List.length_take] at h1; omega); obtain ⟨hcb1, hcb2⟩ := hcb; clear hat hwc)
            | (at_mapUpdate; refine wpList_mapUpdate_own _ rfl _ _ _ 44 rfl 2 3 lawK Try.underlying44 _ w.heap.size (3 * k + j) _ rfl hown (by unfold maxLen; omega) _ _ _ rfl rfl hkey _ [] (plainElem_int Try.underlying3 (WalkArith.wf_i64 (by omega))) ?_; intro w1 hown1 hgrow1)
            | go_in)
          have HT3 : Hid (Tally (D2.put (.int .i64 x) (.lit (.int .i64 (c + 1)))) (upto m k ++ r.take (j + 1))) := Lib.hid (by
            rw [List.take_add_one, HXX.out]
            have h := tally_step HTL2.out HCV.out
            simpa [List.append_assoc] using h)
          go_roundw
          case rel => exact ⟨j + 1, _, by omega, by go_num, hown1, HB.out.grown hgrow1 hszr (fun j hj => by cases hj; exact Nat.le_refl _), HT3⟩
          case measure => simp [intOf]; omega
        · obtain rfl : j = 3 := by omega
          have HT3 : Hid (Tally D2 (upto m (k + 1))) := Lib.hid (by
            rw [upto_next HR.out]
            have h := HTL2.out
            rw [show r.take 3 = r from by rw [← H33.out, List.take_length]] at h
            exact h)
          have HOW2 := Lib.hid hown
          have HB2 := Lib.hid hbel
          clear hown hbel
          go_wp2_with fail
          go_roundw
          case rel =>
            refine ⟨k + 1, D2, by omega, by go_num, HOW2.out, HB2.out, HT3, Lib.hid (fun i y hi hy => ?_)⟩
            by_cases e : i = k
            · subst e; rw [HR.out] at hy; cases hy; exact H33.out
            · exact H.out i y (by omega) hy
          case measure => simp [intOf]; omega
    · obtain rfl : k = V := by omega
      have HTL : Hid (Tally D m.flatten) := Lib.hid (by rw [← upto_all, ← HV.out]; exact HTL.out)
      have H3 : Hid (∀ r ∈ m, r.length = 3) := Lib.hid (fun r hr => by
        obtain ⟨i, hi⟩ := List.getElem?_of_mem hr
        have := (List.getElem?_eq_some_iff.1 hi).1
        exact H.out i r (by rw [HV.out]; exact this) hi)
      obtain ⟨ds, hds, hsz⟩ := tally_size HTL.out
      have HDS := Lib.hid hds
      have HSZ := Lib.hid hsz
      obtain ⟨S, hS⟩ : ∃ S, S = ds.length := ⟨_, rfl⟩
      have HS := Lib.hid hS
      have hS0 : S ≤ 3 * k := by
        have h1 := dist_len hds
        rw [flat_len H3.out] at h1
        have := HV.out
        omega
      clear hds hsz hS
      have hszw := hbel.size
      have HB := Lib.hid hbel
      clear hbel
      have HSS : Hid (Maps.size D = S) := Lib.hid (by rw [HSZ.out, HS.out])
      have hwe : IntKind.i64.wrap ((S : Int) - 1) = (S : Int) - 1 := IntWalk.i64_in _ (by omega)
      obtain ⟨wo, rfl⟩ : ∃ wo : World, wo = wr := ⟨_, rfl⟩
      go_wp2_with (first
        | (at_range; refine wpList_range_own _ rfl _ 44 rfl 2 3 lawK Try.underlying44 _ w.heap.size (3 * k) _ rfl hown ?_; intro w0 hrg0 hg0 hs0)
        | go_in)
      go_frame
      go_loopw [8] (fun _ wr => ∃ (left : Lit → Bool) (ct : Nat), wr.ranges Try.prog 2 (plainElem Try.prog 3) w.heap.size wo.heap.size (3 * k) D left ct ∧ Below w.heap.size w wr ∧ w.heap.size ≤ wr.heap.size ∧ Hid (∀ x ∈ m.flatten, left (.int .i64 x) = false → m.flatten.count x = 2 ∧ 0 ≤ x ∧ x ≤ (S : Int) - 1)) (fun _ wr => wr.rangeLeft w.heap.size wo.heap.size)
      case atStart => exact ⟨_, _, hrg0, HB.out.grown hg0 hszw (fun j hj => by cases hj), by omega, Lib.hid (fun x hx h => by rw [tally_has HTL.out x] at h; simp [hx] at h)⟩
      case round =>
        obtain ⟨left, ct, hrg, hbel, hszr, HL⟩ := hrel
        have HB2 := Lib.hid hbel
        clear hbel
        go_wp2_with (first
          | (at_next; refine wpList_next_ranges_ii _ rfl _ rfl 2 3 .i64 .i64 lawK Try.underlying2 Try.underlying3 w.heap.size wo.heap.size (3 * k) _ _ _ rfl hrg ?_ ?_)
          | go_in)
        · intro _ hl0
          have HL0 := Lib.hid hl0
          clear hl0
          have hown := hrg.owns
          have hlen : ∀ ty, (Builtin.len_ #[44] ty #[.map (some w.heap.size)]).run Try.prog wr = .ok (.int .i64 S) wr := fun ty => by rw [hown.len Try.underlying44 ty, HSS.out]
          by_cases h1 : S < 1
          · have HF : Hid (T = false) := Lib.hid (by
              rw [HT.out]
              refine triB_no (fun h => ?_)
              have h2 := (prog_tri HDS.out h).2.1
              have := HS.out; omega)
            go_wp2_with fail
            go_ret
            exact ⟨ret_bool HF.out.symm, HB2.out⟩
          · by_cases h9 : 9 < S
            · have HF : Hid (T = false) := Lib.hid (by
                rw [HT.out]
                refine triB_no (fun h => ?_)
                have h2 := (prog_tri HDS.out h).2.2
                have := HS.out; omega)
              go_wp2_with fail
              go_ret
              exact ⟨ret_bool (by rw [HF.out]; simp; omega), HB2.out⟩
            · have HF : Hid (T = true) := Lib.hid (by
                rw [HT.out]
                have h2 := HS.out
                exact triB_yes (tri_prog HDS.out H3.out (fun x hx => by rw [← h2]; exact HL.out x hx (HL0.out _)) (by omega) (by omega)))
              go_wp2_with fail
              go_ret
              exact ⟨ret_bool (by rw [HF.out]; simp; omega), HB2.out⟩
        · intro x c w1 cnt1 hwx hwc hlx hat hrg1 hlt hg1 hs1 hen
          obtain ⟨hxm, hxc⟩ := tally_at HTL.out hat
          have HXM := Lib.hid hxm
          have HXC := Lib.hid hxc
          have HB3 := Lib.hid (HB2.out.grown hg1 hszr (fun j hj => by cases hj; exact hszw))
          have hown1 := hrg1.owns
          have hlen : ∀ ty, (Builtin.len_ #[44] ty #[.map (some w.heap.size)]).run Try.prog w1 = .ok (.int .i64 S) w1 := fun ty => by rw [hown1.len Try.underlying44 ty, HSS.out]
          have hs1' : w.heap.size ≤ w1.heap.size := by omega
          clear hat hxm hxc hwx hwc hlx
          by_cases hc2 : ¬ c = 2
          · have hcB : (c != 2) = true := by rw [bne_iff_ne]; exact hc2
            have HF : Hid (T = false) := Lib.hid (by
              rw [HT.out]
              refine triB_no (fun h => hc2 ?_)
              have h2 := ((prog_tri HDS.out h).1 x HXM.out).1
              have := HXC.out; omega)
            clear hc2
            go_wp2_with fail
            go_ret
            exact ⟨ret_bool HF.out.symm, HB3.out⟩
          have hc2 : c = 2 := by omega
          have hcB : (c != 2) = false := by rw [hc2]; rfl
          have HC2 := Lib.hid hc2
          clear hc2
          by_cases hin : 0 ≤ x ∧ x ≤ (S : Int) - 1
          · have HI := Lib.hid (inR_yes hin.1 hin.2)
            have HN := Lib.hid hin
            clear hin
            go_wp2_with (first | (go_at_call 26; refine (c_within _ _ _ _).mono ?_; rintro e w' ⟨rfl, rfl⟩; rw [HI.out]) | go_in)
            go_roundw
            case rel =>
              refine ⟨_, cnt1, hrg1, HB3.out, hs1', Lib.hid (fun y hy hl => ?_)⟩
              by_cases e : left (.int .i64 y) = false
              · exact HL.out y hy e
              · have e1 : left (.int .i64 y) = true := by simpa using e
                rw [e1] at hl
                have e2 : Lit.sameKey (.int .i64 y) (.int .i64 x) = true := by simpa using hl
                have e3 := WideAt.sameKey_eq e2
                simp only [Lit.int.injEq, true_and] at e3
                subst e3
                exact ⟨by have := HXC.out; have := HC2.out; omega, HN.out⟩
            case measure => rw [hrg1.left_eq, hrg.left_eq]; exact hlt
          · have HI := Lib.hid (inR_no hin)
            have HF : Hid (T = false) := Lib.hid (by
              rw [HT.out]
              refine triB_no (fun h => hin ?_)
              have h2 := ((prog_tri HDS.out h).1 x HXM.out).2
              have := HS.out; omega)
            clear hin
            go_wp2_with (first | (go_at_call 26; refine (c_within _ _ _ _).mono ?_; rintro e w' ⟨rfl, rfl⟩; rw [HI.out]) | go_in)
            go_ret
            exact ⟨ret_bool HF.out.symm, HB3.out⟩
set_option maxHeartbeats 2000000 in
theorem w_FnExactIsTrivalent (ua : Value) (xa : List (List Int)) (w : World) (hw : IntRowsW w ua xa) :
    Calls Try.prog 3 #[ua] w fun e w' => e = .returned (.bool true) ∧ Below w.heap.size w w' := by
  have HA := Lib.hid hw.1
  have HWF := Lib.hid hw.2
  clear hw
  have HB : Hid (Below w.heap.size w w) := Lib.hid (Below.refl _ _)
  go_enter Try.func3, Try.ntmps3
  go_wp2_with fail
  refine (c_szInt64SS ua xa 1048576 _ HA.out (by omega) (by omega)).mono ?_
  rintro e w1 ⟨q1, rfl, q1a, q1b, q1c, rfl⟩
  by_cases q1n : q1 < 0
  case pos =>
    clear q1c
    go_wp2_with fail
    go_ret
    exact ⟨rfl, Below.refl _ _⟩
  have HZxa := Lib.hid (q1c (by omega))
  clear q1c
  go_wp2_with fail
  refine (c_toInt64SS _ xa _ (HA.out.keep HB.out)).mono ?_
  rintro e w2 ⟨v2, rfl, ho2, hb2⟩
  have O2 := Lib.hid ho2.bound
  clear ho2
  have hs2 := hb2.size
  have HB := Lib.hid (HB.out.trans (hb2.mono HB.out.size))
  clear hb2
  go_wp2_with fail
  refine (c_SIsTrivalent _ xa _ (O2.out.rows HA.out.len (fun xs hx => HA.out.row hx))).mono ?_
  rintro e w3 ⟨rfl, hb3⟩
  have hs3 := hb3.size
  have HB := Lib.hid (HB.out.trans (hb3.mono HB.out.size))
  have O2 := Lib.hid (O2.out.keep hb3 (by omega))
  clear hb3
  go_wp2_with fail
  refine (c_toInt64SS _ xa _ (HA.out.keep HB.out)).mono ?_
  rintro e w4 ⟨v4, rfl, ho4, hb4⟩
  have O4 := Lib.hid ho4.bound
  clear ho4
  have hs4 := hb4.size
  have HB := Lib.hid (HB.out.trans (hb4.mono HB.out.size))
  clear hb4
  go_wp2_with fail
  refine (c_IsTrivalent _ xa _ ⟨O4.out.rows HA.out.len (fun xs hx => HA.out.row hx), HWF.out⟩).mono ?_
  rintro e w5 ⟨rfl, hb5⟩
  have hs5 := hb5.size
  have HB := Lib.hid (HB.out.trans (hb5.mono HB.out.size))
  have O4 := Lib.hid (O4.out.keep hb5 (by omega))
  clear hb5
  go_wp2_with fail
  refine (c_toInt64SS _ xa _ (HA.out.keep HB.out)).mono ?_
  rintro e w6 ⟨v6, rfl, ho6, hb6⟩
  have O6 := Lib.hid ho6.bound
  clear ho6
  have hs6 := hb6.size
  have HB := Lib.hid (HB.out.trans (hb6.mono HB.out.size))
  have O4 := Lib.hid (O4.out.keep hb6 (by omega))
  clear hb6
  go_wp2_with fail
  refine (c_eqInt64SS _ _ xa xa _ (O4.out.rows HA.out.len (fun xs hx => HA.out.row hx)) (O6.out.rows HA.out.len (fun xs hx => HA.out.row hx))).mono ?_
  rintro e w7 ⟨rfl, hb7⟩
  rw [eqLL_self]
  have hs7 := hb7.size
  have HB := Lib.hid (HB.out.trans (hb7.mono HB.out.size))
  have O4 := Lib.hid (O4.out.keep hb7 (by omega))
  have O6 := Lib.hid (O6.out.keep hb7 (by omega))
  clear hb7
  go_wp2_with fail
  go_ret
  exact ⟨rfl, HB.out⟩
end Go.Proofs.Ytckcjlophnehmaa
