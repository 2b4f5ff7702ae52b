/- Walks: common spaces by the program. -/
import Derived.Test.YtmbcncmmgfnlmaaAlg
import Derived.Test.YtmbcncmmgfnlmaaAps
import Derived.Test.YtmbcncmmgfnlmaaCub
import Derived.Test.YtmbcncmmgfnlmaaEgn
import Derived.Test.YtmbcncmmgfnlmaaInn
namespace Go.Proofs.Ytmbcncmmgfnlmaa
open Go.RowKit
open Fus (F Mx toI ofI toI_bd toI_of toI_ofI ofI_toI redR kerR glue stk cmn one)

def badM (m : List (List Int)) : Bool := !(isMat m)
/-- a square matrix with n rows -/
def sqB (n : Nat) (m : List (List Int)) : Bool := decide (m.length = width m ∧ m.length = n)
def fsC (c : List (List (List Int))) (xs : List Int) : Nat → Mx := fun i => lessF (entF (c.getD i [])) (ofI (xs.getD i 0))
def rowsC (c : List (List (List Int))) : Nat := (c.headD []).length
def comR (c : List (List (List Int))) (xs : List Int) : Bool := decide (1 ≤ c.length ∧ c.length ≤ 16 ∧ xs.length = c.length) && xs.all isNum
def comN (c : List (List (List Int))) (xs : List Int) : List (List Int) × Int :=
  if c.any badM = true then ([], 1) else if comR c xs = true ∧ c.all (sqB (rowsC c)) = true then (kerF (c.length * rowsC c) (rowsC c) (stk (rowsC c) (fsC c xs) c.length), 0) else ([], 2)
theorem rowsC_eq {c : List (List (List Int))} {m : List (List Int)} (h : c[0]? = some m) : rowsC c = m.length := by
  cases c with
  | nil => cases h
  | cons x xs => simp at h; subst h; rfl
theorem fsC_at {c : List (List (List Int))} {xs : List Int} {i : Nat} {m : List (List Int)} {x : Int} (h1 : c[i]? = some m) (h2 : xs[i]? = some x) : fsC c xs i = lessF (entF m) (ofI x) := by
  unfold fsC; simp only [List.getD_eq_getElem?_getD, h1, h2, Option.getD_some]
theorem tabF_glue {d n c : Nat} (f g : Mx) : tabF d c f ++ tabF n c g = tabF (d + n) c (glue d f g) := by
  induction n with
  | zero => rw [show tabF 0 c g = [] from rfl, List.append_nil]; exact tabF_congr fun i j hi _ => by show _ = (if _ then _ else _); rw [if_pos hi]
  | succ n ih =>
    rw [tabF_snoc, ← List.append_assoc, ih, ← Nat.add_assoc, tabF_snoc]
    congr 2
    exact zl_congr fun j _ => by show _ = (if _ then _ else _); rw [if_neg (by omega), show d + n - d = n from by omega]
theorem stk_next (n : Nat) (fs : Nat → Mx) (k : Nat) : tabF (k * n) n (stk n fs k) ++ tabF n n (fs k) = tabF ((k + 1) * n) n (stk n fs (k + 1)) := by
  rw [tabF_glue, Nat.add_mul, Nat.one_mul]; rfl
theorem not_mat {c : List (List (List Int))} (h : c.any badM = false) {i : Nat} {m : List (List Int)} (hm : c[i]? = some m) : isMat m = true := by
  rw [List.any_eq_false] at h
  have := h m (List.mem_of_getElem? hm)
  simpa [badM] using this
theorem comN_small (c : List (List (List Int))) (xs : List Int) : Small 4096 (comN c xs).1 := by
  unfold comN
  split
  · exact ⟨by simp, fun _ h => by simp at h⟩
  · split
    · rename_i h1 h2
      refine kerF_small ?_
      have h3 : 1 ≤ c.length := by have := h2.1; simp [comR] at this; omega
      obtain ⟨m, hm⟩ : ∃ m, c[0]? = some m := ⟨c[0]'(by omega), by simp⟩
      rw [rowsC_eq hm]
      have := (isMat_parts (not_mat (by simpa using h1) hm)).2.1
      omega
    · exact ⟨by simp, fun _ h => by simp at h⟩
theorem c_CommonSpace1 (v : Value) (m : List (List Int)) (w : World) (hv : IntRows w v m) :
    Calls Try.prog 86 #[v] w fun e w' => e = .returned (.bool (badM m)) ∧ Below w.heap.size w w' := by
  go_enter Try.func86, Try.ntmps86
  go_wp2_with (go_at_call 11; refine (c_IsMatrix v m _ hv).mono ?_; rintro e w' ⟨rfl, hb⟩)
  go_ret
  exact ⟨rfl, hb⟩
theorem c_IndexFunc_com (v : Value) (c : List (List (List Int))) (w : World) (hv : IntCubes w v c) :
    Calls Try.prog 122 #[v, .func (.func 86) #[] #[]] w fun e w' =>
      e = .returned (.int .i64 (idxOf (firstAt badM c))) ∧ Below w.heap.size w w' := by
  obtain ⟨a, cap, rfl, hl, hc⟩ := hv
  have HC := Lib.hid hc
  clear hc
  go_enter Try.func122, Try.ntmps122
  go_wp2_with fail
  go_loopw [8] (fun i wr => ∃ k : Nat, k ≤ c.length ∧ i = .int .i64 k ∧ Hid (∀ (i : Nat) x, i < k → c[i]? = some x → badM x = false) ∧ Below w.heap.size w wr) (fun i _ => c.length - (intOf i).toNat)
  case atStart => exact ⟨0, Nat.zero_le _, rfl, fun i x hi => absurd hi (Nat.not_lt_zero _), Below.refl _ _⟩
  case round =>
    obtain ⟨k, hk, rfl, H, hbel⟩ := hrel
    by_cases hlt : k < c.length
    · obtain ⟨x, hx⟩ : ∃ x, c[k]? = some x := ⟨c[k], by simp [hlt]⟩
      obtain ⟨b, off, u, rfl, hcell, hI⟩ := HC.out k x hx
      have h1 := bcell hbel hcell
      have HI := Lib.hid (hI.keep hbel)
      have HX := Lib.hid hx
      have HB := Lib.hid hbel
      clear hx hbel hI hcell
      cases hp : badM x
      · have HP := Lib.hid hp
        clear hp
        go_wp2_with fail
        refine (c_CommonSpace1 u x _ HI.out).mono ?_
        rintro e w1 ⟨rfl, hb1⟩
        rw [HP.out]
        have HB1 := Lib.hid (HB.out.trans (hb1.mono HB.out.size))
        clear hb1
        go_wp2_with fail
        go_roundw
        case rel =>
          refine ⟨k + 1, by omega, by go_num, fun i y hi hy => ?_, HB1.out⟩
          by_cases e : i = k
          · subst e; rw [HX.out] at hy; cases hy; exact HP.out
          · exact H.out i y (by omega) hy
        case measure => simp [intOf]; omega
      · have HP := Lib.hid hp
        clear hp
        go_wp2_with fail
        refine (c_CommonSpace1 u x _ HI.out).mono ?_
        rintro e w1 ⟨rfl, hb1⟩
        rw [HP.out]
        have HB1 := Lib.hid (HB.out.trans (hb1.mono HB.out.size))
        clear hb1
        go_wp2_with fail
        go_ret
        exact ⟨ret_int (by rw [firstAt_some (k := k) H.out HX.out HP.out]; rfl), HB1.out⟩
    · have HB := Lib.hid hbel
      clear hbel
      go_wp2_with fail
      go_ret
      exact ⟨ret_int (by rw [firstAt_none (fun i x hx => H.out i x (by have := (List.getElem?_eq_some_iff.1 hx).1; omega) hx)]; rfl), HB.out⟩
theorem c_ContainsFunc_com (v : Value) (c : List (List (List Int))) (w : World) (hv : IntCubes w v c) :
    Calls Try.prog 85 #[v, .func (.func 86) #[] #[]] w fun e w' =>
      e = .returned (.bool (c.any badM)) ∧ Below w.heap.size w w' := by
  have HI := Lib.hid (idx_any badM c)
  go_enter Try.func85, Try.ntmps85
  go_wp2_with (go_at_call 122; refine (c_IndexFunc_com v c _ hv).mono ?_; rintro e w' ⟨rfl, hb⟩)
  go_ret
  exact ⟨ret_bool HI.out, hb⟩
set_option maxRecDepth 100000 in
set_option maxHeartbeats 4000000 in
theorem c_CommonSpace (u : Value) (c : List (List (List Int))) (v : Value) (xs : List Int) (w : World) (hu : IntCubes w u c) (hv : Ints w v xs) :
    Calls Try.prog 44 #[u, v] w (RetMC (comN c xs) w) := by
  have HU := Lib.hid hu
  have HV := Lib.hid hv
  cases ha : c.any badM
  case true =>
    have H : Hid (comN c xs = ([], 1)) := Lib.hid (by unfold comN; rw [if_pos ha])
    have HA := Lib.hid ha
    clear ha hu hv
    go_enter Try.func44, Try.ntmps44
    go_wp2_with fail
    refine (c_ContainsFunc_com u c _ HU.out).mono ?_
    rintro e w1 ⟨rfl, hb1⟩
    rw [HA.out]
    have HB1 := Lib.hid hb1
    clear hb1
    go_wp2_with fail
    go_ret2
    refine ⟨.slice none 0 0, ?_, ?_, HB1.out⟩
    · rw [H.out]; rfl
    · rw [H.out]; exact OwnM.nil _ _
  obtain ⟨pu, cu, rfl, hul, hcu⟩ := hu
  obtain ⟨pv, cv, rfl, hvl, hcv⟩ := hv
  have HCU := Lib.hid hcu
  have HCV := Lib.hid hcv
  have HMAT : Hid (∀ (i : Nat) m, c[i]? = some m → isMat m = true) := Lib.hid (fun i m hm => not_mat ha hm)
  have HA := Lib.hid ha
  have H : Hid (comN c xs = if comR c xs = true ∧ c.all (sqB (rowsC c)) = true then (kerF (c.length * rowsC c) (rowsC c) (stk (rowsC c) (fsC c xs) c.length), 0) else ([], 2)) := Lib.hid (by unfold comN; rw [if_neg (by rw [ha]; simp)])
  clear ha hcu hcv
  have FAIL : Hid (comR c xs = false → comN c xs = ([], 2)) := Lib.hid (fun h => by rw [H.out, if_neg (fun e => by rw [h] at e; cases e.1)])
  by_cases hr1 : 1 ≤ c.length ∧ c.length ≤ 16 ∧ xs.length = c.length
  case neg =>
    have H2 := Lib.hid (FAIL.out (by unfold comR; rw [decide_eq_false hr1]; rfl))
    by_cases h1 : 1 ≤ c.length
    · have h1I : ¬ (c.length : Int) < 1 := by omega
      by_cases h2 : c.length ≤ 16
      · have h2I : ¬ (16 : Int) < (c.length : Int) := by omega
        have h3B : ((xs.length : Int) != (c.length : Int)) = true := by rw [bne_iff_ne]; omega
        clear hr1
        go_enter Try.func44, Try.ntmps44
        go_wp2_with fail
        refine (c_ContainsFunc_com _ c _ HU.out).mono ?_
        rintro e w1 ⟨rfl, hb1⟩
        rw [HA.out]
        have HB1 := Lib.hid hb1
        clear hb1
        go_wp2_with fail
        go_ret2
        refine ⟨.slice none 0 0, ?_, ?_, HB1.out⟩
        · rw [H2.out]; rfl
        · rw [H2.out]; exact OwnM.nil _ _
      · have h2I : (16 : Int) < (c.length : Int) := by omega
        clear hr1
        go_enter Try.func44, Try.ntmps44
        go_wp2_with fail
        refine (c_ContainsFunc_com _ c _ HU.out).mono ?_
        rintro e w1 ⟨rfl, hb1⟩
        rw [HA.out]
        have HB1 := Lib.hid hb1
        clear hb1
        go_wp2_with fail
        go_ret2
        refine ⟨.slice none 0 0, ?_, ?_, HB1.out⟩
        · rw [H2.out]; rfl
        · rw [H2.out]; exact OwnM.nil _ _
    · have h1I : (c.length : Int) < 1 := by omega
      clear hr1
      go_enter Try.func44, Try.ntmps44
      go_wp2_with fail
      refine (c_ContainsFunc_com _ c _ HU.out).mono ?_
      rintro e w1 ⟨rfl, hb1⟩
      rw [HA.out]
      have HB1 := Lib.hid hb1
      clear hb1
      go_wp2_with fail
      go_ret2
      refine ⟨.slice none 0 0, ?_, ?_, HB1.out⟩
      · rw [H2.out]; rfl
      · rw [H2.out]; exact OwnM.nil _ _
  obtain ⟨h1, h2, h3⟩ := hr1
  have h1I : ¬ (c.length : Int) < 1 := by omega
  have h2I : ¬ (16 : Int) < (c.length : Int) := by omega
  have h3B : ((xs.length : Int) != (c.length : Int)) = false := by rw [bne_eq_false_iff_eq, h3]
  cases hx : xs.all isNum
  case false =>
    have H2 := Lib.hid (FAIL.out (by unfold comR; rw [hx, Bool.and_false]))
    have HX := Lib.hid hx
    clear hx h3
    go_enter Try.func44, Try.ntmps44
    go_wp2_with fail
    refine (c_ContainsFunc_com _ c _ HU.out).mono ?_
    rintro e w1 ⟨rfl, hb1⟩
    rw [HA.out]
    have HV1 := Lib.hid (HV.out.keep hb1)
    have HB1 := Lib.hid hb1
    clear hb1
    go_wp2_with fail
    refine (c_areNumbers _ xs _ HV1.out).mono ?_
    rintro e w2 ⟨rfl, hb2⟩
    rw [HX.out]
    have HB2 := Lib.hid (HB1.out.trans (hb2.mono HB1.out.size))
    clear hb2
    go_wp2_with fail
    go_ret2
    refine ⟨.slice none 0 0, ?_, ?_, HB2.out⟩
    · rw [H2.out]; rfl
    · rw [H2.out]; exact OwnM.nil _ _
  case true =>
    have HX := Lib.hid hx
    have HR : Hid (comR c xs = true) := Lib.hid (by unfold comR; rw [hx, decide_eq_true ⟨h1, h2, h3⟩]; rfl)
    obtain ⟨m0, hm0⟩ : ∃ m, c[0]? = some m := ⟨c[0]'(by omega), by simp⟩
    obtain ⟨b0, o0, u0, rfl, hc0, hI0⟩ := HCU.out 0 m0 hm0
    rw [Nat.add_zero] at hc0
    have hn := rowsC_eq hm0
    obtain ⟨p0, q0, hu0, hu01, hu02⟩ := hI0
    subst hu0
    have hn12 := isMat_parts (HMAT.out 0 m0 hm0)
    obtain ⟨n, hne⟩ : ∃ n, rowsC c = n := ⟨_, rfl⟩
    rw [← hn, hne] at hc0
    have hn1 : 1 ≤ n := by have := hn12.1; omega
    have hn2 : n ≤ 16 := by have := hn12.2.1; omega
    rw [hne] at H
    have H3 := Lib.hid h3
    clear hx h3 hn12 hu01 hu02 hn
    go_enter Try.func44, Try.ntmps44
    go_wp2_with fail
    refine (c_ContainsFunc_com _ c _ HU.out).mono ?_
    rintro e w1 ⟨rfl, hb1⟩
    rw [HA.out]
    have HV1 := Lib.hid (HV.out.keep hb1)
    have HB1 := Lib.hid hb1
    clear hb1
    go_wp2_with fail
    refine (c_areNumbers _ xs _ HV1.out).mono ?_
    rintro e w2 ⟨rfl, hb2⟩
    rw [HX.out]
    have HB2 := Lib.hid (HB1.out.trans (hb2.mono HB1.out.size))
    have hz2 := HB2.out.size
    clear hb2
    go_wp2_with fail
    go_loopw [6, 34] (fun s i wr => ∃ k : Nat, k ≤ c.length ∧ i = .int .i64 k ∧ OwnM wr w2.heap.size s (tabF (k * n) n (stk n (fsC c xs) k)) ∧ Hid (∀ (i : Nat) m, i < k → c[i]? = some m → sqB n m = true) ∧ Below w2.heap.size w2 wr) (fun _ i _ => c.length - (intOf i).toNat)
    case atStart => exact ⟨0, Nat.zero_le _, rfl, by rw [Nat.zero_mul]; exact ownM_empty _ _ (Nat.le_refl _), fun i m hi => by omega, below_alloc _ _⟩
    case round =>
      obtain ⟨k, hk, rfl, hown, HSQ, hbel⟩ := hrel
      have HO := Lib.hid hown
      have HB := Lib.hid (HB2.out.trans (hbel.mono hz2))
      have HBL := Lib.hid hbel
      have hsz := hbel.size
      clear hown hbel
      have hc0' := bcell HB.out hc0
      by_cases hlt : k < c.length
      · obtain ⟨m, hm⟩ : ∃ m, c[k]? = some m := ⟨c[k], by simp [hlt]⟩
        obtain ⟨x, hxx⟩ : ∃ x, xs[k]? = some x := ⟨xs[k]'(by rw [H3.out]; exact hlt), by simp⟩
        obtain ⟨b1, o1, u1, he1, hc1, hI1⟩ := HCU.out k m hm
        cases he1
        obtain ⟨b2, o2, rfl, hc2⟩ := HCV.out k x hxx
        have hc1' := bcell HB.out hc1
        have hc2' := bcell HB.out hc2
        have HI := Lib.hid (hI1.keep HB.out)
        have hmm := HMAT.out k m hm
        have hmp := isMat_parts hmm
        have hm1 := hmp.1
        have HXN : Hid (isNum x = true) := Lib.hid ((List.all_eq_true.1 HX.out) x (List.mem_of_getElem? hxx))
        obtain ⟨p1, q1, hu1, hu11, hu12⟩ := id HI.out
        subst hu1
        have hkI : (k : Int) < (c.length : Int) := by omega
        have hkI0 : (0 : Int) ≤ (k : Int) := by omega
        have hkI1 : (k : Int) < (xs.length : Int) := by have := H3.out; omega
        have hcI : (0 : Int) < (c.length : Int) := by omega
        have HM := Lib.hid hm
        have HXX := Lib.hid hxx
        have HMM := Lib.hid hmm
        clear hm hxx hc1 hc2 hI1 hu11 hu12 hmm hmp
        by_cases hs1 : m.length = width m
        · have HD : Hid (decide (m.length = width m) = true) := Lib.hid (decide_eq_true hs1)
          by_cases hs2 : m.length = n
          · have hx12 := isNum_true HXN.out
            have HXE : Hid (x = toI (ofI x)) := Lib.hid (by rw [toI_ofI]; omega)
            have HTAB : Hid (m = tabF n n (entF m)) := Lib.hid (by
              have := sqFi (m := m) (b := true) (by unfold sqCode; rw [if_pos HMM.out, if_pos ⟨hs1, rfl⟩]); rw [hs2] at this; exact this)
            have HFS : Hid (fsC c xs k = lessF (entF m) (ofI x)) := Lib.hid (fsC_at HM.out HXX.out)
            have HSQ2 : Hid (∀ (i : Nat) m, i < k + 1 → c[i]? = some m → sqB n m = true) := Lib.hid (fun i m' hi hm' => by
              by_cases e : i = k
              · subst e; rw [HM.out] at hm'; cases hm'; exact decide_eq_true ⟨hs1, hs2⟩
              · exact HSQ.out i m' (by omega) hm')
            rw [hs2] at hc1'
            have HIM : Hid (IntRows wr (.slice p1 n q1) m) := Lib.hid (by rw [← hs2]; exact HI.out)
            have HI2 : Hid (IntRows wr (.slice p1 n q1) (tabF n n (entF m))) := Lib.hid (by rw [← HTAB.out]; exact HIM.out)
            have hkn : k * n ≤ 16 * 16 := Nat.mul_le_mul (by omega) hn2
            clear hs1 hs2 hx12 HSQ HI HM HXX HTAB
            go_wp2_with fail
            refine (c_isSquare _ m _ HIM.out hm1).mono ?_
            rintro e w3 ⟨rfl, rfl⟩
            rw [HD.out]
            go_wp2_with fail
            have hcl := c_lessUnit _ n (entF m) (ofI x) wr HI2.out (by omega)
            rw [← HXE.out] at hcl
            refine hcl.mono ?_
            rintro e w4 ⟨v4, rfl, ho4, hb4⟩
            rw [← HFS.out] at ho4
            obtain ⟨g4, c4, rfl, hg41, hg42⟩ := ho4.shape' (by rw [tabF_length]; exact hn1)
            rw [tabF_length] at ho4 ⊢
            have HO4 := Lib.hid ho4
            have HB4 := Lib.hid hb4
            clear hcl ho4 hb4
            go_wp2_with (at_builtin; refine wp_appendM HO.out HB4.out HO4.out rfl _ _ rfl rfl rfl hsz (by rw [tabF_length]; omega) (by rw [tabF_length]; omega) ?_; intro v5 w5 ho5 hb5)
            rw [stk_next] at ho5
            go_wp2_with fail
            go_roundw
            case rel => exact ⟨k + 1, by omega, by go_num, ho5, HSQ2.out, (HBL.out.trans (HB4.out.mono hsz)).trans hb5⟩
            case measure => simp [intOf]; omega
          · have hs2B : ((m.length : Int) != (n : Int)) = true := by rw [bne_iff_ne]; omega
            have H2 : Hid (comN c xs = ([], 2)) := Lib.hid (by
              rw [H.out, if_neg]
              rintro ⟨_, h⟩
              have := (List.all_eq_true.1 h) m (List.mem_of_getElem? HM.out)
              exact hs2 (of_decide_eq_true this).2)
            clear hs1 hs2
            go_wp2_with fail
            refine (c_isSquare _ m _ HI.out hm1).mono ?_
            rintro e w3 ⟨rfl, rfl⟩
            rw [HD.out]
            go_wp2_with fail
            go_ret2
            refine ⟨.slice none 0 0, ?_, ?_, HB.out⟩
            · rw [H2.out]; rfl
            · rw [H2.out]; exact OwnM.nil _ _
        · have HD : Hid (decide (m.length = width m) = false) := Lib.hid (decide_eq_false hs1)
          have H2 : Hid (comN c xs = ([], 2)) := Lib.hid (by
            rw [H.out, if_neg]
            rintro ⟨_, h⟩
            have := (List.all_eq_true.1 h) m (List.mem_of_getElem? HM.out)
            exact hs1 (of_decide_eq_true this).1)
          clear hs1
          go_wp2_with fail
          refine (c_isSquare _ m _ HI.out hm1).mono ?_
          rintro e w3 ⟨rfl, rfl⟩
          rw [HD.out]
          go_wp2_with fail
          go_ret2
          refine ⟨.slice none 0 0, ?_, ?_, HB.out⟩
          · rw [H2.out]; rfl
          · rw [H2.out]; exact OwnM.nil _ _
      · obtain rfl : k = c.length := by omega
        have hkn : c.length * n ≤ 16 * 16 := Nat.mul_le_mul (by omega) hn2
        have hkn1 : 0 < c.length * n := Nat.mul_pos (by omega) (by omega)
        have H2 : Hid (comN c xs = (kerF (c.length * n) n (stk n (fsC c xs) c.length), 0)) := Lib.hid (by
          have hall : c.all (sqB n) = true := by
            rw [List.all_eq_true]
            intro m' hm'
            obtain ⟨i, hi⟩ := List.getElem?_of_mem hm'
            exact HSQ.out i m' (List.getElem?_eq_some_iff.1 hi).1 hi
          rw [H.out, if_pos ⟨HR.out, hall⟩])
        have HI := Lib.hid (HO.out.rowsF (by omega) (by omega))
        go_wp2_with fail
        refine (c_kernel u6 _ n _ _ HI.out hkn1 (by omega) (by omega) (by omega)).mono ?_
        rintro e w5 ⟨v5, rfl, ho5, hb5⟩
        go_wp2_with fail
        go_ret2
        refine ⟨v5, ?_, ?_, HB.out.trans (hb5.mono HB.out.size)⟩
        · rw [H2.out]; rfl
        · rw [H2.out]; exact ho5.mono HB.out.size
end Go.Proofs.Ytmbcncmmgfnlmaa
