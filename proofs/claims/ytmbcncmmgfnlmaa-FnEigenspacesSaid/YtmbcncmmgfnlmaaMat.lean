/- Walks: sizes of arguments, and what a matrix is, program and reference. -/
import Derived.Test.YtmbcncmmgfnlmaaGme
namespace Go.Proofs.Ytmbcncmmgfnlmaa
open Go.RowKit

/-! sizes -/
def SzPost (left size : Int) (w : World) (e : Ending) (w' : World) : Prop := ∃ r : Int, e = .returned (.int .i64 r) ∧ -1 ≤ r ∧ r ≤ left ∧ (0 ≤ r → r + size = left) ∧ w = w'

/-! what a matrix is -/
def okRow (n : Nat) (r : List Int) : Bool := decide (1 ≤ r.length ∧ r.length ≤ 16 ∧ r.length = n)
def width (m : List (List Int)) : Nat := (m.headD []).length
def blockB (m : List (List Int)) (least : Int) : Bool := m.all (okRow (width m)) && (decide (least ≤ (m.length : Int)) && decide ((m.length : Int) ≤ 16))
def numsB (m : List (List Int)) : Bool := m.all (fun r => r.all isNum)
def isMat (m : List (List Int)) : Bool := blockB m 1 && numsB m
theorem okRow_iff {n : Nat} {r : List Int} : okRow n r = true ↔ 1 ≤ r.length ∧ r.length ≤ 16 ∧ r.length = n := by unfold okRow; exact decide_eq_true_iff
theorem okRow_no {n : Nat} {r : List Int} (h : ¬ (1 ≤ r.length ∧ r.length ≤ 16 ∧ r.length = n)) : okRow n r = false := decide_eq_false h
theorem allL_false {p : List Int → Bool} {xss : List (List Int)} {k : Nat} {x : List Int} (hx : xss[k]? = some x) (h : p x = false) : xss.all p = false := by
  rw [List.all_eq_false]; exact ⟨x, List.mem_of_getElem? hx, by simp [h]⟩
theorem allL_true {p : List Int → Bool} {xss : List (List Int)} (h : ∀ (i : Nat) x, xss[i]? = some x → p x = true) : xss.all p = true := by
  rw [List.all_eq_true]; intro x hx; obtain ⟨i, hi⟩ := List.getElem?_of_mem hx; exact h i x hi
theorem width_eq {m : List (List Int)} {r : List Int} (h : m[0]? = some r) : width m = r.length := by
  cases m with
  | nil => cases h
  | cons x xs => simp at h; subst h; rfl
set_option maxHeartbeats 1000000 in
theorem c_isBlock (v : Value) (m : List (List Int)) (least : Int) (w : World) (hv : IntRows w v m) :
    Calls Try.prog 53 #[v, .int .i64 least] w fun e w' => e = .returned (.bool (blockB m least)) ∧ w = w' := by
  obtain ⟨a, cap, rfl, hl, hc⟩ := hv
  have HC := Lib.hid hc
  clear hc
  go_enter Try.func53, Try.ntmps53
  go_wp2_with fail
  go_loop [9] (fun i => ∃ k : Nat, k ≤ m.length ∧ i = .int .i64 k ∧ Hid (∀ (i : Nat) x, i < k → m[i]? = some x → okRow (width m) x = true)) (fun i => m.length - (intOf i).toNat)
  case atStart => exact ⟨0, Nat.zero_le _, rfl, fun i x hi => absurd hi (Nat.not_lt_zero _)⟩
  case round =>
    obtain ⟨k, hk, rfl, H⟩ := hrel
    by_cases hlt : k < m.length
    · obtain ⟨x, hx⟩ : ∃ x, m[k]? = some x := ⟨m[k], by simp [hlt]⟩
      obtain ⟨x0, hx0⟩ : ∃ x, m[0]? = some x := ⟨m[0], by simp⟩
      obtain ⟨b, off, u, rfl, hcell, ⟨a1, cap1, rfl, hl1, _⟩⟩ := HC.out k x hx
      obtain ⟨b0, off0, u0, hab, hcell0, ⟨a2, cap2, rfl, hl2, _⟩⟩ := HC.out 0 x0 hx0
      cases hab
      have hcell0' : w.cell? ⟨b, off, none⟩ = some (.slice a2 x0.length cap2) := by simpa using hcell0
      clear hcell0
      have hpos : 0 < m.length := by omega
      have HW := Lib.hid (width_eq hx0)
      have HX := Lib.hid hx
      clear hx hx0
      by_cases h1 : x.length < 1
      · have HF := Lib.hid (allL_false HX.out (okRow_no (n := width m) (by omega)))
        go_wp2_with fail
        go_ret
        exact ⟨ret_bool (by unfold blockB; rw [HF.out]; rfl), rfl⟩
      · by_cases h2 : 16 < x.length
        · have HF := Lib.hid (allL_false HX.out (okRow_no (n := width m) (by omega)))
          go_wp2_with fail
          go_ret
          exact ⟨ret_bool (by unfold blockB; rw [HF.out]; rfl), rfl⟩
        · by_cases h3 : x.length = x0.length
          · have h3B : ((x.length : Int) != (x0.length : Int)) = false := by simp [h3]
            have HT : Hid (okRow (width m) x = true) := Lib.hid (okRow_iff.2 (by rw [HW.out]; omega))
            clear h3
            go_wp2_with fail
            go_round
            case rel =>
              refine ⟨k + 1, by omega, by go_num, fun i y hi hy => ?_⟩
              by_cases e : i = k
              · subst e; rw [HX.out] at hy; cases hy; exact HT.out
              · exact H.out i y (by omega) hy
            case measure => simp [intOf]; omega
          · have h3B : ((x.length : Int) != (x0.length : Int)) = true := by rw [bne_iff_ne]; omega
            have HF := Lib.hid (allL_false HX.out (okRow_no (n := width m) (by rw [HW.out]; omega)))
            clear h3
            go_wp2_with fail
            go_ret
            exact ⟨ret_bool (by unfold blockB; rw [HF.out]; rfl), rfl⟩
    · have HT : Hid (m.all (okRow (width m)) = true) := Lib.hid (allL_true (fun i x hx => H.out i x (by have := (List.getElem?_eq_some_iff.1 hx).1; omega) hx))
      by_cases h1 : least ≤ m.length
      · go_wp2_with fail
        go_ret
        exact ⟨ret_bool (by unfold blockB; rw [HT.out]; simp [h1]), rfl⟩
      · have h1B : decide (least ≤ (m.length : Int)) = false := by simpa using h1
        go_wp2_with fail
        go_ret
        exact ⟨ret_bool (by unfold blockB; rw [HT.out]; simp [h1B]), rfl⟩
theorem c_haveNumbers1 (v : Value) (xs : List Int) (w : World) (hv : Ints w v xs) :
    Calls Try.prog 92 #[v] w fun e w' => e = .returned (.bool (!(xs.all isNum))) ∧ Below w.heap.size w w' := by
  go_enter Try.func92, Try.ntmps92
  go_wp2_with (go_at_call 61; refine (c_areNumbers v xs _ hv).mono ?_; rintro e w' ⟨rfl, hb⟩)
  go_ret
  exact ⟨rfl, hb⟩
def badRow (r : List Int) : Bool := !(r.all isNum)
theorem numsB_any (m : List (List Int)) : (!(m.any badRow)) = numsB m := by
  unfold numsB
  induction m with
  | nil => rfl
  | cons x xs ih => simp only [List.any_cons, List.all_cons, Bool.not_or, ih]; simp [badRow]
theorem c_IndexFunc_have (v : Value) (m : List (List Int)) (w : World) (hv : IntRows w v m) :
    Calls Try.prog 105 #[v, .func (.func 92) #[] #[]] w fun e w' =>
      e = .returned (.int .i64 (idxOf (firstAt badRow m))) ∧ Below w.heap.size w w' := by
  obtain ⟨a, cap, rfl, hl, hc⟩ := hv
  have HC := Lib.hid hc
  clear hc
  go_enter Try.func105, Try.ntmps105
  go_wp2_with fail
  go_loopw [8] (fun i wr => ∃ k : Nat, k ≤ m.length ∧ i = .int .i64 k ∧ Hid (∀ (i : Nat) x, i < k → m[i]? = some x → badRow x = false) ∧ Below w.heap.size w wr) (fun i _ => m.length - (intOf i).toNat)
  case atStart => exact ⟨0, Nat.zero_le _, rfl, fun i x hi => absurd hi (Nat.not_lt_zero _), Below.refl _ _⟩
  case round =>
    obtain ⟨k, hk, rfl, H, hbel⟩ := hrel
    by_cases hlt : k < m.length
    · obtain ⟨x, hx⟩ : ∃ x, m[k]? = some x := ⟨m[k], by simp [hlt]⟩
      obtain ⟨b, off, u, rfl, hcell, hI⟩ := HC.out k x hx
      have h1 := bcell hbel hcell
      have HI := Lib.hid (hI.keep hbel)
      have HX := Lib.hid hx
      have HB := Lib.hid hbel
      clear hx hbel hI hcell
      cases hp : badRow x
      · have HP := Lib.hid hp
        clear hp
        go_wp2_with fail
        refine (c_haveNumbers1 u x _ HI.out).mono ?_
        rintro e w1 ⟨rfl, hb1⟩
        rw [show (!(x.all isNum)) = false from HP.out]
        have HB1 := Lib.hid (HB.out.trans (hb1.mono HB.out.size))
        clear hb1
        go_wp2_with fail
        go_roundw
        case rel =>
          refine ⟨k + 1, by omega, by go_num, fun i y hi hy => ?_, HB1.out⟩
          by_cases e : i = k
          · subst e; rw [HX.out] at hy; cases hy; exact HP.out
          · exact H.out i y (by omega) hy
        case measure => simp [intOf]; omega
      · have HP := Lib.hid hp
        clear hp
        go_wp2_with fail
        refine (c_haveNumbers1 u x _ HI.out).mono ?_
        rintro e w1 ⟨rfl, hb1⟩
        rw [show (!(x.all isNum)) = true from HP.out]
        have HB1 := Lib.hid (HB.out.trans (hb1.mono HB.out.size))
        clear hb1
        go_wp2_with fail
        go_ret
        exact ⟨ret_int (by rw [firstAt_some (k := k) H.out HX.out HP.out]; rfl), HB1.out⟩
    · have HB := Lib.hid hbel
      clear hbel
      go_wp2_with fail
      go_ret
      exact ⟨ret_int (by rw [firstAt_none (fun i x hx => H.out i x (by have := (List.getElem?_eq_some_iff.1 hx).1; omega) hx)]; rfl), HB.out⟩
theorem c_ContainsFunc_have (v : Value) (m : List (List Int)) (w : World) (hv : IntRows w v m) :
    Calls Try.prog 91 #[v, .func (.func 92) #[] #[]] w fun e w' =>
      e = .returned (.bool (m.any badRow)) ∧ Below w.heap.size w w' := by
  have HI := Lib.hid (idx_any badRow m)
  go_enter Try.func91, Try.ntmps91
  go_wp2_with (go_at_call 105; refine (c_IndexFunc_have v m _ hv).mono ?_; rintro e w' ⟨rfl, hb⟩)
  go_ret
  exact ⟨ret_bool HI.out, hb⟩
theorem c_haveNumbers (v : Value) (m : List (List Int)) (w : World) (hv : IntRows w v m) :
    Calls Try.prog 54 #[v] w fun e w' => e = .returned (.bool (numsB m)) ∧ Below w.heap.size w w' := by
  have HN := Lib.hid (numsB_any m)
  go_enter Try.func54, Try.ntmps54
  go_wp2_with (go_at_call 91; refine (c_ContainsFunc_have v m _ hv).mono ?_; rintro e w' ⟨rfl, hb⟩)
  go_ret
  exact ⟨ret_bool HN.out, hb⟩
theorem c_IsMatrix (v : Value) (m : List (List Int)) (w : World) (hv : IntRows w v m) :
    Calls Try.prog 11 #[v] w fun e w' => e = .returned (.bool (isMat m)) ∧ Below w.heap.size w w' := by
  cases hb : blockB m 1
  · have H : Hid (isMat m = false) := Lib.hid (by unfold isMat; rw [hb]; rfl)
    go_enter Try.func11, Try.ntmps11
    go_wp2_with (go_at_call 53; refine (c_isBlock v m _ _ hv).mono ?_; rintro e w' ⟨rfl, rfl⟩)
    go_ret
    exact ⟨ret_bool H.out.symm, Below.refl _ _⟩
  · have H : Hid (isMat m = numsB m) := Lib.hid (by unfold isMat; rw [hb]; rfl)
    go_enter Try.func11, Try.ntmps11
    go_wp2_with (first | (go_at_call 53; refine (c_isBlock v m _ _ hv).mono ?_; rintro e w' ⟨rfl, rfl⟩) | (go_at_call 54; refine (c_haveNumbers v m _ hv).mono ?_; rintro e w' ⟨rfl, hb1⟩))
    go_ret
    exact ⟨ret_bool H.out.symm, hb1⟩
theorem blockB_false {m : List (List Int)} {k : Nat} {x : List Int} (hx : m[k]? = some x) (h : okRow (width m) x = false) : isMat m = false := by
  unfold isMat blockB; rw [allL_false hx h]; rfl
theorem isMat_len {m : List (List Int)} (h : ¬ (1 ≤ m.length ∧ m.length ≤ 16)) : isMat m = false := by
  cases e : isMat m
  · rfl
  · simp [isMat, blockB] at e; omega
theorem isMat_parts {m : List (List Int)} (h : isMat m = true) : 1 ≤ m.length ∧ m.length ≤ 16 ∧ 1 ≤ width m ∧ width m ≤ 16 ∧ (∀ (i : Nat) x, m[i]? = some x → x.length = width m ∧ x.all isNum = true) := by
  simp only [isMat, blockB, numsB, Bool.and_eq_true, decide_eq_true_iff, List.all_eq_true] at h
  obtain ⟨⟨h1, h2, h3⟩, h4⟩ := h
  have hrow : ∀ (i : Nat) x, m[i]? = some x → 1 ≤ x.length ∧ x.length ≤ 16 ∧ x.length = width m := fun i x hx => okRow_iff.1 (h1 x (List.mem_of_getElem? hx))
  obtain ⟨x0, hx0⟩ : ∃ x, m[0]? = some x := ⟨m[0]'(by omega), by simp⟩
  have h0 := hrow 0 x0 hx0
  exact ⟨by omega, by omega, by omega, by omega, fun i x hx => ⟨(hrow i x hx).2.2, List.all_eq_true.2 (h4 x (List.mem_of_getElem? hx))⟩⟩
theorem isMat_mk {m : List (List Int)} (h1 : 1 ≤ m.length) (h2 : m.length ≤ 16) (h3 : 1 ≤ width m) (h4 : width m ≤ 16) (h : ∀ (i : Nat) x, m[i]? = some x → x.length = width m ∧ x.all isNum = true) : isMat m = true := by
  simp only [isMat, blockB, numsB, Bool.and_eq_true, decide_eq_true_iff]
  refine ⟨⟨allL_true fun i x hx => okRow_iff.2 (by have := (h i x hx).1; omega), by omega, by omega⟩, allL_true fun i x hx => (h i x hx).2⟩
set_option maxHeartbeats 2000000 in
theorem c_l02Is (v : Value) (m : List (List Int)) (w : World) (hv : IntRows w v m) :
    Calls Try.prog 51 #[v] w fun e w' => e = .returned (.bool (isMat m)) ∧ Drew w w' := by
  obtain ⟨a, cap, rfl, hl, hc⟩ := hv
  have HC := Lib.hid hc
  clear hc
  by_cases h1 : m.length < 1
  · have H : Hid (isMat m = false) := Lib.hid (isMat_len (by omega))
    go_enter Try.func51, Try.ntmps51
    go_wp2_with fail
    go_ret
    exact ⟨ret_bool H.out.symm, Drew.refl _⟩
  by_cases h2 : 16 < m.length
  · have H : Hid (isMat m = false) := Lib.hid (isMat_len (by omega))
    go_enter Try.func51, Try.ntmps51
    go_wp2_with fail
    go_ret
    exact ⟨ret_bool H.out.symm, Drew.refl _⟩
  have hpos : 0 < m.length := by omega
  obtain ⟨x0, hx0⟩ : ∃ x, m[0]? = some x := ⟨m[0], by simp⟩
  obtain ⟨b, off, u0, rfl, hcell0, ⟨a2, cap2, rfl, hl2, _⟩⟩ := HC.out 0 x0 hx0
  have hcell0' : w.cell? ⟨b, off, none⟩ = some (.slice a2 x0.length cap2) := by simpa using hcell0
  have HW := Lib.hid (width_eq hx0)
  have HX0 := Lib.hid hx0
  clear hcell0 hx0
  by_cases h3 : x0.length < 1
  · have H : Hid (isMat m = false) := Lib.hid (blockB_false HX0.out (okRow_no (by omega)))
    go_enter Try.func51, Try.ntmps51
    go_wp2_with fail
    go_ret
    exact ⟨ret_bool H.out.symm, Drew.refl _⟩
  by_cases h4 : 16 < x0.length
  · have H : Hid (isMat m = false) := Lib.hid (blockB_false HX0.out (okRow_no (by omega)))
    go_enter Try.func51, Try.ntmps51
    go_wp2_with fail
    go_ret
    exact ⟨ret_bool H.out.symm, Drew.refl _⟩
  go_enter Try.func51, Try.ntmps51
  go_wp2_with fail
  go_loopw [3] (fun i wr => ∃ k : Nat, k ≤ m.length ∧ i = .int .i64 k ∧ Hid (∀ (i : Nat) x, i < k → m[i]? = some x → x.length = width m ∧ x.all isNum = true) ∧ Drew w wr) (fun i _ => m.length - (intOf i).toNat)
  case atStart => exact ⟨0, Nat.zero_le _, rfl, fun i x hi => absurd hi (Nat.not_lt_zero _), Drew.refl _⟩
  case round =>
    obtain ⟨k, hk, rfl, H, hd⟩ := hrel
    by_cases hlt : k < m.length
    · obtain ⟨x, hx⟩ : ∃ x, m[k]? = some x := ⟨m[k], by simp [hlt]⟩
      obtain ⟨b', off', u, hab, hcell, hI⟩ := HC.out k x hx
      cases hab
      have HI := Lib.hid (hI.ofHeap hd.heap)
      obtain ⟨a1, cap1, rfl, hl1, _⟩ := hI
      have hc1 := hd.cell hcell
      have hc0 := hd.cell hcell0'
      have HX := Lib.hid hx
      have HD := Lib.hid hd
      clear hx hd hcell
      by_cases he : x.length = x0.length
      · have heB : ((x.length : Int) != (x0.length : Int)) = false := by simp [he]
        have HE := Lib.hid he
        clear he
        cases hn : x.all isNum
        · have HF : Hid (isMat m = false) := Lib.hid (by unfold isMat numsB; rw [allL_false HX.out hn, Bool.and_false])
          have HQ : Hid (∀ w1 : World, w1.heap = wr.heap → Calls Try.prog 88 #[.slice a1 x.length cap1] w1 fun e w' => e = .returned (.bool false) ∧ w' = w1) := Lib.hid (fun w1 hw => (c_l01Numbers _ x w1 (HI.out.ofHeap hw)).mono (fun e w' hh => And.intro (by rw [hh.1, hn]) hh.2.symm))
          clear hn
          go_wp2_with fail
          go_quiet ((go_at_call 88; exact Calls.quiet_of_same (HQ.out _ rfl)))
          go_wp2_with fail
          go_ret
          exact ⟨ret_bool HF.out.symm, HD.out.more _⟩
        · have HN := Lib.hid hn
          have HQ : Hid (∀ w1 : World, w1.heap = wr.heap → Calls Try.prog 88 #[.slice a1 x.length cap1] w1 fun e w' => e = .returned (.bool true) ∧ w' = w1) := Lib.hid (fun w1 hw => (c_l01Numbers _ x w1 (HI.out.ofHeap hw)).mono (fun e w' hh => And.intro (by rw [hh.1, hn]) hh.2.symm))
          clear hn
          go_wp2_with fail
          go_quiet ((go_at_call 88; exact Calls.quiet_of_same (HQ.out _ rfl)))
          go_wp2_with fail
          go_roundw
          case rel =>
            refine ⟨k + 1, by omega, by go_num, fun i y hi hy => ?_, HD.out.more _⟩
            by_cases e : i = k
            · subst e; rw [HX.out] at hy; cases hy; exact ⟨HE.out.trans HW.out.symm, HN.out⟩
            · exact H.out i y (by omega) hy
          case measure => simp [intOf]; omega
      · have heB : ((x.length : Int) != (x0.length : Int)) = true := by rw [bne_iff_ne]; omega
        have HF : Hid (isMat m = false) := Lib.hid (blockB_false HX.out (okRow_no (by rw [HW.out]; omega)))
        clear he
        go_wp2_with fail
        go_quiet (fail)
        go_wp2_with fail
        go_ret
        exact ⟨ret_bool HF.out.symm, HD.out.more _⟩
    · have HF : Hid (isMat m = true) := Lib.hid (isMat_mk (by omega) (by omega) (by rw [HW.out]; omega) (by rw [HW.out]; omega) (fun i x hx => H.out i x (by have := (List.getElem?_eq_some_iff.1 hx).1; omega) hx))
      have HD := Lib.hid hd
      clear hd
      go_wp2_with fail
      go_ret
      exact ⟨ret_bool HF.out.symm, HD.out⟩
theorem c_SIsMatrix (v : Value) (m : List (List Int)) (w : World) (hv : IntRows w v m) :
    Calls Try.prog 12 #[v] w fun e w' => e = .returned (.bool (isMat m)) ∧ Below w.heap.size w w' := by
  go_enter Try.func12, Try.ntmps12
  go_wp2_with (go_at_call 51; refine (c_l02Is v m _ hv).mono ?_; rintro e w' ⟨rfl, hd⟩)
  go_ret
  exact ⟨rfl, hd.below _⟩
attribute [irreducible] isMat blockB numsB
end Go.Proofs.Ytmbcncmmgfnlmaa
