/- Walks of the laws' helpers over rows of integers. -/
import Derived.Test.YtckcjlophnehmaaHlp
namespace Go.Proofs.Ytckcjlophnehmaa
open Go.RowKit

/-- how many cells the first rows have -/
def totK (xss : List (List Int)) : Nat → Int
  | 0 => 0
  | i + 1 => totK xss i + (xss.getD i []).length
theorem totK_next {xss : List (List Int)} {k : Nat} {xs : List Int} (h : xss[k]? = some xs) : totK xss (k + 1) = totK xss k + xs.length := by
  simp [totK, List.getD_eq_getElem?_getD, h]
theorem totK_nonneg (xss : List (List Int)) (k : Nat) : 0 ≤ totK xss k := by
  induction k with
  | zero => exact Int.le_refl _
  | succ k ih => simp only [totK]; omega
theorem totK_mono (xss : List (List Int)) {k n : Nat} (h : k ≤ n) : totK xss k ≤ totK xss n := by
  induction h with
  | refl => exact Int.le_refl _
  | step _ ih => simp only [totK]; omega
theorem info_ints : (Try.prog.info? 29).map (fun i => (i.zero, i.size, i.bytes)) = some (some (.slice none 0 0), 1, 24) := by kernel_rfl
theorem copiedM_next {xss : List (List Int)} {k : Nat} {xs : List Int} (h : xss[k]? = some xs) :
    (xss.take k ++ List.replicate (xss.length - k) []).set k xs = xss.take (k + 1) ++ List.replicate (xss.length - (k + 1)) [] := by
  obtain ⟨hk, rfl⟩ := List.getElem?_eq_some_iff.1 h
  rw [List.set_append_right _ _ (by simp; omega), List.take_succ_eq_append_getElem hk, List.append_assoc]
  congr 1
  rw [List.length_take, Nat.min_eq_left (by omega), Nat.sub_self]
  obtain ⟨m, hm⟩ : ∃ m, xss.length - k = m + 1 := ⟨xss.length - k - 1, by omega⟩
  rw [hm, show xss.length - (k + 1) = m from by omega, List.replicate_succ]
  rfl
theorem OwnM.made (w : World) (n : Nat) (hm : n ≤ maxLen) : OwnM (w.alloc (.cells (madeCells #[.slice none 0 0] n) 29)) w.heap.size (.slice (some ⟨w.heap.size, 0, none⟩) n n) (List.replicate n []) := by
  refine ⟨List.replicate n (.slice none 0 0), Own.made _ _ _ _ (Nat.le_refl _) hm, by simp, ?_, ?_⟩
  · intro i u xs h1 h2
    have e1 := List.eq_of_mem_replicate (List.mem_of_getElem? h1)
    have e2 := List.eq_of_mem_replicate (List.mem_of_getElem? h2)
    subst e1 e2
    exact Own.nil _ _ _
  · intro i j u u' h1 h2 _ g hg
    have e1 := List.eq_of_mem_replicate (List.mem_of_getElem? h1)
    subst e1
    cases hg
theorem c_toInt64SS (v : Value) (xss : List (List Int)) (w : World) (hv : IntRows w v xss) :
    Calls Try.prog 8 #[v] w (RetM xss w) := by
  have HV := Lib.hid hv
  obtain ⟨a, cap, rfl, hl, hc⟩ := hv
  have hmk := run_make_row' (P := Try.prog) 22 29 (.slice none 0 0) 24 Try.underlying22 info_ints rfl .i64 .i64 xss.length (by omega) (by omega)
  have HC := Lib.hid hc
  clear hc
  go_enter Try.func8, Try.ntmps8
  go_wp2_with fail
  go_loopw [4] (fun i wr => ∃ k : Nat, k ≤ xss.length ∧ i = .int .i64 k ∧ OwnM wr w.heap.size (.slice (some ⟨w.heap.size, 0, none⟩) xss.length xss.length) (xss.take k ++ List.replicate (xss.length - k) []) ∧ Below w.heap.size w wr) (fun i _ => xss.length - (intOf i).toNat)
  case atStart => exact ⟨0, Nat.zero_le _, rfl, OwnM.made _ _ (by unfold maxLen; omega), below_alloc _ _⟩
  case round =>
    obtain ⟨k, hk, rfl, hown, hbel⟩ := hrel
    clear hmk
    by_cases hlt : k < xss.length
    · obtain ⟨xs, hx⟩ : ∃ xs, xss[k]? = some xs := ⟨xss[k], by simp [hlt]⟩
      obtain ⟨b, off, u, rfl, hcell, hI⟩ := HC.out k xs hx
      have hcell' := bcell hbel hcell
      have hI' := Lib.hid (hI.keep hbel)
      have hown' := hown
      obtain ⟨us, ho, hlen, _, _⟩ := hown
      obtain ⟨y, hy⟩ : ∃ y, us[k]? = some y := ⟨_, List.getElem?_eq_getElem (by rw [hlen]; simp; omega)⟩
      have hold := Own.cell ho hy
      have hfr := Own.frozen ho k
      have HX := Lib.hid hx
      have HO := Lib.hid hown'
      have HB := Lib.hid hbel
      have hsz := hbel.size
      clear hx hy hown' ho hbel hcell hI hlen
      go_wp2_with fail
      refine (c_toInt64S _ xs _ hI'.out).mono ?_
      rintro e w1 ⟨v1, rfl, ho1, hb1⟩
      obtain ⟨p1, n1, c1, rfl⟩ := ho1.slice
      have hold1 := bcell hb1 hold
      have hfr1 := bfrozen hb1 hold hfr
      have HS := Lib.hid (HO.out.set hb1 hsz ho1 k)
      have HB1 := Lib.hid hb1
      clear hold hfr ho1 hb1 hcell'
      go_wp2_with fail
      go_roundw
      case rel => exact ⟨k + 1, by omega, by go_num, by have h := HS.out; rw [copiedM_next HX.out] at h; exact h, below_set (HB.out.trans (HB1.out.mono hsz)) (Nat.le_refl _)⟩
      case measure => simp [intOf]; omega
    · obtain rfl : k = xss.length := by omega
      have HO := Lib.hid hown
      have HB := Lib.hid hbel
      clear hown hbel
      go_wp2_with fail
      go_ret
      exact ⟨_, rfl, by have h := HO.out; simpa using h, HB.out⟩
def eqLL (xs ys : List (List Int)) : Bool := decide (xs = ys)
theorem eqLL_true {xs ys : List (List Int)} (hl : xs.length = ys.length) (h : ∀ (i : Nat) x y, xs[i]? = some x → ys[i]? = some y → x = y) : eqLL xs ys = true := by
  refine decide_eq_true (List.ext_getElem hl fun i h1 h2 => h i _ _ (List.getElem?_eq_getElem h1) (List.getElem?_eq_getElem h2))
theorem eqLL_len {xs ys : List (List Int)} (h : xs.length ≠ ys.length) : eqLL xs ys = false := decide_eq_false (fun e => h (by rw [e]))
theorem eqLL_ne {xs ys : List (List Int)} {k : Nat} {x y : List Int} (h1 : xs[k]? = some x) (h2 : ys[k]? = some y) (h : eqL x y = false) : eqLL xs ys = false :=
  decide_eq_false (fun e => by rw [e, h2] at h1; cases h1; rw [eqL_self] at h; cases h)
theorem eqLL_self (xs : List (List Int)) : eqLL xs xs = true := decide_eq_true rfl
attribute [irreducible] eqLL
theorem eqL_eq {xs ys : List Int} (h : eqL xs ys = true) : xs = ys := by unfold eqL at h; exact of_decide_eq_true h

theorem q_eqInt64SS (u v : Value) (xss yss : List (List Int)) (w : World) (hu : IntRows w u xss) (hv : IntRows w v yss) :
    Calls Try.prog 10 #[u, v] w fun e w' => e = .returned (.bool (eqLL xss yss)) ∧ Drew w w' := by
  obtain ⟨a, cap, rfl, hl, hc⟩ := hu
  obtain ⟨a', cap', rfl, hl', hc'⟩ := hv
  have HC := Lib.hid hc
  have HC' := Lib.hid hc'
  clear hc hc'
  by_cases hlen : xss.length = yss.length
  · have hlenB : ((xss.length : Int) != (yss.length : Int)) = false := by simp [hlen]
    have HL := Lib.hid hlen
    clear hlen
    go_enter Try.func10, Try.ntmps10
    go_wp2_with fail
    go_loopw [5] (fun i wr => ∃ k : Nat, k ≤ xss.length ∧ i = .int .i64 k ∧ Hid (∀ (i : Nat) x y, i < k → xss[i]? = some x → yss[i]? = some y → x = y) ∧ Drew w wr) (fun i _ => xss.length - (intOf i).toNat)
    case atStart => exact ⟨0, Nat.zero_le _, rfl, fun i x y hi => absurd hi (Nat.not_lt_zero _), Drew.refl _⟩
    case round =>
      obtain ⟨k, hk, rfl, H, hd⟩ := hrel
      by_cases hlt : k < xss.length
      · have hlt' : k < yss.length := by rw [← HL.out]; exact hlt
        obtain ⟨x, hx⟩ : ∃ x, xss[k]? = some x := ⟨xss[k], by simp [hlt]⟩
        obtain ⟨y, hy⟩ : ∃ y, yss[k]? = some y := ⟨yss[k], by simp [hlt']⟩
        obtain ⟨b, off, u1, rfl, hcell, hI⟩ := HC.out k x hx
        obtain ⟨b', off', u2, rfl, hcell', hI'⟩ := HC'.out k y hy
        have h1 := hd.cell hcell
        have h2 := hd.cell hcell'
        have HX := Lib.hid hx
        have HY := Lib.hid hy
        have HI := Lib.hid (hI.ofHeap hd.heap)
        have HI' := Lib.hid (hI'.ofHeap hd.heap)
        have HD := Lib.hid hd
        clear hx hy hI hI' hd hcell hcell'
        cases he : eqL x y
        · have HE := Lib.hid he
          have HQ : Hid (∀ w1 : World, w1.heap = wr.heap → Calls Try.prog 18 #[u1, u2] w1 fun e w' => e = .returned (.bool false) ∧ ∃ m, w' = w1.drewN m) := Lib.hid (fun w1 hw => (q_eqInt64S u1 u2 x y w1 (HI.out.ofHeap hw) (HI'.out.ofHeap hw)).mono (fun e w' hh => And.intro (by rw [hh.1, he]) hh.2))
          clear he
          go_wp2_with fail
          go_quiet ((go_at_call 18; exact Calls.quiet_of (HQ.out _ rfl)))
          go_wp2_with fail
          go_ret
          exact ⟨ret_bool (eqLL_ne HX.out HY.out HE.out).symm, HD.out.more _⟩
        · have HE := Lib.hid (eqL_eq he)
          have HQ : Hid (∀ w1 : World, w1.heap = wr.heap → Calls Try.prog 18 #[u1, u2] w1 fun e w' => e = .returned (.bool true) ∧ ∃ m, w' = w1.drewN m) := Lib.hid (fun w1 hw => (q_eqInt64S u1 u2 x y w1 (HI.out.ofHeap hw) (HI'.out.ofHeap hw)).mono (fun e w' hh => And.intro (by rw [hh.1, he]) hh.2))
          clear he
          go_wp2_with fail
          go_quiet ((go_at_call 18; exact Calls.quiet_of (HQ.out _ rfl)))
          go_wp2_with fail
          go_roundw
          case rel =>
            refine ⟨k + 1, by omega, by go_num, fun i p q hi hp hq => ?_, HD.out.more _⟩
            by_cases e : i = k
            · subst e; rw [HX.out] at hp; rw [HY.out] at hq; cases hp; cases hq; exact HE.out
            · exact H.out i p q (by omega) hp hq
          case measure => simp [intOf]; omega
      · have HD := Lib.hid hd
        clear hd
        go_wp2_with fail
        go_ret
        exact ⟨ret_bool (eqLL_true HL.out (fun i x y hx hy => H.out i x y (by have := (List.getElem?_eq_some_iff.1 hx).1; omega) hx hy)).symm, HD.out⟩
  · have hlenB : ((xss.length : Int) != (yss.length : Int)) = true := by rw [bne_iff_ne]; omega
    have HL := Lib.hid hlen
    clear hlen
    go_enter Try.func10, Try.ntmps10
    go_wp2_with fail
    go_ret
    exact ⟨ret_bool (eqLL_len HL.out).symm, Drew.refl _⟩
theorem c_eqInt64SS (u v : Value) (xss yss : List (List Int)) (w : World) (hu : IntRows w u xss) (hv : IntRows w v yss) :
    Calls Try.prog 10 #[u, v] w fun e w' => e = .returned (.bool (eqLL xss yss)) ∧ Below w.heap.size w w' :=
  (q_eqInt64SS u v xss yss w hu hv).mono fun _ _ h => ⟨h.1, h.2.below _⟩
end Go.Proofs.Ytckcjlophnehmaa
