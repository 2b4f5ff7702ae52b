/- Walks: sizes of arguments, and what a matrix is, program and reference. -/
import Derived.Test.YtckcjlophnehmaaHlm
namespace Go.Proofs.Ytckcjlophnehmaa
open Go.RowKit

/-! sizes -/
def SzPost (left size : Int) (w : World) (e : Ending) (w' : World) : Prop := ∃ r : Int, e = .returned (.int .i64 r) ∧ -1 ≤ r ∧ r ≤ left ∧ (0 ≤ r → r + size = left) ∧ w = w'
theorem c_szInt64S (v : Value) (xs : List Int) (left : Int) (w : World) (hv : Ints w v xs) (h1 : 0 ≤ left) (h2 : left ≤ 1048576) :
    Calls Try.prog 24 #[v, .int .i64 left] w (SzPost left xs.length w) := by
  obtain ⟨a, cap, rfl, hl, _⟩ := hv
  by_cases h : left - xs.length < 0
  · go_enter Try.func24, Try.ntmps24
    go_wp2_with fail
    go_ret
    exact ⟨-1, rfl, by omega, by omega, by omega, rfl⟩
  · go_enter Try.func24, Try.ntmps24
    go_wp2_with fail
    go_ret
    exact ⟨_, rfl, by omega, by omega, by omega, rfl⟩
theorem c_szInt64SS (v : Value) (xss : List (List Int)) (left : Int) (w : World) (hv : IntRows w v xss) (h1 : 0 ≤ left) (h2 : left ≤ 1048576) :
    Calls Try.prog 6 #[v, .int .i64 left] w (SzPost left (xss.length + totK xss xss.length) w) := by
  have HNN := Lib.hid (totK_nonneg xss xss.length)
  obtain ⟨a, cap, rfl, hl, hc⟩ := hv
  have HC := Lib.hid hc
  clear hc
  by_cases h : left - xss.length < 0
  · go_enter Try.func6, Try.ntmps6
    go_wp2_with fail
    go_ret
    exact ⟨-1, rfl, by omega, by omega, by omega, rfl⟩
  · go_enter Try.func6, Try.ntmps6
    go_wp2_with fail
    go_loop [1, 5] (fun l i => ∃ (k : Nat) (r : Int), k ≤ xss.length ∧ i = .int .i64 k ∧ l = .int .i64 r ∧ 0 ≤ r ∧ r ≤ left ∧ Hid (r + (xss.length + totK xss k) = left)) (fun _ i => xss.length - (intOf i).toNat)
    case atStart => exact ⟨0, _, Nat.zero_le _, rfl, rfl, by omega, by omega, by show _ + (_ + totK xss 0) = _; simp [totK]⟩
    case round =>
      obtain ⟨k, r, hk, rfl, rfl, hr1, hr2, H⟩ := hrel
      by_cases hlt : k < xss.length
      · obtain ⟨xs, hx⟩ : ∃ xs, xss[k]? = some xs := ⟨xss[k], by simp [hlt]⟩
        obtain ⟨b, off, u, rfl, hcell, hI⟩ := HC.out k xs hx
        have HI := Lib.hid hI
        have HN := Lib.hid (totK_next hx)
        clear hI hx
        go_wp2_with fail
        refine (c_szInt64S u xs r _ HI.out hr1 (by omega)).mono ?_
        rintro e w1 ⟨q, rfl, hq1, hq2, hq3, rfl⟩
        have HQ := Lib.hid hq3
        clear hq3
        by_cases hneg : q < 0
        · go_wp2_with fail
          go_ret
          exact ⟨-1, rfl, by omega, by omega, by omega, rfl⟩
        · go_wp2_with fail
          go_round
          case rel => exact ⟨k + 1, q, by omega, by go_num, rfl, by omega, by omega, by have h1 := H.out; have h2 := HN.out; have h3 := HQ.out; show _ = _; omega⟩
          case measure => simp [intOf]; omega
      · obtain rfl : k = xss.length := by omega
        go_wp2_with fail
        go_ret
        exact ⟨r, rfl, by omega, by omega, fun _ => H.out, rfl⟩

/-! what a matrix is -/
def okRow (n : Nat) (r : List Int) : Bool := decide (1 ≤ r.length ∧ r.length ≤ 16 ∧ r.length = n)
def width (m : List (List Int)) : Nat := (m.headD []).length
def blockB (m : List (List Int)) (least : Int) : Bool := m.all (okRow (width m)) && (decide (least ≤ (m.length : Int)) && decide ((m.length : Int) ≤ 16))
def numsB (m : List (List Int)) : Bool := m.all (fun r => r.all isNum)
def isMat (m : List (List Int)) : Bool := blockB m 1 && numsB m
theorem okRow_iff {n : Nat} {r : List Int} : okRow n r = true ↔ 1 ≤ r.length ∧ r.length ≤ 16 ∧ r.length = n := by unfold okRow; exact decide_eq_true_iff
theorem okRow_no {n : Nat} {r : List Int} (h : ¬ (1 ≤ r.length ∧ r.length ≤ 16 ∧ r.length = n)) : okRow n r = false := decide_eq_false h
theorem allL_false {p : List Int → Bool} {xss : List (List Int)} {k : Nat} {x : List Int} (hx : xss[k]? = some x) (h : p x = false) : xss.all p = false := by
  rw [List.all_eq_false]; exact ⟨x, List.mem_of_getElem? hx, by simp [h]⟩
theorem allL_true {p : List Int → Bool} {xss : List (List Int)} (h : ∀ (i : Nat) x, xss[i]? = some x → p x = true) : xss.all p = true := by
  rw [List.all_eq_true]; intro x hx; obtain ⟨i, hi⟩ := List.getElem?_of_mem hx; exact h i x hi
theorem width_eq {m : List (List Int)} {r : List Int} (h : m[0]? = some r) : width m = r.length := by
  cases m with
  | nil => cases h
  | cons x xs => simp at h; subst h; rfl
theorem blockB_false {m : List (List Int)} {k : Nat} {x : List Int} (hx : m[k]? = some x) (h : okRow (width m) x = false) : isMat m = false := by
  unfold isMat blockB; rw [allL_false hx h]; rfl
theorem isMat_len {m : List (List Int)} (h : ¬ (1 ≤ m.length ∧ m.length ≤ 16)) : isMat m = false := by
  cases e : isMat m
  · rfl
  · simp [isMat, blockB] at e; omega
theorem isMat_parts {m : List (List Int)} (h : isMat m = true) : 1 ≤ m.length ∧ m.length ≤ 16 ∧ 1 ≤ width m ∧ width m ≤ 16 ∧ (∀ (i : Nat) x, m[i]? = some x → x.length = width m ∧ x.all isNum = true) := by
  simp only [isMat, blockB, numsB, Bool.and_eq_true, decide_eq_true_iff, List.all_eq_true] at h
  obtain ⟨⟨h1, h2, h3⟩, h4⟩ := h
  have hrow : ∀ (i : Nat) x, m[i]? = some x → 1 ≤ x.length ∧ x.length ≤ 16 ∧ x.length = width m := fun i x hx => okRow_iff.1 (h1 x (List.mem_of_getElem? hx))
  obtain ⟨x0, hx0⟩ : ∃ x, m[0]? = some x := ⟨m[0]'(by omega), by simp⟩
  have h0 := hrow 0 x0 hx0
  exact ⟨by omega, by omega, by omega, by omega, fun i x hx => ⟨(hrow i x hx).2.2, List.all_eq_true.2 (h4 x (List.mem_of_getElem? hx))⟩⟩
theorem isMat_mk {m : List (List Int)} (h1 : 1 ≤ m.length) (h2 : m.length ≤ 16) (h3 : 1 ≤ width m) (h4 : width m ≤ 16) (h : ∀ (i : Nat) x, m[i]? = some x → x.length = width m ∧ x.all isNum = true) : isMat m = true := by
  simp only [isMat, blockB, numsB, Bool.and_eq_true, decide_eq_true_iff]
  refine ⟨⟨allL_true fun i x hx => okRow_iff.2 (by have := (h i x hx).1; omega), by omega, by omega⟩, allL_true fun i x hx => (h i x hx).2⟩
attribute [irreducible] isMat blockB numsB
end Go.Proofs.Ytckcjlophnehmaa
