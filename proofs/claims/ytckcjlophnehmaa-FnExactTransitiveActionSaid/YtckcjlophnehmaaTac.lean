/- Actions: the laws' helpers on them (XRng's on rings, turned); the reference's sum, which only draws. -/
import Derived.Test.YtckcjlophnehmaaTai
namespace Go.Proofs.Ytckcjlophnehmaa
open Go.RowKit
theorem c_eqAction (s s' : Value) (c : List (List (List Int))) (w : World) (h1 : IntCubes w s c) (h2 : IntCubes w s' c) :
    Calls Try.prog 17 #[.agg #[s], .agg #[s']] w fun e w' => e = .returned (.bool true) ∧ Below w.heap.size w w' := by
  have H1 := Lib.hid h1
  have H2 := Lib.hid h2
  clear h1 h2
  go_enter Try.func17, Try.ntmps17
  go_wp2_with fail
  have HB : Hid (Below w.heap.size w _) := Lib.hid (((Below.refl _ w).alloc (Nat.le_refl _) (.cells #[s] 34)).alloc (by simp) (.cells #[s'] 34))
  refine (c_eqInt64SSS _ _ c c _ (H1.out.keep HB.out) (H2.out.keep HB.out)).mono ?_
  rintro e w1 ⟨rfl, hb1⟩
  rw [eqLLL_self]
  have HB1 := Lib.hid (HB.out.trans (hb1.mono HB.out.size))
  clear hb1
  go_wp2_with fail
  go_ret
  exact ⟨rfl, HB1.out⟩
theorem c_markAction (s : Value) (c : List (List (List Int))) (k : Int) (lo hi : Nat) (w : World) (h1 : OwnCB w lo hi s c) (hlo : lo ≤ hi) (hh : hi ≤ w.heap.size)
    (hl : c.length ≤ 5864062014634) (hl' : ∀ m ∈ c, m.length ≤ 5864062014634 ∧ ∀ xs ∈ m, xs.length ≤ 17592186043904) (hk : 0 ≤ k) (hk' : k + cntC c ≤ 1000000000000000) :
    Calls Try.prog 21 #[.agg #[s], .int .i64 k] w fun e w' => e = .returned (.int .i64 (k + cntC c)) ∧ OwnCB w' lo hi s (marksC k c) ∧ Below lo w w' ∧ ∀ x, hi ≤ x → x < w.heap.size → w'.heap[x]? = w.heap[x]? := by
  have H1 := Lib.hid (h1.alloc hh (.cells #[s] 34))
  have HL := Lib.hid hl'
  clear h1 hl'
  go_enter Try.func21, Try.ntmps21
  go_wp2_with fail
  refine (c_markInt64SSS s c k lo hi _ H1.out hl HL.out hk hk').mono ?_
  rintro e w1 ⟨rfl, ho1, ht1⟩
  have HO1 := Lib.hid ho1
  have HX := Lib.hid (fun x (hx : hi ≤ x) (hx' : x < w.heap.size) => (ht1.block x (fun h => by have := h.2; omega)).trans (Below.heap_alloc w (.cells #[s] 34) x hx'))
  have HB := Lib.hid (Touch.below ((below_alloc w (.cells #[s] 34)).mono (Nat.le_trans hlo hh)) ht1 (fun b hb => hb.1))
  clear ho1 ht1
  go_wp2_with fail
  go_ret
  exact ⟨rfl, HO1.out, HB.out, HX.out⟩
theorem c_heldAction (s : Value) (c : List (List (List Int))) (k : Int) (w : World) (h1 : IntCubes w s (marksC k c)) (hk : 0 ≤ k) (hk' : k + cntC c ≤ 1000000000000000) :
    Calls Try.prog 23 #[.agg #[s], .int .i64 k] w fun e w' => e = .returned (.int .i64 (k + cntC c)) ∧ Below w.heap.size w w' := by
  have HB := Lib.hid (below_alloc w (.cells #[s] 34))
  have H1 := Lib.hid (h1.keep HB.out)
  have hN : 0 ≤ cntC c := totC_nonneg cntM_nonneg _ _
  clear h1
  go_enter Try.func23, Try.ntmps23
  go_wp2_with fail
  refine (c_heldInt64SSS s c k _ H1.out hk hk').mono ?_
  rintro e w1 ⟨rfl, rfl⟩
  go_wp2_with fail
  go_ret
  exact ⟨rfl, HB.out⟩
set_option maxRecDepth 100000 in
set_option maxHeartbeats 2000000 in
theorem q_l09Add (v : Value) (xs : List Int) (x y : Nat) (w : World) (hv : Ints w v xs) (ho : ordN xs ≠ 0) (h16 : ordN xs ≤ 16) (hx : x ≤ 1000) (hy : y ≤ 1000) :
    Calls Try.prog 35 #[v, .int .i64 x, .int .i64 y] w fun e w' => e = .returned (.int .i64 (grpT xs x y)) ∧ Drew w w' := by
  obtain ⟨a, cap, rfl, hl, hc⟩ := hv
  have HC := Lib.hid hc
  have HO := Lib.hid (ord_cells ho)
  have hA0 : AddAt (ordM xs) xs.length (grpT xs x y) (ordN xs) 0 1 x y := ⟨by rw [Nat.zero_add, Nat.one_mul]; rfl, by rw [Nat.one_mul]; exact ordN_prod ho h16, Nat.le_refl _, hx, hy⟩
  have hT := grpT_lt ho h16 x y
  obtain ⟨n, hn⟩ : ∃ n, n = ordN xs := ⟨_, rfl⟩
  obtain ⟨T, hTT⟩ : ∃ T, T = grpT xs x y := ⟨_, rfl⟩
  rw [← hn, ← hTT] at hA0
  rw [← hn, ← hTT] at hT
  rw [← hn] at h16
  rw [← hTT]
  have HA := Lib.hid hA0
  clear hc hn hTT ho hA0
  go_enter Try.func35, Try.ntmps35
  go_wp2_with fail
  go_loopw [1, 2, 7, 8, 9] (fun xv yv sv pv iv wr => ∃ k s p a b : Nat, k ≤ xs.length ∧ iv = .int .i64 ((k : Int) - 1) ∧ sv = .int .i64 s ∧ pv = .int .i64 p ∧ xv = .int .i64 a ∧ yv = .int .i64 b ∧ Hid (AddAt (ordM xs) k T n s p a b) ∧ Drew w wr) (fun _ _ _ _ iv _ => (intOf iv + 1).toNat)
  case atStart => exact ⟨xs.length, 0, 1, x, y, Nat.le_refl _, rfl, rfl, rfl, rfl, rfl, HA, Drew.refl _⟩
  case round =>
    obtain ⟨k, s, p, a, b, hk, rfl, rfl, rfl, rfl, rfl, hat, hd⟩ := hrel
    cases k with
    | zero =>
      have hs : s = T := by have h := hat.out.sum; simpa [addI] using h
      subst hs
      rw [show ((0 : Nat) : Int) - 1 = -1 from rfl]
      go_wp2_with fail
      go_ret
      exact ⟨rfl, hd⟩
    | succ k =>
      rw [show (((k + 1 : Nat) : Int) - 1) = (k : Int) by omega]
      obtain ⟨hx, hm1⟩ := HO.out k (by omega)
      obtain ⟨bb, off, rfl, hcell⟩ := HC.out k _ hx
      have hcell' := hd.cell hcell
      have hnx := hat.out.next fun j hj => (HO.out j (by omega)).2
      obtain ⟨d1, d2, d3, d4⟩ := hat.out.bd fun j hj => (HO.out j (by omega)).2
      obtain ⟨M, hM⟩ : ∃ M, M = ordM xs k := ⟨_, rfl⟩
      rw [← hM] at hm1 hcell' hnx d1 d2 d3
      have hha := hat.out.ha
      have hhb := hat.out.hb
      have hsb : s ≤ 16 := by omega
      have l1 : a % M ≤ a := Nat.mod_le _ _
      have l2 : b % M ≤ b := Nat.mod_le _ _
      have l3 : a / M ≤ a := Nat.div_le_self _ _
      have l4 : b / M ≤ b := Nat.div_le_self _ _
      have l5 := Nat.mod_lt (a % M + b % M) hm1
      have f1 : (a : Int).tmod (M : Int) = ((a % M : Nat) : Int) := rfl
      have f2 : (b : Int).tmod (M : Int) = ((b % M : Nat) : Int) := rfl
      have f3 : (a : Int).tdiv (M : Int) = ((a / M : Nat) : Int) := rfl
      have f4 : (b : Int).tdiv (M : Int) = ((b / M : Nat) : Int) := rfl
      have f5 : (((a % M : Nat) : Int) + ((b % M : Nat) : Int)).tmod (M : Int) = (((a % M + b % M) % M : Nat) : Int) := rfl
      have f6 : (((a % M + b % M) % M : Nat) : Int) * (p : Int) = (((a % M + b % M) % M * p : Nat) : Int) := (Int.natCast_mul _ _).symm
      have f7 : (p : Int) * (M : Int) = ((p * M : Nat) : Int) := (Int.natCast_mul _ _).symm
      clear hM hcell hx d4
      generalize (a % M + b % M) % M * p = D at *
      generalize (a % M + b % M) % M = E at *
      generalize a % M = A at *
      generalize b % M = B at *
      generalize a / M = A2 at *
      generalize b / M = B2 at *
      generalize p * M = P2 at *
      have HNX := Lib.hid hnx
      clear hnx hat
      go_wp2_with fail
      go_region
      go_wp2_with fail
      exact ⟨⟨k, s + D, P2, A2, B2, by omega, rfl, by go_num, rfl, rfl, rfl, HNX, hd.more 1⟩, by simp [intOf]⟩
end Go.Proofs.Ytckcjlophnehmaa
