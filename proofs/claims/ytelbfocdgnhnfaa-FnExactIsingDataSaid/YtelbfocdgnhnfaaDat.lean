/- Data: two lists in a struct, the first of rows. The laws' helpers on them; FibonacciData on both sides. -/
import Derived.Test.YtelbfocdgnhnfaaMrk
import Derived.Test.YtelbfocdgnhnfaaFle
import Derived.Laws.ResultCell
namespace Go.Proofs.Ytelbfocdgnhnfaa
open Go.RowKit

/-- post of a call that makes data: rows below a split, the other list above it -/
def RetD (r : (List (List Int) × List Int) × Int) (w : World) (e : Ending) (w' : World) : Prop :=
  ∃ s t m, e = .returned (.tuple #[.agg #[s, t], .int .i64 r.2]) ∧ w.heap.size ≤ m ∧ m ≤ w'.heap.size ∧ OwnB w' w.heap.size m s r.1.1 ∧ OwnIB w' m w'.heap.size t r.1.2 ∧ Below w.heap.size w w'

/-- rows of a list of two rows just laid -/
theorem ownM_two (w : World) (B : Nat) (u v : Value) (xs ys : List Int) (hB : B ≤ w.heap.size) (hu : OwnI w B u xs) (hv : OwnI w B v ys) (h : ∀ g, u.ownBlock = some g → v.ownBlock ≠ some g) :
    OwnM (w.alloc (.cells #[u, v] 23)) B (.slice (some ⟨w.heap.size, 0, none⟩) 2 2) [xs, ys] := by
  have h2 := Own.lit (B := B) w 23 [u, v] hB (by simp [maxLen])
  refine ⟨[u, v], h2, rfl, fun i x zs e1 e2 => ?_, fun i j x x' e1 e2 hij => ?_⟩
  · match i with
    | 0 => simp at e1 e2; subst e1; subst e2; exact Own.alloc hu _
    | 1 => simp at e1 e2; subst e1; subst e2; exact Own.alloc hv _
    | i + 2 => simp at e1
  · match i, j with
    | 0, 0 => exact absurd rfl hij
    | 1, 1 => exact absurd rfl hij
    | 0, 1 => simp at e1 e2; subst e1; subst e2; exact h
    | 1, 0 => simp at e1 e2; subst e1; subst e2; exact fun g hg hg' => h g hg' hg
    | i + 2, _ => simp at e1
    | _, j + 2 => simp at e2
theorem OwnIB.alloc {w : World} {lo hi : Nat} {v : Value} {xs : List Int} (h : OwnIB w lo hi v xs) (o : Obj) : OwnIB (w.alloc o) lo hi v xs := ⟨Own.alloc h.1 o, h.2⟩
theorem OwnB.alloc {w : World} {lo hi : Nat} {v : Value} {xss : List (List Int)} (h : OwnB w lo hi v xss) (hh : hi ≤ w.heap.size) (o : Obj) : OwnB (w.alloc o) lo hi v xss :=
  h.keep (below_alloc w o) hh
theorem OwnI.lit2 (w : World) (B : Nat) (a b : Int) (hB : B ≤ w.heap.size) : OwnI (w.alloc (.cells #[.int .i64 a, .int .i64 b] 2)) B (.slice (some ⟨w.heap.size, 0, none⟩) 2 2) [a, b] :=
  Own.lit (B := B) w 2 [vi a, vi b] hB (by simp [maxLen])

theorem c_eqData (s t s' t' : Value) (S : List (List Int)) (T : List Int) (w : World) (h1 : IntRows w s S) (h2 : Ints w t T) (h3 : IntRows w s' S) (h4 : Ints w t' T) :
    Calls Try.prog 9 #[.agg #[s, t], .agg #[s', t']] w fun e w' => e = .returned (.bool true) ∧ Below w.heap.size w w' := by
  have H1 := Lib.hid h1
  have H2 := Lib.hid h2
  have H3 := Lib.hid h3
  have H4 := Lib.hid h4
  clear h1 h2 h3 h4
  go_enter Try.func9, Try.ntmps9
  go_wp2_with fail
  have HB : Hid (Below w.heap.size w _) := Lib.hid (((Below.refl _ w).alloc (Nat.le_refl _) (.cells #[s, t] 25)).alloc (by simp) (.cells #[s', t'] 25))
  refine (c_eqInt64SS _ _ S S _ (H1.out.keep HB.out) (H3.out.keep HB.out)).mono ?_
  rintro e w1 ⟨rfl, hb1⟩
  rw [eqLL_self]
  have HB1 := Lib.hid (HB.out.trans (hb1.mono HB.out.size))
  have hc1 : w1.cell? ⟨w.heap.size, 1, none⟩ = some t := bcell hb1 (by simp)
  have hc2 : w1.cell? ⟨w.heap.size + 1, 1, none⟩ = some t' := bcell hb1 (by simp)
  clear hb1
  go_wp2_with fail
  refine (c_eqInt64S _ _ T T _ (H2.out.keep HB1.out) (H4.out.keep HB1.out)).mono ?_
  rintro e w2 ⟨rfl, hb2⟩
  rw [eqL_self]
  have HB2 := Lib.hid (HB1.out.trans (hb2.mono HB1.out.size))
  clear hb2
  go_wp2_with fail
  go_ret
  exact ⟨rfl, HB2.out⟩
theorem cell_sameD {w w' : World} {g i : Nat} {v : Value} (h : w'.heap[g]? = w.heap[g]?) (hc : w.cell? ⟨g, i, none⟩ = some v) : w'.cell? ⟨g, i, none⟩ = some v := by
  rw [← hc]; simp only [World.cell?, h]
theorem c_markData (s t : Value) (S : List (List Int)) (T : List Int) (k : Int) (lo m hi : Nat) (w : World) (h1 : OwnB w lo m s S) (h2 : OwnIB w m hi t T) (hlm : lo ≤ m) (hmh : m ≤ hi) (hh : hi ≤ w.heap.size)
    (hl1 : Small 4096 S) (hl2 : T.length ≤ 4096) (hk : 0 ≤ k) (hk' : k ≤ 1000000) :
    Calls Try.prog 10 #[.agg #[s, t], .int .i64 k] w fun e w' => e = .returned (.int .i64 (k + totK S S.length + T.length)) ∧ OwnB w' lo m s (marksM k S) ∧ OwnIB w' m hi t (upFrom (k + totK S S.length) T.length) ∧ Below lo w w' ∧ ∀ x, hi ≤ x → x < w.heap.size → w'.heap[x]? = w.heap[x]? := by
  have H1 := Lib.hid (h1.alloc (Nat.le_trans hmh hh) (.cells #[s, t] 25))
  have H2 := Lib.hid (h2.alloc (.cells #[s, t] 25))
  clear h1 h2
  have hT := hl1.total
  have hN := totK_nonneg S S.length
  have HL := Lib.hid hl1
  clear hl1
  go_enter Try.func10, Try.ntmps10
  go_wp2_with fail
  refine (c_markInt64SS s S k lo m _ H1.out (Nat.le_trans HL.out.len (by omega)) HL.out.row hk (by omega)).mono ?_
  rintro e w1 ⟨rfl, ho1, ht1⟩
  have hc1 : w1.cell? ⟨w.heap.size, 1, none⟩ = some t := cell_sameD (ht1.block _ (fun h => by have := h.2; omega)) (by simp)
  have HO1 := Lib.hid ho1
  have HX := Lib.hid (fun x (hx : hi ≤ x) (hx' : x < w.heap.size) => (ht1.block x (fun h => by have := h.2; omega)).trans (Below.heap_alloc w (.cells #[s, t] 25) x hx'))
  have H2 := Lib.hid (H2.out.touch ht1 (fun b hb => Or.inl hb.2))
  have HB := Lib.hid (Touch.below ((below_alloc w (.cells #[s, t] 25)).mono (Nat.le_trans hlm (Nat.le_trans hmh hh))) ht1 (fun b hb => hb.1))
  clear ho1 ht1
  go_wp2_with fail
  refine (c_markIB t T (k + totK S S.length) m hi _ H2.out (by omega) (by omega) (by omega)).mono ?_
  rintro e w2 ⟨rfl, ho2, ht2⟩
  have HO2 := Lib.hid ho2
  have HX := Lib.hid (fun x (hx : hi ≤ x) (hx' : x < w.heap.size) => (ht2.block x (fun h => by have := h.2; omega)).trans (HX.out x hx hx'))
  have HO1 := Lib.hid (HO1.out.touch ht2 (fun b hb => Or.inr hb.1))
  have HB := Lib.hid (Touch.below HB.out ht2 (fun b hb => Nat.le_trans hlm hb.1))
  clear ho2 ht2
  go_wp2_with fail
  go_ret
  exact ⟨rfl, HO1.out, HO2.out, HB.out, HX.out⟩
theorem c_heldData (s t : Value) (S : List (List Int)) (n : Nat) (k : Int) (w : World) (h1 : IntRows w s (marksM k S)) (h2 : Ints w t (upFrom (k + totK S S.length) n)) (hl1 : Small 4096 S) (hl2 : n ≤ 4096) (hk : 0 ≤ k) (hk' : k ≤ 1000000) :
    Calls Try.prog 11 #[.agg #[s, t], .int .i64 k] w fun e w' => e = .returned (.int .i64 (k + totK S S.length + n)) ∧ Below w.heap.size w w' := by
  have HB := Lib.hid (below_alloc w (.cells #[s, t] 25))
  have H1 := Lib.hid (h1.keep HB.out)
  have H2 := Lib.hid (h2.keep HB.out)
  clear h1 h2
  have hT := hl1.total
  have hN := totK_nonneg S S.length
  clear hl1
  go_enter Try.func11, Try.ntmps11
  go_wp2_with fail
  refine (c_heldInt64SS s S k _ H1.out hk (by omega)).mono ?_
  rintro e w1 ⟨rfl, rfl⟩
  go_wp2_with fail
  refine (c_heldInt64S t n (k + totK S S.length) _ H2.out (by omega) (by omega)).mono ?_
  rintro e w2 ⟨rfl, rfl⟩
  go_wp2_with fail
  go_ret
  exact ⟨rfl, HB.out⟩

/-- data of the Fibonacci kind -/
def fibZ (k : Int) : Int := ipw (iroot 5) k
def fibD (k : Int) : Int := (1 + fibZ k + iinv (fibZ k)) % 55441
def fibN (k : Int) : (List (List Int) × List Int) × Int :=
  if inR 1 4 k = true then (([[1, fibD k], [fibD k, 55440]], [1, fibZ k * fibZ k % 55441]), 0) else (([], []), 2)
theorem fibZ_bd (k : Int) : 0 ≤ fibZ k ∧ fibZ k < 55441 := ipw_bd _ _
theorem iroot_bd (k : Int) : 0 ≤ iroot k ∧ iroot k < 55441 := ipw_bd _ _
theorem retD_nil {w w' : World} {c : Int} {r : (List (List Int) × List Int) × Int} (hr : r = (([], []), c)) (hb : Below w.heap.size w w') : RetD r w (.returned (.tuple #[.agg #[.slice none 0 0, .slice none 0 0], .int .i64 c])) w' := by
  subst hr
  exact ⟨_, _, w.heap.size, rfl, Nat.le_refl _, hb.size, ⟨[], Own.nil _ _ _, rfl, fun i u xs h => by simp at h, fun i j u u' h => by simp at h, fun g h => by simp [Value.ownBlock] at h, fun i u h => by simp at h⟩, ⟨Own.nil _ _ _, fun g h => by simp [Value.ownBlock] at h⟩, hb⟩
theorem retD_two {w w0 : World} (hb : Below w0.heap.size w0 w) {g : Nat} {a b c d e f code : Int} {r : (List (List Int) × List Int) × Int} (hg : w.heap.size = g) (hr : r = (([[a, b], [c, d]], [e, f]), code)) :
    RetD r w0 (.returned (.tuple #[.agg #[.slice (some ⟨g + 1 + 1, 0, none⟩) 2 2, .slice (some ⟨g + 1 + 1 + 1, 0, none⟩) 2 2], .int .i64 code]))
      ((((w.alloc (.cells #[.int .i64 a, .int .i64 b] 2)).alloc (.cells #[.int .i64 c, .int .i64 d] 2)).alloc (.cells #[.slice (some ⟨g, 0, none⟩) 2 2, .slice (some ⟨g + 1, 0, none⟩) 2 2] 23)).alloc (.cells #[.int .i64 e, .int .i64 f] 2)) := by
  subst hr
  have hs := hb.size
  have h1 := Own.alloc (OwnI.lit2 w w0.heap.size a b hs) (.cells #[.int .i64 c, .int .i64 d] 2)
  have h2 := OwnI.lit2 (w.alloc (.cells #[.int .i64 a, .int .i64 b] 2)) w0.heap.size c d (by simp; omega)
  have h3 := (OwnM.bound (ownM_two _ w0.heap.size _ _ [a, b] [c, d] (by simp; omega) h1 h2 (fun x hx hx' => by simp [Value.ownBlock] at hx hx'; omega))).alloc (Nat.le_refl _) (.cells #[.int .i64 e, .int .i64 f] 2)
  have h5 := (OwnI.lit2 (((w.alloc (.cells #[.int .i64 a, .int .i64 b] 2)).alloc (.cells #[.int .i64 c, .int .i64 d] 2)).alloc (.cells #[.slice (some ⟨w.heap.size, 0, none⟩) 2 2, .slice (some ⟨(w.alloc (.cells #[.int .i64 a, .int .i64 b] 2)).heap.size, 0, none⟩) 2 2] 23)) _ e f (Nat.le_refl _)).bound
  simp only [World.size_alloc, hg] at h3 h5
  refine ⟨_, _, g + 1 + 1 + 1, rfl, by omega, by simp; omega, h3, ?_, ?_⟩
  · simpa only [World.size_alloc, hg] using h5
  · exact (((hb.alloc hs _).alloc (by simp; omega) _).alloc (by simp; omega) _).alloc (by simp; omega) _
theorem c_FibonacciData (k : Int) (w : World) : Calls Try.prog 8 #[.int .i64 k] w (RetD (fibN k) w) := by
  cases h : inR 1 4 k
  · have H : Hid (fibN k = (([], []), 2)) := Lib.hid (if_neg (by rw [h]; decide))
    go_enter Try.func8, Try.ntmps8
    go_wp2_with fail
    refine (c_within _ _ _ _).mono ?_
    rintro e w1 ⟨rfl, rfl⟩
    rw [h]
    go_wp2_with fail
    (try simp only [Exit.inBlock, Exit.then])
    refine bodyPost_ret (v := .tuple #[.agg #[.slice none 0 0, .slice none 0 0], .int .i64 2]) (by rw [results_cell_tmp rfl]; go_simp) rfl ?_
    exact retD_nil H.out (below_alloc w _)
  · have H : Hid (fibN k = (([[1, fibD k], [fibD k, 55440]], [1, fibZ k * fibZ k % 55441]), 0)) := Lib.hid (if_pos h)
    obtain ⟨hk1, hk2⟩ := inR_true h
    obtain ⟨hz1, hz2⟩ := fibZ_bd k
    obtain ⟨hi1, hi2⟩ := iinv_bd (fibZ k)
    obtain ⟨hp1, hp2⟩ := prod_bd hz1 hz2 hz1 hz2
    have HR := Lib.hid (iroot_bd 5)
    go_enter Try.func8, Try.ntmps8
    go_wp2_with fail
    refine (c_within _ _ _ _).mono ?_
    rintro e w1 ⟨rfl, rfl⟩
    rw [h]
    clear h
    go_wp2_with fail
    refine (c_root 5 _ (by omega) (by omega)).mono ?_
    rintro e w2 ⟨rfl, rfl⟩
    go_wp2_with fail
    refine (c_power _ k _ HR.out.1 HR.out.2 (by omega) (by omega)).mono ?_
    rintro e w2 ⟨rfl, rfl⟩
    rw [show ipw (iroot 5) k = fibZ k from rfl]
    go_wp2_with fail
    refine (c_divide 1 _ _ (by omega) (by omega) hz1 hz2).mono ?_
    rintro e w2 ⟨rfl, rfl⟩
    rw [show 1 * iinv (fibZ k) % 55441 = iinv (fibZ k) by rw [Int.one_mul]; exact Int.emod_eq_of_lt hi1 hi2]
    go_wp2_with fail
    refine (c_mod _ _).mono ?_
    rintro e w2 ⟨rfl, rfl⟩
    rw [show (1 + fibZ k + iinv (fibZ k)) % 55441 = fibD k from rfl]
    go_wp2_with fail
    refine (c_mod _ _).mono ?_
    rintro e w2 ⟨rfl, rfl⟩
    go_wp2_with fail
    (try simp only [Exit.inBlock, Exit.then])
    refine bodyPost_ret (v := .tuple #[.agg #[.slice (some ⟨w.heap.size + 1 + 1 + 1, 0, none⟩) 2 2, .slice (some ⟨w.heap.size + 1 + 1 + 1 + 1, 0, none⟩) 2 2], .int .i64 0]) (by rw [results_cell_tmp rfl]; go_simp) rfl ?_
    exact retD_two (below_alloc w _) (by simp) H.out
theorem c_SFibonacciData (k : Int) (w : World) : Calls Try.prog 7 #[.int .i64 k] w (RetD (fibN k) w) := by
  cases h : inR 1 4 k
  · have H : Hid (fibN k = (([], []), 2)) := Lib.hid (if_neg (by rw [h]; decide))
    go_enter Try.func7, Try.ntmps7
    go_wp2_with fail
    refine (c_l01In _ _ _ _).mono ?_
    rintro e w1 ⟨rfl, rfl⟩
    rw [h]
    go_wp2_with fail
    (try simp only [Exit.inBlock, Exit.then])
    refine bodyPost_ret (v := .tuple #[.agg #[.slice none 0 0, .slice none 0 0], .int .i64 2]) (by rw [results_cell_tmp rfl]; go_simp) rfl ?_
    exact retD_nil H.out (below_alloc w _)
  · have H : Hid (fibN k = (([[1, fibD k], [fibD k, 55440]], [1, fibZ k * fibZ k % 55441]), 0)) := Lib.hid (if_pos h)
    obtain ⟨hk1, hk2⟩ := inR_true h
    obtain ⟨hz1, hz2⟩ := fibZ_bd k
    obtain ⟨hi1, hi2⟩ := iinv_bd (fibZ k)
    obtain ⟨hp1, hp2⟩ := prod_bd hz1 hz2 hz1 hz2
    have HR := Lib.hid (iroot_bd 5)
    go_enter Try.func7, Try.ntmps7
    go_wp2_with fail
    refine (c_l01In _ _ _ _).mono ?_
    rintro e w1 ⟨rfl, rfl⟩
    rw [h]
    clear h
    go_wp2_with fail
    refine (c_l01Unity 5 _ (by omega) (by omega)).mono ?_
    rintro e w2 ⟨rfl, hb2⟩
    have hlt : w.heap.size < w2.heap.size := by have := hb2.size; simp at this; omega
    have hlt1 : w.heap.size < w2.heap.size + 1 := by omega
    have hlt2 : w.heap.size < w2.heap.size + 1 + 1 := by omega
    have hlt3 : w.heap.size < w2.heap.size + 1 + 1 + 1 := by omega
    have HB2 := Lib.hid hb2
    have hc0 : w2.cell? ⟨w.heap.size, 0, none⟩ = some (.slice none 0 0) := bcell hb2 (by simp)
    have hc1 : w2.cell? ⟨w.heap.size, 1, none⟩ = some (.slice none 0 0) := bcell hb2 (by simp)
    have hf0 : w2.frozen? ⟨w.heap.size, 0, none⟩ = false := bfrozen hb2 (v := .slice none 0 0) (by simp) (by simp)
    have hf1 : w2.frozen? ⟨w.heap.size, 1, none⟩ = false := bfrozen hb2 (v := .slice none 0 0) (by simp) (by simp)
    clear hb2
    go_wp2_with fail
    refine (c_l01Pow _ k _ HR.out.1 HR.out.2 (by omega) (by omega)).mono ?_
    rintro e w2 ⟨rfl, rfl⟩
    rw [show ipw (iroot 5) k = fibZ k from rfl]
    go_wp2_with fail
    refine (c_l01Inv _ _ hz1 hz2).mono ?_
    rintro e w2 ⟨rfl, rfl⟩
    go_wp2_with fail
    (try simp only [Exit.inBlock, Exit.then])
    refine bodyPost_ret (v := .tuple #[.agg #[.slice (some ⟨w2.heap.size + 1 + 1, 0, none⟩) 2 2, .slice (some ⟨w2.heap.size + 1 + 1 + 1, 0, none⟩) 2 2], .int .i64 0]) (by rw [results_cell_tmp rfl]; go_simp) rfl ?_
    exact retD_two (((below_after HB2.out).setCell (Nat.le_refl _) _).setCell (Nat.le_refl _) _) (by simp) H.out
theorem OwnB.slice {w : World} {lo hi : Nat} {v : Value} {xss : List (List Int)} (h : OwnB w lo hi v xss) : ∃ p n c, v = .slice p n c := by
  obtain ⟨us, ho, _⟩ := h; exact Own.slice ho
theorem OwnIB.slice {w : World} {lo hi : Nat} {v : Value} {xs : List Int} (h : OwnIB w lo hi v xs) : ∃ p n c, v = .slice p n c := Own.slice h.1
theorem fib_small (k : Int) : Small 4096 (fibN k).1.1 ∧ (fibN k).1.2.length ≤ 4096 := by
  unfold fibN
  split
  · refine ⟨⟨by simp, fun xs hx => ?_⟩, by simp⟩
    simp at hx
    rcases hx with rfl | rfl <;> simp
  · exact ⟨⟨by simp, fun xs hx => by simp at hx⟩, by simp⟩
set_option maxHeartbeats 2000000 in
theorem w_FnExactFibonacciData (xa : Int) (w : World) :
    Calls Try.prog 3 #[.int .i64 xa] w fun e w' => e = .returned (.bool true) ∧ Below w.heap.size w w' := by
  obtain ⟨SM, SL⟩ := fib_small xa
  have ST := SM.total
  have SN := totK_nonneg (fibN xa).1.1 (fibN xa).1.1.length
  have SL' : (fibN xa).1.2.length ≤ 17592186043904 := by omega
  go_enter Try.func3, Try.ntmps3
  go_wp2_with fail
  refine (c_SFibonacciData xa _).mono ?_
  rintro e w1 ⟨s1, t1, m1, rfl, ha1, hm1, ho1, hp1, hb1⟩
  obtain ⟨sp1, sn1, sc1, rfl⟩ := ho1.slice
  obtain ⟨tp1, tn1, tc1, rfl⟩ := hp1.slice
  have hz1 := hb1.size
  have HB1 := Lib.hid (hb1.alloc hz1 (.cells #[.slice sp1 sn1 sc1, .slice tp1 tn1 tc1] 25))
  have O1 := Lib.hid (ho1.alloc hm1 (.cells #[.slice sp1 sn1 sc1, .slice tp1 tn1 tc1] 25))
  have P1 := Lib.hid (hp1.alloc (.cells #[.slice sp1 sn1 sc1, .slice tp1 tn1 tc1] 25))
  clear hb1 ho1 hp1
  go_wp2_with fail
  refine (c_FibonacciData xa _).mono ?_
  rintro e w2 ⟨s2, t2, m2, rfl, ha2, hm2, ho2, hp2, hb2⟩
  obtain ⟨sp2, sn2, sc2, rfl⟩ := ho2.slice
  obtain ⟨tp2, tn2, tc2, rfl⟩ := hp2.slice
  simp only [World.size_alloc] at ha2 ho2
  have hz2 : w1.heap.size + 1 ≤ w2.heap.size := by have := hb2.size; simpa using this
  have hlt2 : w1.heap.size < w2.heap.size := by omega
  have hc1 : w2.cell? ⟨w1.heap.size, 0, none⟩ = some (.slice sp1 sn1 sc1) := bcell hb2 (by simp)
  have hc2 : w2.cell? ⟨w1.heap.size, 1, none⟩ = some (.slice tp1 tn1 tc1) := bcell hb2 (by simp)
  have HB2 := Lib.hid ((HB1.out.trans (hb2.mono HB1.out.size)).alloc (by omega) (.cells #[.slice sp2 sn2 sc2, .slice tp2 tn2 tc2] 25))
  have O1 := Lib.hid ((O1.out.keep hb2 (by simp; omega)).alloc (by omega) (.cells #[.slice sp2 sn2 sc2, .slice tp2 tn2 tc2] 25))
  have P1 := Lib.hid ((P1.out.keep hb2 (by simp)).alloc (.cells #[.slice sp2 sn2 sc2, .slice tp2 tn2 tc2] 25))
  have O2 := Lib.hid (ho2.alloc hm2 (.cells #[.slice sp2 sn2 sc2, .slice tp2 tn2 tc2] 25))
  have P2 := Lib.hid (hp2.alloc (.cells #[.slice sp2 sn2 sc2, .slice tp2 tn2 tc2] 25))
  clear hb2 ho2 hp2
  go_wp2_with fail
  refine (c_eqData _ _ _ _ _ _ _ (O2.out.rows SM.len SM.row) (P2.out.ints SL') (O1.out.rows SM.len SM.row) (P1.out.ints SL')).mono ?_
  rintro e w3 ⟨rfl, hb3⟩
  have hz3 : w2.heap.size + 1 ≤ w3.heap.size := by have := hb3.size; simpa using this
  have hc1 : w3.cell? ⟨w1.heap.size, 0, none⟩ = some (.slice sp1 sn1 sc1) := bcell hb3 (bcell (below_alloc w2 _) hc1)
  have hc2 : w3.cell? ⟨w1.heap.size, 1, none⟩ = some (.slice tp1 tn1 tc1) := bcell hb3 (bcell (below_alloc w2 _) hc2)
  have hd1 : w3.cell? ⟨w2.heap.size, 0, none⟩ = some (.slice sp2 sn2 sc2) := bcell hb3 (by simp)
  have hd2 : w3.cell? ⟨w2.heap.size, 1, none⟩ = some (.slice tp2 tn2 tc2) := bcell hb3 (by simp)
  have HB3 := Lib.hid (HB2.out.trans (hb3.mono HB2.out.size))
  have O1 := Lib.hid (O1.out.keep hb3 (by simp; omega))
  have P1 := Lib.hid (P1.out.keep hb3 (by simp; omega))
  have O2 := Lib.hid (O2.out.keep hb3 (by simp; omega))
  have P2 := Lib.hid (P2.out.keep hb3 (by simp))
  clear hb3 HB1 HB2
  go_wp2_with fail
  refine (c_markData _ _ _ _ 1 _ _ _ _ O2.out P2.out ha2 hm2 (by omega) SM SL (by omega) (by omega)).mono ?_
  rintro e w4 ⟨rfl, ho2, hp2, hb4, hx4⟩
  have hz4 := hb4.size
  have hc1 : w4.cell? ⟨w1.heap.size, 0, none⟩ = some (.slice sp1 sn1 sc1) := cell_sameD (hb4.block _ (by omega)) hc1
  have hc2 : w4.cell? ⟨w1.heap.size, 1, none⟩ = some (.slice tp1 tn1 tc1) := cell_sameD (hb4.block _ (by omega)) hc2
  have hd1 : w4.cell? ⟨w2.heap.size, 0, none⟩ = some (.slice sp2 sn2 sc2) := cell_sameD (hx4 _ (Nat.le_refl _) (by omega)) hd1
  have hd2 : w4.cell? ⟨w2.heap.size, 1, none⟩ = some (.slice tp2 tn2 tc2) := cell_sameD (hx4 _ (Nat.le_refl _) (by omega)) hd2
  have HB4 := Lib.hid (HB3.out.trans (hb4.mono (by omega)))
  have O1 := Lib.hid (O1.out.keep hb4 (by omega))
  have P1 := Lib.hid (P1.out.keep hb4 (by omega))
  have O2 := Lib.hid ho2
  have P2 := Lib.hid hp2
  clear hb4 HB3 ho2 hp2 hx4
  go_wp2_with fail
  refine (c_heldData _ _ _ (fibN xa).1.2.length 1 _ (O2.out.rows (marks_len SM.len) (marks_row SM.row)) (P2.out.ints (by rw [upFrom_length]; exact SL')) SM SL (by omega) (by omega)).mono ?_
  rintro e w5 ⟨rfl, hb5⟩
  have hz5 := hb5.size
  have hc1 : w5.cell? ⟨w1.heap.size, 0, none⟩ = some (.slice sp1 sn1 sc1) := bcell hb5 hc1
  have hc2 : w5.cell? ⟨w1.heap.size, 1, none⟩ = some (.slice tp1 tn1 tc1) := bcell hb5 hc2
  have hd1 : w5.cell? ⟨w2.heap.size, 0, none⟩ = some (.slice sp2 sn2 sc2) := bcell hb5 hd1
  have hd2 : w5.cell? ⟨w2.heap.size, 1, none⟩ = some (.slice tp2 tn2 tc2) := bcell hb5 hd2
  have HB5 := Lib.hid (HB4.out.trans (hb5.mono HB4.out.size))
  have O1 := Lib.hid (O1.out.keep hb5 (by omega))
  have P1 := Lib.hid (P1.out.keep hb5 (by omega))
  have O2 := Lib.hid (O2.out.keep hb5 (by omega))
  have P2 := Lib.hid (P2.out.keep hb5 (by omega))
  clear hb5 HB4
  go_wp2_with fail
  refine (c_FibonacciData xa _).mono ?_
  rintro e w6 ⟨s3, t3, m3, rfl, ha3, hm3, ho3, hp3, hb6⟩
  obtain ⟨sp3, sn3, sc3, rfl⟩ := ho3.slice
  obtain ⟨tp3, tn3, tc3, rfl⟩ := hp3.slice
  have hz6 := hb6.size
  have hc1 : w6.cell? ⟨w1.heap.size, 0, none⟩ = some (.slice sp1 sn1 sc1) := bcell hb6 hc1
  have hc2 : w6.cell? ⟨w1.heap.size, 1, none⟩ = some (.slice tp1 tn1 tc1) := bcell hb6 hc2
  have hd1 : w6.cell? ⟨w2.heap.size, 0, none⟩ = some (.slice sp2 sn2 sc2) := bcell hb6 hd1
  have hd2 : w6.cell? ⟨w2.heap.size, 1, none⟩ = some (.slice tp2 tn2 tc2) := bcell hb6 hd2
  have HB6 := Lib.hid ((HB5.out.trans (hb6.mono HB5.out.size)).alloc (by omega) (.cells #[.slice sp3 sn3 sc3, .slice tp3 tn3 tc3] 25))
  have O1 := Lib.hid ((O1.out.keep hb6 (by omega)).alloc (by omega) (.cells #[.slice sp3 sn3 sc3, .slice tp3 tn3 tc3] 25))
  have P1 := Lib.hid ((P1.out.keep hb6 (by omega)).alloc (.cells #[.slice sp3 sn3 sc3, .slice tp3 tn3 tc3] 25))
  have O2 := Lib.hid ((O2.out.keep hb6 (by omega)).alloc (by omega) (.cells #[.slice sp3 sn3 sc3, .slice tp3 tn3 tc3] 25))
  have P2 := Lib.hid ((P2.out.keep hb6 (by omega)).alloc (.cells #[.slice sp3 sn3 sc3, .slice tp3 tn3 tc3] 25))
  have O3 := Lib.hid (ho3.alloc hm3 (.cells #[.slice sp3 sn3 sc3, .slice tp3 tn3 tc3] 25))
  have P3 := Lib.hid (hp3.alloc (.cells #[.slice sp3 sn3 sc3, .slice tp3 tn3 tc3] 25))
  have hl1 : w1.heap.size < w6.heap.size := by omega
  have hl2 : w2.heap.size < w6.heap.size := by omega
  clear hb6 HB5 ho3 hp3
  go_wp2_with fail
  refine (c_eqData _ _ _ _ _ _ _ (O3.out.rows SM.len SM.row) (P3.out.ints SL') (O1.out.rows SM.len SM.row) (P1.out.ints SL')).mono ?_
  rintro e w7 ⟨rfl, hb7⟩
  have hd1 : w7.cell? ⟨w2.heap.size, 0, none⟩ = some (.slice sp2 sn2 sc2) := bcell hb7 (bcell (below_alloc w6 _) hd1)
  have hd2 : w7.cell? ⟨w2.heap.size, 1, none⟩ = some (.slice tp2 tn2 tc2) := bcell hb7 (bcell (below_alloc w6 _) hd2)
  have HB7 := Lib.hid (HB6.out.trans (hb7.mono HB6.out.size))
  have O2 := Lib.hid (O2.out.keep hb7 (by simp; omega))
  have P2 := Lib.hid (P2.out.keep hb7 (by simp; omega))
  clear hb7 HB6 O1 P1 O3 P3
  go_wp2_with fail
  refine (c_heldData _ _ _ (fibN xa).1.2.length 1 _ (O2.out.rows (marks_len SM.len) (marks_row SM.row)) (P2.out.ints (by rw [upFrom_length]; exact SL')) SM SL (by omega) (by omega)).mono ?_
  rintro e w8 ⟨rfl, hb8⟩
  have HB8 := Lib.hid (HB7.out.trans (hb8.mono HB7.out.size))
  clear hb8 HB7
  go_wp2_with fail
  go_ret
  exact ⟨rfl, HB8.out⟩
end Go.Proofs.Ytelbfocdgnhnfaa
