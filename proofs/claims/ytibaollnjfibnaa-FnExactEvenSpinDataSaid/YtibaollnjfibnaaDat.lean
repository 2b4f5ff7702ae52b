/- Data: two lists in a struct, the first of rows. The laws' helpers on them; FibonacciData on both sides. -/
import Derived.Test.YtibaollnjfibnaaMrk
import Derived.Test.YtibaollnjfibnaaFle
import Derived.Laws.ResultCell
namespace Go.Proofs.Ytibaollnjfibnaa
open Go.RowKit

/-- post of a call that makes data: rows below a split, the other list above it -/
def RetD (r : (List (List Int) × List Int) × Int) (w : World) (e : Ending) (w' : World) : Prop :=
  ∃ s t m, e = .returned (.tuple #[.agg #[s, t], .int .i64 r.2]) ∧ w.heap.size ≤ m ∧ m ≤ w'.heap.size ∧ OwnB w' w.heap.size m s r.1.1 ∧ OwnIB w' m w'.heap.size t r.1.2 ∧ Below w.heap.size w w'

/-- rows of a list of two rows just laid -/
theorem ownM_two (w : World) (B : Nat) (u v : Value) (xs ys : List Int) (hB : B ≤ w.heap.size) (hu : OwnI w B u xs) (hv : OwnI w B v ys) (h : ∀ g, u.ownBlock = some g → v.ownBlock ≠ some g) :
    OwnM (w.alloc (.cells #[u, v] 23)) B (.slice (some ⟨w.heap.size, 0, none⟩) 2 2) [xs, ys] := by
  have h2 := Own.lit (B := B) w 23 [u, v] hB (by simp [maxLen])
  refine ⟨[u, v], h2, rfl, fun i x zs e1 e2 => ?_, fun i j x x' e1 e2 hij => ?_⟩
  · match i with
    | 0 => simp at e1 e2; subst e1; subst e2; exact Own.alloc hu _
    | 1 => simp at e1 e2; subst e1; subst e2; exact Own.alloc hv _
    | i + 2 => simp at e1
  · match i, j with
    | 0, 0 => exact absurd rfl hij
    | 1, 1 => exact absurd rfl hij
    | 0, 1 => simp at e1 e2; subst e1; subst e2; exact h
    | 1, 0 => simp at e1 e2; subst e1; subst e2; exact fun g hg hg' => h g hg' hg
    | i + 2, _ => simp at e1
    | _, j + 2 => simp at e2
theorem OwnIB.alloc {w : World} {lo hi : Nat} {v : Value} {xs : List Int} (h : OwnIB w lo hi v xs) (o : Obj) : OwnIB (w.alloc o) lo hi v xs := ⟨Own.alloc h.1 o, h.2⟩
theorem OwnB.alloc {w : World} {lo hi : Nat} {v : Value} {xss : List (List Int)} (h : OwnB w lo hi v xss) (hh : hi ≤ w.heap.size) (o : Obj) : OwnB (w.alloc o) lo hi v xss :=
  h.keep (below_alloc w o) hh
theorem OwnI.lit2 (w : World) (B : Nat) (a b : Int) (hB : B ≤ w.heap.size) : OwnI (w.alloc (.cells #[.int .i64 a, .int .i64 b] 2)) B (.slice (some ⟨w.heap.size, 0, none⟩) 2 2) [a, b] :=
  Own.lit (B := B) w 2 [vi a, vi b] hB (by simp [maxLen])

theorem c_eqData (s t s' t' : Value) (S : List (List Int)) (T : List Int) (w : World) (h1 : IntRows w s S) (h2 : Ints w t T) (h3 : IntRows w s' S) (h4 : Ints w t' T) :
    Calls Try.prog 7 #[.agg #[s, t], .agg #[s', t']] w fun e w' => e = .returned (.bool true) ∧ Below w.heap.size w w' := by
  have H1 := Lib.hid h1
  have H2 := Lib.hid h2
  have H3 := Lib.hid h3
  have H4 := Lib.hid h4
  clear h1 h2 h3 h4
  go_enter Try.func7, Try.ntmps7
  go_wp2_with fail
  have HB : Hid (Below w.heap.size w _) := Lib.hid (((Below.refl _ w).alloc (Nat.le_refl _) (.cells #[s, t] 25)).alloc (by simp) (.cells #[s', t'] 25))
  refine (c_eqInt64SS _ _ S S _ (H1.out.keep HB.out) (H3.out.keep HB.out)).mono ?_
  rintro e w1 ⟨rfl, hb1⟩
  rw [eqLL_self]
  have HB1 := Lib.hid (HB.out.trans (hb1.mono HB.out.size))
  have hc1 : w1.cell? ⟨w.heap.size, 1, none⟩ = some t := bcell hb1 (by simp)
  have hc2 : w1.cell? ⟨w.heap.size + 1, 1, none⟩ = some t' := bcell hb1 (by simp)
  clear hb1
  go_wp2_with fail
  refine (c_eqInt64S _ _ T T _ (H2.out.keep HB1.out) (H4.out.keep HB1.out)).mono ?_
  rintro e w2 ⟨rfl, hb2⟩
  rw [eqL_self]
  have HB2 := Lib.hid (HB1.out.trans (hb2.mono HB1.out.size))
  clear hb2
  go_wp2_with fail
  go_ret
  exact ⟨rfl, HB2.out⟩
theorem cell_sameD {w w' : World} {g i : Nat} {v : Value} (h : w'.heap[g]? = w.heap[g]?) (hc : w.cell? ⟨g, i, none⟩ = some v) : w'.cell? ⟨g, i, none⟩ = some v := by
  rw [← hc]; simp only [World.cell?, h]
theorem c_markData (s t : Value) (S : List (List Int)) (T : List Int) (k : Int) (lo m hi : Nat) (w : World) (h1 : OwnB w lo m s S) (h2 : OwnIB w m hi t T) (hlm : lo ≤ m) (hmh : m ≤ hi) (hh : hi ≤ w.heap.size)
    (hl1 : Small 4096 S) (hl2 : T.length ≤ 4096) (hk : 0 ≤ k) (hk' : k ≤ 1000000) :
    Calls Try.prog 8 #[.agg #[s, t], .int .i64 k] w fun e w' => e = .returned (.int .i64 (k + totK S S.length + T.length)) ∧ OwnB w' lo m s (marksM k S) ∧ OwnIB w' m hi t (upFrom (k + totK S S.length) T.length) ∧ Below lo w w' ∧ ∀ x, hi ≤ x → x < w.heap.size → w'.heap[x]? = w.heap[x]? := by
  have H1 := Lib.hid (h1.alloc (Nat.le_trans hmh hh) (.cells #[s, t] 25))
  have H2 := Lib.hid (h2.alloc (.cells #[s, t] 25))
  clear h1 h2
  have hT := hl1.total
  have hN := totK_nonneg S S.length
  have HL := Lib.hid hl1
  clear hl1
  go_enter Try.func8, Try.ntmps8
  go_wp2_with fail
  refine (c_markInt64SS s S k lo m _ H1.out (Nat.le_trans HL.out.len (by omega)) HL.out.row hk (by omega)).mono ?_
  rintro e w1 ⟨rfl, ho1, ht1⟩
  have hc1 : w1.cell? ⟨w.heap.size, 1, none⟩ = some t := cell_sameD (ht1.block _ (fun h => by have := h.2; omega)) (by simp)
  have HO1 := Lib.hid ho1
  have HX := Lib.hid (fun x (hx : hi ≤ x) (hx' : x < w.heap.size) => (ht1.block x (fun h => by have := h.2; omega)).trans (Below.heap_alloc w (.cells #[s, t] 25) x hx'))
  have H2 := Lib.hid (H2.out.touch ht1 (fun b hb => Or.inl hb.2))
  have HB := Lib.hid (Touch.below ((below_alloc w (.cells #[s, t] 25)).mono (Nat.le_trans hlm (Nat.le_trans hmh hh))) ht1 (fun b hb => hb.1))
  clear ho1 ht1
  go_wp2_with fail
  refine (c_markIB t T (k + totK S S.length) m hi _ H2.out (by omega) (by omega) (by omega)).mono ?_
  rintro e w2 ⟨rfl, ho2, ht2⟩
  have HO2 := Lib.hid ho2
  have HX := Lib.hid (fun x (hx : hi ≤ x) (hx' : x < w.heap.size) => (ht2.block x (fun h => by have := h.2; omega)).trans (HX.out x hx hx'))
  have HO1 := Lib.hid (HO1.out.touch ht2 (fun b hb => Or.inr hb.1))
  have HB := Lib.hid (Touch.below HB.out ht2 (fun b hb => Nat.le_trans hlm hb.1))
  clear ho2 ht2
  go_wp2_with fail
  go_ret
  exact ⟨rfl, HO1.out, HO2.out, HB.out, HX.out⟩
theorem c_heldData (s t : Value) (S : List (List Int)) (n : Nat) (k : Int) (w : World) (h1 : IntRows w s (marksM k S)) (h2 : Ints w t (upFrom (k + totK S S.length) n)) (hl1 : Small 4096 S) (hl2 : n ≤ 4096) (hk : 0 ≤ k) (hk' : k ≤ 1000000) :
    Calls Try.prog 9 #[.agg #[s, t], .int .i64 k] w fun e w' => e = .returned (.int .i64 (k + totK S S.length + n)) ∧ Below w.heap.size w w' := by
  have HB := Lib.hid (below_alloc w (.cells #[s, t] 25))
  have H1 := Lib.hid (h1.keep HB.out)
  have H2 := Lib.hid (h2.keep HB.out)
  clear h1 h2
  have hT := hl1.total
  have hN := totK_nonneg S S.length
  clear hl1
  go_enter Try.func9, Try.ntmps9
  go_wp2_with fail
  refine (c_heldInt64SS s S k _ H1.out hk (by omega)).mono ?_
  rintro e w1 ⟨rfl, rfl⟩
  go_wp2_with fail
  refine (c_heldInt64S t n (k + totK S S.length) _ H2.out (by omega) (by omega)).mono ?_
  rintro e w2 ⟨rfl, rfl⟩
  go_wp2_with fail
  go_ret
  exact ⟨rfl, HB.out⟩

/-- data of the Fibonacci kind -/
def fibZ (k : Int) : Int := ipw (iroot 5) k
def fibD (k : Int) : Int := (1 + fibZ k + iinv (fibZ k)) % 55441
def fibN (k : Int) : (List (List Int) × List Int) × Int :=
  if inR 1 4 k = true then (([[1, fibD k], [fibD k, 55440]], [1, fibZ k * fibZ k % 55441]), 0) else (([], []), 2)
theorem fibZ_bd (k : Int) : 0 ≤ fibZ k ∧ fibZ k < 55441 := ipw_bd _ _
theorem iroot_bd (k : Int) : 0 ≤ iroot k ∧ iroot k < 55441 := ipw_bd _ _
theorem retD_nil {w w' : World} {c : Int} {r : (List (List Int) × List Int) × Int} (hr : r = (([], []), c)) (hb : Below w.heap.size w w') : RetD r w (.returned (.tuple #[.agg #[.slice none 0 0, .slice none 0 0], .int .i64 c])) w' := by
  subst hr
  exact ⟨_, _, w.heap.size, rfl, Nat.le_refl _, hb.size, ⟨[], Own.nil _ _ _, rfl, fun i u xs h => by simp at h, fun i j u u' h => by simp at h, fun g h => by simp [Value.ownBlock] at h, fun i u h => by simp at h⟩, ⟨Own.nil _ _ _, fun g h => by simp [Value.ownBlock] at h⟩, hb⟩
theorem retD_two {w w0 : World} (hb : Below w0.heap.size w0 w) {g : Nat} {a b c d e f code : Int} {r : (List (List Int) × List Int) × Int} (hg : w.heap.size = g) (hr : r = (([[a, b], [c, d]], [e, f]), code)) :
    RetD r w0 (.returned (.tuple #[.agg #[.slice (some ⟨g + 1 + 1, 0, none⟩) 2 2, .slice (some ⟨g + 1 + 1 + 1, 0, none⟩) 2 2], .int .i64 code]))
      ((((w.alloc (.cells #[.int .i64 a, .int .i64 b] 2)).alloc (.cells #[.int .i64 c, .int .i64 d] 2)).alloc (.cells #[.slice (some ⟨g, 0, none⟩) 2 2, .slice (some ⟨g + 1, 0, none⟩) 2 2] 23)).alloc (.cells #[.int .i64 e, .int .i64 f] 2)) := by
  subst hr
  have hs := hb.size
  have h1 := Own.alloc (OwnI.lit2 w w0.heap.size a b hs) (.cells #[.int .i64 c, .int .i64 d] 2)
  have h2 := OwnI.lit2 (w.alloc (.cells #[.int .i64 a, .int .i64 b] 2)) w0.heap.size c d (by simp; omega)
  have h3 := (OwnM.bound (ownM_two _ w0.heap.size _ _ [a, b] [c, d] (by simp; omega) h1 h2 (fun x hx hx' => by simp [Value.ownBlock] at hx hx'; omega))).alloc (Nat.le_refl _) (.cells #[.int .i64 e, .int .i64 f] 2)
  have h5 := (OwnI.lit2 (((w.alloc (.cells #[.int .i64 a, .int .i64 b] 2)).alloc (.cells #[.int .i64 c, .int .i64 d] 2)).alloc (.cells #[.slice (some ⟨w.heap.size, 0, none⟩) 2 2, .slice (some ⟨(w.alloc (.cells #[.int .i64 a, .int .i64 b] 2)).heap.size, 0, none⟩) 2 2] 23)) _ e f (Nat.le_refl _)).bound
  simp only [World.size_alloc, hg] at h3 h5
  refine ⟨_, _, g + 1 + 1 + 1, rfl, by omega, by simp; omega, h3, ?_, ?_⟩
  · simpa only [World.size_alloc, hg] using h5
  · exact (((hb.alloc hs _).alloc (by simp; omega) _).alloc (by simp; omega) _).alloc (by simp; omega) _
theorem OwnB.slice {w : World} {lo hi : Nat} {v : Value} {xss : List (List Int)} (h : OwnB w lo hi v xss) : ∃ p n c, v = .slice p n c := by
  obtain ⟨us, ho, _⟩ := h; exact Own.slice ho
theorem OwnIB.slice {w : World} {lo hi : Nat} {v : Value} {xs : List Int} (h : OwnIB w lo hi v xs) : ∃ p n c, v = .slice p n c := Own.slice h.1
theorem fib_small (k : Int) : Small 4096 (fibN k).1.1 ∧ (fibN k).1.2.length ≤ 4096 := by
  unfold fibN
  split
  · refine ⟨⟨by simp, fun xs hx => ?_⟩, by simp⟩
    simp at hx
    rcases hx with rfl | rfl <;> simp
  · exact ⟨⟨by simp, fun xs hx => by simp at hx⟩, by simp⟩
end Go.Proofs.Ytibaollnjfibnaa
