/- Data whose two lists interleave in memory: what a call makes, the laws' helpers on it. -/
import Derived.Test.YtibaollnjfibnaaSpd
namespace Go.Proofs.Ytibaollnjfibnaa
open Go.RowKit

/-- the blocks of the rows -/
def rowsOf (us : List Value) (b : Nat) : Prop := ∃ (i : Nat) (u : Value), us[i]? = some u ∧ u.ownBlock = some b
/-- data that a call owns: rows S behind s, a list T behind t; all between lo and hi; no block twice -/
def OwnD (w : World) (lo hi : Nat) (s t : Value) (S : List (List Int)) (T : List Int) : Prop :=
  ∃ us, Own w 23 lo s us ∧ us.length = S.length ∧ (∀ (i : Nat) (u : Value) (xs : List Int), us[i]? = some u → S[i]? = some xs → OwnI w lo u xs) ∧ apart us ∧ OwnI w lo t T ∧
    (∀ g, rowsOf us g → t.ownBlock ≠ some g) ∧ (∀ g, s.ownBlock = some g → g < hi) ∧ (∀ g, rowsOf us g → g < hi) ∧ (∀ g, t.ownBlock = some g → g < hi)
theorem OwnD.slices {w : World} {lo hi : Nat} {s t : Value} {S : List (List Int)} {T : List Int} (h : OwnD w lo hi s t S T) : (∃ p n c, s = .slice p n c) ∧ ∃ p n c, t = .slice p n c := by
  obtain ⟨us, h1, _, _, _, h5, _⟩ := h
  exact ⟨h1.slice, h5.slice⟩
theorem OwnD.same {w w' : World} {lo hi : Nat} {s t : Value} {S : List (List Int)} {T : List Int} (h : OwnD w lo hi s t S T) (hs : ∀ k, lo ≤ k → k < hi → w'.heap[k]? = w.heap[k]?) : OwnD w' lo hi s t S T := by
  obtain ⟨us, h1, h2, h3, h4, h5, h6, h7, h8, h9⟩ := h
  refine ⟨us, h1.of_block fun g hg => hs g (h1.lt hg).1 (h7 g hg), h2, fun i u xs e1 e2 => (h3 i u xs e1 e2).of_block fun g hg => hs g ((h3 i u xs e1 e2).lt hg).1 (h8 g ⟨i, u, e1, hg⟩), h4, h5.of_block fun g hg => hs g (h5.lt hg).1 (h9 g hg), h6, h7, h8, h9⟩
theorem OwnD.keep {w w' : World} {lo hi B : Nat} {s t : Value} {S : List (List Int)} {T : List Int} (h : OwnD w lo hi s t S T) (hb : Below B w w') (hB : hi ≤ B) : OwnD w' lo hi s t S T :=
  h.same fun k _ hk => hb.block k (by omega)
theorem OwnD.alloc {w : World} {lo hi : Nat} {s t : Value} {S : List (List Int)} {T : List Int} (h : OwnD w lo hi s t S T) (hh : hi ≤ w.heap.size) (o : Obj) : OwnD (w.alloc o) lo hi s t S T := h.keep (below_alloc w o) hh
theorem OwnD.m {w : World} {lo hi : Nat} {s t : Value} {S : List (List Int)} {T : List Int} (h : OwnD w lo hi s t S T) : OwnM w lo s S := by
  obtain ⟨us, h1, h2, h3, h4, _⟩ := h
  exact ⟨us, h1, h2, h3, h4⟩
theorem OwnD.rows {w : World} {lo hi : Nat} {s t : Value} {S : List (List Int)} {T : List Int} (h : OwnD w lo hi s t S T) (hl : S.length ≤ 5864062014634) (hl' : ∀ xs ∈ S, xs.length ≤ 17592186043904) : IntRows w s S := h.m.rows hl hl'
theorem OwnD.ints {w : World} {lo hi : Nat} {s t : Value} {S : List (List Int)} {T : List Int} (h : OwnD w lo hi s t S T) (hl : T.length ≤ 17592186043904) : Ints w t T := by
  obtain ⟨us, _, _, _, _, h5, _⟩ := h
  exact h5.ints hl
/-- post of a call that makes data -/
def RetX (r : (List (List Int) × List Int) × Int) (w : World) (e : Ending) (w' : World) : Prop :=
  ∃ s t, e = .returned (.tuple #[.agg #[s, t], .int .i64 r.2]) ∧ OwnD w' w.heap.size w'.heap.size s t r.1.1 r.1.2 ∧ Below w.heap.size w w'
theorem retX_nil {w w' : World} {c : Int} {r : (List (List Int) × List Int) × Int} (hr : r = (([], []), c)) (hb : Below w.heap.size w w') : RetX r w (.returned (.tuple #[.agg #[.slice none 0 0, .slice none 0 0], .int .i64 c])) w' := by
  subst hr
  exact ⟨_, _, rfl, ⟨[], Own.nil _ _ _, rfl, fun i u xs h => by simp at h, fun i j u u' h => by simp at h, Own.nil _ _ _, fun g h => by obtain ⟨i, u, h1, _⟩ := h; simp at h1, fun g h => by simp [Value.ownBlock] at h, fun g h => by obtain ⟨i, u, h1, _⟩ := h; simp at h1, fun g h => by simp [Value.ownBlock] at h⟩, hb⟩
set_option maxHeartbeats 1000000 in
theorem c_markSSx (v : Value) (us : List Value) (xss : List (List Int)) (k : Int) (lo : Nat) (w : World) (ho : Own w 23 lo v us) (hlen : us.length = xss.length) (hr : ∀ (i : Nat) (u : Value) (xs : List Int), us[i]? = some u → xss[i]? = some xs → OwnI w lo u xs) (ha : apart us)
    (hl : xss.length ≤ 17592186043904) (hl' : ∀ xs ∈ xss, xs.length ≤ 17592186043904) (hk : 0 ≤ k) (hk' : k + totK xss xss.length ≤ 1000000000000000) :
    Calls Try.prog 19 #[v, .int .i64 k] w fun e w' => e = .returned (.int .i64 (k + totK xss xss.length)) ∧ (Own w' 23 lo v us ∧ ∀ (i : Nat) (u : Value) (xs : List Int), us[i]? = some u → (marksM k xss)[i]? = some xs → OwnI w' lo u xs) ∧ Touch (rowsOf us) w w' := by
  have HO := Lib.hid ho
  have HR := Lib.hid hr
  have HA := Lib.hid ha
  have HLR := Lib.hid hl'
  have HLEN := Lib.hid hlen
  rcases ho.shape with ⟨rfl, hx⟩ | ⟨g, cap, rfl, _⟩
  · have hx' : xss = [] := by rw [hx] at hlen; exact List.eq_nil_of_length_eq_zero hlen.symm
    subst hx' hx
    clear ho ha hl' hlen
    go_enter Try.func19, Try.ntmps19
    go_wp2_with fail
    refine wp_loop_rounds 1 ?_
    rw [rounds_succ]
    go_wp2_with fail
    go_ret
    exact ⟨ret_int (by simp [totK]), ⟨HO.out, fun i u xs h1 _ => by simp at h1⟩, Touch.refl _ _⟩
  · have hul : us.length = xss.length := hlen
    rw [hul] at HO ⊢
    clear ho hr ha hl' hlen hul
    go_enter Try.func19, Try.ntmps19
    go_wp2_with fail
    go_loopw [1, 5] (fun c i wr => ∃ j : Nat, j ≤ xss.length ∧ i = .int .i64 j ∧ c = .int .i64 (k + totK xss j) ∧ Own wr 23 lo (.slice (some ⟨g, 0, none⟩) xss.length cap) us ∧
      Hid (∀ (i : Nat) (u : Value) (xs : List Int), us[i]? = some u → xss[i]? = some xs → OwnI wr lo u (if i < j then upFrom (k + totK xss i) xs.length else xs)) ∧ Touch (rowsOf us) w wr) (fun _ i _ => xss.length - (intOf i).toNat)
    case atStart => exact ⟨0, Nat.zero_le _, rfl, by simp [totK], HO.out, fun i u xs h1 h2 => by rw [if_neg (Nat.not_lt_zero _)]; exact HR.out i u xs h1 h2, Touch.refl _ _⟩
    case round =>
      obtain ⟨j, hj, rfl, rfl, hown, HK, ht⟩ := hrel
      by_cases hlt : j < xss.length
      · obtain ⟨xs, hx⟩ : ∃ xs, xss[j]? = some xs := ⟨xss[j], by simp [hlt]⟩
        obtain ⟨u, hu⟩ : ∃ u, us[j]? = some u := ⟨us[j]'(by rw [HLEN.out]; exact hlt), by simp⟩
        have hcell := Own.cell hown hu
        have hrow := HK.out j u xs hu hx
        rw [if_neg (Nat.lt_irrefl _)] at hrow
        have HROW := Lib.hid hrow
        have HN := Lib.hid (totK_next hx)
        have hm1 := totK_nonneg xss j
        have hm2 := totK_mono xss (Nat.le_of_lt hlt)
        have HOW := Lib.hid hown
        have HT := Lib.hid ht
        have HX := Lib.hid hx
        have HU := Lib.hid hu
        clear hx hu hrow hown ht
        go_wp2_with fail
        refine (c_markInt64S u xs (k + totK xss j) lo _ HROW.out (HLR.out xs (List.mem_of_getElem? HX.out)) (by omega) (by omega)).mono ?_
        rintro e w1 ⟨rfl, hm, htc⟩
        have HM := Lib.hid hm
        have HTC := Lib.hid htc
        clear hm htc
        go_wp2_with fail
        go_roundw
        case rel =>
          refine ⟨j + 1, by omega, by go_num, by rw [HN.out, Int.add_assoc], ?_, fun i u' xs' h1 h2 => ?_, ?_⟩
          · refine HOW.out.of_block fun b hb => HTC.out.block b (fun hh => Own.other HOW.out HROW.out (by decide) hb hh)
          · by_cases e : i = j
            · subst e
              rw [HU.out] at h1; rw [HX.out] at h2; cases h1; cases h2
              rw [if_pos (Nat.lt_succ_self _)]
              exact HM.out
            · have hold := HK.out i u' xs' h1 h2
              have e2 : (if i < j + 1 then upFrom (k + totK xss i) xs'.length else xs') = (if i < j then upFrom (k + totK xss i) xs'.length else xs') := by
                by_cases hij : i < j
                · rw [if_pos hij, if_pos (by omega)]
                · rw [if_neg hij, if_neg (by omega)]
              rw [e2]
              exact hold.of_block fun b hb => HTC.out.block b (fun hh => HA.out i j u' u h1 HU.out e b hb hh)
          · exact HT.out.trans (HTC.out.mono fun b hb => ⟨j, u, HU.out, hb⟩)
        case measure => simp [intOf]; omega
      · obtain rfl : j = xss.length := by omega
        have HOW := Lib.hid hown
        have HT := Lib.hid ht
        clear hown ht
        go_wp2_with fail
        go_ret
        refine ⟨rfl, ⟨HOW.out, fun i u ys h1 h2 => ?_⟩, HT.out⟩
        have hi : i < xss.length := by have := (List.getElem?_eq_some_iff.1 h1).1; rw [HLEN.out] at this; exact this
        have hxi : xss[i]? = some xss[i] := List.getElem?_eq_getElem hi
        rw [marksM_at hxi] at h2
        cases h2
        have h3 := HK.out i u _ h1 hxi
        rw [if_pos hi] at h3
        exact h3
set_option maxHeartbeats 1000000 in
theorem c_markDataX (s t : Value) (S : List (List Int)) (T : List Int) (k : Int) (lo hi : Nat) (w : World) (h : OwnD w lo hi s t S T) (hlh : lo ≤ hi) (hh : hi ≤ w.heap.size)
    (hl1 : Small 4096 S) (hl2 : T.length ≤ 4096) (hk : 0 ≤ k) (hk' : k ≤ 1000000) :
    Calls Try.prog 8 #[.agg #[s, t], .int .i64 k] w fun e w' => e = .returned (.int .i64 (k + totK S S.length + T.length)) ∧ OwnD w' lo hi s t (marksM k S) (upFrom (k + totK S S.length) T.length) ∧ Below lo w w' ∧ ∀ x, hi ≤ x → x < w.heap.size → w'.heap[x]? = w.heap[x]? := by
  have h' := h.alloc hh (.cells #[s, t] 25)
  obtain ⟨us, h1, h2, h3, h4, h5, h6, h7, h8, h9⟩ := h'
  have hT := hl1.total
  have hN := totK_nonneg S S.length
  have HL := Lib.hid hl1
  have H1 := Lib.hid h1
  have H2 := Lib.hid h2
  have H3 := Lib.hid h3
  have H4 := Lib.hid h4
  have H5 := Lib.hid h5
  have H6 := Lib.hid h6
  have H7 := Lib.hid h7
  have H8 := Lib.hid h8
  have H9 := Lib.hid h9
  clear hl1 h h1 h2 h3 h4 h5 h6 h7 h8 h9
  go_enter Try.func8, Try.ntmps8
  go_wp2_with fail
  refine (c_markSSx s us S k lo _ H1.out H2.out H3.out H4.out (Nat.le_trans HL.out.len (by omega)) HL.out.row hk (by omega)).mono ?_
  rintro e w1 ⟨rfl, ⟨ho1, hr1⟩, ht1⟩
  have hc1 : w1.cell? ⟨w.heap.size, 1, none⟩ = some t := cell_sameD (ht1.block _ (fun h => by have := H8.out _ h; omega)) (by simp)
  have HO1 := Lib.hid ho1
  have HR1 := Lib.hid hr1
  have H5 : Hid (OwnI w1 lo t T) := Lib.hid (H5.out.of_block fun g hg => ht1.block g (fun h => H6.out g h hg))
  have HT1 := Lib.hid ht1
  clear ho1 hr1 ht1
  go_wp2_with fail
  refine (c_markInt64S t T (k + totK S S.length) lo _ H5.out (by omega) (by omega) (by omega)).mono ?_
  rintro e w2 ⟨rfl, hm2, ht2⟩
  have HM2 := Lib.hid hm2
  have HT2 := Lib.hid ht2
  clear hm2 ht2
  have hlen2 : (marksM k S).length = S.length := by rw [marksM_length]
  go_wp2_with fail
  go_ret
  refine ⟨rfl, ⟨us, ?_, by rw [marksM_length]; exact H2.out, fun i u xs e1 e2 => ?_, H4.out, HM2.out, H6.out, H7.out, H8.out, H9.out⟩, ?_, fun x hx hx' => ?_⟩
  · exact HO1.out.of_block fun g hg => HT2.out.block g (fun h => Own.other HO1.out H5.out (by decide) hg h)
  · exact (HR1.out i u xs e1 e2).of_block fun g hg => HT2.out.block g (fun h => H6.out g ⟨i, u, e1, hg⟩ h)
  · refine ⟨HT2.out.os.trans HT1.out.os, HT2.out.tape.trans HT1.out.tape, HT2.out.output.trans HT1.out.output, ?_, fun x hx => ?_⟩
    · rw [HT2.out.size, HT1.out.size]; simp
    · rw [HT2.out.block x (fun h => by have := (H5.out.lt h).1; omega), HT1.out.block x (fun h => by
        obtain ⟨i, u, e1, e2⟩ := h
        obtain ⟨xs, e3⟩ : ∃ xs, S[i]? = some xs := ⟨S[i]'(by rw [← H2.out]; exact (List.getElem?_eq_some_iff.1 e1).1), by simp⟩
        have := ((H3.out i u xs e1 e3).lt e2).1
        omega)]
      exact Below.heap_alloc w _ x (by omega)
  · rw [HT2.out.block x (fun h => by have := H9.out x h; omega), HT1.out.block x (fun h => by have := H8.out x h; omega)]
    exact Below.heap_alloc w _ x hx'
end Go.Proofs.Ytibaollnjfibnaa
