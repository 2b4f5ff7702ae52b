/- Lists of tables in memory: reading and owning them; walks of the laws' helpers over them. -/
import Derived.Test.YtckcjlophnehmaaMrk
import Derived.Test.YtckcjlophnehmaaMat
namespace Go.Proofs.Ytckcjlophnehmaa
open Go.RowKit

/-- the value v reads as the list of tables c -/
def IntCubes (w : World) (v : Value) (c : List (List (List Int))) : Prop :=
  ∃ a cap, v = .slice a c.length cap ∧ c.length ≤ 5864062014634 ∧
    ∀ i m, c[i]? = some m → ∃ b off u, a = some ⟨b, off, none⟩ ∧ w.cell? ⟨b, off + i, none⟩ = some u ∧ IntRows w u m
theorem IntRows.ofHeap {w w' : World} {v : Value} {xss : List (List Int)} (hw : w'.heap = w.heap) (h : IntRows w v xss) : IntRows w' v xss := by
  obtain ⟨a, cap, rfl, hl, hc⟩ := h
  refine ⟨a, cap, rfl, hl, fun i xs hx => ?_⟩
  obtain ⟨b, off, u, rfl, hcell, hI⟩ := hc i xs hx
  exact ⟨b, off, u, rfl, by simpa [World.cell?, hw] using hcell, hI.ofHeap hw⟩
theorem IntCubes.keep {w w' : World} {v : Value} {c : List (List (List Int))} (h : IntCubes w v c) (hb : Below w.heap.size w w') : IntCubes w' v c := by
  obtain ⟨a, cap, rfl, hl, hc⟩ := h
  refine ⟨a, cap, rfl, hl, fun i m hx => ?_⟩
  obtain ⟨b, off, u, rfl, hcell, hI⟩ := hc i m hx
  exact ⟨b, off, u, rfl, by rw [hb.cell (Ints.lt hcell)]; exact hcell, hI.keep hb⟩
theorem IntCubes.len {w : World} {v : Value} {c : List (List (List Int))} (h : IntCubes w v c) : c.length ≤ 5864062014634 := by
  obtain ⟨a, cap, rfl, hl, hc⟩ := h
  exact hl
theorem IntCubes.rows {w : World} {v : Value} {c : List (List (List Int))} (h : IntCubes w v c) {m : List (List Int)} (hm : m ∈ c) : ∃ u, IntRows w u m := by
  obtain ⟨a, cap, rfl, hl, hc⟩ := h
  obtain ⟨i, hi⟩ := List.getElem?_of_mem hm
  obtain ⟨b, off, u, _, _, hI⟩ := hc i m hi
  exact ⟨u, hI⟩
theorem IntCubes.row {w : World} {v : Value} {c : List (List (List Int))} (h : IntCubes w v c) {m : List (List Int)} (hm : m ∈ c) : m.length ≤ 5864062014634 ∧ ∀ xs ∈ m, xs.length ≤ 17592186043904 := by
  obtain ⟨u, hI⟩ := h.rows hm
  exact ⟨hI.len, fun xs hx => hI.row hx⟩

/-! how many cells -/
def szM (m : List (List Int)) : Int := m.length + totK m m.length
theorem szM_nonneg (m : List (List Int)) : 0 ≤ szM m := by unfold szM; have := totK_nonneg m m.length; omega
/-- sums over the first tables -/
def totC (f : List (List Int) → Int) (c : List (List (List Int))) : Nat → Int
  | 0 => 0
  | i + 1 => totC f c i + f (c.getD i [])
theorem totC_next {f : List (List Int) → Int} {c : List (List (List Int))} {k : Nat} {m : List (List Int)} (h : c[k]? = some m) : totC f c (k + 1) = totC f c k + f m := by
  simp [totC, List.getD_eq_getElem?_getD, h]
theorem totC_nonneg {f : List (List Int) → Int} (hf : ∀ m, 0 ≤ f m) (c : List (List (List Int))) (k : Nat) : 0 ≤ totC f c k := by
  induction k with
  | zero => exact Int.le_refl _
  | succ k ih => simp only [totC]; have := hf (c.getD k []); omega
theorem totC_mono {f : List (List Int) → Int} (hf : ∀ m, 0 ≤ f m) (c : List (List (List Int))) {k n : Nat} (h : k ≤ n) : totC f c k ≤ totC f c n := by
  induction h with
  | refl => exact Int.le_refl _
  | step _ ih => simp only [totC]; rename_i n _; have := hf (c.getD n []); omega
theorem totC_le {f g : List (List Int) → Int} (hf : ∀ m, f m ≤ g m) (c : List (List (List Int))) (k : Nat) : totC f c k ≤ totC g c k := by
  induction k with
  | zero => exact Int.le_refl _
  | succ k ih => simp only [totC]; have := hf (c.getD k []); omega
/-- the cells of numbers -/
def cntM (m : List (List Int)) : Int := totK m m.length
theorem cntM_nonneg (m : List (List Int)) : 0 ≤ cntM m := totK_nonneg _ _
def cntC (c : List (List (List Int))) : Int := totC cntM c c.length
/-- .. tells the cells of numbers -/
theorem totC_szM (c : List (List (List Int))) : cntC c ≤ c.length + totC szM c c.length := by
  have h1 : totC cntM c c.length ≤ totC szM c c.length := totC_le (fun m => by unfold szM cntM; omega) c c.length
  unfold cntC
  omega

/-! owned lists of tables -/
/-- tables that the call owns: each in a range of blocks of its own, all from lo to hi -/
def OwnCB (w : World) (lo hi : Nat) (v : Value) (c : List (List (List Int))) : Prop :=
  ∃ (us : List Value) (bd : Nat → Nat × Nat), Own w 22 lo v us ∧ us.length = c.length ∧
    (∀ (i : Nat) (u : Value) (m : List (List Int)), us[i]? = some u → c[i]? = some m → OwnB w (bd i).1 (bd i).2 u m ∧ lo ≤ (bd i).1 ∧ (bd i).2 ≤ hi) ∧
    (∀ i j, i < j → j < us.length → (bd i).2 ≤ (bd j).1) ∧
    (∀ g, v.ownBlock = some g → g < hi ∧ ∀ i, i < us.length → g < (bd i).1 ∨ (bd i).2 ≤ g)
theorem OwnCB.same {w w' : World} {lo hi : Nat} {v : Value} {c : List (List (List Int))} (h : OwnCB w lo hi v c) (hs : ∀ k, lo ≤ k → k < hi → w'.heap[k]? = w.heap[k]?) : OwnCB w' lo hi v c := by
  obtain ⟨us, bd, ho, hlen, hr, ha, hg⟩ := h
  refine ⟨us, bd, ho.of_block fun g e => hs g (ho.lt e).1 (hg g e).1, hlen, fun i u m hu hm => ?_, ha, hg⟩
  obtain ⟨h1, h2, h3⟩ := hr i u m hu hm
  exact ⟨h1.same fun k k1 k2 => hs k (by omega) (by omega), h2, h3⟩
theorem OwnCB.keep {w w' : World} {lo hi B : Nat} {v : Value} {c : List (List (List Int))} (h : OwnCB w lo hi v c) (hb : Below B w w') (hB : hi ≤ B) : OwnCB w' lo hi v c :=
  h.same fun k _ hk => hb.block k (by omega)
theorem OwnCB.touch {w w' : World} {lo hi : Nat} {S : Nat → Prop} {v : Value} {c : List (List (List Int))} (h : OwnCB w lo hi v c) (ht : Touch S w w') (hS : ∀ k, S k → k < lo ∨ hi ≤ k) : OwnCB w' lo hi v c :=
  h.same fun k h1 h2 => ht.block k (fun hk => by have := hS k hk; omega)
theorem OwnCB.mono {w : World} {lo hi lo' hi' : Nat} {v : Value} {c : List (List (List Int))} (h : OwnCB w lo hi v c) (h1 : lo' ≤ lo) (h2 : hi ≤ hi') : OwnCB w lo' hi' v c := by
  obtain ⟨us, bd, ho, hlen, hr, ha, hg⟩ := h
  exact ⟨us, bd, ho.mono h1, hlen, fun i u m hu hm => by obtain ⟨a, b, c⟩ := hr i u m hu hm; exact ⟨a, by omega, by omega⟩, ha, fun g e => ⟨by have := (hg g e).1; omega, (hg g e).2⟩⟩
theorem OwnCB.cubes {w : World} {lo hi : Nat} {v : Value} {c : List (List (List Int))} (h : OwnCB w lo hi v c) (hl : c.length ≤ 5864062014634) (hr : ∀ m ∈ c, m.length ≤ 5864062014634 ∧ ∀ xs ∈ m, xs.length ≤ 17592186043904) : IntCubes w v c := by
  obtain ⟨us, bd, ho, hlen, hr', ha, hg⟩ := h
  rcases ho.shape with ⟨rfl, hx⟩ | ⟨g, cap, rfl, _⟩
  · subst hx
    have hx' : c = [] := List.eq_nil_of_length_eq_zero hlen.symm
    subst hx'
    exact ⟨none, 0, rfl, by simp, fun i x hx => by simp at hx⟩
  · refine ⟨some ⟨g, 0, none⟩, cap, by rw [hlen], hl, fun i m hx => ?_⟩
    have hi := (List.getElem?_eq_some_iff.1 hx).1
    obtain ⟨u, hu⟩ : ∃ u, us[i]? = some u := ⟨us[i]'(by omega), by simp⟩
    have hm := hr m (List.mem_of_getElem? hx)
    exact ⟨g, 0, u, rfl, by rw [Nat.zero_add]; exact Own.cell ho hu, (hr' i u m hu hx).1.rows hm.1 hm.2⟩
theorem OwnCB.nil (w : World) (lo hi : Nat) : OwnCB w lo hi (.slice none 0 0) [] :=
  ⟨[], fun _ => (0, 0), Own.nil _ _ _, rfl, fun i u m h => by simp at h, fun i j _ h => by simp at h, fun g e => by cases e⟩
theorem OwnCB.lt {w : World} {lo hi : Nat} {v : Value} {c : List (List (List Int))} (h : OwnCB w lo hi v c) {g : Nat} (hg : v.ownBlock = some g) : lo ≤ g ∧ g < hi := by
  obtain ⟨us, bd, ho, hlen, hr, ha, hb⟩ := h
  exact ⟨(ho.lt hg).1, (hb g hg).1⟩
theorem OwnCB.bound {w : World} {lo hi : Nat} {v : Value} {c : List (List (List Int))} (h : OwnCB w lo hi v c) : OwnCB w lo hi v c := h
/-- the posts of calls that make lists of tables -/
def RetC (c : List (List (List Int))) (w : World) (e : Ending) (w' : World) : Prop := ∃ v, e = .returned v ∧ OwnCB w' w.heap.size w'.heap.size v c ∧ Below w.heap.size w w'
theorem info_rows : (Try.prog.info? 22).map (fun i => (i.zero, i.size, i.bytes)) = some (some (.slice none 0 0), 1, 24) := by kernel_rfl
def eqLLL (c d : List (List (List Int))) : Bool := decide (c = d)
theorem eqLLL_true {c d : List (List (List Int))} (hl : c.length = d.length) (h : ∀ (i : Nat) x y, c[i]? = some x → d[i]? = some y → x = y) : eqLLL c d = true := by
  refine decide_eq_true (List.ext_getElem hl fun i h1 h2 => h i _ _ (List.getElem?_eq_getElem h1) (List.getElem?_eq_getElem h2))
theorem eqLLL_len {c d : List (List (List Int))} (h : c.length ≠ d.length) : eqLLL c d = false := decide_eq_false (fun e => h (by rw [e]))
theorem eqLLL_ne {c d : List (List (List Int))} {k : Nat} {x y : List (List Int)} (h1 : c[k]? = some x) (h2 : d[k]? = some y) (h : eqLL x y = false) : eqLLL c d = false :=
  decide_eq_false (fun e => by rw [e, h2] at h1; cases h1; rw [eqLL_self] at h; cases h)
theorem eqLLL_self (c : List (List (List Int))) : eqLLL c c = true := decide_eq_true rfl
attribute [irreducible] eqLLL
theorem eqLL_eq {xs ys : List (List Int)} (h : eqLL xs ys = true) : xs = ys := by unfold eqLL at h; exact of_decide_eq_true h
theorem q_eqInt64SSS (u v : Value) (c d : List (List (List Int))) (w : World) (hu : IntCubes w u c) (hv : IntCubes w v d) :
    Calls Try.prog 43 #[u, v] w fun e w' => e = .returned (.bool (eqLLL c d)) ∧ Drew w w' := by
  obtain ⟨a, cap, rfl, hl, hc⟩ := hu
  obtain ⟨a', cap', rfl, hl', hc'⟩ := hv
  have HC := Lib.hid hc
  have HC' := Lib.hid hc'
  clear hc hc'
  by_cases hlen : c.length = d.length
  · have hlenB : ((c.length : Int) != (d.length : Int)) = false := by simp [hlen]
    have HL := Lib.hid hlen
    clear hlen
    go_enter Try.func43, Try.ntmps43
    go_wp2_with fail
    go_loopw [5] (fun i wr => ∃ k : Nat, k ≤ c.length ∧ i = .int .i64 k ∧ Hid (∀ (i : Nat) x y, i < k → c[i]? = some x → d[i]? = some y → x = y) ∧ Drew w wr) (fun i _ => c.length - (intOf i).toNat)
    case atStart => exact ⟨0, Nat.zero_le _, rfl, fun i x y hi => absurd hi (Nat.not_lt_zero _), Drew.refl _⟩
    case round =>
      obtain ⟨k, hk, rfl, H, hd⟩ := hrel
      by_cases hlt : k < c.length
      · have hlt' : k < d.length := by rw [← HL.out]; exact hlt
        obtain ⟨x, hx⟩ : ∃ x, c[k]? = some x := ⟨c[k], by simp [hlt]⟩
        obtain ⟨y, hy⟩ : ∃ y, d[k]? = some y := ⟨d[k], by simp [hlt']⟩
        obtain ⟨b, off, u1, rfl, hcell, hI⟩ := HC.out k x hx
        obtain ⟨b', off', u2, rfl, hcell', hI'⟩ := HC'.out k y hy
        have h1 := hd.cell hcell
        have h2 := hd.cell hcell'
        have HX := Lib.hid hx
        have HY := Lib.hid hy
        have HI := Lib.hid (hI.ofHeap hd.heap)
        have HI' := Lib.hid (hI'.ofHeap hd.heap)
        have HD := Lib.hid hd
        clear hx hy hI hI' hd hcell hcell'
        cases he : eqLL x y
        · have HE := Lib.hid he
          have HQ : Hid (∀ w1 : World, w1.heap = wr.heap → Calls Try.prog 10 #[u1, u2] w1 fun e w' => e = .returned (.bool false) ∧ ∃ m, w' = w1.drewN m) := Lib.hid (fun w1 hw => (q_eqInt64SS u1 u2 x y w1 (HI.out.ofHeap hw) (HI'.out.ofHeap hw)).mono (fun e w' hh => And.intro (by rw [hh.1, he]) hh.2))
          clear he
          go_wp2_with fail
          go_quiet ((go_at_call 10; exact Calls.quiet_of (HQ.out _ rfl)))
          go_wp2_with fail
          go_ret
          exact ⟨ret_bool (eqLLL_ne HX.out HY.out HE.out).symm, HD.out.more _⟩
        · have HE := Lib.hid (eqLL_eq he)
          have HQ : Hid (∀ w1 : World, w1.heap = wr.heap → Calls Try.prog 10 #[u1, u2] w1 fun e w' => e = .returned (.bool true) ∧ ∃ m, w' = w1.drewN m) := Lib.hid (fun w1 hw => (q_eqInt64SS u1 u2 x y w1 (HI.out.ofHeap hw) (HI'.out.ofHeap hw)).mono (fun e w' hh => And.intro (by rw [hh.1, he]) hh.2))
          clear he
          go_wp2_with fail
          go_quiet ((go_at_call 10; exact Calls.quiet_of (HQ.out _ rfl)))
          go_wp2_with fail
          go_roundw
          case rel =>
            refine ⟨k + 1, by omega, by go_num, fun i p q hi hp hq => ?_, HD.out.more _⟩
            by_cases e : i = k
            · subst e; rw [HX.out] at hp; rw [HY.out] at hq; cases hp; cases hq; exact HE.out
            · exact H.out i p q (by omega) hp hq
          case measure => simp [intOf]; omega
      · have HD := Lib.hid hd
        clear hd
        go_wp2_with fail
        go_ret
        exact ⟨ret_bool (eqLLL_true HL.out (fun i x y hx hy => H.out i x y (by have := (List.getElem?_eq_some_iff.1 hx).1; omega) hx hy)).symm, HD.out⟩
  · have hlenB : ((c.length : Int) != (d.length : Int)) = true := by rw [bne_iff_ne]; omega
    have HL := Lib.hid hlen
    clear hlen
    go_enter Try.func43, Try.ntmps43
    go_wp2_with fail
    go_ret
    exact ⟨ret_bool (eqLLL_len HL.out).symm, Drew.refl _⟩
theorem c_eqInt64SSS (u v : Value) (c d : List (List (List Int))) (w : World) (hu : IntCubes w u c) (hv : IntCubes w v d) :
    Calls Try.prog 43 #[u, v] w fun e w' => e = .returned (.bool (eqLLL c d)) ∧ Below w.heap.size w w' :=
  (q_eqInt64SSS u v c d w hu hv).mono fun _ _ h => ⟨h.1, h.2.below _⟩
/-! marks -/
def marksC (k : Int) (c : List (List (List Int))) : List (List (List Int)) := c.mapIdx fun i m => marksM (k + totC cntM c i) m
theorem marksC_length (k : Int) (c : List (List (List Int))) : (marksC k c).length = c.length := by simp [marksC]
theorem marksC_at {k : Int} {c : List (List (List Int))} {i : Nat} {m : List (List Int)} (h : c[i]? = some m) : (marksC k c)[i]? = some (marksM (k + totC cntM c i) m) := by
  simp [marksC, List.getElem?_mapIdx, h]
def MarkPostC (v : Value) (lo hi : Nat) (c : List (List (List Int))) (k : Int) (w : World) (e : Ending) (w' : World) : Prop :=
  e = .returned (.int .i64 (k + cntC c)) ∧ OwnCB w' lo hi v (marksC k c) ∧ Touch (inRange lo hi) w w'
theorem c_markInt64SSS (v : Value) (c : List (List (List Int))) (k : Int) (lo hi : Nat) (w : World) (hv : OwnCB w lo hi v c) (hl : c.length ≤ 5864062014634) (hl' : ∀ m ∈ c, m.length ≤ 5864062014634 ∧ ∀ xs ∈ m, xs.length ≤ 17592186043904) (hk : 0 ≤ k) (hk' : k + cntC c ≤ 1000000000000000) :
    Calls Try.prog 44 #[v, .int .i64 k] w (MarkPostC v lo hi c k w) := by
  obtain ⟨us, bd, ho, hlen, hr, ha, hb1⟩ := hv
  have HO := Lib.hid ho
  have HR := Lib.hid hr
  have HA := Lib.hid ha
  have HB1 := Lib.hid hb1
  have HLR := Lib.hid hl'
  have HLEN := Lib.hid hlen
  rcases ho.shape with ⟨rfl, hx⟩ | ⟨g, cap, rfl, _⟩
  · have hx' : c = [] := by rw [hx] at hlen; exact List.eq_nil_of_length_eq_zero hlen.symm
    subst hx' hx
    clear ho hr ha hb1 hl' hlen
    go_enter Try.func44, Try.ntmps44
    go_wp2_with fail
    refine wp_loop_rounds 1 ?_
    rw [rounds_succ]
    go_wp2_with fail
    go_ret
    exact ⟨ret_int (by simp [cntC, totC]), OwnCB.nil _ _ _, Touch.refl _ _⟩
  · have hul : us.length = c.length := hlen
    rw [hul] at HO HB1 HA ⊢
    clear ho hr ha hb1 hl' hlen hul
    go_enter Try.func44, Try.ntmps44
    go_wp2_with fail
    go_loopw [1, 5] (fun s i wr => ∃ j : Nat, j ≤ c.length ∧ i = .int .i64 j ∧ s = .int .i64 (k + totC cntM c j) ∧ Own wr 22 lo (.slice (some ⟨g, 0, none⟩) c.length cap) us ∧
      Hid (∀ (i : Nat) (u : Value) (m : List (List Int)), us[i]? = some u → c[i]? = some m → OwnB wr (bd i).1 (bd i).2 u (if i < j then marksM (k + totC cntM c i) m else m)) ∧ Touch (inRange lo hi) w wr) (fun _ i _ => c.length - (intOf i).toNat)
    case atStart => exact ⟨0, Nat.zero_le _, rfl, by simp [totC], HO.out, fun i u m h1 h2 => by rw [if_neg (Nat.not_lt_zero _)]; exact (HR.out i u m h1 h2).1, Touch.refl _ _⟩
    case round =>
      obtain ⟨j, hj, rfl, rfl, hown, HK, ht⟩ := hrel
      by_cases hlt : j < c.length
      · obtain ⟨m, hx⟩ : ∃ m, c[j]? = some m := ⟨c[j], by simp [hlt]⟩
        obtain ⟨u, hu⟩ : ∃ u, us[j]? = some u := ⟨us[j]'(by rw [HLEN.out]; exact hlt), by simp⟩
        have hcell := Own.cell hown hu
        have hM := HK.out j u m hu hx
        rw [if_neg (Nat.lt_irrefl _)] at hM
        obtain ⟨q1, q2, q3⟩ := HR.out j u m hu hx
        have hrow := HLR.out m (List.mem_of_getElem? hx)
        have HN := Lib.hid (totC_next (f := cntM) hx)
        have hm1 := totC_nonneg cntM_nonneg c j
        have hm2 := totC_mono cntM_nonneg c (Nat.le_of_lt hlt)
        have hm3 : totC cntM c (j + 1) ≤ totC cntM c c.length := totC_mono cntM_nonneg c (by omega)
        have hcn : k + totC cntM c j + totK m m.length ≤ 1000000000000000 := by
          have e := HN.out; unfold cntC at hk'; unfold cntM at *; omega
        have HX := Lib.hid hx
        have HU := Lib.hid hu
        have HM := Lib.hid hM
        have HW := Lib.hid hown
        have HT := Lib.hid ht
        have HRW := Lib.hid hrow
        clear hx hu hM hown ht q1 hrow
        go_wp2_with fail
        refine (c_markInt64SS u m (k + totC cntM c j) (bd j).1 (bd j).2 _ HM.out (by have := HRW.out.1; omega) HRW.out.2 (by omega) hcn).mono ?_
        rintro e w2 ⟨rfl, ho2, ht2⟩
        have HO2 := Lib.hid ho2
        have HT2 := Lib.hid ht2
        have hN2 : k + totC cntM c j + totK m m.length = k + totC cntM c (j + 1) := by have := HN.out; unfold cntM at *; omega
        rw [hN2]
        clear ho2 ht2 hN2
        go_wp2_with fail
        go_roundw
        case rel =>
          refine ⟨j + 1, by omega, by go_num, rfl, HW.out.of_block fun g' e => HT2.out.block g' (fun hh => ?_), fun i u' m' h1 h2 => ?_, HT.out.trans (HT2.out.mono fun k' hk2 => ⟨by have := hk2.1; omega, by have := hk2.2; omega⟩)⟩
          · have h3 := (HB1.out g' e).2 j hlt
            have h4 := hh.1
            have h5 := hh.2
            omega
          · by_cases e : i = j
            · subst e
              rw [HU.out] at h1; cases h1
              rw [HX.out] at h2; cases h2
              rw [if_pos (by omega)]
              exact HO2.out
            · have h3 := HK.out i u' m' h1 h2
              have hi : i < c.length := (List.getElem?_eq_some_iff.1 h2).1
              have e4 : (if i < j + 1 then marksM (k + totC cntM c i) m' else m') = (if i < j then marksM (k + totC cntM c i) m' else m') := by
                by_cases h : i < j
                · rw [if_pos h, if_pos (by omega)]
                · rw [if_neg h, if_neg (by omega)]
              rw [e4]
              refine h3.touch HT2.out fun k' hk2 => ?_
              have h5 := hk2.1
              have h6 := hk2.2
              rcases Nat.lt_or_ge i j with h | h
              · have := HA.out i j h hlt; omega
              · have := HA.out j i (by omega) hi; omega
        case measure => simp [intOf]; omega
      · obtain rfl : j = c.length := by omega
        have HW := Lib.hid hown
        have HT := Lib.hid ht
        clear hown ht
        go_wp2_with fail
        go_ret
        refine ⟨ret_int rfl, ⟨us, bd, HW.out, by rw [marksC_length]; exact HLEN.out, fun i u m h1 h2 => ?_, fun i j h1 h2 => HA.out i j h1 (by rw [← HLEN.out]; exact h2), fun g' e => ⟨(HB1.out g' e).1, fun i hi => (HB1.out g' e).2 i (by rw [← HLEN.out]; exact hi)⟩⟩, HT.out⟩
        have hi : i < c.length := by have := (List.getElem?_eq_some_iff.1 h2).1; rw [marksC_length] at this; exact this
        obtain ⟨m0, hm0⟩ : ∃ m0, c[i]? = some m0 := ⟨c[i], by simp [hi]⟩
        rw [marksC_at hm0] at h2
        cases h2
        have h3 := HK.out i u m0 h1 hm0
        rw [if_pos hi] at h3
        have h4 := HR.out i u m0 h1 hm0
        exact ⟨h3, h4.2.1, h4.2.2⟩
theorem c_heldInt64SSS (v : Value) (c : List (List (List Int))) (k : Int) (w : World) (hv : IntCubes w v (marksC k c)) (hk : 0 ≤ k) (hk' : k + cntC c ≤ 1000000000000000) :
    Calls Try.prog 45 #[v, .int .i64 k] w fun e w' => e = .returned (.int .i64 (k + cntC c)) ∧ w = w' := by
  obtain ⟨a, cap, rfl, hl, hc⟩ := hv
  rw [marksC_length] at hl ⊢
  have HC := Lib.hid hc
  clear hc
  go_enter Try.func45, Try.ntmps45
  go_wp2_with fail
  go_loop [1, 5] (fun s i => ∃ j : Nat, j ≤ c.length ∧ i = .int .i64 j ∧ s = .int .i64 (k + totC cntM c j)) (fun _ i => c.length - (intOf i).toNat)
  case atStart => exact ⟨0, Nat.zero_le _, rfl, by simp [totC]⟩
  case round =>
    obtain ⟨j, hj, rfl, rfl⟩ := hrel
    by_cases hlt : j < c.length
    · obtain ⟨m, hx⟩ : ∃ m, c[j]? = some m := ⟨c[j], by simp [hlt]⟩
      obtain ⟨b, off, u, rfl, hcell, hI⟩ := HC.out j _ (marksC_at hx)
      have HI := Lib.hid hI
      have HN := Lib.hid (totC_next (f := cntM) hx)
      have hm1 := totC_nonneg cntM_nonneg c j
      have hm2 := totC_mono cntM_nonneg c (Nat.le_of_lt hlt)
      have hm3 : totC cntM c (j + 1) ≤ totC cntM c c.length := totC_mono cntM_nonneg c (by omega)
      have hcn : k + totC cntM c j + totK m m.length ≤ 1000000000000000 := by
        have e := HN.out; unfold cntC at hk'; unfold cntM at *; omega
      have hm4 : 0 ≤ k + totC cntM c j + totK m m.length := by have := totK_nonneg m m.length; omega
      have hN2 : k + totC cntM c j + totK m m.length = k + totC cntM c (j + 1) := by have := HN.out; unfold cntM at *; omega
      clear hI hx
      go_wp2_with fail
      refine (c_heldInt64SS u m (k + totC cntM c j) _ HI.out (by omega) hcn).mono ?_
      rintro e w1 ⟨rfl, rfl⟩
      rw [hN2]
      rw [hN2] at hm4
      clear hN2
      go_wp2_with fail
      go_round
      case rel => exact ⟨j + 1, by omega, by go_num, rfl⟩
      case measure => simp [intOf]; omega
    · obtain rfl : j = c.length := by omega
      go_wp2_with fail
      go_ret
      exact ⟨rfl, rfl⟩
end Go.Proofs.Ytckcjlophnehmaa
