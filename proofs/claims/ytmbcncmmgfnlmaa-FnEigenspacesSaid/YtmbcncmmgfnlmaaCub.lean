/- Lists of tables in memory: reading and owning them; walks of the laws' helpers over them. -/
import Derived.Test.YtmbcncmmgfnlmaaMrk
import Derived.Test.YtmbcncmmgfnlmaaMat
namespace Go.Proofs.Ytmbcncmmgfnlmaa
open Go.RowKit

/-- the value v reads as the list of tables c -/
def IntCubes (w : World) (v : Value) (c : List (List (List Int))) : Prop :=
  ∃ a cap, v = .slice a c.length cap ∧ c.length ≤ 5864062014634 ∧
    ∀ i m, c[i]? = some m → ∃ b off u, a = some ⟨b, off, none⟩ ∧ w.cell? ⟨b, off + i, none⟩ = some u ∧ IntRows w u m
theorem IntRows.ofHeap {w w' : World} {v : Value} {xss : List (List Int)} (hw : w'.heap = w.heap) (h : IntRows w v xss) : IntRows w' v xss := by
  obtain ⟨a, cap, rfl, hl, hc⟩ := h
  refine ⟨a, cap, rfl, hl, fun i xs hx => ?_⟩
  obtain ⟨b, off, u, rfl, hcell, hI⟩ := hc i xs hx
  exact ⟨b, off, u, rfl, by simpa [World.cell?, hw] using hcell, hI.ofHeap hw⟩
theorem IntCubes.keep {w w' : World} {v : Value} {c : List (List (List Int))} (h : IntCubes w v c) (hb : Below w.heap.size w w') : IntCubes w' v c := by
  obtain ⟨a, cap, rfl, hl, hc⟩ := h
  refine ⟨a, cap, rfl, hl, fun i m hx => ?_⟩
  obtain ⟨b, off, u, rfl, hcell, hI⟩ := hc i m hx
  exact ⟨b, off, u, rfl, by rw [hb.cell (Ints.lt hcell)]; exact hcell, hI.keep hb⟩
theorem IntCubes.len {w : World} {v : Value} {c : List (List (List Int))} (h : IntCubes w v c) : c.length ≤ 5864062014634 := by
  obtain ⟨a, cap, rfl, hl, hc⟩ := h
  exact hl
theorem IntCubes.rows {w : World} {v : Value} {c : List (List (List Int))} (h : IntCubes w v c) {m : List (List Int)} (hm : m ∈ c) : ∃ u, IntRows w u m := by
  obtain ⟨a, cap, rfl, hl, hc⟩ := h
  obtain ⟨i, hi⟩ := List.getElem?_of_mem hm
  obtain ⟨b, off, u, _, _, hI⟩ := hc i m hi
  exact ⟨u, hI⟩
theorem IntCubes.row {w : World} {v : Value} {c : List (List (List Int))} (h : IntCubes w v c) {m : List (List Int)} (hm : m ∈ c) : m.length ≤ 5864062014634 ∧ ∀ xs ∈ m, xs.length ≤ 17592186043904 := by
  obtain ⟨u, hI⟩ := h.rows hm
  exact ⟨hI.len, fun xs hx => hI.row hx⟩

/-! how many cells -/
def szM (m : List (List Int)) : Int := m.length + totK m m.length
theorem szM_nonneg (m : List (List Int)) : 0 ≤ szM m := by unfold szM; have := totK_nonneg m m.length; omega
/-- sums over the first tables -/
def totC (f : List (List Int) → Int) (c : List (List (List Int))) : Nat → Int
  | 0 => 0
  | i + 1 => totC f c i + f (c.getD i [])
theorem totC_next {f : List (List Int) → Int} {c : List (List (List Int))} {k : Nat} {m : List (List Int)} (h : c[k]? = some m) : totC f c (k + 1) = totC f c k + f m := by
  simp [totC, List.getD_eq_getElem?_getD, h]
theorem totC_nonneg {f : List (List Int) → Int} (hf : ∀ m, 0 ≤ f m) (c : List (List (List Int))) (k : Nat) : 0 ≤ totC f c k := by
  induction k with
  | zero => exact Int.le_refl _
  | succ k ih => simp only [totC]; have := hf (c.getD k []); omega
theorem totC_mono {f : List (List Int) → Int} (hf : ∀ m, 0 ≤ f m) (c : List (List (List Int))) {k n : Nat} (h : k ≤ n) : totC f c k ≤ totC f c n := by
  induction h with
  | refl => exact Int.le_refl _
  | step _ ih => simp only [totC]; rename_i n _; have := hf (c.getD n []); omega
theorem totC_le {f g : List (List Int) → Int} (hf : ∀ m, f m ≤ g m) (c : List (List (List Int))) (k : Nat) : totC f c k ≤ totC g c k := by
  induction k with
  | zero => exact Int.le_refl _
  | succ k ih => simp only [totC]; have := hf (c.getD k []); omega
/-- the cells of numbers -/
def cntM (m : List (List Int)) : Int := totK m m.length
theorem cntM_nonneg (m : List (List Int)) : 0 ≤ cntM m := totK_nonneg _ _
def cntC (c : List (List (List Int))) : Int := totC cntM c c.length
/-- .. tells the cells of numbers -/
theorem totC_szM (c : List (List (List Int))) : cntC c ≤ c.length + totC szM c c.length := by
  have h1 : totC cntM c c.length ≤ totC szM c c.length := totC_le (fun m => by unfold szM cntM; omega) c c.length
  unfold cntC
  omega

/-! owned lists of tables -/
/-- tables that the call owns: each in a range of blocks of its own, all from lo to hi -/
def OwnCB (w : World) (lo hi : Nat) (v : Value) (c : List (List (List Int))) : Prop :=
  ∃ (us : List Value) (bd : Nat → Nat × Nat), Own w 24 lo v us ∧ us.length = c.length ∧
    (∀ (i : Nat) (u : Value) (m : List (List Int)), us[i]? = some u → c[i]? = some m → OwnB w (bd i).1 (bd i).2 u m ∧ lo ≤ (bd i).1 ∧ (bd i).2 ≤ hi) ∧
    (∀ i j, i < j → j < us.length → (bd i).2 ≤ (bd j).1) ∧
    (∀ g, v.ownBlock = some g → g < hi ∧ ∀ i, i < us.length → g < (bd i).1 ∨ (bd i).2 ≤ g)
theorem OwnCB.same {w w' : World} {lo hi : Nat} {v : Value} {c : List (List (List Int))} (h : OwnCB w lo hi v c) (hs : ∀ k, lo ≤ k → k < hi → w'.heap[k]? = w.heap[k]?) : OwnCB w' lo hi v c := by
  obtain ⟨us, bd, ho, hlen, hr, ha, hg⟩ := h
  refine ⟨us, bd, ho.of_block fun g e => hs g (ho.lt e).1 (hg g e).1, hlen, fun i u m hu hm => ?_, ha, hg⟩
  obtain ⟨h1, h2, h3⟩ := hr i u m hu hm
  exact ⟨h1.same fun k k1 k2 => hs k (by omega) (by omega), h2, h3⟩
theorem OwnCB.keep {w w' : World} {lo hi B : Nat} {v : Value} {c : List (List (List Int))} (h : OwnCB w lo hi v c) (hb : Below B w w') (hB : hi ≤ B) : OwnCB w' lo hi v c :=
  h.same fun k _ hk => hb.block k (by omega)
theorem OwnCB.touch {w w' : World} {lo hi : Nat} {S : Nat → Prop} {v : Value} {c : List (List (List Int))} (h : OwnCB w lo hi v c) (ht : Touch S w w') (hS : ∀ k, S k → k < lo ∨ hi ≤ k) : OwnCB w' lo hi v c :=
  h.same fun k h1 h2 => ht.block k (fun hk => by have := hS k hk; omega)
theorem OwnCB.mono {w : World} {lo hi lo' hi' : Nat} {v : Value} {c : List (List (List Int))} (h : OwnCB w lo hi v c) (h1 : lo' ≤ lo) (h2 : hi ≤ hi') : OwnCB w lo' hi' v c := by
  obtain ⟨us, bd, ho, hlen, hr, ha, hg⟩ := h
  exact ⟨us, bd, ho.mono h1, hlen, fun i u m hu hm => by obtain ⟨a, b, c⟩ := hr i u m hu hm; exact ⟨a, by omega, by omega⟩, ha, fun g e => ⟨by have := (hg g e).1; omega, (hg g e).2⟩⟩
theorem OwnCB.cubes {w : World} {lo hi : Nat} {v : Value} {c : List (List (List Int))} (h : OwnCB w lo hi v c) (hl : c.length ≤ 5864062014634) (hr : ∀ m ∈ c, m.length ≤ 5864062014634 ∧ ∀ xs ∈ m, xs.length ≤ 17592186043904) : IntCubes w v c := by
  obtain ⟨us, bd, ho, hlen, hr', ha, hg⟩ := h
  rcases ho.shape with ⟨rfl, hx⟩ | ⟨g, cap, rfl, _⟩
  · subst hx
    have hx' : c = [] := List.eq_nil_of_length_eq_zero hlen.symm
    subst hx'
    exact ⟨none, 0, rfl, by simp, fun i x hx => by simp at hx⟩
  · refine ⟨some ⟨g, 0, none⟩, cap, by rw [hlen], hl, fun i m hx => ?_⟩
    have hi := (List.getElem?_eq_some_iff.1 hx).1
    obtain ⟨u, hu⟩ : ∃ u, us[i]? = some u := ⟨us[i]'(by omega), by simp⟩
    have hm := hr m (List.mem_of_getElem? hx)
    exact ⟨g, 0, u, rfl, by rw [Nat.zero_add]; exact Own.cell ho hu, (hr' i u m hu hx).1.rows hm.1 hm.2⟩
theorem OwnCB.nil (w : World) (lo hi : Nat) : OwnCB w lo hi (.slice none 0 0) [] :=
  ⟨[], fun _ => (0, 0), Own.nil _ _ _, rfl, fun i u m h => by simp at h, fun i j _ h => by simp at h, fun g e => by cases e⟩
theorem OwnCB.lt {w : World} {lo hi : Nat} {v : Value} {c : List (List (List Int))} (h : OwnCB w lo hi v c) {g : Nat} (hg : v.ownBlock = some g) : lo ≤ g ∧ g < hi := by
  obtain ⟨us, bd, ho, hlen, hr, ha, hb⟩ := h
  exact ⟨(ho.lt hg).1, (hb g hg).1⟩
theorem OwnCB.bound {w : World} {lo hi : Nat} {v : Value} {c : List (List (List Int))} (h : OwnCB w lo hi v c) : OwnCB w lo hi v c := h
/-- the posts of calls that make lists of tables -/
def RetC (c : List (List (List Int))) (w : World) (e : Ending) (w' : World) : Prop := ∃ v, e = .returned v ∧ OwnCB w' w.heap.size w'.heap.size v c ∧ Below w.heap.size w w'
theorem info_rows : (Try.prog.info? 24).map (fun i => (i.zero, i.size, i.bytes)) = some (some (.slice none 0 0), 1, 24) := by kernel_rfl
def eqLLL (c d : List (List (List Int))) : Bool := decide (c = d)
theorem eqLLL_true {c d : List (List (List Int))} (hl : c.length = d.length) (h : ∀ (i : Nat) x y, c[i]? = some x → d[i]? = some y → x = y) : eqLLL c d = true := by
  refine decide_eq_true (List.ext_getElem hl fun i h1 h2 => h i _ _ (List.getElem?_eq_getElem h1) (List.getElem?_eq_getElem h2))
theorem eqLLL_len {c d : List (List (List Int))} (h : c.length ≠ d.length) : eqLLL c d = false := decide_eq_false (fun e => h (by rw [e]))
theorem eqLLL_ne {c d : List (List (List Int))} {k : Nat} {x y : List (List Int)} (h1 : c[k]? = some x) (h2 : d[k]? = some y) (h : eqLL x y = false) : eqLLL c d = false :=
  decide_eq_false (fun e => by rw [e, h2] at h1; cases h1; rw [eqLL_self] at h; cases h)
theorem eqLLL_self (c : List (List (List Int))) : eqLLL c c = true := decide_eq_true rfl
attribute [irreducible] eqLLL
theorem eqLL_eq {xs ys : List (List Int)} (h : eqLL xs ys = true) : xs = ys := by unfold eqLL at h; exact of_decide_eq_true h
/-! marks -/
def marksC (k : Int) (c : List (List (List Int))) : List (List (List Int)) := c.mapIdx fun i m => marksM (k + totC cntM c i) m
theorem marksC_length (k : Int) (c : List (List (List Int))) : (marksC k c).length = c.length := by simp [marksC]
theorem marksC_at {k : Int} {c : List (List (List Int))} {i : Nat} {m : List (List Int)} (h : c[i]? = some m) : (marksC k c)[i]? = some (marksM (k + totC cntM c i) m) := by
  simp [marksC, List.getElem?_mapIdx, h]
end Go.Proofs.Ytmbcncmmgfnlmaa
