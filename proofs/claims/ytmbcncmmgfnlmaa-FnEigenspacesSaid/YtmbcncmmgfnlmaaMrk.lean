/- Walks of the laws' helpers that mark the cells of a result and look whether the marks are held; what stays meanwhile. -/
import Derived.Test.YtmbcncmmgfnlmaaGme
namespace Go.Proofs.Ytmbcncmmgfnlmaa
open Go.RowKit

/-- nothing has turned but blocks of S; no block is new -/
structure Touch (S : Nat → Prop) (w w' : World) : Prop where
  os : w'.os = w.os
  tape : w'.tape = w.tape
  output : w'.output = w.output
  size : w'.heap.size = w.heap.size
  block : ∀ k, ¬ S k → w'.heap[k]? = w.heap[k]?
theorem Touch.refl (S : Nat → Prop) (w : World) : Touch S w w := ⟨rfl, rfl, rfl, rfl, fun _ _ => rfl⟩
theorem Touch.trans {S : Nat → Prop} {a b c : World} (h : Touch S a b) (h' : Touch S b c) : Touch S a c :=
  ⟨h'.os.trans h.os, h'.tape.trans h.tape, h'.output.trans h.output, h'.size.trans h.size, fun k hk => (h'.block k hk).trans (h.block k hk)⟩
theorem Touch.mono {S S' : Nat → Prop} {a b : World} (h : Touch S a b) (hs : ∀ k, S k → S' k) : Touch S' a b :=
  ⟨h.os, h.tape, h.output, h.size, fun k hk => h.block k (fun hh => hk (hs k hh))⟩
theorem Touch.drewN {S : Nat → Prop} {a b : World} (h : Touch S a b) (n : Nat) : Touch S a (b.drewN n) := ⟨h.os, h.tape, h.output, h.size, h.block⟩
theorem Touch.set {S : Nat → Prop} {a b : World} (h : Touch S a b) {g i : Nat} {v : Value} (hg : S g) : Touch S a (b.setCell ⟨g, i, none⟩ v) :=
  ⟨h.os, h.tape, h.output, (by rw [← h.size]; simp [World.setCell]), fun k hk => (Below.heap_setCell _ _ _ _ (fun e => hk (by simp at e; rw [e]; exact hg))).trans (h.block k hk)⟩
theorem Touch.below {S : Nat → Prop} {B : Nat} {w0 w w' : World} (hb : Below B w0 w) (h : Touch S w w') (hs : ∀ k, S k → B ≤ k) : Below B w0 w' :=
  hb.trans ⟨h.os, h.tape, h.output, by rw [h.size]; exact Nat.le_refl _, fun k hk => h.block k (fun hh => by have := hs k hh; omega)⟩

/-- whose block it is -/
def blockOf (v : Value) : Nat → Prop := fun k => v.ownBlock = some k
def upFrom (k : Int) : Nat → List Int
  | 0 => []
  | n + 1 => k :: upFrom (k + 1) n
theorem upFrom_length (k : Int) (n : Nat) : (upFrom k n).length = n := by
  induction n generalizing k with
  | zero => rfl
  | succ n ih => simp [upFrom, ih]
theorem upFrom_at (k : Int) (n i : Nat) (h : i < n) : (upFrom k n)[i]? = some (k + i) := by
  induction n generalizing k i with
  | zero => omega
  | succ n ih =>
    cases i with
    | zero => simp [upFrom]
    | succ i => simp only [upFrom, List.getElem?_cons_succ]; rw [ih (k + 1) i (by omega)]; congr 1; omega
theorem upFrom_take (k : Int) (n i : Nat) (h : i ≤ n) : (upFrom k n).take i = upFrom k i := by
  refine List.ext_getElem? fun j => ?_
  rw [List.getElem?_take]
  split
  · rename_i hj
    rw [upFrom_at k n j (by omega), upFrom_at k i j hj]
  · rw [List.getElem?_eq_none (by rw [upFrom_length]; omega)]


def marksM (k : Int) (xss : List (List Int)) : List (List Int) := xss.mapIdx fun i xs => upFrom (k + totK xss i) xs.length
theorem marksM_length (k : Int) (xss : List (List Int)) : (marksM k xss).length = xss.length := by simp [marksM]
theorem marksM_at {k : Int} {xss : List (List Int)} {i : Nat} {xs : List Int} (h : xss[i]? = some xs) : (marksM k xss)[i]? = some (upFrom (k + totK xss i) xs.length) := by
  simp [marksM, List.getElem?_mapIdx, h]

/-- rows that the call owns, all of their blocks below hi -/
def OwnB (w : World) (lo hi : Nat) (v : Value) (xss : List (List Int)) : Prop :=
  ∃ us, Own w 35 lo v us ∧ us.length = xss.length ∧ (∀ (i : Nat) (u : Value) (xs : List Int), us[i]? = some u → xss[i]? = some xs → OwnI w lo u xs) ∧ apart us ∧
    (∀ g, v.ownBlock = some g → g < hi) ∧ (∀ (i : Nat) u, us[i]? = some u → ∀ g, u.ownBlock = some g → g < hi)
theorem OwnM.bound {w : World} {B : Nat} {v : Value} {xss : List (List Int)} (h : OwnM w B v xss) : OwnB w B w.heap.size v xss := by
  obtain ⟨us, ho, hlen, hr, ha⟩ := h
  refine ⟨us, ho, hlen, hr, ha, fun g hg => (ho.lt hg).2, fun i u hu g hg => ?_⟩
  have hi := (List.getElem?_eq_some_iff.1 hu).1
  exact ((hr i u _ hu (List.getElem?_eq_getElem (by omega))).lt hg).2
theorem OwnB.own {w : World} {lo hi : Nat} {v : Value} {xss : List (List Int)} (h : OwnB w lo hi v xss) : OwnM w lo v xss := by
  obtain ⟨us, ho, hlen, hr, ha, _⟩ := h
  exact ⟨us, ho, hlen, hr, ha⟩
/-- .. stay while their range of blocks stays -/
theorem OwnB.same {w w' : World} {lo hi : Nat} {v : Value} {xss : List (List Int)} (h : OwnB w lo hi v xss) (hs : ∀ k, lo ≤ k → k < hi → w'.heap[k]? = w.heap[k]?) : OwnB w' lo hi v xss := by
  obtain ⟨us, ho, hlen, hr, ha, h1, h2⟩ := h
  refine ⟨us, ho.of_block fun g hg => hs g (ho.lt hg).1 (h1 g hg), hlen, fun i u xs hu hx => ?_, ha, h1, h2⟩
  exact (hr i u xs hu hx).of_block fun g hg => hs g ((hr i u xs hu hx).lt hg).1 (h2 i u hu g hg)
theorem OwnB.keep {w w' : World} {lo hi B : Nat} {v : Value} {xss : List (List Int)} (h : OwnB w lo hi v xss) (hb : Below B w w') (hB : hi ≤ B) : OwnB w' lo hi v xss :=
  h.same fun k _ hk => hb.block k (by omega)
theorem OwnB.touch {w w' : World} {lo hi : Nat} {S : Nat → Prop} {v : Value} {xss : List (List Int)} (h : OwnB w lo hi v xss) (ht : Touch S w w') (hS : ∀ k, S k → k < lo ∨ hi ≤ k) : OwnB w' lo hi v xss :=
  h.same fun k h1 h2 => ht.block k (fun hk => by have := hS k hk; omega)
def inRange (lo hi : Nat) : Nat → Prop := fun k => lo ≤ k ∧ k < hi


/-- a row that the call owns, its block below hi -/
def OwnIB (w : World) (lo hi : Nat) (v : Value) (xs : List Int) : Prop := OwnI w lo v xs ∧ ∀ g, v.ownBlock = some g → g < hi
theorem OwnI.bound {w : World} {B : Nat} {v : Value} {xs : List Int} (h : OwnI w B v xs) : OwnIB w B w.heap.size v xs := ⟨h, fun _ hg => (h.lt hg).2⟩
theorem OwnIB.same {w w' : World} {lo hi : Nat} {v : Value} {xs : List Int} (h : OwnIB w lo hi v xs) (hs : ∀ k, lo ≤ k → k < hi → w'.heap[k]? = w.heap[k]?) : OwnIB w' lo hi v xs :=
  ⟨h.1.of_block fun g hg => hs g (h.1.lt hg).1 (h.2 g hg), h.2⟩
theorem OwnIB.keep {w w' : World} {lo hi B : Nat} {v : Value} {xs : List Int} (h : OwnIB w lo hi v xs) (hb : Below B w w') (hB : hi ≤ B) : OwnIB w' lo hi v xs :=
  h.same fun k _ hk => hb.block k (by omega)
theorem OwnIB.touch {w w' : World} {lo hi : Nat} {S : Nat → Prop} {v : Value} {xs : List Int} (h : OwnIB w lo hi v xs) (ht : Touch S w w') (hS : ∀ k, S k → k < lo ∨ hi ≤ k) : OwnIB w' lo hi v xs :=
  h.same fun k h1 h2 => ht.block k (fun hk => by have := hS k hk; omega)
theorem OwnIB.ints {w : World} {lo hi : Nat} {v : Value} {xs : List Int} (h : OwnIB w lo hi v xs) (hl : xs.length ≤ 17592186043904) : Ints w v xs := OwnI.ints h.1 hl
theorem OwnB.rows {w : World} {lo hi : Nat} {v : Value} {xss : List (List Int)} (h : OwnB w lo hi v xss) (hl : xss.length ≤ 5864062014634) (hl' : ∀ xs ∈ xss, xs.length ≤ 17592186043904) : IntRows w v xss := h.own.rows hl hl'
/-- lengths of what is small -/
def Small (L : Nat) (xss : List (List Int)) : Prop := xss.length ≤ L ∧ ∀ xs ∈ xss, xs.length ≤ L
theorem Small.tot {L : Nat} {xss : List (List Int)} (h : Small L xss) (n : Nat) : totK xss n ≤ (n : Int) * (L : Int) := by
  induction n with
  | zero => simp [totK]
  | succ n ih =>
    have hr : ((xss.getD n []).length : Int) ≤ (L : Int) := by
      rw [List.getD_eq_getElem?_getD]
      cases hx : xss[n]? with
      | none => simp
      | some xs => simp only [Option.getD_some]; have := h.2 xs (List.mem_of_getElem? hx); omega
    simp only [totK]
    have e : ((n + 1 : Nat) : Int) * (L : Int) = (n : Int) * L + L := by rw [Int.natCast_add, Int.add_mul]; simp
    omega
theorem Small.total {xss : List (List Int)} (h : Small 4096 xss) : totK xss xss.length ≤ 16777216 := by
  have h1 := h.tot xss.length
  have h2 := h.1
  omega
theorem Small.len {xss : List (List Int)} (h : Small 4096 xss) : xss.length ≤ 5864062014634 := by have := h.1; omega
theorem Small.row {xss : List (List Int)} (h : Small 4096 xss) : ∀ xs ∈ xss, xs.length ≤ 17592186043904 := fun xs hx => by have := h.2 xs hx; omega
theorem marks_len {k : Int} {xss : List (List Int)} (h : xss.length ≤ 5864062014634) : (marksM k xss).length ≤ 5864062014634 := by rw [marksM_length]; exact h
theorem marks_row {k : Int} {xss : List (List Int)} (h : ∀ xs ∈ xss, xs.length ≤ 17592186043904) : ∀ xs ∈ marksM k xss, xs.length ≤ 17592186043904 := by
  intro ys hy
  obtain ⟨i, hi⟩ := List.getElem?_of_mem hy
  have hlt := (List.getElem?_eq_some_iff.1 hi).1
  rw [marksM_length] at hlt
  rw [marksM_at (List.getElem?_eq_getElem hlt)] at hi
  cases hi
  rw [upFrom_length]
  exact h _ (List.getElem_mem hlt)
/-- posts of calls with a code beside what they make -/
def RetMC (r : List (List Int) × Int) (w : World) (e : Ending) (w' : World) : Prop := ∃ v, e = .returned (.tuple #[v, .int .i64 r.2]) ∧ OwnM w' w.heap.size v r.1 ∧ Below w.heap.size w w'
def RetIC (r : List Int × Int) (w : World) (e : Ending) (w' : World) : Prop := ∃ v, e = .returned (.tuple #[v, .int .i64 r.2]) ∧ OwnI w' w.heap.size v r.1 ∧ Below w.heap.size w w'
theorem OwnM.nil (w : World) (B : Nat) : OwnM w B (.slice none 0 0) [] :=
  ⟨[], Own.nil _ _ _, rfl, fun i u xs h => by simp at h, fun i j u u' h => by simp at h⟩
end Go.Proofs.Ytmbcncmmgfnlmaa
