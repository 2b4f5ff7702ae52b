/- As Open, with what a number in memory is: within its kind. No walk. -/
import Derived.Test.YtckcjlophnehmaaOpen
namespace Go.Proofs.Ytckcjlophnehmaa
open Go.ChangeShapes Go.WideShapes Go.ChangeAt Go.RowKit Go.Deep

/-- all are numbers of 64 bits -/
def WfI (xs : List Int) : Prop := ∀ n ∈ xs, (Lit.int .i64 n).wf = true
/-- rows of them -/
def IntRowsW (w : World) (v : Value) (xss : List (List Int)) : Prop := IntRows w v xss ∧ ∀ xs ∈ xss, WfI xs
section
variable {H : Type} {enc : TypeId × Value → H} {W : World} {base : Nat}
/-- a datum that reads as a slice of integers -/
theorem read_intsW {t e : TypeId} {fuel : Nat} {v : Value} {d : DataW H} {p : List MemPlace} (ht : Try.prog.underlying t = some (.slice e)) (he : Try.prog.underlying e = some (.int .i64)) (hc : Try.prog.cellsOf e = 1) (hby : Try.prog.bytesOf e = 8)
    (hf : DataW.trod enc Try.prog W 0 (fun _ => true) true fuel t [v] = some (d, p)) (hL : Light t d) : ∃ zs, Ints W v zs ∧ WfI zs := by
  rcases open_ints ht he hc hf with ⟨hcs, _⟩ | ⟨x, l, c, zs, hcs, _, hl, hm, hz, hx, hcell, hwz⟩
  · simp at hcs
    subst hcs
    exact ⟨[], ⟨none, 0, rfl, by simp, fun i x hx => by simp at hx⟩, fun n hn => by simp at hn⟩
  · simp at hcs
    subst hcs
    simp only [Prod.mk.injEq] at hx
    obtain ⟨rfl, rfl⟩ := hx
    have hz' : zs.length = c := by simpa using hz
    have hlen := hL.len ht
    rw [hby, reach_eq] at hlen
    simp only [lits, List.length_map, List.length_take, List.length_drop] at hlen
    have htl : (zs.take l).length = l := by rw [List.length_take]; omega
    refine ⟨zs.take l, ⟨some x, c, by rw [htl], by rw [htl]; omega, fun i y hy => ?_⟩, fun n hn => hwz n (List.mem_of_mem_take hn)⟩
    have hil : i < l := by
      have := (List.getElem?_eq_some_iff.1 hy).1
      omega
    have h0 := hcell 0 (by omega)
    obtain ⟨b, off, rfl⟩ := addr_plain h0
    have hi := hcell i (by omega)
    rw [add_plain] at hi
    refine ⟨b, off, rfl, ?_⟩
    rw [hi]
    rw [List.getElem?_take, if_pos hil] at hy
    simp [List.getD_eq_getElem?_getD, hy]

/-- a datum that reads as a slice of slices of integers -/
theorem read_rowsW {t e q : TypeId} {fuel : Nat} {v : Value} {d : DataW H} {p : List MemPlace} (ht : Try.prog.underlying t = some (.slice e)) (he : Try.prog.underlying e = some (.slice q)) (hq : Try.prog.underlying q = some (.int .i64))
    (ce : Try.prog.cellsOf e = 1) (cq : Try.prog.cellsOf q = 1) (be : Try.prog.bytesOf e = 24) (bq : Try.prog.bytesOf q = 8)
    (hf : DataW.trod enc Try.prog W 0 (fun _ => true) true fuel t [v] = some (d, p)) (hL : Light t d) : ∃ zss, IntRowsW W v zss := by
  rcases open_slice1 ht ce hf with ⟨hcs, _⟩ | ⟨a, len, cap, m, n, V, D, Pl, hcs, _, hl, hm, hmm, hx, hel⟩
  · simp at hcs
    subst hcs
    exact ⟨[], ⟨none, 0, rfl, by simp, fun i xs hx => by simp at hx⟩, fun xs hx => by simp at hx⟩
  · simp at hcs
    subst hcs
    simp only [Prod.mk.injEq] at hx
    obtain ⟨rfl, rfl⟩ := hx
    simp only [if_true] at hmm
    subst hmm
    have hlen := hL.len ht
    rw [be, reach_eq] at hlen
    simp only [List.length_map, List.length_range] at hlen
    have hrow : ∀ i, i < len → ∃ zs, Ints W (V i) zs ∧ WfI zs := fun i hi => by
      obtain ⟨h1, h2⟩ := hel i (by omega)
      exact read_intsW he hq cq bq h2 (hL.elem ht (List.mem_map.2 ⟨i, List.mem_range.2 hi, rfl⟩))
    obtain ⟨Z, hZ⟩ := choose_lt (α := List Int) (p := fun i zs => Ints W (V i) zs ∧ WfI zs) hrow
    refine ⟨(List.range len).map Z, ⟨some a, m, by simp, by simp; omega, fun i xs hx => ?_⟩, fun xs hx => ?_⟩
    all_goals try (obtain ⟨i, hi, rfl⟩ := List.mem_map.1 hx; exact (hZ i (List.mem_range.1 hi)).2)
    have hi : i < len := by
      have := (List.getElem?_eq_some_iff.1 hx).1
      simpa using this
    rw [List.getElem?_map, List.getElem?_range hi] at hx
    simp at hx
    subst hx
    obtain ⟨h0, _⟩ := hel 0 (by omega)
    obtain ⟨b, off, rfl⟩ := addr_plain h0
    obtain ⟨h1, _⟩ := hel i (by omega)
    rw [add_plain] at h1
    exact ⟨b, off, V i, rfl, h1, (hZ i hi).1⟩

set_option maxRecDepth 100000 in
theorem open_rowsw_at {t e q : TypeId} {ts : List TypeId} {ds : List (DataW H)} {j : Nat} {r : Reach} {v : Value} {d : DataW H} {p : List MemPlace} (ht : Try.prog.underlying t = some (.slice e)) (he : Try.prog.underlying e = some (.slice q)) (hq : Try.prog.underlying q = some (.int .i64))
    (ce : Try.prog.cellsOf e = 1) (cq : Try.prog.cellsOf q = 1) (be : Try.prog.bytesOf e = 24) (bq : Try.prog.bytesOf q = 8)
    (hok : Value.okWide Try.prog W r base t v) (h : DataW.Trod enc Try.prog W 0 (fun _ => true) true t v d p) (hsz : (DataW.weightsEach Try.prog ts ds).all (· ≤ reachBytes) = true) (htj : ts[j]? = some t) (hdj : ds[j]? = some d) : ∃ zss, IntRowsW W v zss := by
  obtain ⟨a0, len, cap, rfl⟩ := okWide_slice ht hok
  obtain ⟨fuel, hf⟩ := h
  exact read_rowsW ht he hq ce cq be bq hf (light_of hsz htj hdj)
end
end Go.Proofs.Ytckcjlophnehmaa
