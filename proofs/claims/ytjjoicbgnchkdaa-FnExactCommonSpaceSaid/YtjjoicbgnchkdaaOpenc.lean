/- Arguments that came in, read as data, are lists of tables of integers in memory. No walk. -/
import Derived.Test.YtjjoicbgnchkdaaOpen
import Derived.Test.YtjjoicbgnchkdaaCub
namespace Go.Proofs.Ytjjoicbgnchkdaa
open Go.ChangeShapes Go.WideShapes Go.ChangeAt Go.RowKit Go.Deep
section
variable {H : Type} {enc : TypeId × Value → H} {W : World} {base : Nat}
/-- a datum that reads as a slice of slices of slices of integers -/
theorem read_cubes {t e q s : TypeId} {fuel : Nat} {v : Value} {d : DataW H} {p : List MemPlace} (ht : Try.prog.underlying t = some (.slice e)) (he : Try.prog.underlying e = some (.slice q)) (hq : Try.prog.underlying q = some (.slice s)) (hs : Try.prog.underlying s = some (.int .i64))
    (ce : Try.prog.cellsOf e = 1) (cq : Try.prog.cellsOf q = 1) (cs : Try.prog.cellsOf s = 1) (be : Try.prog.bytesOf e = 24) (bq : Try.prog.bytesOf q = 24) (bs : Try.prog.bytesOf s = 8)
    (hf : DataW.trod enc Try.prog W 0 (fun _ => true) true fuel t [v] = some (d, p)) (hL : Light t d) : ∃ c, IntCubes W v c := by
  rcases open_slice1 ht ce hf with ⟨hcs, _⟩ | ⟨a, len, cap, m, n, V, D, Pl, hcs, _, hl, hm, hmm, hx, hel⟩
  · simp at hcs
    subst hcs
    exact ⟨[], none, 0, rfl, by simp, fun i xs hx => by simp at hx⟩
  · simp at hcs
    subst hcs
    simp only [Prod.mk.injEq] at hx
    obtain ⟨rfl, rfl⟩ := hx
    simp only [if_true] at hmm
    subst hmm
    have hlen := hL.len ht
    rw [be, reach_eq] at hlen
    simp only [List.length_map, List.length_range] at hlen
    have hrow : ∀ i, i < len → ∃ zs, IntRows W (V i) zs := fun i hi => by
      obtain ⟨h1, h2⟩ := hel i (by omega)
      exact read_rows he hq hs cq cs bq bs h2 (hL.elem ht (List.mem_map.2 ⟨i, List.mem_range.2 hi, rfl⟩))
    obtain ⟨Z, hZ⟩ := choose_lt (α := List (List Int)) (p := fun i zs => IntRows W (V i) zs) hrow
    refine ⟨(List.range len).map Z, some a, m, by simp, by simp; omega, fun i xs hx => ?_⟩
    have hi : i < len := by
      have := (List.getElem?_eq_some_iff.1 hx).1
      simpa using this
    rw [List.getElem?_map, List.getElem?_range hi] at hx
    simp at hx
    subst hx
    obtain ⟨h0, _⟩ := hel 0 (by omega)
    obtain ⟨b, off, rfl⟩ := addr_plain h0
    obtain ⟨h1, _⟩ := hel i (by omega)
    rw [add_plain] at h1
    exact ⟨b, off, V i, rfl, h1, hZ i hi⟩
set_option maxRecDepth 100000 in
theorem open_cubes_at {t e q s : TypeId} {ts : List TypeId} {ds : List (DataW H)} {j : Nat} {r : Reach} {v : Value} {d : DataW H} {p : List MemPlace} (ht : Try.prog.underlying t = some (.slice e)) (he : Try.prog.underlying e = some (.slice q)) (hq : Try.prog.underlying q = some (.slice s)) (hs : Try.prog.underlying s = some (.int .i64))
    (ce : Try.prog.cellsOf e = 1) (cq : Try.prog.cellsOf q = 1) (cs : Try.prog.cellsOf s = 1) (be : Try.prog.bytesOf e = 24) (bq : Try.prog.bytesOf q = 24) (bs : Try.prog.bytesOf s = 8)
    (hok : Value.okWide Try.prog W r base t v) (h : DataW.Trod enc Try.prog W 0 (fun _ => true) true t v d p) (hsz : (DataW.weightsEach Try.prog ts ds).all (· ≤ reachBytes) = true) (htj : ts[j]? = some t) (hdj : ds[j]? = some d) : ∃ c, IntCubes W v c := by
  obtain ⟨a0, len, cap, rfl⟩ := okWide_slice ht hok
  obtain ⟨fuel, hf⟩ := h
  exact read_cubes ht he hq hs ce cq cs be bq bs hf (light_of hsz htj hdj)
end
end Go.Proofs.Ytjjoicbgnchkdaa
