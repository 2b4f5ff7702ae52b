/- Arguments that came in, read as data, are lists of integers in memory. No walk. -/
import Derived.Test.YtcgmbpkichfalaaDoorMem
import Derived.ProofKit
import Derived.OpenShut
import Derived.ChangeOld
import Derived.SizedLaws
import Derived.Deep.Matrix
import Derived.Deep.Slices
namespace Go.Proofs.YtcgmbpkichfalaaDoor
open Go.ChangeShapes Go.WideShapes Go.ChangeAt Go.RowKit Go.Deep

theorem weightsAll_mem {H : Type} {P : Program} {e : TypeId} : ∀ {l : List (DataW H)} {d : DataW H}, d ∈ l → ∀ n ∈ d.weights P e, n ∈ DataW.weightsAll P e l
  | d' :: r, d, hd, n, hn => by
    simp only [DataW.weightsAll, List.mem_append]
    rcases List.mem_cons.1 hd with rfl | h
    · exact Or.inl hn
    · exact Or.inr (weightsAll_mem h n hn)
theorem reach_eq : reachBytes = 140737488351232 := rfl

/-- all that a datum of type t weighs lies within the reach -/
def Light {H : Type} (t : TypeId) (d : DataW H) : Prop := ∀ n ∈ d.weights Tryd.prog t, n ≤ reachBytes
theorem light_of {H : Type} {ts : List TypeId} {ds : List (DataW H)} (h : (DataW.weightsEach Tryd.prog ts ds).all (· ≤ reachBytes) = true) {j : Nat} {t : TypeId} {d : DataW H} (ht : ts[j]? = some t) (hd : ds[j]? = some d) : Light t d :=
  fun _ hn => of_decide_eq_true (List.all_eq_true.1 h _ (DataW.weights_mem_each ht hd _ hn))
theorem Light.len {H : Type} {t e : TypeId} {es sp : List (DataW H)} (h : Light t (.slice es sp)) (hu : Tryd.prog.underlying t = some (.slice e)) : (es.length + sp.length) * Tryd.prog.bytesOf e ≤ reachBytes :=
  h _ (by simp [DataW.weights, hu])
theorem Light.elem {H : Type} {t e : TypeId} {es sp : List (DataW H)} {d : DataW H} (h : Light t (.slice es sp)) (hu : Tryd.prog.underlying t = some (.slice e)) (hd : d ∈ es) : Light e d :=
  fun n hn => h n (by simp only [DataW.weights, hu, List.mem_cons, List.mem_append]; exact Or.inr (Or.inl (weightsAll_mem hd n hn)))

section
variable {H : Type} {enc : TypeId × Value → H} {W : World} {base : Nat}

theorem addr_plain {a : Addr} {v : Value} (h : W.cell? (a.add 0) = some v) : ∃ b off, a = ⟨b, off, none⟩ := by
  obtain ⟨b, off, s⟩ := a
  have := World.cell?_spot h
  simp [Addr.add] at this
  subst this
  exact ⟨b, off, rfl⟩

/-- a datum that reads as a slice of integers -/
theorem read_ints {t e : TypeId} {fuel : Nat} {v : Value} {d : DataW H} {p : List MemPlace} (ht : Tryd.prog.underlying t = some (.slice e)) (he : Tryd.prog.underlying e = some (.int .i64)) (hc : Tryd.prog.cellsOf e = 1) (hby : Tryd.prog.bytesOf e = 8)
    (hf : DataW.trod enc Tryd.prog W 0 (fun _ => true) true fuel t [v] = some (d, p)) (hL : Light t d) : ∃ zs, Ints W v zs := by
  rcases open_ints ht he hc hf with ⟨hcs, _⟩ | ⟨x, l, c, zs, hcs, _, hl, hm, hz, hx, hcell, hwz⟩
  · simp at hcs
    subst hcs
    exact ⟨[], none, 0, rfl, by simp, fun i x hx => by simp at hx⟩
  · simp at hcs
    subst hcs
    simp only [Prod.mk.injEq] at hx
    obtain ⟨rfl, rfl⟩ := hx
    have hz' : zs.length = c := by simpa using hz
    have hlen := hL.len ht
    rw [hby, reach_eq] at hlen
    simp only [lits, List.length_map, List.length_take, List.length_drop] at hlen
    have htl : (zs.take l).length = l := by rw [List.length_take]; omega
    refine ⟨zs.take l, some x, c, by rw [htl], by rw [htl]; omega, fun i y hy => ?_⟩
    have hil : i < l := by
      have := (List.getElem?_eq_some_iff.1 hy).1
      omega
    have h0 := hcell 0 (by omega)
    obtain ⟨b, off, rfl⟩ := addr_plain h0
    have hi := hcell i (by omega)
    rw [add_plain] at hi
    refine ⟨b, off, rfl, ?_⟩
    rw [hi]
    rw [List.getElem?_take, if_pos hil] at hy
    simp [List.getD_eq_getElem?_getD, hy]

set_option maxRecDepth 100000 in
theorem open_ints_at {t e : TypeId} {ts : List TypeId} {ds : List (DataW H)} {j : Nat} {r : Reach} {v : Value} {d : DataW H} {p : List MemPlace} (ht : Tryd.prog.underlying t = some (.slice e)) (he : Tryd.prog.underlying e = some (.int .i64)) (hc : Tryd.prog.cellsOf e = 1) (hby : Tryd.prog.bytesOf e = 8)
    (hok : Value.okWide Tryd.prog W r base t v) (h : DataW.Trod enc Tryd.prog W 0 (fun _ => true) true t v d p) (hsz : (DataW.weightsEach Tryd.prog ts ds).all (· ≤ reachBytes) = true) (htj : ts[j]? = some t) (hdj : ds[j]? = some d) : ∃ zs, Ints W v zs := by
  obtain ⟨a0, len, cap, rfl⟩ := okWide_slice ht hok
  obtain ⟨fuel, hf⟩ := h
  exact read_ints ht he hc hby hf (light_of hsz htj hdj)

/-- a datum that reads as a slice of slices of integers -/
theorem read_rows {t e q : TypeId} {fuel : Nat} {v : Value} {d : DataW H} {p : List MemPlace} (ht : Tryd.prog.underlying t = some (.slice e)) (he : Tryd.prog.underlying e = some (.slice q)) (hq : Tryd.prog.underlying q = some (.int .i64))
    (ce : Tryd.prog.cellsOf e = 1) (cq : Tryd.prog.cellsOf q = 1) (be : Tryd.prog.bytesOf e = 24) (bq : Tryd.prog.bytesOf q = 8)
    (hf : DataW.trod enc Tryd.prog W 0 (fun _ => true) true fuel t [v] = some (d, p)) (hL : Light t d) : ∃ zss, IntRows W v zss := by
  rcases open_slice1 ht ce hf with ⟨hcs, _⟩ | ⟨a, len, cap, m, n, V, D, Pl, hcs, _, hl, hm, hmm, hx, hel⟩
  · simp at hcs
    subst hcs
    exact ⟨[], none, 0, rfl, by simp, fun i xs hx => by simp at hx⟩
  · simp at hcs
    subst hcs
    simp only [Prod.mk.injEq] at hx
    obtain ⟨rfl, rfl⟩ := hx
    simp only [if_true] at hmm
    subst hmm
    have hlen := hL.len ht
    rw [be, reach_eq] at hlen
    simp only [List.length_map, List.length_range] at hlen
    have hrow : ∀ i, i < len → ∃ zs, Ints W (V i) zs := fun i hi => by
      obtain ⟨h1, h2⟩ := hel i (by omega)
      exact read_ints he hq cq bq h2 (hL.elem ht (List.mem_map.2 ⟨i, List.mem_range.2 hi, rfl⟩))
    obtain ⟨Z, hZ⟩ := choose_lt (α := List Int) (p := fun i zs => Ints W (V i) zs) hrow
    refine ⟨(List.range len).map Z, some a, m, by simp, by simp; omega, fun i xs hx => ?_⟩
    have hi : i < len := by
      have := (List.getElem?_eq_some_iff.1 hx).1
      simpa using this
    rw [List.getElem?_map, List.getElem?_range hi] at hx
    simp at hx
    subst hx
    obtain ⟨h0, _⟩ := hel 0 (by omega)
    obtain ⟨b, off, rfl⟩ := addr_plain h0
    obtain ⟨h1, _⟩ := hel i (by omega)
    rw [add_plain] at h1
    exact ⟨b, off, V i, rfl, h1, hZ i hi⟩

set_option maxRecDepth 100000 in
theorem open_rows_at {t e q : TypeId} {ts : List TypeId} {ds : List (DataW H)} {j : Nat} {r : Reach} {v : Value} {d : DataW H} {p : List MemPlace} (ht : Tryd.prog.underlying t = some (.slice e)) (he : Tryd.prog.underlying e = some (.slice q)) (hq : Tryd.prog.underlying q = some (.int .i64))
    (ce : Tryd.prog.cellsOf e = 1) (cq : Tryd.prog.cellsOf q = 1) (be : Tryd.prog.bytesOf e = 24) (bq : Tryd.prog.bytesOf q = 8)
    (hok : Value.okWide Tryd.prog W r base t v) (h : DataW.Trod enc Tryd.prog W 0 (fun _ => true) true t v d p) (hsz : (DataW.weightsEach Tryd.prog ts ds).all (· ≤ reachBytes) = true) (htj : ts[j]? = some t) (hdj : ds[j]? = some d) : ∃ zss, IntRows W v zss := by
  obtain ⟨a0, len, cap, rfl⟩ := okWide_slice ht hok
  obtain ⟨fuel, hf⟩ := h
  exact read_rows ht he hq ce cq be bq hf (light_of hsz htj hdj)
end
end Go.Proofs.YtcgmbpkichfalaaDoor
