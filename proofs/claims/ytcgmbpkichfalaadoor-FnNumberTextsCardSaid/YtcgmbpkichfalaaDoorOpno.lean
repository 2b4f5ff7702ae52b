/- Arguments that came in, read as data, are lists of bytes in memory. No walk. -/
import Derived.Test.YtcgmbpkichfalaaDoorOpen
import Derived.Test.YtcgmbpkichfalaaDoorDrn
namespace Go.Proofs.YtcgmbpkichfalaaDoor
open Go.ChangeShapes Go.WideShapes Go.ChangeAt Go.RowKit Go.Deep
section
variable {H : Type} {enc : TypeId × Value → H} {W : World} {base : Nat}
theorem u8_wf {n : Int} (h : (Lit.int .u8 n).wf = true) : 0 ≤ n ∧ n ≤ 255 := by
  have e1 : IntKind.u8.min = 0 := rfl
  have e2 : IntKind.u8.max = 255 := rfl
  simp [Lit.wf, e1, e2] at h
  omega
theorem read_bytes {t e : TypeId} {fuel : Nat} {v : Value} {d : DataW H} {p : List MemPlace} (ht : Tryd.prog.underlying t = some (.slice e)) (he : Tryd.prog.underlying e = some (.int .u8)) (hc : Tryd.prog.cellsOf e = 1) (hby : Tryd.prog.bytesOf e = 1)
    (hf : DataW.trod enc Tryd.prog W 0 (fun _ => true) true fuel t [v] = some (d, p)) (hL : Light t d) : ∃ zs, Bytes W v zs := by
  rcases open_ints ht he hc hf with ⟨hcs, _⟩ | ⟨x, l, c, zs, hcs, _, hl, hm, hz, hx, hcell, hwz⟩
  · simp at hcs
    subst hcs
    exact ⟨[], none, 0, rfl, by simp, fun i x hx => by simp at hx⟩
  · simp at hcs
    subst hcs
    simp only [Prod.mk.injEq] at hx
    obtain ⟨rfl, rfl⟩ := hx
    have hz' : zs.length = c := by simpa using hz
    have hlen := hL.len ht
    rw [hby, reach_eq] at hlen
    simp only [lits, List.length_map, List.length_take, List.length_drop] at hlen
    have htl : (zs.take l).length = l := by rw [List.length_take]; omega
    refine ⟨zs.take l, some x, c, by rw [htl], by rw [htl]; omega, fun i y hy => ?_⟩
    have hil : i < l := by
      have := (List.getElem?_eq_some_iff.1 hy).1
      omega
    have h0 := hcell 0 (by omega)
    obtain ⟨b, off, rfl⟩ := addr_plain h0
    have hi := hcell i (by omega)
    rw [add_plain] at hi
    rw [List.getElem?_take, if_pos hil] at hy
    have hmem := List.mem_of_getElem? hy
    refine ⟨b, off, rfl, ?_, u8_wf (hwz y hmem)⟩
    rw [hi]
    simp [List.getD_eq_getElem?_getD, hy]
set_option maxRecDepth 100000 in
theorem open_bytes_at {t e : TypeId} {ts : List TypeId} {ds : List (DataW H)} {j : Nat} {r : Reach} {v : Value} {d : DataW H} {p : List MemPlace} (ht : Tryd.prog.underlying t = some (.slice e)) (he : Tryd.prog.underlying e = some (.int .u8)) (hc : Tryd.prog.cellsOf e = 1) (hby : Tryd.prog.bytesOf e = 1)
    (hok : Value.okWide Tryd.prog W r base t v) (h : DataW.Trod enc Tryd.prog W 0 (fun _ => true) true t v d p) (hsz : (DataW.weightsEach Tryd.prog ts ds).all (· ≤ reachBytes) = true) (htj : ts[j]? = some t) (hdj : ds[j]? = some d) : ∃ zs, Bytes W v zs := by
  obtain ⟨a0, len, cap, rfl⟩ := okWide_slice ht hok
  obtain ⟨fuel, hf⟩ := h
  exact read_bytes ht he hc hby hf (light_of hsz htj hdj)
end
end Go.Proofs.YtcgmbpkichfalaaDoor
