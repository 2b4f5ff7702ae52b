/- Rows of bytes that a call owns, and texts made of them. -/
import Derived.Test.YtcgmbpkichfalaaDoorMem
import Derived.OwnWalk
import Derived.Deep.AppendLies
import Derived.Laws.IdiomStrings
import Derived.Laws.BytesArg
namespace Go.Proofs.YtcgmbpkichfalaaDoor
open Go.RowKit

/-- a byte as a value -/
abbrev vb (b : UInt8) : Value := .int .u8 (b.toNat : Int)
theorem info_u8 : (Tryd.prog.info? 5).map (fun i => (i.zero, i.size, i.bytes)) = some (some (.int .u8 0), 1, 1) := by kernel_rfl
/-- a row of bytes -/
abbrev OwnB (w : World) (B : Nat) (v : Value) (l : List UInt8) : Prop := Own w 5 B v (l.map vb)
/-- the first m of a row -/
theorem Own.first {w : World} {T : TypeId} {B g n cap m : Nat} {us : List Value} (h : Own w T B (.slice (some ⟨g, 0, none⟩) n cap) us) (hm : m ≤ us.length) : Own w T B (.slice (some ⟨g, 0, none⟩) m cap) (us.take m) := by
  have hn := h.len
  subst hn
  obtain ⟨h1, h2⟩ := h
  have hl : (us.take m).length = m := by rw [List.length_take]; omega
  refine ⟨by omega, ?_⟩
  rcases h2 with ⟨h3, _⟩ | ⟨g', cap', cur, h3, h4, h5, h6, h7, h8, h9⟩
  · cases h3
  · cases h3
    refine .inr ⟨g, cap, cur, by rw [hl], h4, h5, by omega, h7, h8, ?_⟩
    rw [hl, Nat.mul_one, ← h9, List.take_take, Nat.mul_one, Nat.min_eq_left hm]
theorem infoB {t : TypeId} {z : Value} {s b : Nat} (h : (Tryd.prog.info? t).map (fun i => (i.zero, i.size, i.bytes)) = some (some z, s, b)) : ∃ i, Tryd.prog.info? t = some i ∧ i.zero = some z ∧ i.size = s ∧ i.bytes = b := by
  cases hi : Tryd.prog.info? t with
  | none => rw [hi] at h; cases h
  | some i =>
    rw [hi] at h
    simp only [Option.map_some, Option.some.injEq, Prod.mk.injEq] at h
    exact ⟨i, rfl, h.1, h.2.1, h.2.2⟩
/-- append of one byte -/
theorem wp_pushB {ops : Array Oper} {rest : List Oper} {o : Oper} {a : Act} {Q : Exit → Act → World → Prop} {w : World} {B : Nat} {v : Value} {y : UInt8} {l : List UInt8} (hown : OwnB w B v l) (hgd : o.guard = none) (s x : Operand)
    (ho : o.op = .call { callee := .builtin .append, args := #[s, x], argTypes := #[28, 28] })
    (hs : a.eval s = v) {gx : Nat} (hx : a.eval x = .slice (some ⟨gx, 0, none⟩) 1 1) (hgx : gx = w.heap.size)
    (hB : B ≤ w.heap.size) (hlen : l.length ≤ 1000000)
    (h : ∀ v' w', OwnB w' B v' (l ++ [y]) → Below B w w' → (∀ g, g < w.heap.size → v.ownBlock ≠ some g → w'.heap[g]? = w.heap[g]? ∧ v'.ownBlock ≠ some g) → wpList Tryd.prog ops Q rest (a.put o.dst v') w') :
    wpList Tryd.prog ops Q (o :: rest) a (w.alloc (.cells #[vb y] 5)) := by
  subst hgx
  obtain ⟨i, hi, hz0, hz1', hz2⟩ := infoB info_u8
  refine wpList_append_own_at _ hgd s x _ ho B 5 i (.int .u8 0) 1 1 Tryd.underlying28 hi hz0 hz1' hz2 rfl (by omega) v (l.map vb).length (l.map vb) hs (World.ownsRow.alloc hown _) ⟨w.heap.size, 0, none⟩ 1 1 [vb y] hx rfl ?_ ?_ ?_ ?_ ?_ ?_
  · intro j u' hj
    cases j with
    | zero => simp at hj; subst hj; simp [Addr.add]
    | succ j => simp at hj
  · intro u' hu'
    simp at hu'
    subst hu'
    rfl
  · rw [List.length_map]; unfold maxLen; omega
  · rw [List.length_map]; omega
  · simp; omega
  · intro v' w' g1 g2 _ hat
    have hob : OwnB w' B v' (l ++ [y]) := by
      unfold OwnB Own
      rw [List.map_append, List.length_append]
      exact g1
    refine h v' w' hob ⟨g2.os, g2.tape, g2.output, Nat.le_trans (by simp) g2.size, fun k hk => ?_⟩ (fun g hg hne => ⟨?_, ?_⟩)
    · have h1 := g2.block k (by simp; omega) (fun e => by have := (hown.lt e.symm).1; omega)
      rw [h1]
      exact Below.heap_alloc _ _ _ (by omega)
    · rw [g2.block g (by simp; omega) (fun e => hne e.symm)]
      exact Below.heap_alloc _ _ _ hg
    · rcases hat with e | e
      · rw [e]; exact hne
      · rw [e]; simp; omega
/-- append of one element of one cell -/
theorem wp_push1 {ops : Array Oper} {rest : List Oper} {o : Oper} {a : Act} {Q : Exit → Act → World → Prop} (w : World) (hgd : o.guard = none) (s x : Operand) (t : TypeId)
    (ho : o.op = .call { callee := .builtin .append, args := #[s, x], argTypes := #[t, t] }) (e : TypeId) (z : Value) (bytes : Nat) (ht : Tryd.prog.underlying t = some (.slice e))
    (hinfo : (Tryd.prog.info? e).map (fun i => (i.zero, i.size, i.bytes)) = some (some z, 1, bytes)) (hz1 : z.cells.size = 1)
    (B : Nat) (v u : Value) (us : List Value) (hs : a.eval s = v) (hown : Own w e B v us) {gx : Nat} (hx : a.eval x = .slice (some ⟨gx, 0, none⟩) 1 1) (hgx : gx = w.heap.size) (hu : u.oneCell' = true)
    (hB : B ≤ w.heap.size) (hlen : us.length ≤ 5000000000) (hby : bytes ≤ 1000)
    (h : ∀ v' w', Own w' e B v' (us ++ [u]) → Below B w w' → (∀ g, g < w.heap.size → v.ownBlock ≠ some g → w'.heap[g]? = w.heap[g]? ∧ v'.ownBlock ≠ some g) → wpList Tryd.prog ops Q rest (a.put o.dst v') w') :
    wpList Tryd.prog ops Q (o :: rest) a (w.alloc (.cells #[u] e)) := by
  subst hgx
  obtain ⟨i, hi, hz0, hz1', hz2⟩ := infoB hinfo
  refine wpList_append_own_at _ hgd s x t ho B e i z 1 bytes ht hi hz0 hz1' hz2 hz1 (by omega) v us.length us hs (World.ownsRow.alloc hown _) ⟨w.heap.size, 0, none⟩ 1 1 [u] hx rfl ?_ ?_ ?_ ?_ ?_ ?_
  · intro j u' hj
    cases j with
    | zero => simp at hj; subst hj; simp [Addr.add]
    | succ j => simp at hj
  · intro u' hu'
    simp at hu'
    subst hu'
    exact hu
  · unfold maxLen; omega
  · have : (us.length + 1) * bytes ≤ 5000000001 * 1000 := Nat.mul_le_mul (by omega) hby
    omega
  · simp; omega
  · intro v' w' g1 g2 _ hat
    have hob : Own w' e B v' (us ++ [u]) := by
      unfold Own
      rw [List.length_append]
      exact g1
    refine h v' w' hob ⟨g2.os, g2.tape, g2.output, Nat.le_trans (by simp) g2.size, fun k hk => ?_⟩ (fun g hg hne => ⟨?_, ?_⟩)
    · have h1 := g2.block k (by simp; omega) (fun e => by have := (hown.lt e.symm).1; omega)
      rw [h1]
      exact Below.heap_alloc _ _ _ (by omega)
    · rw [g2.block g (by simp; omega) (fun e => hne e.symm)]
      exact Below.heap_alloc _ _ _ hg
    · rcases hat with e | e
      · rw [e]; exact hne
      · rw [e]; simp; omega
/-- string(b) -/
theorem OwnB.text {w : World} {B : Nat} {v : Value} {l : List UInt8} (h : OwnB w B v l) : (convert 28 9 v).run Tryd.prog w = .ok (.string ⟨l.toArray⟩) w := by
  rcases h.shape with ⟨rfl, hx⟩ | ⟨g, cap, rfl, _⟩
  · have hx' : l = [] := by cases l with | nil => rfl | cons => simp at hx
    subst hx'
    exact run_convert_bytes_nil w 28 5 Tryd.underlying28 Tryd.underlying5 0 0 _ Tryd.underlying9
  · rw [List.length_map]
    refine run_convert_bytes_back w _ _ 5 ⟨g, 0, none⟩ cap l Tryd.underlying28 Tryd.underlying5 Tryd.underlying9 (fun j hj => ?_)
    have := Own.cell h (i := j) (u := vb l[j]) (by simp [hj])
    have e : (⟨g, 0, none⟩ : Addr).add j = ⟨g, j, none⟩ := by
      cases j with
      | zero => rfl
      | succ j => simp [Addr.add]
    rw [e]
    exact this
/-- []byte(s): the cells of the new row -/
theorem bytes_cell {w : World} {s : ByteArray} {cap : Nat} {T : TypeId} {fr : Nat × Nat} {i : Nat} {b : UInt8} {g : Nat} (hg : g = w.heap.size) (h : s.data.toList[i]? = some b) : (w.alloc (.cells (bytesRow s cap) T fr)).cell? ⟨g, i, none⟩ = some (vb b) := by
  subst hg
  obtain ⟨hi, hb⟩ := List.getElem?_eq_some_iff.1 h
  have hi' : i < s.data.size := by simpa using hi
  have hb' : s.data[i] = b := by simpa using hb
  rw [World.cell?_alloc_mark, bytesRow_at s cap i hi', hb']
theorem gen_worldB {p : World → Prop} {W : World} (h : ∀ w, w = W → p w) : p W := h W rfl
end Go.Proofs.YtcgmbpkichfalaaDoor
