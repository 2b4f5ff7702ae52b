/- Walks: slices.Backward over field numbers; values of polynomials by the program. -/
import Derived.Test.YtjjoicbgnchkdaaRow
import Derived.Test.YtjjoicbgnchkdaaAlg
import Derived.RangeFuncBox
import Derived.RangeFuncLeaves
import Derived.Shelf.Abstract
import Derived.OwnWalkIn
import Derived.TacticsInMore
import Derived.LoopNIn
import Derived.LoopIn
namespace Go.Proofs.Ytjjoicbgnchkdaa
open Go.RowKit Go.Shelf
open Fus (F toI ofI toI_bd toI_of ofI_toI ofI_mul ofI_add hz hz_step hz_top hz_ev ev)
attribute [local go_sem] Oper.semAt_some

/-- what has come when k rounds are over -/
def uptoB {α : Type} (f : Nat → α) (k : Nat) : List α := (List.range k).map f
theorem uptoB_succ {α : Type} (f : Nat → α) (k : Nat) : uptoB f (k + 1) = uptoB f k ++ [f k] := by simp [uptoB, List.range_succ]
theorem uptoB_length {α : Type} (f : Nat → α) (k : Nat) : (uptoB f k).length = k := by simp [uptoB]
/-- the j-th pair from above -/
def bwf (c : Nat → F) (m : Nat) (j : Nat) : Nat × F := (m - 1 - j, c (m - 1 - j))
def hornerL (z : F) : List (Nat × F) → F := List.foldl (fun s p => s * z + p.2) 0
theorem hornerL_snoc (z : F) (pre : List (Nat × F)) (x : Nat × F) : hornerL z (pre ++ [x]) = hornerL z pre * z + x.2 := by simp [hornerL]
theorem hornerL_all (c : Nat → F) (z : F) (m : Nat) : ∀ k, k ≤ m → hornerL z (uptoB (bwf c m) k) = hz c z m (m - k) := by
  intro k
  induction k with
  | zero => intro _; rw [hz_top c z (by omega)]; rfl
  | succ k ih =>
    intro hk
    rw [uptoB_succ, hornerL_snoc, ih (by omega), hz_step c z (k := m - (k + 1)) (by omega), show m - (k + 1) + 1 = m - k from by omega]
    show _ + c (m - 1 - k) = _
    rw [show m - 1 - k = m - (k + 1) from by omega]
/-- what a round keeps -/
def KpB (n₀ Bs : Nat) (A B : World) : Prop := Below n₀ A B ∧ B.cell? ⟨Bs, 0, none⟩ = A.cell? ⟨Bs, 0, none⟩
theorem kpB_t {n₀ Bs : Nat} {A B C : World} (h1 : KpB n₀ Bs A B) (h2 : KpB n₀ Bs B C) : KpB n₀ Bs A C := ⟨h1.1.trans h2.1, h2.2.trans h1.2⟩
theorem kpB_b {n₀ Bs : Nat} {w : World} (hn : n₀ ≤ w.heap.size) (hs : Bs < w.heap.size) (W : World) (l : Nat) (o o' : Obj) (hl : w.heap.size ≤ l) (h : W.heap[l]? = some o) (h1 : o.isCells = false) (h2 : o.isWalk = false) : KpB n₀ Bs W (W.putObj l o') :=
  ⟨belowK_b hn W l o o' hl h h1 h2, by simp only [World.cell?]; rw [World.putObj_heap_other (by omega)]⟩
set_option maxRecDepth 100000 in
set_option maxHeartbeats 2000000 in
/-- the function value that slices.Backward hands back: for every loop body that keeps what lay below n₀ -/
theorem bw1_in (F' : Fence) (n : Nat) (hf : F'.fn 150) (hro : F'.round = none) (hn : 1 ≤ n) (l Bs n₀ b off len cap : Nat) (c : Nat → F) (hreach : len * 8 ≤ 140737488351232) (hb : b < n₀) (J Jx : List (Nat × F) → World → Prop)
    (hY : ∀ pre x W, J pre W → pre.length < len → YieldAt F' (n - 1) Try.prog l #[.int .i64 (x.1 : Int), .int .i64 (toI x.2)] W fun e W' =>
      (e = .returned (.bool true) ∧ J (pre ++ [x]) W' ∧ KpB n₀ Bs W W') ∨ (e = .returned (.bool false) ∧ Jx (pre ++ [x]) W'))
    (W : World) (hBs : W.cell? ⟨Bs, 0, none⟩ = some (.slice (some ⟨b, off, none⟩) len cap)) (hc : ∀ j, j < len → W.cell? ⟨b, off + j, none⟩ = some (.int .i64 (toI (c j)))) (h0 : J [] W) :
    CallsIn F' n Try.prog 150 #[.func (.yield l) #[] #[], .pointer (some ⟨Bs, 0, none⟩)] W fun e W' => (∃ v, e = .returned v) ∧
      ((∃ ys, ys = uptoB (bwf c len) len ∧ J ys W') ∨ (∃ pre, (∃ k, k ≤ len ∧ pre = uptoB (bwf c len) k) ∧ Jx pre W')) := by
  refine callsIn_of_wp Try.func150 rfl hf ?_ hro
  simp only [Try.ntmps150, List.size_toArray, List.length_cons, List.length_nil, Nat.reduceAdd, Nat.reduceSub, Array.replicate_succ, Array.replicate_zero, List.push_toArray, List.append_toArray, List.nil_append, List.cons_append]
  gi_wp2
  gi_loopw [3] (fun i wr => ∃ k m : Nat, len = m + k ∧ i = .int .i64 ((m : Int) - 1) ∧ J (uptoB (bwf c len) k) wr ∧ KpB n₀ Bs W wr)
    (fun i _ => (intOf i + 1).toNat)
  case atStart => exact ⟨0, len, by omega, by go_num, h0, Below.refl _ _, rfl⟩
  case round =>
    obtain ⟨k, m, hk, rfl, hJs, hnx⟩ := hrel
    have hBs' := hnx.2.trans hBs
    cases m with
    | zero =>
      obtain rfl : len = k := by omega
      rw [show ((0 : Nat) : Int) - 1 = -1 from rfl]
      gi_wp2
      go_end0
      exact ⟨⟨_, rfl⟩, .inl ⟨_, rfl, hJs⟩⟩
    | succ m =>
      have e1 : (((m + 1 : Nat) : Int) - 1) = (m : Int) := by omega
      rw [e1]
      have hcx := (hnx.1.cell (p := ⟨b, off + m, none⟩) hb).trans (hc m (by omega))
      have hml : m < len := by omega
      have hmI : (m : Int) < (len : Int) := by omega
      have hmI0 : (0 : Int) ≤ (m : Int) := by omega
      have hbw : bwf c len k = (m, c m) := by unfold bwf; rw [show len - 1 - k = m from by omega]
      have HK := Lib.hid hk
      clear hk
      obtain ⟨fn, tmps, assign, body, hy, hR⟩ := hY _ (m, c m) wr hJs (by rw [uptoB_length]; have := HK.out; omega)
      dsimp only at hy
      have HBW := Lib.hid hbw
      clear hbw
      gi_wp2
      refine hR.mono ?_
      rintro e W3 (⟨rfl, hJ3, hk3⟩ | ⟨rfl, hJx3⟩)
      · gi_wp2
        go_roundw
        case rel => exact ⟨k + 1, m, by have := HK.out; omega, by go_num, by rw [uptoB_succ, HBW.out]; exact hJ3, kpB_t hnx hk3⟩
        case measure => simp [intOf]
      · gi_wp2
        refine bodyPost_ret (results_none rfl _ _ _) rfl ?_
        exact ⟨⟨_, rfl⟩, .inr ⟨_, ⟨k + 1, by have := HK.out; omega, by rw [uptoB_succ, HBW.out]⟩, hJx3⟩⟩
set_option maxHeartbeats 1000000 in
theorem bw_in (F' : Fence) (n : Nat) (hf : F'.fn 148) (hro : F'.round = none) (a : Option Addr) (len cap : Nat) (w : World) :
    CallsIn F' n Try.prog 148 #[.slice a len cap] w fun e w' => e = .returned (.func (.func 150) #[] #[.pointer (some ⟨w.heap.size, 0, none⟩)]) ∧ w' = w.alloc (.cells #[.slice a len cap] 38) := by
  refine callsIn_of_wp Try.func148 rfl hf ?_ hro
  simp only [Try.ntmps148, List.size_toArray, List.length_cons, List.length_nil, Nat.reduceAdd, Nat.reduceSub, Array.replicate_succ, Array.replicate_zero, List.push_toArray, List.append_toArray, List.nil_append, List.cons_append]
  gi_wp2
  go_ret
  exact ⟨rfl, rfl⟩
theorem bw_stops (F' : Fence) (n : Nat) (hf : F'.fn 150) (hro : F'.round = none) (hn : 1 ≤ n) (Bs n₀ b off len cap : Nat) (c : Nat → F) (hreach : len * 8 ≤ 140737488351232) (w : World) (hBs : Bs < w.heap.size) (hn₀ : n₀ ≤ w.heap.size) (hb : b < n₀)
    (hcs : w.cell? ⟨Bs, 0, none⟩ = some (.slice (some ⟨b, off, none⟩) len cap)) (hc : ∀ j, j < len → w.cell? ⟨b, off + j, none⟩ = some (.int .i64 (toI (c j)))) :
    SeqStopsK F' n Try.prog 150 #[.pointer (some ⟨Bs, 0, none⟩)] (fun x : Nat × F => #[Value.int .i64 (x.1 : Int), Value.int .i64 (toI x.2)]) (KpB n₀ Bs) (fun ys => ys = uptoB (bwf c len) len)
      (fun pre => ∃ k, k ≤ len ∧ pre = uptoB (bwf c len) k) len w := fun l J Jx W hW _ _ hY h0 =>
  bw1_in F' n hf hro hn l Bs n₀ b off len cap c hreach hb J Jx hY W ((hW.cell (p := ⟨Bs, 0, none⟩) hBs).trans hcs) (fun j hj => (hW.cell (p := ⟨b, off + j, none⟩) (by show b < _; omega)).trans (hc j hj)) h0
theorem hornerZ {s z x : F} : (toI s * toI z + toI x).tmod 55441 = toI (s * z + x) := by
  have h1 := toI_bd s
  have h2 := toI_bd z
  have h3 := toI_bd x
  have hp := prod_bd h1.1 h1.2 h2.1 h2.2
  exact (Int.tmod_eq_emod_of_nonneg (by omega)).trans (toI_of (by rw [ofI_add, ofI_mul, ofI_toI, ofI_toI, ofI_toI])).symm
set_option maxRecDepth 100000 in
set_option maxHeartbeats 2000000 in
theorem valueAt_in (F' : Fence) (n : Nat) (h3 : F'.fn 136) (h5 : F'.fn 148) (h7 : F'.fn 150) (hro : F'.round = none) (hn : 3 ≤ n) (b off len cap : Nat) (c : Nat → F) (z : F) (hreach : len * 8 ≤ 140737488351232) (w : World)
    (hc : ∀ j, j < len → w.cell? ⟨b, off + j, none⟩ = some (.int .i64 (toI (c j)))) (hb : b < w.heap.size) :
    CallsIn F' n Try.prog 136 #[.slice (some ⟨b, off, none⟩) len cap, .int .i64 (toI z)] w fun e W' => e = .returned (.int .i64 (toI (ev len c z))) ∧ Below w.heap.size w W' := by
  have h1 : 1 ≤ n := by omega
  refine callsIn_of_wp_marks Try.func136 rfl h3 ?_ hro
  simp only [Try.ntmps136, List.size_toArray, List.length_cons, List.length_nil, Nat.reduceAdd, Nat.reduceSub, Array.replicate_succ, Array.replicate_zero, List.push_toArray, List.append_toArray, List.nil_append, List.cons_append]
  gi_wp2_with (gi_at_call 148; refine (bw_in F' (n - 1) h5 hro _ _ _ _).mono ?_; rintro e w' ⟨rfl, rfl⟩)
  have bZ := Boxed.new w 2 (.int .i64 (toI z))
  have bS := Boxed.new (w.alloc (.cells #[.int .i64 (toI z)] 2)) 2 (.int .i64 0)
  have bN := Boxed.new ((w.alloc (.cells #[.int .i64 (toI z)] 2)).alloc (.cells #[.int .i64 0] 2)) 38 (.slice (some ⟨b, off, none⟩) len cap)
  rw [World.size_alloc] at bS
  rw [World.size_alloc, World.size_alloc] at bN
  have hB0 : Below w.heap.size w (((w.alloc (.cells #[.int .i64 (toI z)] 2)).alloc (.cells #[.int .i64 0] 2)).alloc (.cells #[.slice (some ⟨b, off, none⟩) len cap] 38)) := (((Below.refl _ w).alloc (Nat.le_refl _) _).alloc (by simp) _).alloc (by simp; omega) _
  have hzb := toI_bd z
  refine wpIn_rangeFunc_ownG hro h1 (gf := 150) (lb := #[.pointer (some ⟨w.heap.size + 1 + 1, 0, none⟩)]) rfl h7 (enters_of Try.func150 (by kernel_rfl) rfl)
    (bw_stops F' (n - 1) h7 hro (by omega) (w.heap.size + 1 + 1) w.heap.size b off len cap c hreach _ (by simp) (by simp; omega) hb bN.cell (fun j hj => (hB0.cell (p := ⟨b, off + j, none⟩) hb).trans (hc j hj))) kpB_t (kpB_b (by simp; omega) (by simp)) (Below.refl _ _) (fun _ => rfl)
    (fun pre W => (W.cell? ⟨w.heap.size + 1, 0, none⟩ = some (.int .i64 (toI (hornerL z pre))) ∧ W.frozen? ⟨w.heap.size + 1, 0, none⟩ = false ∧ W.cell? ⟨w.heap.size, 0, none⟩ = some (.int .i64 (toI z))) ∧ Below w.heap.size w W)
    (fun _ _ _ => False)
    (OwnFrom.and (Own.from (fun s A B row hs hg hr => ⟨cell_kept hs.1 hg hr, (frozen_kept hs.1 hg hr).trans hs.2.1, cell_kept hs.2.2 hg hr⟩) _) (ownFrom_below (Nat.le_refl _) (by simp; omega)))
    (fun _ _ _ _ _ hs _ _ => hs)
    ⟨⟨by show _ = some (Value.int .i64 (toI 0)); rw [Fus.toI_zero]; exact (bS.alloc _).cell, (bS.alloc _).frozen, ((bZ.alloc _).alloc _).cell⟩, hB0⟩
    (fun x => { tmps := #[.slice (some ⟨b, off, none⟩) len cap, .int .i64 (toI z), undef, .pointer (some ⟨w.heap.size, 0, none⟩), .int .i64 0, .pointer (some ⟨w.heap.size + 1, 0, none⟩), undef, .int .i64 (toI x.2), .slice (some ⟨b, off, none⟩) len cap, .func (.func 150) #[] #[.pointer (some ⟨w.heap.size + 1 + 1, 0, none⟩)], .int .i64 (x.1 : Int), .int .i64 (toI x.2), undef, undef, undef, undef, undef, undef, undef], defers := [] }) ?assign ?body ?done ?stop
  case assign =>
    intro l x W K hK
    gi_wp2
    exact hK
  case body =>
    rintro l pre x W ⟨⟨hc1, hf1, hc2⟩, hB⟩ _
    have hsb := toI_bd (hornerL z pre)
    have hxb := toI_bd x.2
    have hp := prod_bd hsb.1 hsb.2 hzb.1 hzb.2
    have hw1 : IntKind.i64.wrap (toI (hornerL z pre) * toI z) = toI (hornerL z pre) * toI z := IntWalk.i64_in _ (by omega)
    have hw2 : IntKind.i64.wrap (toI (hornerL z pre) * toI z + toI x.2) = toI (hornerL z pre) * toI z + toI x.2 := IntWalk.i64_in _ (by omega)
    have hw3 := @hornerZ (hornerL z pre) z x.2
    have HS := Lib.hid (hornerL_snoc z pre x)
    gi_wp2
    refine ⟨(KeepsOthers.setCell _ _ _).from _, ⟨(Below.refl w.heap.size W).setCell (p := ⟨w.heap.size + 1, 0, none⟩) (Nat.le_succ _) _, World.cell?_setCell_other _ _ _ _ (fun e => by have := congrArg Addr.block e; simp at this)⟩, ⟨?_, ?_, ?_⟩, hB.setCell (p := ⟨w.heap.size + 1, 0, none⟩) (Nat.le_succ _) _⟩
    · rw [HS.out]; exact World.cell?_setCell_same' _ _ _ (by rw [hc1]; rfl)
    · rw [World.frozen?_setCell]; exact hf1
    · rw [World.cell?_setCell_other _ _ _ _ (fun e => by have := congrArg Addr.block e; simp at this)]; exact hc2
  case done =>
    rintro D ys W hD rfl ⟨⟨hc1, _, _⟩, hB⟩ hK
    rw [hornerL_all c z len len (Nat.le_refl _), Nat.sub_self, hz_ev] at hc1
    gi_wp2
    refine ⟨by simp, .inl ⟨_, _, rfl, run_takeDeferred hK, ?_⟩⟩
    exact ⟨_, results_tmp rfl _ _ _, rfl, hB.trans (belowK_b (w := w) (Nat.le_refl _) W D _ _ (by simp at hD; omega) hK rfl rfl)⟩
  case stop =>
    rintro D c' pre W _ _ h _
    exact h.elim
theorem c_valueAt (v : Value) (m : Nat) (c : Nat → F) (z : F) (w : World) (hv : Ints w v (zl m c)) (h0 : 0 < m) (hm : m ≤ 1000000) :
    Calls Try.prog 136 #[v, .int .i64 (toI z)] w fun e w' => e = .returned (.int .i64 (toI (ev m c z))) ∧ Below w.heap.size w w' := by
  obtain ⟨a, cap, hveq, _, hc⟩ := hv
  rw [zl_length] at hveq
  subst hveq
  obtain ⟨b, off, rfl, h1⟩ := hc 0 _ (zl_at c h0)
  refine callsIn_wide.1 (valueAt_in Fence.wide 3 trivial trivial trivial rfl (by omega) b off m cap c z (by omega) w (fun j hj => ?_) (Ints.lt h1))
  obtain ⟨b', off', e, h2⟩ := hc j _ (zl_at c hj)
  cases e
  exact h2
end Go.Proofs.Ytjjoicbgnchkdaa
