/- Walks: slices.Backward over field numbers; values of polynomials by the program. -/
import Derived.Test.YtmbcncmmgfnlmaaGro
import Derived.Test.YtmbcncmmgfnlmaaAlg
import Derived.RangeFuncBox
import Derived.RangeFuncLeaves
import Derived.Shelf.Abstract
import Derived.OwnWalkIn
import Derived.TacticsInMore
import Derived.LoopNIn
import Derived.LoopIn
import Derived.Test.YtmbcncmmgfnlmaaChw
import Derived.Test.YtmbcncmmgfnlmaaAps
import Derived.Test.YtmbcncmmgfnlmaaHsp
import Derived.BigQuiet
import Derived.Deep.QuietTactic
namespace Go.Proofs.Ytmbcncmmgfnlmaa
open Go.RowKit Go.Shelf
open Fus (F toI ofI toI_bd toI_of ofI_toI ofI_mul ofI_add hz hz_step hz_top hz_ev ev)
attribute [local go_sem] Oper.semAt_some

/-- what has come when k rounds are over -/
def uptoB {α : Type} (f : Nat → α) (k : Nat) : List α := (List.range k).map f
theorem uptoB_succ {α : Type} (f : Nat → α) (k : Nat) : uptoB f (k + 1) = uptoB f k ++ [f k] := by simp [uptoB, List.range_succ]
theorem uptoB_length {α : Type} (f : Nat → α) (k : Nat) : (uptoB f k).length = k := by simp [uptoB]
/-- the j-th pair from above -/
def bwf (c : Nat → F) (m : Nat) (j : Nat) : Nat × F := (m - 1 - j, c (m - 1 - j))
def hornerL (z : F) : List (Nat × F) → F := List.foldl (fun s p => s * z + p.2) 0
theorem hornerL_snoc (z : F) (pre : List (Nat × F)) (x : Nat × F) : hornerL z (pre ++ [x]) = hornerL z pre * z + x.2 := by simp [hornerL]
theorem hornerL_all (c : Nat → F) (z : F) (m : Nat) : ∀ k, k ≤ m → hornerL z (uptoB (bwf c m) k) = hz c z m (m - k) := by
  intro k
  induction k with
  | zero => intro _; rw [hz_top c z (by omega)]; rfl
  | succ k ih =>
    intro hk
    rw [uptoB_succ, hornerL_snoc, ih (by omega), hz_step c z (k := m - (k + 1)) (by omega), show m - (k + 1) + 1 = m - k from by omega]
    show _ + c (m - 1 - k) = _
    rw [show m - 1 - k = m - (k + 1) from by omega]
/-- what a round keeps -/
def KpB (n₀ Bs : Nat) (A B : World) : Prop := Below n₀ A B ∧ B.cell? ⟨Bs, 0, none⟩ = A.cell? ⟨Bs, 0, none⟩
theorem kpB_t {n₀ Bs : Nat} {A B C : World} (h1 : KpB n₀ Bs A B) (h2 : KpB n₀ Bs B C) : KpB n₀ Bs A C := ⟨h1.1.trans h2.1, h2.2.trans h1.2⟩
theorem kpB_b {n₀ Bs : Nat} {w : World} (hn : n₀ ≤ w.heap.size) (hs : Bs < w.heap.size) (W : World) (l : Nat) (o o' : Obj) (hl : w.heap.size ≤ l) (h : W.heap[l]? = some o) (h1 : o.isCells = false) (h2 : o.isWalk = false) : KpB n₀ Bs W (W.putObj l o') :=
  ⟨belowK_b hn W l o o' hl h h1 h2, by simp only [World.cell?]; rw [World.putObj_heap_other (by omega)]⟩
set_option maxRecDepth 100000 in
set_option maxHeartbeats 2000000 in
/-- the function value that slices.Backward hands back: for every loop body that keeps what lay below n₀ -/
theorem bw1_in (F' : Fence) (n : Nat) (hf : F'.fn 131) (hro : F'.round = none) (hn : 1 ≤ n) (l Bs n₀ b off len cap : Nat) (c : Nat → F) (hreach : len * 8 ≤ 140737488351232) (hb : b < n₀) (J Jx : List (Nat × F) → World → Prop)
    (hY : ∀ pre x W, J pre W → pre.length < len → YieldAt F' (n - 1) Try.prog l #[.int .i64 (x.1 : Int), .int .i64 (toI x.2)] W fun e W' =>
      (e = .returned (.bool true) ∧ J (pre ++ [x]) W' ∧ KpB n₀ Bs W W') ∨ (e = .returned (.bool false) ∧ Jx (pre ++ [x]) W'))
    (W : World) (hBs : W.cell? ⟨Bs, 0, none⟩ = some (.slice (some ⟨b, off, none⟩) len cap)) (hc : ∀ j, j < len → W.cell? ⟨b, off + j, none⟩ = some (.int .i64 (toI (c j)))) (h0 : J [] W) :
    CallsIn F' n Try.prog 131 #[.func (.yield l) #[] #[], .pointer (some ⟨Bs, 0, none⟩)] W fun e W' => (∃ v, e = .returned v) ∧
      ((∃ ys, ys = uptoB (bwf c len) len ∧ J ys W') ∨ (∃ pre, (∃ k, k ≤ len ∧ pre = uptoB (bwf c len) k) ∧ Jx pre W')) := by
  refine callsIn_of_wp Try.func131 rfl hf ?_ hro
  simp only [Try.ntmps131, List.size_toArray, List.length_cons, List.length_nil, Nat.reduceAdd, Nat.reduceSub, Array.replicate_succ, Array.replicate_zero, List.push_toArray, List.append_toArray, List.nil_append, List.cons_append]
  gi_wp2
  gi_loopw [3] (fun i wr => ∃ k m : Nat, len = m + k ∧ i = .int .i64 ((m : Int) - 1) ∧ J (uptoB (bwf c len) k) wr ∧ KpB n₀ Bs W wr)
    (fun i _ => (intOf i + 1).toNat)
  case atStart => exact ⟨0, len, by omega, by go_num, h0, Below.refl _ _, rfl⟩
  case round =>
    obtain ⟨k, m, hk, rfl, hJs, hnx⟩ := hrel
    have hBs' := hnx.2.trans hBs
    cases m with
    | zero =>
      obtain rfl : len = k := by omega
      rw [show ((0 : Nat) : Int) - 1 = -1 from rfl]
      gi_wp2
      go_end0
      exact ⟨⟨_, rfl⟩, .inl ⟨_, rfl, hJs⟩⟩
    | succ m =>
      have e1 : (((m + 1 : Nat) : Int) - 1) = (m : Int) := by omega
      rw [e1]
      have hcx := (hnx.1.cell (p := ⟨b, off + m, none⟩) hb).trans (hc m (by omega))
      have hml : m < len := by omega
      have hmI : (m : Int) < (len : Int) := by omega
      have hmI0 : (0 : Int) ≤ (m : Int) := by omega
      have hbw : bwf c len k = (m, c m) := by unfold bwf; rw [show len - 1 - k = m from by omega]
      have HK := Lib.hid hk
      clear hk
      obtain ⟨fn, tmps, assign, body, hy, hR⟩ := hY _ (m, c m) wr hJs (by rw [uptoB_length]; have := HK.out; omega)
      dsimp only at hy
      have HBW := Lib.hid hbw
      clear hbw
      gi_wp2
      refine hR.mono ?_
      rintro e W3 (⟨rfl, hJ3, hk3⟩ | ⟨rfl, hJx3⟩)
      · gi_wp2
        go_roundw
        case rel => exact ⟨k + 1, m, by have := HK.out; omega, by go_num, by rw [uptoB_succ, HBW.out]; exact hJ3, kpB_t hnx hk3⟩
        case measure => simp [intOf]
      · gi_wp2
        refine bodyPost_ret (results_none rfl _ _ _) rfl ?_
        exact ⟨⟨_, rfl⟩, .inr ⟨_, ⟨k + 1, by have := HK.out; omega, by rw [uptoB_succ, HBW.out]⟩, hJx3⟩⟩
set_option maxHeartbeats 1000000 in
theorem bw_in (F' : Fence) (n : Nat) (hf : F'.fn 129) (hro : F'.round = none) (a : Option Addr) (len cap : Nat) (w : World) :
    CallsIn F' n Try.prog 129 #[.slice a len cap] w fun e w' => e = .returned (.func (.func 131) #[] #[.pointer (some ⟨w.heap.size, 0, none⟩)]) ∧ w' = w.alloc (.cells #[.slice a len cap] 35) := by
  refine callsIn_of_wp Try.func129 rfl hf ?_ hro
  simp only [Try.ntmps129, List.size_toArray, List.length_cons, List.length_nil, Nat.reduceAdd, Nat.reduceSub, Array.replicate_succ, Array.replicate_zero, List.push_toArray, List.append_toArray, List.nil_append, List.cons_append]
  gi_wp2
  go_ret
  exact ⟨rfl, rfl⟩
theorem bw_stops (F' : Fence) (n : Nat) (hf : F'.fn 131) (hro : F'.round = none) (hn : 1 ≤ n) (Bs n₀ b off len cap : Nat) (c : Nat → F) (hreach : len * 8 ≤ 140737488351232) (w : World) (hBs : Bs < w.heap.size) (hn₀ : n₀ ≤ w.heap.size) (hb : b < n₀)
    (hcs : w.cell? ⟨Bs, 0, none⟩ = some (.slice (some ⟨b, off, none⟩) len cap)) (hc : ∀ j, j < len → w.cell? ⟨b, off + j, none⟩ = some (.int .i64 (toI (c j)))) :
    SeqStopsK F' n Try.prog 131 #[.pointer (some ⟨Bs, 0, none⟩)] (fun x : Nat × F => #[Value.int .i64 (x.1 : Int), Value.int .i64 (toI x.2)]) (KpB n₀ Bs) (fun ys => ys = uptoB (bwf c len) len)
      (fun pre => ∃ k, k ≤ len ∧ pre = uptoB (bwf c len) k) len w := fun l J Jx W hW _ _ hY h0 =>
  bw1_in F' n hf hro hn l Bs n₀ b off len cap c hreach hb J Jx hY W ((hW.cell (p := ⟨Bs, 0, none⟩) hBs).trans hcs) (fun j hj => (hW.cell (p := ⟨b, off + j, none⟩) (by show b < _; omega)).trans (hc j hj)) h0
theorem hornerZ {s z x : F} : (toI s * toI z + toI x).tmod 55441 = toI (s * z + x) := by
  have h1 := toI_bd s
  have h2 := toI_bd z
  have h3 := toI_bd x
  have hp := prod_bd h1.1 h1.2 h2.1 h2.2
  exact (Int.tmod_eq_emod_of_nonneg (by omega)).trans (toI_of (by rw [ofI_add, ofI_mul, ofI_toI, ofI_toI, ofI_toI])).symm
set_option maxRecDepth 100000 in
set_option maxHeartbeats 2000000 in
theorem valueAt_in (F' : Fence) (n : Nat) (h3 : F'.fn 118) (h5 : F'.fn 129) (h7 : F'.fn 131) (hro : F'.round = none) (hn : 3 ≤ n) (b off len cap : Nat) (c : Nat → F) (z : F) (hreach : len * 8 ≤ 140737488351232) (w : World)
    (hc : ∀ j, j < len → w.cell? ⟨b, off + j, none⟩ = some (.int .i64 (toI (c j)))) (hb : b < w.heap.size) :
    CallsIn F' n Try.prog 118 #[.slice (some ⟨b, off, none⟩) len cap, .int .i64 (toI z)] w fun e W' => e = .returned (.int .i64 (toI (ev len c z))) ∧ Below w.heap.size w W' := by
  have h1 : 1 ≤ n := by omega
  refine callsIn_of_wp_marks Try.func118 rfl h3 ?_ hro
  simp only [Try.ntmps118, List.size_toArray, List.length_cons, List.length_nil, Nat.reduceAdd, Nat.reduceSub, Array.replicate_succ, Array.replicate_zero, List.push_toArray, List.append_toArray, List.nil_append, List.cons_append]
  gi_wp2_with (gi_at_call 129; refine (bw_in F' (n - 1) h5 hro _ _ _ _).mono ?_; rintro e w' ⟨rfl, rfl⟩)
  have bZ := Boxed.new w 2 (.int .i64 (toI z))
  have bS := Boxed.new (w.alloc (.cells #[.int .i64 (toI z)] 2)) 2 (.int .i64 0)
  have bN := Boxed.new ((w.alloc (.cells #[.int .i64 (toI z)] 2)).alloc (.cells #[.int .i64 0] 2)) 35 (.slice (some ⟨b, off, none⟩) len cap)
  rw [World.size_alloc] at bS
  rw [World.size_alloc, World.size_alloc] at bN
  have hB0 : Below w.heap.size w (((w.alloc (.cells #[.int .i64 (toI z)] 2)).alloc (.cells #[.int .i64 0] 2)).alloc (.cells #[.slice (some ⟨b, off, none⟩) len cap] 35)) := (((Below.refl _ w).alloc (Nat.le_refl _) _).alloc (by simp) _).alloc (by simp; omega) _
  have hzb := toI_bd z
  refine wpIn_rangeFunc_ownG hro h1 (gf := 131) (lb := #[.pointer (some ⟨w.heap.size + 1 + 1, 0, none⟩)]) rfl h7 (enters_of Try.func131 (by kernel_rfl) rfl)
    (bw_stops F' (n - 1) h7 hro (by omega) (w.heap.size + 1 + 1) w.heap.size b off len cap c hreach _ (by simp) (by simp; omega) hb bN.cell (fun j hj => (hB0.cell (p := ⟨b, off + j, none⟩) hb).trans (hc j hj))) kpB_t (kpB_b (by simp; omega) (by simp)) (Below.refl _ _) (fun _ => rfl)
    (fun pre W => (W.cell? ⟨w.heap.size + 1, 0, none⟩ = some (.int .i64 (toI (hornerL z pre))) ∧ W.frozen? ⟨w.heap.size + 1, 0, none⟩ = false ∧ W.cell? ⟨w.heap.size, 0, none⟩ = some (.int .i64 (toI z))) ∧ Below w.heap.size w W)
    (fun _ _ _ => False)
    (OwnFrom.and (Own.from (fun s A B row hs hg hr => ⟨cell_kept hs.1 hg hr, (frozen_kept hs.1 hg hr).trans hs.2.1, cell_kept hs.2.2 hg hr⟩) _) (ownFrom_below (Nat.le_refl _) (by simp; omega)))
    (fun _ _ _ _ _ hs _ _ => hs)
    ⟨⟨by show _ = some (Value.int .i64 (toI 0)); rw [Fus.toI_zero]; exact (bS.alloc _).cell, (bS.alloc _).frozen, ((bZ.alloc _).alloc _).cell⟩, hB0⟩
    (fun x => { tmps := #[.slice (some ⟨b, off, none⟩) len cap, .int .i64 (toI z), undef, .pointer (some ⟨w.heap.size, 0, none⟩), .int .i64 0, .pointer (some ⟨w.heap.size + 1, 0, none⟩), undef, .int .i64 (toI x.2), .slice (some ⟨b, off, none⟩) len cap, .func (.func 131) #[] #[.pointer (some ⟨w.heap.size + 1 + 1, 0, none⟩)], .int .i64 (x.1 : Int), .int .i64 (toI x.2), undef, undef, undef, undef, undef, undef, undef], defers := [] }) ?assign ?body ?done ?stop
  case assign =>
    intro l x W K hK
    gi_wp2
    exact hK
  case body =>
    rintro l pre x W ⟨⟨hc1, hf1, hc2⟩, hB⟩ _
    have hsb := toI_bd (hornerL z pre)
    have hxb := toI_bd x.2
    have hp := prod_bd hsb.1 hsb.2 hzb.1 hzb.2
    have hw1 : IntKind.i64.wrap (toI (hornerL z pre) * toI z) = toI (hornerL z pre) * toI z := IntWalk.i64_in _ (by omega)
    have hw2 : IntKind.i64.wrap (toI (hornerL z pre) * toI z + toI x.2) = toI (hornerL z pre) * toI z + toI x.2 := IntWalk.i64_in _ (by omega)
    have hw3 := @hornerZ (hornerL z pre) z x.2
    have HS := Lib.hid (hornerL_snoc z pre x)
    gi_wp2
    refine ⟨(KeepsOthers.setCell _ _ _).from _, ⟨(Below.refl w.heap.size W).setCell (p := ⟨w.heap.size + 1, 0, none⟩) (Nat.le_succ _) _, World.cell?_setCell_other _ _ _ _ (fun e => by have := congrArg Addr.block e; simp at this)⟩, ⟨?_, ?_, ?_⟩, hB.setCell (p := ⟨w.heap.size + 1, 0, none⟩) (Nat.le_succ _) _⟩
    · rw [HS.out]; exact World.cell?_setCell_same' _ _ _ (by rw [hc1]; rfl)
    · rw [World.frozen?_setCell]; exact hf1
    · rw [World.cell?_setCell_other _ _ _ _ (fun e => by have := congrArg Addr.block e; simp at this)]; exact hc2
  case done =>
    rintro D ys W hD rfl ⟨⟨hc1, _, _⟩, hB⟩ hK
    rw [hornerL_all c z len len (Nat.le_refl _), Nat.sub_self, hz_ev] at hc1
    gi_wp2
    refine ⟨by simp, .inl ⟨_, _, rfl, run_takeDeferred hK, ?_⟩⟩
    exact ⟨_, results_tmp rfl _ _ _, rfl, hB.trans (belowK_b (w := w) (Nat.le_refl _) W D _ _ (by simp at hD; omega) hK rfl rfl)⟩
  case stop =>
    rintro D c' pre W _ _ h _
    exact h.elim
theorem c_valueAt (v : Value) (m : Nat) (c : Nat → F) (z : F) (w : World) (hv : Ints w v (zl m c)) (h0 : 0 < m) (hm : m ≤ 1000000) :
    Calls Try.prog 118 #[v, .int .i64 (toI z)] w fun e w' => e = .returned (.int .i64 (toI (ev m c z))) ∧ Below w.heap.size w w' := by
  obtain ⟨a, cap, hveq, _, hc⟩ := hv
  rw [zl_length] at hveq
  subst hveq
  obtain ⟨b, off, rfl, h1⟩ := hc 0 _ (zl_at c h0)
  refine callsIn_wide.1 (valueAt_in Fence.wide 3 trivial trivial trivial rfl (by omega) b off m cap c z (by omega) w (fun j hj => ?_) (Ints.lt h1))
  obtain ⟨b', off', e, h2⟩ := hc j _ (zl_at c hj)
  cases e
  exact h2
end Go.Proofs.Ytmbcncmmgfnlmaa

/- Walks: eigenvalues by the program: quotients of polynomials, the search. -/
namespace Go.Proofs.Ytmbcncmmgfnlmaa
open Go.RowKit
theorem rts_zero (m : Nat) (c : Nat → Fus.F) : Fus.rts m c 0 = [] := rfl
attribute [local irreducible] Fus.rts Fus.fnat
open Fus (F Mx toI ofI toI_bd toI_of ofI_toI ofI_neg ofI_mul ofI_add hz hz_top hz_step hz_ev hz_sdiv sdiv ev rts rts_yes rts_no rts_length fnat fnat_toI fl hpoly)

/-- the coefficients of the quotient from place k on -/
def dvP (c : Nat → F) (r : F) (m k : Nat) : Nat → F := fun i => if k ≤ i then sdiv c r m i else 0
theorem dvP_start (c : Nat → F) (r : F) (m : Nat) : (vec (m - 1) fun _ => (0 : Int)) = zl (m - 1) (dvP c r m (m - 1)) := vec_congr fun i hi => by
  show (0 : Int) = toI (if m - 1 ≤ i then _ else 0)
  rw [if_neg (by omega), Fus.toI_zero]
theorem dvP_next (c : Nat → F) (r : F) (m k : Nat) : (zl (m - 1) (dvP c r m (k + 1))).set k (toI (sdiv c r m k)) = zl (m - 1) (dvP c r m k) := by
  rw [zl_set]
  refine zl_congr fun i _ => ?_
  unfold dvP
  by_cases e : i = k
  · rw [if_pos e, if_pos (by omega), e]
  · rw [if_neg e]
    by_cases e2 : k + 1 ≤ i
    · rw [if_pos e2, if_pos (by omega)]
    · rw [if_neg e2, if_neg (by omega)]
theorem dvP_end (c : Nat → F) (r : F) (m : Nat) : zl (m - 1) (dvP c r m 0) = zl (m - 1) (sdiv c r m) := zl_congr fun i _ => by unfold dvP; rw [if_pos (Nat.zero_le _)]
set_option maxRecDepth 100000 in
set_option maxHeartbeats 2000000 in
theorem c_divided (v : Value) (m : Nat) (c : Nat → F) (z : F) (w : World) (hv : Ints w v (zl m c)) (h2 : 2 ≤ m) (hm : m ≤ 1000) :
    Calls Try.prog 119 #[v, .int .i64 (toI z)] w (RetI (zl (m - 1) (sdiv c z m)) w) := by
  obtain ⟨a, cap, hveq, _, hc⟩ := hv
  rw [zl_length] at hveq
  subst hveq
  have HC := Lib.hid hc
  clear hc
  obtain ⟨N, rfl⟩ : ∃ N, m = N + 1 := ⟨m - 1, by omega⟩
  have hzb := toI_bd z
  obtain ⟨hz1, hz2⟩ := hzb
  have HS := Lib.hid (dvP_start c z (N + 1))
  have HX := Lib.hid (dvP_next c z (N + 1))
  have HE := Lib.hid (dvP_end c z (N + 1))
  rw [show N + 1 - 1 = N from rfl] at HS HX HE ⊢
  have hmk := run_make_row' (P := Try.prog) 35 2 (.int .i64 0) 8 Try.underlying35 info_int rfl .i64 .i64 N (by omega) (by omega)
  have HA := Lib.hid (below_alloc w (.cells (madeCells #[.int .i64 0] N) 2))
  have HO : Hid (OwnI (w.alloc (.cells (madeCells #[.int .i64 0] N) 2)) w.heap.size (.slice (some ⟨w.heap.size, 0, none⟩) N N) (zl N (dvP c z (N + 1) N))) := Lib.hid (by rw [← HS.out]; exact own_zeros w N (by omega))
  go_enter Try.func119, Try.ntmps119
  go_wp2_with fail
  go_loopw [6, 7] (fun s i wr => ∃ k : Nat, k ≤ N ∧ i = .int .i64 ((k : Int) - 1) ∧ s = .int .i64 (toI (hz c z (N + 1) (k + 1))) ∧ OwnI wr w.heap.size (.slice (some ⟨w.heap.size, 0, none⟩) N N) (zl N (dvP c z (N + 1) k)) ∧ Below w.heap.size w wr) (fun _ i _ => (intOf i + 1).toNat)
  case atStart => exact ⟨N, Nat.le_refl _, by go_num, by rw [hz_top c z (Nat.le_refl _), Fus.toI_zero], HO.out, HA.out⟩
  case round =>
    obtain ⟨k, hk, rfl, rfl, hown, hbel⟩ := hrel
    clear HO HA hmk
    cases k with
    | zero =>
      rw [HE.out] at hown
      have HO := Lib.hid hown
      have HB := Lib.hid hbel
      clear hown hbel
      rw [show ((0 : Nat) : Int) - 1 = -1 from rfl]
      go_wp2_with fail
      go_ret
      exact ⟨_, rfl, HO.out, HB.out⟩
    | succ k =>
      have e1 : (((k + 1 : Nat) : Int) - 1) = (k : Int) := by omega
      rw [e1]
      obtain ⟨b, off, rfl, hcell⟩ := HC.out (k + 1) _ (zl_at c (by omega))
      have g1 := bcell hbel hcell
      have hold := Own.cell hown (i := k) (zl_get (by omega))
      have hfr := Own.frozen hown k
      obtain ⟨S, hS⟩ : ∃ S, hz c z (N + 1) (k + 1 + 1) = S := ⟨_, rfl⟩
      obtain ⟨S', hS'⟩ : ∃ S', hz c z (N + 1) (k + 1) = S' := ⟨_, rfl⟩
      have hst := hz_step c z (m := N + 1) (k := k + 1) (by omega)
      rw [hS, hS'] at hst
      rw [hS]
      have HS' := Lib.hid hS'
      have HNX : Hid ((zl N (dvP c z (N + 1) (k + 1))).set k (toI S') = zl N (dvP c z (N + 1) k)) := Lib.hid (by
        have := HX.out k; rw [← hz_sdiv, hS'] at this; exact this)
      have hsb := toI_bd S
      have hcb := toI_bd (c (k + 1))
      have hp := prod_bd hsb.1 hsb.2 hz1 hz2
      have hw1 : IntKind.i64.wrap (toI S * toI z) = toI S * toI z := IntWalk.i64_in _ (by omega)
      have hw2 : IntKind.i64.wrap (toI S * toI z + toI (c (k + 1))) = toI S * toI z + toI (c (k + 1)) := IntWalk.i64_in _ (by omega)
      have hw3 : (toI S * toI z + toI (c (k + 1))).tmod 55441 = toI S' := by rw [hst]; exact hornerZ
      have hkI : (k : Int) < (N : Int) := by omega
      have hkI0 : (0 : Int) ≤ (k : Int) := by omega
      have hkI1 : (k : Int) + 1 < (N : Int) + 1 := by omega
      have HU : Hid (OwnI (wr.setCell ⟨w.heap.size, k, none⟩ (.int .i64 (toI S'))) w.heap.size (.slice (some ⟨w.heap.size, 0, none⟩) N N) (zl N (dvP c z (N + 1) k))) := Lib.hid (by
        rw [← HNX.out]
        have := Own.store hown k (vi (toI S'))
        rw [← List.map_set] at this
        exact this)
      have HUB := Lib.hid (below_set (i := k) (u := .int .i64 (toI S')) hbel (Nat.le_refl w.heap.size))
      clear hown hbel hcell hS hS' hst hsb hcb hp HNX
      go_wp2_with fail
      go_roundw
      case rel => exact ⟨k, by omega, by go_num, by rw [HS'.out], HU.out, HUB.out⟩
      case measure => simp [intOf]
/-- the length that a slice value tells -/
def lenOf (v : Value) : Nat := match v with | .slice _ n _ => n | _ => 0
theorem lenOf_slice (p : Option Addr) (n c : Nat) : lenOf (.slice p n c) = n := rfl
set_option maxRecDepth 100000 in
set_option maxHeartbeats 4000000 in
theorem c_eigenvalues (v : Value) (n : Nat) (f : Mx) (w : World) (hv : IntRows w v (tabF n n f)) (hn1 : 0 < n) (hn2 : n ≤ 500) :
    Calls Try.prog 81 #[v] w (RetI (rts (n + 1) (outP n f n) 55441) w) := by
  have HV := Lib.hid hv
  clear hv
  have HLEAD : Hid (outP n f n n = 1) := Lib.hid (by unfold outP; rw [if_pos (by omega), Nat.sub_self]; rfl)
  generalize hc0 : outP n f n = c0 at *
  have HC0 := Lib.hid hc0
  clear hc0
  go_enter Try.func81, Try.ntmps81
  go_wp2_with fail
  refine (c_characteristic v n f _ (HV.out.keep (below_alloc _ _)) hn1 hn2).mono ?_
  rintro e w1 ⟨v1, rfl, ho1, hb1⟩
  rw [HC0.out] at ho1
  have HP1 := Lib.hid ho1
  have HE1 : Hid (OwnI w1 w.heap.size (.slice (some ⟨w.heap.size, 0, none⟩) 0 0) []) := Lib.hid ((own_empty w 2 w.heap.size (Nat.le_refl _)).keep hb1)
  have HB1 : Hid (Below w.heap.size w w1) := Lib.hid ((below_alloc w _).trans (hb1.mono (by simp)))
  have hz1 : w.heap.size < w1.heap.size := by have := hb1.size; simp at this; omega
  clear ho1 hb1
  go_wp2_with fail
  go_loopw [3, 4, 5] (fun s p z wr => ∃ (k m : Nat) (c : Nat → F), (k : Int) ≤ 55441 ∧ z = .int .i64 k ∧ Hid (Fus.Left (n + 1) c0 m c k) ∧ OwnI wr w.heap.size s (rts (n + 1) c0 k) ∧ OwnI wr w.heap.size p (zl m c) ∧ (∀ g, p.ownBlock = some g → s.ownBlock ≠ some g) ∧ Below w.heap.size w wr) (fun _ _ z _ => (55441 - intOf z).toNat)
  case atStart => exact ⟨0, n + 1, c0, by omega, rfl, Fus.Left.start (by omega) (show c0 (n + 1 - 1) = 1 from HLEAD.out), by rw [rts_zero]; exact HE1.out, HP1.out.mono (by simp), fun g h1 h2 => by have := (Own.lt HP1.out h1).1; simp [Value.ownBlock] at h2; simp at this; omega, HB1.out⟩
  case round =>
    obtain ⟨k, m, c, hk, rfl, HL, hs, hp, hap, hbel⟩ := hrel
    clear HP1 HE1 HB1 hz1
    have hm0 := HL.out.pos
    have hmn := HL.out.le
    have hsz := hbel.size
    obtain ⟨gp, cp, rfl, hgp1, hgp2⟩ := hp.shapeN (zl_length _ _) hm0
    by_cases hcase : (k : Int) < 55441 ∧ 1 < m
    · obtain ⟨hk1, hm1⟩ := hcase
      have HKE : Hid (toI (fnat k) = (k : Int)) := Lib.hid (fnat_toI hk1)
      have HSAME : Hid (ev (n + 1) c0 (fnat k) = 0 ↔ ev m c (fnat k) = 0) := Lib.hid (HL.out.same k (Nat.le_refl _) hk1)
      have HPI : Hid (Ints wr (.slice (some ⟨gp, 0, none⟩) m cp) (zl m c)) := Lib.hid (OwnI.ints hp (by rw [zl_length]; omega))
      have hmI : (1 : Int) < (m : Int) := by omega
      have hk0 : (0 : Int) ≤ (k : Int) := by omega
      have HP := Lib.hid hp
      have HS := Lib.hid hs
      have HB := Lib.hid hbel
      have HAP := Lib.hid hap
      clear hp hs hbel hap
      go_wp2_with fail
      have hcv := c_valueAt (.slice (some ⟨gp, 0, none⟩) m cp) m c (fnat k) wr HPI.out hm0 (by omega)
      rw [HKE.out] at hcv
      refine hcv.mono ?_
      rintro e w2 ⟨rfl, hb2⟩
      have HP2 := Lib.hid (HP.out.keep hb2)
      have HS2 := Lib.hid (HS.out.keep hb2)
      have HB2 := Lib.hid (HB.out.trans (hb2.mono hsz))
      have hz2 := hb2.size
      clear hcv hb2 HP HS HB HPI
      by_cases hev : ev m c (fnat k) = 0
      · rw [hev, Fus.toI_zero]
        have HY : Hid (rts (n + 1) c0 (k + 1) = rts (n + 1) c0 k ++ [(k : Int)]) := Lib.hid (rts_yes (HSAME.out.2 hev))
        have hlen := rts_length (n + 1) c0 k
        clear hev HSAME
        go_wp2_with (at_builtin; refine wp_pushI3 HS2.out rfl _ _ rfl rfl rfl (by first | with_reducible rfl | simp) (by omega) (by omega) ?_; intro v3 w3 ho3 hb3 hk3)
        rw [← HY.out] at ho3
        have HP3 : Hid (OwnI w3 w.heap.size (.slice (some ⟨gp, 0, none⟩) m cp) (zl m c)) := Lib.hid (OwnI.stay HP2.out (fun g hg => (hk3 g (Own.lt HP2.out hg).2 (HAP.out g hg)).1))
        have HAP3 : Hid (∀ g, (Value.slice (some ⟨gp, 0, none⟩) m cp).ownBlock = some g → v3.ownBlock ≠ some g) := Lib.hid (fun g hg => (hk3 g (Own.lt HP2.out hg).2 (HAP.out g hg)).2)
        obtain ⟨ps, ns, cs, rfl⟩ := ho3.slice
        have HS3 := Lib.hid ho3
        have HB3 := Lib.hid (HB2.out.trans hb3)
        have HL3 := Lib.hid HL.out.next
        clear ho3 hb3 hk3 HP2 HS2 HB2 HAP hz2 hlen HL
        go_wp2_with fail
        go_loopw [4] (fun p wr => ∃ (m : Nat) (c : Nat → F), Hid (Fus.Left (n + 1) c0 m c (k + 1)) ∧ OwnI wr w.heap.size (.slice ps ns cs) (rts (n + 1) c0 (k + 1)) ∧ OwnI wr w.heap.size p (zl m c) ∧ (∀ g, p.ownBlock = some g → (Value.slice ps ns cs).ownBlock ≠ some g) ∧ Below w.heap.size w wr) (fun p _ => lenOf p)
        case atStart => exact ⟨m, c, HL3.out, HS3.out, HP3.out, HAP3.out, HB3.out⟩
        case round =>
          obtain ⟨m, c, HL, hs, hp, hap, hbel⟩ := hrel
          clear HL3 HS3 HP3 HAP3 HB3
          have hm0 := HL.out.pos
          have hmn := HL.out.le
          have hsz := hbel.size
          obtain ⟨gp, cp, rfl, hgp1, hgp2⟩ := hp.shapeN (zl_length _ _) hm0
          by_cases hm1 : 1 < m
          · have HPI : Hid (Ints wr (.slice (some ⟨gp, 0, none⟩) m cp) (zl m c)) := Lib.hid (OwnI.ints hp (by rw [zl_length]; omega))
            have hmI : (1 : Int) < (m : Int) := by omega
            have HP := Lib.hid hp
            have HS := Lib.hid hs
            have HB := Lib.hid hbel
            have HAP := Lib.hid hap
            clear hp hs hbel hap
            go_wp2_with fail
            have hcv := c_valueAt (.slice (some ⟨gp, 0, none⟩) m cp) m c (fnat k) wr HPI.out hm0 (by omega)
            rw [HKE.out] at hcv
            refine hcv.mono ?_
            rintro e w2 ⟨rfl, hb2⟩
            have HP2 := Lib.hid (HP.out.keep hb2)
            have HS2 := Lib.hid (HS.out.keep hb2)
            have HB2 := Lib.hid (HB.out.trans (hb2.mono hsz))
            have HPI2 := Lib.hid (HPI.out.keep hb2)
            have hz2 := hb2.size
            clear hcv hb2 HP HS HB HPI
            by_cases hev : ev m c (fnat k) = 0
            · have HL4 := Lib.hid (HL.out.div hm1 hk1 hev)
              rw [hev, Fus.toI_zero]
              clear hev
              go_wp2_with fail
              have hcd := c_divided (.slice (some ⟨gp, 0, none⟩) m cp) m c (fnat k) w2 HPI2.out hm1 (by omega)
              rw [HKE.out] at hcd
              refine hcd.mono ?_
              rintro e w4 ⟨v4, rfl, ho4, hb4⟩
              obtain ⟨g4, c4, rfl, hg41, hg42⟩ := ho4.shapeN (zl_length _ _) (by omega)
              have HP4 := Lib.hid (ho4.mono (Nat.le_trans hsz hz2))
              have HS4 := Lib.hid (HS2.out.keep hb4)
              have HB4 := Lib.hid (HB2.out.trans (hb4.mono (Nat.le_trans hsz hz2)))
              have HAP4 : Hid (∀ g, (Value.slice (some ⟨g4, 0, none⟩) (m - 1) c4).ownBlock = some g → (Value.slice ps ns cs).ownBlock ≠ some g) := Lib.hid (fun g h1 h2 => by
                have h3 := (Own.lt HS2.out h2).2
                simp [Value.ownBlock] at h1
                omega)
              clear hcd ho4 hb4
              go_wp2_with fail
              go_roundw
              case rel => exact ⟨m - 1, _, HL4.out, HS4.out, HP4.out, HAP4.out, HB4.out⟩
              case measure => simp [lenOf_slice]; omega
            · have hevB : (toI (ev m c (fnat k)) == 0) = false := by simpa using fun e => hev (Fus.toI_eq_zero.1 e)
              clear hev
              go_wp2_with fail
              go_roundw
              case rel => exact ⟨k + 1, m, c, by omega, by go_num, HL.out, HS2.out, HP2.out, HAP.out, HB2.out⟩
              case measure => simp [intOf]; omega
          · have hmI : ¬ (1 : Int) < (m : Int) := by omega
            have HP := Lib.hid hp
            have HS := Lib.hid hs
            have HB := Lib.hid hbel
            have HAP := Lib.hid hap
            clear hp hs hbel hap
            go_wp2_with fail
            go_roundw
            case rel => exact ⟨k + 1, m, c, by omega, by go_num, HL.out, HS.out, HP.out, HAP.out, HB.out⟩
            case measure => simp [intOf]; omega
      · have HN : Hid (rts (n + 1) c0 (k + 1) = rts (n + 1) c0 k) := Lib.hid (rts_no (fun e => hev (HSAME.out.1 e)))
        have hevB : (toI (ev m c (fnat k)) != 0) = true := by rw [bne_iff_ne]; exact fun e => hev (Fus.toI_eq_zero.1 e)
        clear hev HSAME
        go_wp2_with fail
        go_roundw
        case rel => exact ⟨k + 1, m, c, by omega, by go_num, HL.out.next, by rw [HN.out]; exact HS2.out, HP2.out, HAP.out, HB2.out⟩
        case measure => simp [intOf]; omega
    · have HEQ : Hid (rts (n + 1) c0 55441 = rts (n + 1) c0 k) := Lib.hid (by
        by_cases hm1 : m = 1
        · exact HL.out.one hm1 (by omega) (by omega)
        · rw [show k = 55441 from by omega])
      have HS := Lib.hid hs
      have HB := Lib.hid hbel
      clear hs hp hap hbel
      by_cases hk1 : (k : Int) < 55441
      · have hmI : ¬ (1 : Int) < (m : Int) := by omega
        clear hcase
        go_wp2_with fail
        go_ret
        exact ⟨_, rfl, by rw [HEQ.out]; exact HS.out, HB.out⟩
      · clear hcase
        go_wp2_with fail
        go_ret
        exact ⟨_, rfl, by rw [HEQ.out]; exact HS.out, HB.out⟩
end Go.Proofs.Ytmbcncmmgfnlmaa
