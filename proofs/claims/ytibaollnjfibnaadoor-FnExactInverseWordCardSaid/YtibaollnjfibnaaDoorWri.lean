/- Words: the program's inverse, which ranges over slices.Backward. -/
import Derived.Test.YtibaollnjfibnaaDoorWrd
import Derived.RangeFuncBox
import Derived.RangeFuncLeaves
import Derived.RangeFuncCalls
import Derived.Shelf.Abstract
import Derived.OwnWalkIn
import Derived.TacticsInMore
import Derived.LoopNIn
import Derived.LoopIn
import Derived.BigRegionIn
import Derived.Shelf.RegionOpen
import Derived.Maps.AppendAt
namespace Go.Proofs.YtibaollnjfibnaaDoor
open Go.RowKit Go.Shelf Wrd
attribute [local go_sem] Oper.semAt_some
set_option linter.unusedVariables false
set_option linter.unusedSimpArgs false

/-- a letter -/
abbrev LB := {b : UInt8 // isL b = true}
/-- what has come when k rounds are over -/
def uptoB {α : Type} (f : Nat → α) (k : Nat) : List α := (List.range k).map f
theorem uptoB_succ {α : Type} (f : Nat → α) (k : Nat) : uptoB f (k + 1) = uptoB f k ++ [f k] := by simp [uptoB, List.range_succ]
theorem uptoB_length {α : Type} (f : Nat → α) (k : Nat) : (uptoB f k).length = k := by simp [uptoB]
/-- the j-th pair from above -/
def bwn (c : Nat → LB) (m : Nat) (j : Nat) : Nat × LB := (m - 1 - j, c (m - 1 - j))
/-- what a round keeps: what lay below n₀, the box Bs, the row R -/
def KpW (n₀ Bs R : Nat) (A B : World) : Prop := Below n₀ A B ∧ B.heap[Bs]? = A.heap[Bs]? ∧ B.heap[R]? = A.heap[R]?
theorem kpW_t {n₀ Bs R : Nat} {A B C : World} (h1 : KpW n₀ Bs R A B) (h2 : KpW n₀ Bs R B C) : KpW n₀ Bs R A C := ⟨h1.1.trans h2.1, h2.2.1.trans h1.2.1, h2.2.2.trans h1.2.2⟩
theorem kpW_b {n₀ Bs R : Nat} {w : World} (hn : n₀ ≤ w.heap.size) (hs : Bs < w.heap.size) (hr : R < w.heap.size) (W : World) (l : Nat) (o o' : Obj) (hl : w.heap.size ≤ l) (h : W.heap[l]? = some o) (h1 : o.isCells = false) (h2 : o.isWalk = false) : KpW n₀ Bs R W (W.putObj l o') :=
  ⟨belowK_b hn W l o o' hl h h1 h2, World.putObj_heap_other (by omega), World.putObj_heap_other (by omega)⟩
theorem cell_blk {A B : World} {g i : Nat} {v : Value} (h : B.heap[g]? = A.heap[g]?) (hc : A.cell? ⟨g, i, none⟩ = some v) : B.cell? ⟨g, i, none⟩ = some v := by
  rw [← hc]; simp only [World.cell?, h]
set_option maxRecDepth 100000 in
set_option maxHeartbeats 2000000 in
/-- the function value that slices.Backward hands back: for every loop body that keeps the row and the box -/
theorem bw1_in (F' : Fence) (n : Nat) (hf : F'.fn 25) (hro : F'.round = none) (hn : 1 ≤ n) (l Bs n₀ R len cap : Nat) (c : Nat → LB) (hreach : len ≤ 1000000) (J Jx : List (Nat × LB) → World → Prop)
    (hY : ∀ pre x W, J pre W → pre.length < len → YieldAt F' (n - 1) Tryd.prog l #[.int .i64 (x.1 : Int), .int .u8 (x.2.1.toNat : Int)] W fun e W' =>
      (e = .returned (.bool true) ∧ J (pre ++ [x]) W' ∧ KpW n₀ Bs R W W') ∨ (e = .returned (.bool false) ∧ Jx (pre ++ [x]) W'))
    (W : World) (hBs : W.cell? ⟨Bs, 0, none⟩ = some (.slice (some ⟨R, 0, none⟩) len cap)) (hc : ∀ j, j < len → W.cell? ⟨R, j, none⟩ = some (.int .u8 ((c j).1.toNat : Int))) (h0 : J [] W) :
    CallsIn F' n Tryd.prog 25 #[.func (.yield l) #[] #[], .pointer (some ⟨Bs, 0, none⟩)] W fun e W' => (∃ v, e = .returned v) ∧
      ((∃ ys, ys = uptoB (bwn c len) len ∧ J ys W') ∨ (∃ pre, (∃ k, k ≤ len ∧ pre = uptoB (bwn c len) k) ∧ Jx pre W')) := by
  refine callsIn_of_wp Tryd.func25 rfl hf ?_ hro
  simp only [Tryd.ntmps25, List.size_toArray, List.length_cons, List.length_nil, Nat.reduceAdd, Nat.reduceSub, Array.replicate_succ, Array.replicate_zero, List.push_toArray, List.append_toArray, List.nil_append, List.cons_append]
  gi_wp2
  gi_loopw [3] (fun i wr => ∃ k m : Nat, len = m + k ∧ i = .int .i64 ((m : Int) - 1) ∧ J (uptoB (bwn c len) k) wr ∧ KpW n₀ Bs R W wr)
    (fun i _ => (intOf i + 1).toNat)
  case atStart => exact ⟨0, len, by omega, by go_num, h0, Below.refl _ _, rfl, rfl⟩
  case round =>
    obtain ⟨k, m, hk, rfl, hJs, hnx⟩ := hrel
    have hBs' := cell_blk hnx.2.1 hBs
    cases m with
    | zero =>
      obtain rfl : len = k := by omega
      rw [show ((0 : Nat) : Int) - 1 = -1 from rfl]
      gi_wp2
      go_end0
      exact ⟨⟨_, rfl⟩, .inl ⟨_, rfl, hJs⟩⟩
    | succ m =>
      have e1 : (((m + 1 : Nat) : Int) - 1) = (m : Int) := by omega
      rw [e1]
      have hcx := cell_blk hnx.2.2 (hc m (by omega))
      have hml : m < len := by omega
      have hmI : (m : Int) < (len : Int) := by omega
      have hmI0 : (0 : Int) ≤ (m : Int) := by omega
      have hbw : bwn c len k = (m, c m) := by unfold bwn; rw [show len - 1 - k = m from by omega]
      have HK := Lib.hid hk
      clear hk
      obtain ⟨fn, tmps, assign, body, hy, hR⟩ := hY _ (m, c m) wr hJs (by rw [uptoB_length]; have := HK.out; omega)
      dsimp only at hy
      have HBW := Lib.hid hbw
      clear hbw
      gi_wp2
      refine hR.mono ?_
      rintro e W3 (⟨rfl, hJ3, hk3⟩ | ⟨rfl, hJx3⟩)
      · gi_wp2
        go_roundw
        case rel => exact ⟨k + 1, m, by have := HK.out; omega, by go_num, by rw [uptoB_succ, HBW.out]; exact hJ3, kpW_t hnx hk3⟩
        case measure => simp [intOf]
      · gi_wp2
        refine bodyPost_ret (results_none rfl _ _ _) rfl ?_
        exact ⟨⟨_, rfl⟩, .inr ⟨_, ⟨k + 1, by have := HK.out; omega, by rw [uptoB_succ, HBW.out]⟩, hJx3⟩⟩
set_option maxHeartbeats 1000000 in
theorem bw_in (F' : Fence) (n : Nat) (hf : F'.fn 16) (hro : F'.round = none) (a : Option Addr) (len cap : Nat) (w : World) :
    CallsIn F' n Tryd.prog 16 #[.slice a len cap] w fun e w' => e = .returned (.func (.func 25) #[] #[.pointer (some ⟨w.heap.size, 0, none⟩)]) ∧ w' = w.alloc (.cells #[.slice a len cap] 26) := by
  refine callsIn_of_wp Tryd.func16 rfl hf ?_ hro
  simp only [Tryd.ntmps16, List.size_toArray, List.length_cons, List.length_nil, Nat.reduceAdd, Nat.reduceSub, Array.replicate_succ, Array.replicate_zero, List.push_toArray, List.append_toArray, List.nil_append, List.cons_append]
  gi_wp2
  go_ret
  exact ⟨rfl, rfl⟩
theorem bw_stops (F' : Fence) (n : Nat) (hf : F'.fn 25) (hro : F'.round = none) (hn : 1 ≤ n) (Bs n₀ R len cap : Nat) (c : Nat → LB) (hreach : len ≤ 1000000) (w : World) (hBs : Bs < w.heap.size) (hR : R < w.heap.size)
    (hcs : w.cell? ⟨Bs, 0, none⟩ = some (.slice (some ⟨R, 0, none⟩) len cap)) (hc : ∀ j, j < len → w.cell? ⟨R, j, none⟩ = some (.int .u8 ((c j).1.toNat : Int))) :
    SeqStopsK F' n Tryd.prog 25 #[.pointer (some ⟨Bs, 0, none⟩)] (fun x : Nat × LB => #[Value.int .i64 (x.1 : Int), Value.int .u8 (x.2.1.toNat : Int)]) (KpW n₀ Bs R) (fun ys => ys = uptoB (bwn c len) len)
      (fun pre => ∃ k, k ≤ len ∧ pre = uptoB (bwn c len) k) len w := fun l J Jx W hW _ _ hY h0 =>
  bw1_in F' n hf hro hn l Bs n₀ R len cap c hreach J Jx hY W ((hW.cell (p := ⟨Bs, 0, none⟩) hBs).trans hcs) (fun j hj => (hW.cell (p := ⟨R, j, none⟩) hR).trans (hc j hj)) h0
theorem cell_newW (w : World) (v : Value) (T : TypeId) {g : Nat} (h : g = w.heap.size) : (w.alloc (.cells #[v] T)).cell? ⟨g, 0, none⟩ = some v := by subst h; simp
theorem frozen_newW (w : World) (v : Value) (T : TypeId) {g : Nat} (h : g = w.heap.size) : (w.alloc (.cells #[v] T)).frozen? ⟨g, 0, none⟩ = false := by subst h; simp
/-- a region inside a fence, a round of one too: what every state on the way keeps -/
theorem wpAnyIn_inv {F : Fence} {n : Nat} {P : Program} {md : Region.Mode} {ops : Array Oper} {Q : Exit → Act → World → Prop} (Inv : Array Bool → Act → World → Prop) (μ : Array Bool → Nat)
    (Z : ∀ listed a w, Inv listed a w → Region.ready md ops listed = [] → Q .normal a w)
    (E : ∀ listed a w, Inv listed a w → μ listed = 0 → Region.ready md ops listed = [])
    (S : ∀ listed a w, Inv listed a w → ∀ i o, ops[i]? = some o → listed.getD i true = false → (∀ e ∈ o.after, Region.binds md e = true → listed.getD e.on false = true) →
      ∃ a' w', Inv (listed.setIfInBounds i true) a' w' ∧ μ (listed.setIfInBounds i true) < μ listed ∧ ∀ K : Act → World → Prop, K a' w' → wpOpIn F n P ops Q i K a w) :
    ∀ fuel listed a w, Inv listed a w → μ listed ≤ fuel → wpAnyIn F n P md ops Q fuel listed a w := by
  intro fuel
  induction fuel with
  | zero => exact fun listed a w h hm => ⟨E listed a w h (by omega), Z listed a w h (E listed a w h (by omega))⟩
  | succ fuel ih =>
    intro listed a w h hm
    refine ⟨Z listed a w h, fun i hi => ?_⟩
    obtain ⟨h1, o, ho, h2⟩ := mem_ready.1 hi
    obtain ⟨a', w', q1, q2, q3⟩ := S listed a w h i o ho h1 h2
    exact q3 _ (ih _ _ _ q1 (by omega))
theorem wpOpIn_some {F : Fence} {n : Nat} {P : Program} {ops : Array Oper} {Q : Exit → Act → World → Prop} {i : Nat} {o : Oper} {K : Act → World → Prop} {a : Act} {w : World} (ho : ops[i]? = some o)
    (h : if Region.wanted o (yielded ops a.tmps) = true then o.wpIn F n P a w K Q else (∀ f, o.about P w a.eval = some f → F.fn f) ∧ K (a.put o.dst undef) w) : wpOpIn F n P ops Q i K a w := by
  unfold wpOpIn
  simp only [ho]
  exact h
theorem below_drewL {B : Nat} {w w' : World} (h : Below B w.drew w') : Below B w w' := (below_toDrewN 1 B w).trans h
/-- append as an operation within a round -/
theorem opIn_append {l n : Nat} {o : Oper} {a : Act} {w w' : World} {K : Act → World → Prop} {Q : Exit → Act → World → Prop} {t : TypeId} {s x : Operand} {v u v' : Value}
    (ho : o.op = .call { callee := .builtin .append, args := #[s, x], argTypes := #[t, t] }) (hs : a.eval s = v) (hx : a.eval x = u)
    (hr : (Builtin.append_ #[t, t] o.type #[v, u]).run Tryd.prog w = .ok v' w') (hK : K (a.put o.dst v') w') : o.wpIn (Fence.wide.inRound l) n Tryd.prog a w K Q := by
  refine ⟨fun _ _ => trivial, ?_⟩
  rw [show (Fence.wide.inRound l).round = some l from rfl, Oper.semAt_some _ _ _ (fun c h => by rw [ho] at h; cases h)]
  unfold execOp
  simp only [ho, resolve, invoke, builtin, Sem.run_bind, Sem.run_pure, Result.andThen_ok, List.map_toArray, List.map_cons, List.map_nil, hs, hx, hr]
  exact hK
/-- append of one byte, as a run -/
theorem run_pushB {w : World} {B : Nat} {v : Value} {y : UInt8} {l : List UInt8} (hown : OwnB w B v l) (hB : B ≤ w.heap.size) (hlen : l.length ≤ 1000000) :
    ∃ v' w', (∀ ty, (Builtin.append_ #[26, 26] ty #[v, .slice (some ⟨w.heap.size, 0, none⟩) 1 1]).run Tryd.prog (w.alloc (.cells #[vb y] 5)) = .ok v' w') ∧ OwnB w' B v' (l ++ [y]) ∧ Below B w w' ∧ (∀ g, g < w.heap.size → v.ownBlock ≠ some g → w'.heap[g]? = w.heap[g]? ∧ v'.ownBlock ≠ some g) := by
  obtain ⟨i, hi, hz0, hz1', hz2⟩ := infoB info_u8
  have key := fun ty => run_append_own_at (P := Tryd.prog) (w.alloc (.cells #[vb y] 5)) B 26 ty 5 i (.int .u8 0) 1 1 Tryd.underlying26 hi hz0 hz1' hz2 rfl (by omega) v (l.map vb).length (l.map vb) (World.ownsRow.alloc hown _) ⟨w.heap.size, 0, none⟩ 1 1 [vb y] rfl
    (fun j u' hj => by
      cases j with
      | zero => simp at hj; subst hj; simp [Addr.add]
      | succ j => simp at hj)
    (fun u' hu' => by simp at hu'; subst hu'; rfl)
    (by rw [List.length_map]; unfold maxLen; omega) (by rw [List.length_map]; omega) (by simp; omega)
  obtain ⟨v', w', hr, g1, g2, _, hat⟩ := key 26
  have hob : OwnB w' B v' (l ++ [y]) := by
    unfold OwnB Own
    rw [List.map_append, List.length_append]
    exact g1
  refine ⟨v', w', fun ty => hr, hob, ⟨g2.os, g2.tape, g2.output, Nat.le_trans (by simp) g2.size, fun k hk => ?_⟩, (fun g hg hne => ⟨?_, ?_⟩)⟩
  · have h1 := g2.block k (by simp; omega) (fun e => by have := (hown.lt e.symm).1; omega)
    rw [h1]
    exact Below.heap_alloc _ _ _ (by omega)
  · rw [g2.block g (by simp; omega) (fun e => hne e.symm)]
    exact Below.heap_alloc _ _ _ hg
  · rcases hat with e | e
    · rw [e]; exact hne
    · rw [e]; simp; omega
/-- what holds between the rounds: the list's box at z, the row R, the box Bs -/
def InvI (w : World) (z R Bs n : Nat) (pre : List (Nat × LB)) (W : World) : Prop :=
  ∃ v, W.cell? ⟨z, 0, none⟩ = some v ∧ W.frozen? ⟨z, 0, none⟩ = false ∧ OwnB W w.heap.size v (pre.map fun x => oth x.2.1) ∧ v.ownBlock ≠ some z ∧ v.ownBlock ≠ some R ∧ v.ownBlock ≠ some Bs ∧ n ≤ W.heap.size ∧ Below w.heap.size w W
theorem InvI.from {w : World} {z R Bs n B : Nat} (hB : w.heap.size ≤ B) : OwnFrom B (InvI w z R Bs n) := by
  intro s W W' row ⟨v, h1, h2, h3, h4, h5, h6, h7, h8⟩ hg hr
  refine ⟨v, cell_kept h1 hg (fun r e => (hr r e).2), (frozen_kept h1 hg (fun r e => (hr r e).2)).trans h2, h3.grown hg ?_, h4, h5, h6, Nat.le_trans h7 hg.size, ownFrom_below (β := Unit) (Nat.le_refl _) hB () W W' row h8 hg hr⟩
  cases hv : v.ownBlock with
  | none => exact .inl rfl
  | some g =>
    refine .inr (fun e => ?_)
    obtain ⟨_, o, ho, hn⟩ := hr g e.symm
    rcases h3.2 with ⟨rfl, _⟩ | ⟨g', cap, cur, rfl, _, hh, _⟩
    · cases hv
    · cases hv
      rw [hh] at ho
      cases ho
      cases hn
/-- a text's letters, from a place on -/
def letAt (l : List UInt8) (j : Nat) : LB := if h : isL (l.getD j 115) = true then ⟨l.getD j 115, h⟩ else ⟨115, by decide⟩
theorem letAt_of {l : List UInt8} {j : Nat} {b : UInt8} (h : l[j]? = some b) (hb : isL b = true) : (letAt l j).1 = b := by
  have e : l.getD j 115 = b := by rw [List.getD_eq_getElem?_getD, h]; rfl
  unfold letAt
  rw [dif_pos (by rw [e]; exact hb)]
  exact e
theorem inv_all {l : List UInt8} (hL : ∀ (j : Nat) b, l[j]? = some b → isL b = true) : (uptoB (bwn (letAt l) l.length) l.length).map (fun x => oth x.2.1) = invL l := by
  unfold invL uptoB
  apply List.ext_getElem?
  intro j
  by_cases hj : j < l.length
  · have h1 : l[l.length - 1 - j]? = some (l[l.length - 1 - j]'(by omega)) := by simp
    have h2 := letAt_of h1 (hL _ _ h1)
    rw [List.getElem?_map, List.getElem?_map, List.getElem?_range hj, List.getElem?_map, List.getElem?_reverse hj, h1]
    simp only [Option.map_some, bwn, h2]
  · rw [List.getElem?_eq_none (by simp; omega), List.getElem?_eq_none (by simp; omega)]
attribute [irreducible] letAt
set_option maxRecDepth 100000 in
set_option maxHeartbeats 4000000 in
theorem c_InverseWord (s : ByteArray) (w : World) (hs : s.size ≤ maxLen) :
    Calls Tryd.prog 11 #[.string s] w fun e w' => e = .returned (twoT (invW s)) ∧ Below w.heap.size w w' := by
  cases hw : wordB s
  · go_enter Tryd.func11, Tryd.ntmps11
    go_wp2_with fail
    refine (c_IsWord s _ hs).mono ?_
    rw [hw]
    rintro e w1 ⟨rfl, hb⟩
    go_wp2_with fail
    go_ret2
    exact ⟨by unfold invW; rw [hw]; rfl, hb⟩
  · obtain ⟨h60, hL⟩ := word_len hw
    have HL := Lib.hid hL
    have HW := Lib.hid hw
    have HZ := Lib.hid (bytes_len s)
    clear hL hw
    have hconv := fun w => run_bytes_of_string (P := Tryd.prog) w 9 26 5 s Tryd.underlying9 Tryd.underlying26 Tryd.underlying5
    refine (callsIn_wide (n := 3)).1 ?_
    refine callsIn_of_wp_marks Tryd.func11 rfl trivial ?_ rfl
    simp only [Tryd.ntmps11, List.size_toArray, List.length_cons, List.length_nil, Nat.reduceAdd, Nat.reduceSub, Array.replicate_succ, Array.replicate_zero, List.push_toArray, List.append_toArray, List.nil_append, List.cons_append]
    gi_wp2_with (first | (refine ⟨trivial, ?_⟩; gi_at_call 7; refine (callsIn_wide.2 (c_IsWord s _ hs)).mono ?_; rw [HW.out]; rintro e w1 ⟨rfl, hb1⟩) | (refine ⟨trivial, ?_⟩; gi_at_call 16; refine (bw_in Fence.wide 2 trivial rfl _ _ _ _).mono ?_; rintro e w' ⟨rfl, rfl⟩))
    generalize grownCap ((w1.alloc (.cells #[] 5)).alloc (.cells #[.slice (some ⟨w1.heap.size, 0, none⟩) 0 0] 26)) s.size 0 5 = cp
    refine gen_worldB (fun W0 hW0 => ?_)
    have hs0 : W0.heap.size = w1.heap.size + 1 + 1 + 1 + 1 := by rw [hW0]; simp
    have hBs : W0.cell? ⟨w1.heap.size + 1 + 1 + 1, 0, none⟩ = some (.slice (some ⟨w1.heap.size + 1 + 1, 0, none⟩) s.size cp) := by
      rw [hW0, cell_drew_own]
      exact cell_newW _ _ _ (by simp)
    have hrow : ∀ j, j < s.size → W0.cell? ⟨w1.heap.size + 1 + 1, j, none⟩ = some (.int .u8 ((letAt s.data.toList j).1.toNat : Int)) := by
      intro j hj
      obtain ⟨b, hb⟩ : ∃ b, s.data.toList[j]? = some b := ⟨s.data.toList[j]'(by rw [HZ.out]; exact hj), by simp⟩
      rw [letAt_of hb (HL.out j b hb), hW0, cell_drew_own]
      exact bcell (below_alloc _ _) (bytes_cell (by simp) hb)
    have hI0 : InvI w (w1.heap.size + 1) (w1.heap.size + 1 + 1) (w1.heap.size + 1 + 1 + 1) (w1.heap.size + 1 + 1 + 1 + 1) [] W0 := by
      rw [hW0]
      have h1 := hb1.size
      refine ⟨.slice (some ⟨w1.heap.size, 0, none⟩) 0 0, ?_, ?_, ?_, by simp [Value.ownBlock], by simp [Value.ownBlock]; omega, by simp [Value.ownBlock]; omega, by simp, ?_⟩
      · rw [cell_drew_own]; exact bcell (below_alloc _ _) (bcell (below_alloc _ _) (cell_newW (w1.alloc (.cells #[] 5)) _ _ (by simp)))
      · rw [frozen_drew_own]; exact bfrozen (below_alloc _ _) (bcell (below_alloc _ _) (cell_newW (w1.alloc (.cells #[] 5)) _ _ (by simp))) (bfrozen (below_alloc _ _) (cell_newW (w1.alloc (.cells #[] 5)) (.slice (some ⟨w1.heap.size, 0, none⟩) 0 0) _ (by simp)) (frozen_newW _ _ _ (by simp)))
      · have h := Own.lit (B := w.heap.size) w1 5 [] h1 (by simp)
        exact ((((h.alloc _).alloc _).alloc _).drewN 1)
      · exact below_drewN ((((hb1.alloc h1 _).alloc (by simp; omega) _).alloc (by simp; omega) _).alloc (by simp; omega) _) 1
    have HB1 := Lib.hid hb1
    have hsz1 := hb1.size
    clear hW0 hconv hb1
    obtain ⟨z, hz⟩ : ∃ z, z = w1.heap.size := ⟨_, rfl⟩
    rw [← hz] at hs0 hBs hrow hI0 hsz1 ⊢
    clear hz
    refine wpIn_rangeFunc_ownG (F := Fence.wide) rfl (by omega) (gf := 25) (lb := #[.pointer (some ⟨z + 1 + 1 + 1, 0, none⟩)]) rfl trivial (enters_of Tryd.func25 (by kernel_rfl) rfl)
      (bw_stops Fence.wide 2 trivial rfl (by omega) (z + 1 + 1 + 1) w.heap.size (z + 1 + 1) s.size cp (letAt s.data.toList) (by omega) W0 (by omega) (by omega) hBs hrow) kpW_t (kpW_b (by omega) (by omega) (by omega)) (Below.refl _ _) (fun _ => rfl)
      (InvI w (z + 1) (z + 1 + 1) (z + 1 + 1 + 1) (z + 1 + 1 + 1 + 1)) (fun _ _ _ => False) (InvI.from (by omega)) (fun _ _ _ _ _ hs _ _ => hs) hI0
      (fun q => { tmps := #[.string s, undef, .string ⟨#[]⟩, .int .i64 0, .pointer (some ⟨z + 1, 0, none⟩), undef, .int .u8 (q.2.1.toNat : Int), .string s, .bool true, .bool false, .slice (some ⟨z, 0, none⟩) 0 0, .string s, .slice (some ⟨z + 1 + 1, 0, none⟩) s.size cp, .func (.func 25) #[] #[.pointer (some ⟨z + 1 + 1 + 1, 0, none⟩)], .int .i64 (q.1 : Int), .int .u8 (q.2.1.toNat : Int), undef, undef, undef, undef, undef, undef, undef], defers := [] }) ?assign ?body ?done ?stop
    case assign =>
      intro l q W K hK
      gi_wp2
      exact hK
    case stop =>
      rintro D c' pre W _ _ h _
      exact h.elim
    case done =>
      rintro D ys W hD rfl ⟨v, hc1, hf1, hown, _, _, _, _, hbel⟩ hK
      rw [← HZ.out, inv_all HL.out] at hown
      have htx := hown.text
      have HBE := Lib.hid hbel
      have HF : Hid (invW s = (invL s.data.toList, 0)) := Lib.hid (by unfold invW; rw [HW.out]; rfl)
      have hDs : w.heap.size ≤ D := by omega
      obtain ⟨p, n, c, rfl⟩ := hown.slice
      clear hown hbel
      generalize invL s.data.toList = r at *
      gi_wp2
      refine ⟨by simp, .inl ⟨_, _, rfl, run_takeDeferred hK, ?_⟩⟩
      exact ⟨_, results_tmp2 rfl _ _ _, by rw [HF.out]; rfl, HBE.out.trans (belowK_b (w := w) (Nat.le_refl _) W D _ _ hDs hK rfl rfl)⟩
    case body =>
      rintro l pre x W ⟨v, hc1, hf1, hown, hz1, hz2, hz3, hsz, hbel⟩ hlt
      have hlp : (pre.map fun x => oth x.2.1).length ≤ 1000000 := by rw [List.length_map]; omega
      have hown' : OwnB W.drew w.heap.size v (pre.map fun x => oth x.2.1) := hown.drewN 1
      obtain ⟨v4, w4, hrun, ho4, hb4, hk4⟩ := run_pushB (y := oth x.2.1) hown' (by show w.heap.size ≤ W.heap.size; omega) hlp
      have hcz4 := cell_blk (hk4 (z + 1) (by show z + 1 < W.heap.size; omega) hz1).1 (show W.drew.cell? ⟨z + 1, 0, none⟩ = some v from hc1)
      have hfz4 : w4.frozen? ⟨z + 1, 0, none⟩ = false := by
        have := (hk4 (z + 1) (by show z + 1 < W.heap.size; omega) hz1).1
        rw [← hf1]; simp only [World.frozen?, this]; rfl
      have hrun2 : ∀ ty, (Builtin.append_ #[26, 26] ty #[v, .slice (some ⟨W.heap.size, 0, none⟩) 1 1]).run Tryd.prog (W.alloc (.cells #[.int .u8 ((oth x.2.1).toNat : Int)] 5)).drew = .ok v4 w4 := hrun
      have hmix : Tryd.prog.follows .mixedOrders = true := by kernel_rfl
      obtain ⟨p, n, c, rfl⟩ := hown.slice
      obtain ⟨p4, n4, c4, rfl⟩ := ho4.slice
      have HO4 := Lib.hid ho4
      have HK4 := Lib.hid hk4
      have HB4 := Lib.hid hb4
      have HKO : Hid (KeepsOthers W w4) := Lib.hid ⟨hb4.size, fun k o hk hn => by
        have hlt : k < W.heap.size := (Array.getElem?_eq_some_iff.1 hk).1
        have hne : (Value.slice p n c).ownBlock ≠ some k := fun e => by
          rcases hown.2 with ⟨h1, _⟩ | ⟨g', cap, cur, h1, _, hh, _⟩
          · rw [h1] at e; cases e
          · rw [h1] at e; cases e; rw [hh] at hk; cases hk; cases hn
        exact (hk4 k hlt hne).1.trans hk⟩
      have HBB := Lib.hid hbel
      have hdep : 1 ≤ 3 - 1 - 1 := by omega
      clear hrun hown hown' ho4 hb4 hk4 hlp hbel hI0 hrow hBs
      have hcall := fun w => (callsIn_wide (n := 3 - 1 - 1 - 1)).2 (c_inverseLetter x.2.1 w x.2.2)
      have hc1' : (W.alloc (.cells #[.int .u8 ((oth x.2.1).toNat : Int)] 5)).cell? ⟨z + 1, 0, none⟩ = some (.slice p n c) := bcell (below_alloc _ _) hc1
      obtain ⟨xb, hxb⟩ : ∃ xb, xb = (x.2.1.toNat : Int) := ⟨_, rfl⟩
      obtain ⟨xo, hxo⟩ : ∃ xo, xo = ((oth x.2.1).toNat : Int) := ⟨_, rfl⟩
      rw [← hxo] at hrun2 hcall hc1'
      rw [← hxb] at hcall ⊢
      have HCALL : Hid (∀ w, CallsIn Fence.wide (3 - 1 - 1 - 1) Tryd.prog 15 #[.int .u8 xb] w fun e w' => e = .returned (.int .u8 xo) ∧ w' = w) := Lib.hid hcall
      have HRUN := Lib.hid hrun2
      clear hxb hxo hcall hrun2
      gi_wp2
      refine wpIn_region_any hmix ?_
      refine wpAnyIn_inv (fun listed aa ww => (∃ l0 l1 l2 l3 : Bool, listed = #[l0, l1, l2, l3, false, false] ∧ aa = ⟨#[.string s, undef, .string ⟨#[]⟩, .int .i64 0, .pointer (some ⟨z + 1, 0, none⟩), undef, .int .u8 xb, .string s, .bool true, .bool false, .slice (some ⟨z, 0, none⟩) 0 0, .string s, .slice (some ⟨z + 1 + 1, 0, none⟩) s.size cp, .func (.func 25) #[] #[.pointer (some ⟨z + 1 + 1 + 1, 0, none⟩)], .int .i64 (x.1 : Int), .int .u8 xb, bif l0 then .slice p n c else undef, bif l1 then .int .u8 xb else undef, bif l2 then .int .u8 xo else undef, bif l3 then .slice (some ⟨W.heap.size, 0, none⟩) 1 1 else undef, undef, undef, undef], []⟩ ∧ ww = (bif l3 then (W.alloc (.cells #[.int .u8 xo] 5)).drew else W.drew) ∧ (l2 = true → l1 = true) ∧ (l3 = true → l2 = true)) ∨ (∃ l5 : Bool, listed = #[true, true, true, true, true, l5] ∧ aa = ⟨#[.string s, undef, .string ⟨#[]⟩, .int .i64 0, .pointer (some ⟨z + 1, 0, none⟩), undef, .int .u8 xb, .string s, .bool true, .bool false, .slice (some ⟨z, 0, none⟩) 0 0, .string s, .slice (some ⟨z + 1 + 1, 0, none⟩) s.size cp, .func (.func 25) #[] #[.pointer (some ⟨z + 1 + 1 + 1, 0, none⟩)], .int .i64 (x.1 : Int), .int .u8 xb, .slice p n c, .int .u8 xb, .int .u8 xo, .slice (some ⟨W.heap.size, 0, none⟩) 1 1, .slice p4 n4 c4, undef, undef], []⟩ ∧ ww = (bif l5 then w4.setCell ⟨z + 1, 0, none⟩ (.slice p4 n4 c4) else w4)))
        (fun listed => (bif listed.getD 0 true then 0 else 1) + (bif listed.getD 1 true then 0 else 1) + (bif listed.getD 2 true then 0 else 1) + (bif listed.getD 3 true then 0 else 1) + (bif listed.getD 4 true then 0 else 1) + (bif listed.getD 5 true then 0 else 1)) ?Z ?E ?S _ _ _ _ (.inl ⟨false, false, false, false, rfl, rfl, rfl, by simp, by simp⟩) (by decide)
      case E =>
        rintro listed aa ww (⟨l0, l1, l2, l3, rfl, rfl, rfl, _, _⟩ | ⟨l5, rfl, rfl, rfl⟩) h
        · simp at h
        · obtain rfl : l5 = true := by
            cases l5
            · simp at h
            · rfl
          kernel_rfl
      case Z =>
        rintro listed aa ww (⟨l0, l1, l2, l3, rfl, rfl, rfl, m1, m2⟩ | ⟨l5, rfl, rfl, rfl⟩) hr
        · exfalso
          have nr := fun k => (List.eq_nil_iff_forall_not_mem.1 hr) k
          cases l0
          · exact nr 0 (mem_ready.2 ⟨rfl, _, rfl, by simp [Region.binds]⟩)
          cases l1
          · exact nr 1 (mem_ready.2 ⟨rfl, _, rfl, by simp [Region.binds]⟩)
          cases l2
          · exact nr 2 (mem_ready.2 ⟨rfl, _, rfl, by simp [Region.binds]⟩)
          cases l3
          · exact nr 3 (mem_ready.2 ⟨rfl, _, rfl, by simp [Region.binds]⟩)
          · exact nr 4 (mem_ready.2 ⟨rfl, _, rfl, by simp [Region.binds]⟩)
        · obtain rfl : l5 = true := by
            cases l5
            · exact ((List.eq_nil_iff_forall_not_mem.1 hr) 5 (mem_ready.2 ⟨rfl, _, rfl, by simp [Region.binds]⟩)).elim
            · rfl
          simp only [Bool.cond_true]
          clear hr
          gi_wp2
          have hsz4 : W.heap.size ≤ w4.heap.size := by have h := HKO.out.size; exact h
          refine ⟨(HKO.out.trans (KeepsOthers.setCell _ _ _)).from _, ⟨?_, ?_, ?_⟩, ?_⟩
          · exact (below_set (below_drewL HB4.out) (by omega))
          · rw [Below.heap_setCell _ _ _ _ (by show z + 1 + 1 + 1 ≠ z + 1; omega)]; exact (HK4.out (z + 1 + 1 + 1) (by show z + 1 + 1 + 1 < W.heap.size; omega) hz3).1
          · rw [Below.heap_setCell _ _ _ _ (by show z + 1 + 1 ≠ z + 1; omega)]; exact (HK4.out (z + 1 + 1) (by show z + 1 + 1 < W.heap.size; omega) hz2).1
          · refine ⟨.slice p4 n4 c4, World.cell?_setCell_same _ _ _ hcz4, by rw [World.frozen?_setCell]; exact hfz4, ?_, (HK4.out (z + 1) (by show z + 1 < W.heap.size; omega) hz1).2, (HK4.out (z + 1 + 1) (by show z + 1 + 1 < W.heap.size; omega) hz2).2, (HK4.out (z + 1 + 1 + 1) (by show z + 1 + 1 + 1 < W.heap.size; omega) hz3).2, ?_, below_set (HBB.out.trans (below_drewL HB4.out)) (by omega)⟩
            · have h := Own.keepOther HO4.out (a := ⟨z + 1, 0, none⟩) (HK4.out (z + 1) (by show z + 1 < W.heap.size; omega) hz1).2 (.slice p4 n4 c4)
              rw [List.map_append]
              exact h
            · rw [World.size_setCell]; omega
      case S =>
        rintro listed aa ww (⟨l0, l1, l2, l3, rfl, rfl, rfl, m1, m2⟩ | ⟨l5, rfl, rfl, rfl⟩) i o ho hl hd
        · match i, ho, hl, hd with
          | 0, hp, hs, hx =>
            obtain rfl := (Option.some.inj hp).symm
            simp [Region.binds] at hs hx
            clear ho hl hd hp
            subst hs
            refine ⟨_, _, .inl ⟨true, l1, l2, l3, rfl, rfl, rfl, m1, m2⟩, by simp <;> omega, fun K hK => wpOpIn_some rfl ?_⟩
            cases l3
            · clear m1 m2
              simp only [Bool.cond_true, Bool.cond_false] at hK ⊢
              go_simp
              exact hK
            · obtain rfl : l2 = true := m2 rfl
              obtain rfl : l1 = true := m1 rfl
              clear m1 m2
              simp only [Bool.cond_true, Bool.cond_false] at hK ⊢
              go_simp
              exact hK
          | 1, hp, hs, hx =>
            obtain rfl := (Option.some.inj hp).symm
            simp [Region.binds] at hs hx
            clear ho hl hd hp
            subst hs
            obtain rfl : l2 = false := by cases l2 <;> simp_all
            obtain rfl : l3 = false := by cases l3 <;> simp_all
            refine ⟨_, _, .inl ⟨l0, true, false, false, rfl, rfl, rfl, by simp, by simp⟩, by simp <;> omega, fun K hK => wpOpIn_some rfl ?_⟩
            simp only [Bool.cond_true, Bool.cond_false] at hK ⊢
            go_simp
            exact hK
          | 2, hp, hs, hx =>
            obtain rfl := (Option.some.inj hp).symm
            simp [Region.binds] at hs hx
            clear ho hl hd hp
            subst hs
            obtain rfl : l1 = true := by first | exact hx | simp_all
            obtain rfl : l3 = false := by cases l3 <;> simp_all
            refine ⟨_, _, .inl ⟨l0, true, true, false, rfl, rfl, rfl, by simp, by simp⟩, by simp <;> omega, fun K hK => wpOpIn_some rfl ?_⟩
            simp only [Bool.cond_true, Bool.cond_false] at hK ⊢
            gi_wp2_with (refine ⟨trivial, ?_⟩; gi_at_call 15; refine (CallsIn.inRound l (HCALL.out _)).mono ?_; rintro e w' ⟨rfl, rfl⟩)
            exact hK
          | 3, hp, hs, hx =>
            obtain rfl := (Option.some.inj hp).symm
            simp [Region.binds] at hs hx
            clear ho hl hd hp
            subst hs
            obtain rfl : l2 = true := by first | exact hx | simp_all
            obtain rfl : l1 = true := m1 rfl
            refine ⟨_, _, .inl ⟨l0, true, true, true, rfl, rfl, rfl, by simp, by simp⟩, by simp <;> omega, fun K hK => wpOpIn_some rfl ?_⟩
            simp only [Bool.cond_true, Bool.cond_false] at hK ⊢
            go_simp
            exact hK
          | 4, hp, hs, hx =>
            obtain rfl := (Option.some.inj hp).symm
            simp [Region.binds] at hs hx
            clear ho hl hd hp hs
            obtain rfl : l0 = true := by simp_all
            obtain rfl : l3 = true := by simp_all
            obtain rfl : l2 = true := by simp_all
            obtain rfl : l1 = true := by simp_all
            refine ⟨_, _, .inr ⟨false, rfl, rfl, rfl⟩, by simp <;> omega, fun K hK => wpOpIn_some rfl ?_⟩
            simp only [Bool.cond_true, Bool.cond_false] at hK ⊢
            rw [if_pos (by simp [Region.wanted])]
            exact opIn_append rfl rfl rfl (HRUN.out _) hK
          | 5, hp, hs, hx =>
            exfalso
            obtain rfl := (Option.some.inj hp).symm
            simp [Region.binds] at hx
          | k + 6, hp, hs, hx => simp at hp
        · match i, ho, hl, hd with
          | 0, hp, hs, hx => simp at hs
          | 1, hp, hs, hx => simp at hs
          | 2, hp, hs, hx => simp at hs
          | 3, hp, hs, hx => simp at hs
          | 4, hp, hs, hx => simp at hs
          | 5, hp, hs, hx =>
            obtain rfl := (Option.some.inj hp).symm
            simp at hs
            clear ho hl hd hp hx
            subst hs
            refine ⟨_, _, .inr ⟨true, rfl, rfl, rfl⟩, by simp, fun K hK => wpOpIn_some rfl ?_⟩
            simp only [Bool.cond_true, Bool.cond_false] at hK ⊢
            go_simp
            exact hK
          | k + 6, hp, hs, hx => simp at hp
set_option maxHeartbeats 2000000 in
theorem w_FnExactInverseWord (s : ByteArray) (w : World) (hs : s.size ≤ maxLen) :
    Calls Tryd.prog 5 #[.string s] w fun e w' => e = .returned (.bool true) ∧ Below w.heap.size w w' := by
  have HS := Lib.hid hs
  have hs' : s.size ≤ 9223372036854775807 := by unfold maxLen at hs; omega
  clear hs
  by_cases h : s.size ≤ 1048576
  · go_enter Tryd.func5, Tryd.ntmps5
    go_wp2_with fail
    refine (c_SInverseWord s _ HS.out).mono ?_
    rintro e w1 ⟨rfl, hb1⟩
    unfold twoT
    go_wp2_with fail
    refine (c_InverseWord s _ HS.out).mono ?_
    rintro e w2 ⟨rfl, hb2⟩
    unfold twoT
    go_wp2_with fail
    go_ret
    exact ⟨rfl, hb1.trans (hb2.mono hb1.size)⟩
  · go_enter Tryd.func5, Tryd.ntmps5
    go_wp2_with fail
    go_ret
    exact ⟨rfl, Below.refl _ _⟩
end Go.Proofs.YtibaollnjfibnaaDoor
