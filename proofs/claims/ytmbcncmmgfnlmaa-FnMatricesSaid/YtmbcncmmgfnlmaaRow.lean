/- Walks: rows of field numbers added and multiplied by the reference; lists and tables of field numbers. -/
import Derived.Test.YtmbcncmmgfnlmaaCln
import Derived.Test.YtmbcncmmgfnlmaaAlg
import Derived.StillTailTactics
import Derived.Deep.RegionHeld3
namespace Go.Proofs.Ytmbcncmmgfnlmaa
open Go.RowKit
open Fus (F Mx toI ofI toI_bd toI_of ofI_toI ofI_add ofI_mul ofI_sub ofI_neg toI_ofI ofI_mod finv)

theorem iinv_toI (a : F) : iinv (toI a) = toI (finv a) := by rw [iinv_nat, Fus.toI_finv]
/-- the integers of a vector, of a table -/
def zl (n : Nat) (f : Nat → F) : List Int := vec n fun j => toI (f j)
def tabF (r c : Nat) (f : Mx) : List (List Int) := vec r fun i => zl c (f i)
theorem zl_length (n : Nat) (f : Nat → F) : (zl n f).length = n := vec_length _ _
theorem zl_at {n k : Nat} (f : Nat → F) (h : k < n) : (zl n f)[k]? = some (toI (f k)) := vec_at _ h
theorem zl_snoc (n : Nat) (f : Nat → F) : zl (n + 1) f = zl n f ++ [toI (f n)] := vec_snoc _ _
theorem zl_congr {n : Nat} {f g : Nat → F} (h : ∀ i, i < n → f i = g i) : zl n f = zl n g := vec_congr fun i hi => by rw [h i hi]
theorem zl_num (n : Nat) (f : Nat → F) : (zl n f).all isNum = true := by
  rw [List.all_eq_true]; intro x hx; obtain ⟨i, _, rfl⟩ := vec_mem hx; exact isNum_yes (toI_bd _).1 (toI_bd _).2
theorem tabF_length (r c : Nat) (f : Mx) : (tabF r c f).length = r := vec_length _ _
theorem tabF_at {r k : Nat} (c : Nat) (f : Mx) (h : k < r) : (tabF r c f)[k]? = some (zl c (f k)) := vec_at _ h
theorem tabF_snoc (r c : Nat) (f : Mx) : tabF (r + 1) c f = tabF r c f ++ [zl c (f r)] := vec_snoc _ _
theorem tabF_congr {r c : Nat} {f g : Mx} (h : ∀ i j, i < r → j < c → f i j = g i j) : tabF r c f = tabF r c g := vec_congr fun i hi => zl_congr fun j hj => h i j hi hj
theorem tabF_tab (r c : Nat) (f : Mx) : tabF r c f = tab r c fun i j => toI (f i j) := rfl
/-- the field numbers of a table -/
def entF (m : List (List Int)) : Mx := fun i j => ofI (ent m i j)
theorem good_F {m : List (List Int)} {c : Nat} (h : Good m c) : m = tabF m.length c (entF m) := by
  have e := h.tab
  rw [tabF_tab]
  exact e.trans (tab_congr fun i j _ _ => by show ent m i j = toI (ofI (ent m i j)); rw [toI_ofI]; have := h.num i j; omega)
theorem tabF_mem {r c : Nat} {f : Mx} {xs : List Int} (h : xs ∈ tabF r c f) : xs.length = c := by
  obtain ⟨i, _, rfl⟩ := vec_mem h; exact zl_length _ _
theorem zl_eq_num {xs : List Int} (h : xs.all isNum = true) : xs = zl xs.length fun j => ofI (xs.getD j 0) := by
  refine list_ext_getD (zl_length _ _).symm fun j hj => ?_
  have e1 : xs[j]? = some (xs.getD j 0) := by simp [List.getD_eq_getElem?_getD, hj]
  have e2 := zl_at (n := xs.length) (fun j => ofI (xs.getD j 0)) hj
  rw [List.getD_eq_getElem?_getD (l := zl _ _), e2]
  show _ = toI (ofI (xs.getD j 0))
  rw [toI_ofI]
  have := nums_at h e1
  omega

theorem bkeep {B : Nat} {w w' : World} {b o : Nat} {v : Value} (hb : Below B w w') (hlt : b < B) (h : w.cell? ⟨b, o, none⟩ = some v) : w'.cell? ⟨b, o, none⟩ = some v :=
  (hb.cell (p := ⟨b, o, none⟩) hlt).trans h
theorem below_more {B : Nat} {w0 wr w2 : World} {o : Obj} (h : Below B w0 wr) (hsz : B ≤ wr.heap.size) (h2 : Below B (wr.alloc o).drew w2) : Below B w0 w2 :=
  (h.alloc hsz o).trans ⟨h2.os, h2.tape, h2.output, h2.size, h2.block⟩
theorem below_drewed {B : Nat} {w0 wr w2 : World} (h : Below B w0 wr) (h2 : Below B wr.drew w2) : Below B w0 w2 :=
  h.trans ⟨h2.os, h2.tape, h2.output, h2.size, h2.block⟩
/-- append of one integer as a step of a region that draws its order -/
theorem step_pushI {ops : Array Oper} {o : Oper} {a : Act} {K : Act → World → Prop} {Q : Exit → Act → World → Prop} {E : Prop} {w : World} {B gx : Nat} {v : Value} {y : Int} {xs : List Int} (hown : OwnI w B v xs) (hcell : w.cell? ⟨gx, 0, none⟩ = some (.int .i64 y)) (hgd : o.guard = none) (s x : Operand)
    (ho : o.op = .call { callee := .builtin .append, args := #[s, x], argTypes := #[35, 35] })
    (hs : a.eval s = v) (hx : a.eval x = .slice (some ⟨gx, 0, none⟩) 1 1) (hB : B ≤ w.heap.size) (hlen : xs.length ≤ 1000000)
    (h : ∀ v' w', OwnI w' B v' (xs ++ [y]) → Below B w w' → K (a.put o.dst v') w') :
    if Region.wanted o (yielded ops a.tmps) = true then Oper.wp Try.prog o a w K Q else E := by
  have hw : Region.wanted o (yielded ops a.tmps) = true := by simp [Region.wanted, hgd]
  rw [if_pos hw]
  obtain ⟨i, hi, hz0, hz1', hz2⟩ := info_parts info_int
  refine wp_append_own _ s x _ ho B 2 i (.int .i64 0) 1 8 Try.underlying35 hi hz0 hz1' hz2 rfl (by omega) v (xs.map vi).length (xs.map vi) hs hown ⟨gx, 0, none⟩ 1 1 [vi y] hx rfl ?_ ?_ ?_ ?_ hB ?_
  · intro j u' hj
    cases j with
    | zero => simp at hj; subst hj; simpa [Addr.add] using hcell
    | succ j => simp at hj
  · intro u' hu'
    simp at hu'
    subst hu'
    rfl
  · rw [List.length_map]; unfold maxLen; omega
  · rw [List.length_map]; omega
  · intro v' w' h1 h2 _
    refine h v' w' ?_ ⟨h2.os, h2.tape, h2.output, h2.size, fun k hk => h2.block k (by omega) (fun e => by have := (hown.lt e.symm).1; omega)⟩
    have e : (xs.map vi ++ [vi y]).length = (xs.map vi).length + 1 := by simp
    unfold OwnI Own
    rw [List.map_append, show [y].map vi = [vi y] from rfl, e]
    exact h1
theorem c_l02Scale (v : Value) (n : Nat) (f : Nat → F) (t : F) (w : World) (hv : Ints w v (zl n f)) (hl : n ≤ 100000) :
    Calls Try.prog 121 #[v, .int .i64 (toI t)] w (RetI (zl n fun j => f j * t) w) := by
  obtain ⟨a, cap, hveq, _, hc⟩ := hv
  rw [zl_length] at hveq
  subst hveq
  have HC := Lib.hid hc
  clear hc
  have hb := toI_bd t
  obtain ⟨hc1, hc2⟩ := hb
  go_enter Try.func121, Try.ntmps121
  go_wp2_with fail
  go_loopw [5, 6] (fun s i wr => ∃ (k : Nat), k ≤ n ∧ i = .int .i64 k ∧ OwnI wr w.heap.size s (zl k fun j => f j * t) ∧ Below w.heap.size w wr) (fun _ i _ => n - (intOf i).toNat)
  case atStart => exact ⟨0, Nat.zero_le _, rfl, own_empty _ _ _ (Nat.le_refl _), below_alloc _ _⟩
  case round =>
    obtain ⟨k, hk, rfl, hown, hbel⟩ := hrel
    by_cases hlt : k < n
    · obtain ⟨b, off, rfl, hcell⟩ := HC.out k _ (zl_at f hlt)
      have g1 := bcell hbel hcell
      have hx := toI_bd (f k)
      obtain ⟨hx1, hx2⟩ := hx
      have HV : Hid (toI (f k) * toI t % 55441 = toI (f k * t)) := Lib.hid (toI_of (by rw [ofI_mul, ofI_toI, ofI_toI])).symm
      generalize toI (f k) = x at *
      have hpr := prod_bd hx1 hx2 hc1 hc2
      obtain ⟨hpr1, hpr2⟩ := hpr
      have HOW := Lib.hid hown
      have HB := Lib.hid hbel
      have hsz := hbel.size
      clear hcell hown hbel
      go_wp2_with (at_builtin; refine wp_pushI HOW.out rfl _ _ rfl rfl rfl (by first | with_reducible rfl | simp) (by omega) (by rw [zl_length]; omega) ?_; intro v' w2 ho2 _ hb2)
      go_roundw
      case rel => exact ⟨k + 1, by omega, by go_num, by rw [zl_snoc, ← HV.out]; exact ho2, HB.out.trans hb2⟩
      case measure => simp [intOf]; omega
    · obtain rfl : k = n := by omega
      have HOW := Lib.hid hown
      have HB := Lib.hid hbel
      clear hown hbel
      go_wp2_with fail
      go_ret
      exact ⟨_, rfl, HOW.out, HB.out⟩
set_option maxRecDepth 100000 in
set_option maxHeartbeats 1600000 in
theorem c_l02Plus (u v : Value) (n m : Nat) (f g : Nat → F) (t : F) (w : World) (hu : Ints w u (zl n f)) (hv : Ints w v (zl m g)) (hnm : n ≤ m) (hl : n ≤ 100000) :
    Calls Try.prog 113 #[u, v, .int .i64 (toI t)] w (RetI (zl n fun j => f j + t * g j) w) := by
  obtain ⟨a, cap, hueq, _, hc⟩ := hu
  obtain ⟨a', cap', hveq, _, hc'⟩ := hv
  rw [zl_length] at hueq hveq
  subst hueq hveq
  have HC := Lib.hid hc
  have HC' := Lib.hid hc'
  clear hc hc'
  have hb := toI_bd t
  obtain ⟨hc1, hc2⟩ := hb
  go_enter Try.func113, Try.ntmps113
  go_wp2_with fail
  go_loopw [7, 8] (fun s i wr => ∃ (k : Nat), k ≤ n ∧ i = .int .i64 k ∧ OwnI wr w.heap.size s (zl k fun j => f j + t * g j) ∧ Below w.heap.size w wr) (fun _ i _ => n - (intOf i).toNat)
  case atStart => exact ⟨0, Nat.zero_le _, rfl, own_empty _ _ _ (Nat.le_refl _), below_alloc _ _⟩
  case round =>
    obtain ⟨k, hk, rfl, hown, hbel⟩ := hrel
    by_cases hlt : k < n
    · obtain ⟨b, off, rfl, hcell⟩ := HC.out k _ (zl_at f hlt)
      obtain ⟨b', off', rfl, hcell'⟩ := HC'.out k _ (zl_at g (show k < m by omega))
      have hlb := Ints.lt hcell
      have hlb' := Ints.lt hcell'
      have g1 := bcell hbel hcell
      have g2 := bcell hbel hcell'
      have hx := toI_bd (f k)
      obtain ⟨hx1, hx2⟩ := hx
      have hy := toI_bd (g k)
      obtain ⟨hy1, hy2⟩ := hy
      have HV : Hid ((toI (f k) + toI t * toI (g k)) % 55441 = toI (f k + t * g k)) := Lib.hid (toI_of (by rw [ofI_add, ofI_mul, ofI_toI, ofI_toI, ofI_toI])).symm
      generalize toI (f k) = x at *
      generalize toI (g k) = y at *
      have hpr := prod_bd hc1 hc2 hy1 hy2
      obtain ⟨hpr1, hpr2⟩ := hpr
      have HOW := Lib.hid hown
      have HB := Lib.hid hbel
      have hsz := hbel.size
      clear hcell hcell' hown hbel
      have hk0 : (0 : Int) ≤ (k : Int) := Int.natCast_nonneg _
      have hk1 : (k : Int) < (n : Int) := by omega
      have hk2 : (k : Int) < (m : Int) := by omega
      have hw1 : IntKind.i64.wrap (toI t * y) = toI t * y := IntWalk.i64_in _ (by omega)
      have hw3 : IntKind.i64.wrap (x + toI t * y) = x + toI t * y := IntWalk.i64_in _ (by omega)
      have hw2 : (x + toI t * y).tmod 55441 = (x + toI t * y) % 55441 := Int.tmod_eq_emod_of_nonneg (by omega)
      go_wp2_with fail
      go_region_held3 (fun w' => w'.cell? ⟨b, off + k, none⟩ = some (.int .i64 x) ∧ w'.cell? ⟨b', off' + k, none⟩ = some (.int .i64 y))
        (first | go_keep | (refine ⟨bkeep hb2 hlb ?_, bkeep hb2 hlb' ?_⟩ <;> go_keep))
        ((refine step_pushI (gx := wr.heap.size) (y := (x + toI t * y) % 55441) ((HOW.out.alloc _).drewN 1) (by simp) (by rfl) _ _ (by rfl) (by rfl) (by rfl) (by simp; omega) (by rw [zl_length]; omega) ?_; intro v' w2 ho2 hb2))
      go_wp2_with fail
      go_roundw
      case rel => exact ⟨k + 1, by omega, by go_num, by rw [zl_snoc, ← HV.out]; exact ho2, below_more HB.out hsz hb2⟩
      case measure => simp [intOf]; omega
    · obtain rfl : k = n := by omega
      have HOW := Lib.hid hown
      have HB := Lib.hid hbel
      clear hown hbel
      go_wp2_with fail
      go_ret
      exact ⟨_, rfl, HOW.out, HB.out⟩
end Go.Proofs.Ytmbcncmmgfnlmaa
