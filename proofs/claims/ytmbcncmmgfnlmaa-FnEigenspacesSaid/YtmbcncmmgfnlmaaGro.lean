/- Walks: copies of rows and of tables. -/
import Derived.Test.YtmbcncmmgfnlmaaTur
import Derived.Test.YtmbcncmmgfnlmaaAlg
import Derived.StillTailTactics
import Derived.Deep.RegionHeld3
namespace Go.Proofs.Ytmbcncmmgfnlmaa
open Go.RowKit

/-- append of a list of integers that can be read -/
theorem wp_appendI {ops : Array Oper} {rest : List Oper} {o : Oper} {a : Act} {Q : Exit → Act → World → Prop} {w : World} {B : Nat} {v : Value} {xs ys : List Int} {b off c m : Nat} (hown : OwnI w B v xs)
    (hc : ∀ i y, ys[i]? = some y → w.cell? ⟨b, off + i, none⟩ = some (.int .i64 y)) (hgd : o.guard = none) (s x : Operand)
    (ho : o.op = .call { callee := .builtin .append, args := #[s, x], argTypes := #[35, 35] })
    (hs : a.eval s = v) (hx : a.eval x = .slice (some ⟨b, off, none⟩) m c) (hm : m = ys.length)
    (hB : B ≤ w.heap.size) (hlen : xs.length ≤ 1000000) (hlen' : ys.length ≤ 1000000)
    (h : ∀ v' w', OwnI w' B v' (xs ++ ys) → Below B w w' → wpList Try.prog ops Q rest (a.put o.dst v') w') :
    wpList Try.prog ops Q (o :: rest) a w := by
  subst hm
  obtain ⟨i, hi, hz0, hz1', hz2⟩ := info_parts info_int
  refine wpList_append_own _ hgd s x _ ho B 2 i (.int .i64 0) 1 8 Try.underlying35 hi hz0 hz1' hz2 rfl (by omega) v (xs.map vi).length (xs.map vi) hs hown ⟨b, off, none⟩ ys.length c (ys.map vi) hx (by simp) ?_ ?_ ?_ ?_ hB ?_
  · intro j u hj
    rw [List.getElem?_map] at hj
    cases hy : ys[j]? with
    | none => rw [hy] at hj; cases hj
    | some y =>
      rw [hy] at hj
      cases hj
      have := hc j y hy
      unfold Addr.add
      split
      · rename_i e; subst e; simpa using this
      · exact this
  · intro u hu
    obtain ⟨y, _, rfl⟩ := List.mem_map.1 hu
    rfl
  · rw [List.length_map]; unfold maxLen; omega
  · rw [List.length_map]; omega
  · intro v' w' h1 h2 _
    refine h v' w' ?_ ?_
    · have e : (xs.map vi ++ ys.map vi).length = (xs.map vi).length + ys.length := by simp
      unfold OwnI Own
      rw [List.map_append, e]
      exact h1
    · refine ⟨h2.os, h2.tape, h2.output, h2.size, fun k hk => h2.block k (by omega) (fun e => by have := (hown.lt e.symm).1; omega)⟩

theorem c_Clone (v : Value) (xs : List Int) (w : World) (hv : Ints w v xs) (hp : 0 < xs.length) (hl : xs.length ≤ 1000000) :
    Calls Try.prog 104 #[v] w (RetI xs w) := by
  obtain ⟨a, cap, rfl, _, hc⟩ := hv
  obtain ⟨b, off, rfl, _⟩ := hc 0 xs[0] (by simp)
  have HC : Hid (∀ i y, xs[i]? = some y → w.cell? ⟨b, off + i, none⟩ = some (.int .i64 y)) := Lib.hid (fun i y hy => by obtain ⟨b', off', e, h⟩ := hc i y hy; cases e; exact h)
  have HA := Lib.hid (below_alloc w (.cells #[] 2))
  have HE := Lib.hid (show OwnI (w.alloc (.cells #[] 2)) w.heap.size (.slice (some ⟨w.heap.size, 0, none⟩) 0 0) [] from own_empty w 2 w.heap.size (Nat.le_refl _))
  clear hc
  have hnil := fun (w : World) => Lib.run_eql_slice_nil (P := Try.prog) w 35 2 (some ⟨b, off, none⟩) xs.length cap 0 0 Try.underlying35
  go_enter Try.func104, Try.ntmps104
  go_wp2_with (at_builtin; refine wp_appendI HE.out (fun i y hy => bcell HA.out (HC.out i y hy)) rfl _ _ rfl rfl rfl rfl (by simp) (by simp) hl ?_; intro v' w2 ho2 hb2)
  go_ret
  exact ⟨_, rfl, ho2, HA.out.trans hb2⟩
theorem c_l01Own (v : Value) (xs : List Int) (w : World) (hv : Ints w v xs) (hp : 0 < xs.length) (hl : xs.length ≤ 1000000) :
    Calls Try.prog 115 #[v] w (RetI xs w) := by
  obtain ⟨a, cap, rfl, _, hc⟩ := hv
  obtain ⟨b, off, rfl, _⟩ := hc 0 xs[0] (by simp)
  have HC : Hid (∀ i y, xs[i]? = some y → w.cell? ⟨b, off + i, none⟩ = some (.int .i64 y)) := Lib.hid (fun i y hy => by obtain ⟨b', off', e, h⟩ := hc i y hy; cases e; exact h)
  have HA := Lib.hid (below_alloc w (.cells #[] 2))
  have HE := Lib.hid (show OwnI (w.alloc (.cells #[] 2)) w.heap.size (.slice (some ⟨w.heap.size, 0, none⟩) 0 0) [] from own_empty w 2 w.heap.size (Nat.le_refl _))
  clear hc
  go_enter Try.func115, Try.ntmps115
  go_wp2_with (at_builtin; refine wp_appendI HE.out (fun i y hy => bcell HA.out (HC.out i y hy)) rfl _ _ rfl rfl rfl rfl (by simp) (by simp) hl ?_; intro v' w2 ho2 hb2)
  go_ret
  exact ⟨_, rfl, ho2, HA.out.trans hb2⟩
theorem take_snocM {xss : List (List Int)} {k : Nat} {x : List Int} (h : xss[k]? = some x) : xss.take (k + 1) = xss.take k ++ [x] := by
  obtain ⟨hk, rfl⟩ := List.getElem?_eq_some_iff.1 h
  exact List.take_succ_eq_append_getElem hk
theorem c_l01Own2 (v : Value) (xss : List (List Int)) (w : World) (hv : IntRows w v xss) (hr : ∀ xs ∈ xss, 0 < xs.length ∧ xs.length ≤ 1000000) (h1 : xss.length ≤ 1000000) :
    Calls Try.prog 103 #[v] w (RetM xss w) := by
  obtain ⟨a, cap, rfl, hl, hc⟩ := hv
  have HC := Lib.hid hc
  have HR := Lib.hid hr
  clear hc hr
  go_enter Try.func103, Try.ntmps103
  go_wp2_with fail
  go_loopw [3, 4] (fun s i wr => ∃ (k : Nat), k ≤ xss.length ∧ i = .int .i64 k ∧ OwnM wr w.heap.size s (xss.take k) ∧ Below w.heap.size w wr) (fun _ i _ => xss.length - (intOf i).toNat)
  case atStart => exact ⟨0, Nat.zero_le _, rfl, ownM_empty _ _ (Nat.le_refl _), below_alloc _ _⟩
  case round =>
    obtain ⟨k, hk, rfl, hown, hbel⟩ := hrel
    by_cases hlt : k < xss.length
    · obtain ⟨x, hx⟩ : ∃ x, xss[k]? = some x := ⟨xss[k], by simp [hlt]⟩
      obtain ⟨b, off, q, rfl, hcell, hI⟩ := HC.out k x hx
      have hc1 := bcell hbel hcell
      have HI := Lib.hid (hI.keep hbel)
      have HRX := Lib.hid (HR.out x (List.mem_of_getElem? hx))
      have HT := Lib.hid (take_snocM hx)
      have HOW := Lib.hid hown
      have HB := Lib.hid hbel
      have hsz := hbel.size
      clear hx hcell hI hown hbel
      go_wp2_with fail
      refine (c_l01Own q x _ HI.out HRX.out.1 HRX.out.2).mono ?_
      rintro e w1 ⟨z, rfl, ho1, hb1⟩
      obtain ⟨p5, n5, c5, rfl⟩ := ho1.slice
      have HO1 := Lib.hid ho1
      have HB1 := Lib.hid hb1
      have hsz1 := hb1.size
      clear ho1 hb1 hc1
      go_wp2_with (at_builtin; refine wp_pushM HOW.out HB1.out HO1.out rfl _ _ rfl rfl rfl (by first | with_reducible rfl | simp) (by omega) (by rw [List.length_take]; omega) ?_; intro v' w3 ho3 hb3)
      go_roundw
      case rel => exact ⟨k + 1, by omega, by go_num, by rw [HT.out]; exact ho3, (HB.out.trans (HB1.out.mono hsz)).trans hb3⟩
      case measure => simp [intOf]; omega
    · obtain rfl : k = xss.length := by omega
      have HOW := Lib.hid hown
      have HB := Lib.hid hbel
      clear hown hbel
      go_wp2_with fail
      go_ret
      exact ⟨_, rfl, by have h := HOW.out; rw [List.take_length] at h; exact h, HB.out⟩
end Go.Proofs.Ytmbcncmmgfnlmaa

/- Walks: rows of field numbers added and multiplied by the reference; lists and tables of field numbers. -/
namespace Go.Proofs.Ytmbcncmmgfnlmaa
open Go.RowKit
open Fus (F Mx toI ofI toI_bd toI_of ofI_toI ofI_add ofI_mul ofI_sub ofI_neg toI_ofI ofI_mod finv)

theorem iinv_toI (a : F) : iinv (toI a) = toI (finv a) := by rw [iinv_nat, Fus.toI_finv]
/-- the integers of a vector, of a table -/
def zl (n : Nat) (f : Nat → F) : List Int := vec n fun j => toI (f j)
def tabF (r c : Nat) (f : Mx) : List (List Int) := vec r fun i => zl c (f i)
theorem zl_length (n : Nat) (f : Nat → F) : (zl n f).length = n := vec_length _ _
theorem zl_at {n k : Nat} (f : Nat → F) (h : k < n) : (zl n f)[k]? = some (toI (f k)) := vec_at _ h
theorem zl_snoc (n : Nat) (f : Nat → F) : zl (n + 1) f = zl n f ++ [toI (f n)] := vec_snoc _ _
theorem zl_congr {n : Nat} {f g : Nat → F} (h : ∀ i, i < n → f i = g i) : zl n f = zl n g := vec_congr fun i hi => by rw [h i hi]
theorem zl_num (n : Nat) (f : Nat → F) : (zl n f).all isNum = true := by
  rw [List.all_eq_true]; intro x hx; obtain ⟨i, _, rfl⟩ := vec_mem hx; exact isNum_yes (toI_bd _).1 (toI_bd _).2
theorem tabF_length (r c : Nat) (f : Mx) : (tabF r c f).length = r := vec_length _ _
theorem tabF_at {r k : Nat} (c : Nat) (f : Mx) (h : k < r) : (tabF r c f)[k]? = some (zl c (f k)) := vec_at _ h
theorem tabF_snoc (r c : Nat) (f : Mx) : tabF (r + 1) c f = tabF r c f ++ [zl c (f r)] := vec_snoc _ _
theorem tabF_congr {r c : Nat} {f g : Mx} (h : ∀ i j, i < r → j < c → f i j = g i j) : tabF r c f = tabF r c g := vec_congr fun i hi => zl_congr fun j hj => h i j hi hj
theorem tabF_tab (r c : Nat) (f : Mx) : tabF r c f = tab r c fun i j => toI (f i j) := rfl
/-- the field numbers of a table -/
def entF (m : List (List Int)) : Mx := fun i j => ofI (ent m i j)
theorem good_F {m : List (List Int)} {c : Nat} (h : Good m c) : m = tabF m.length c (entF m) := by
  have e := h.tab
  rw [tabF_tab]
  exact e.trans (tab_congr fun i j _ _ => by show ent m i j = toI (ofI (ent m i j)); rw [toI_ofI]; have := h.num i j; omega)
theorem tabF_mem {r c : Nat} {f : Mx} {xs : List Int} (h : xs ∈ tabF r c f) : xs.length = c := by
  obtain ⟨i, _, rfl⟩ := vec_mem h; exact zl_length _ _
theorem zl_eq_num {xs : List Int} (h : xs.all isNum = true) : xs = zl xs.length fun j => ofI (xs.getD j 0) := by
  refine list_ext_getD (zl_length _ _).symm fun j hj => ?_
  have e1 : xs[j]? = some (xs.getD j 0) := by simp [List.getD_eq_getElem?_getD, hj]
  have e2 := zl_at (n := xs.length) (fun j => ofI (xs.getD j 0)) hj
  rw [List.getD_eq_getElem?_getD (l := zl _ _), e2]
  show _ = toI (ofI (xs.getD j 0))
  rw [toI_ofI]
  have := nums_at h e1
  omega

theorem bkeep {B : Nat} {w w' : World} {b o : Nat} {v : Value} (hb : Below B w w') (hlt : b < B) (h : w.cell? ⟨b, o, none⟩ = some v) : w'.cell? ⟨b, o, none⟩ = some v :=
  (hb.cell (p := ⟨b, o, none⟩) hlt).trans h
theorem below_more {B : Nat} {w0 wr w2 : World} {o : Obj} (h : Below B w0 wr) (hsz : B ≤ wr.heap.size) (h2 : Below B (wr.alloc o).drew w2) : Below B w0 w2 :=
  (h.alloc hsz o).trans ⟨h2.os, h2.tape, h2.output, h2.size, h2.block⟩
theorem below_drewed {B : Nat} {w0 wr w2 : World} (h : Below B w0 wr) (h2 : Below B wr.drew w2) : Below B w0 w2 :=
  h.trans ⟨h2.os, h2.tape, h2.output, h2.size, h2.block⟩
/-- append of one integer as a step of a region that draws its order -/
theorem step_pushI {ops : Array Oper} {o : Oper} {a : Act} {K : Act → World → Prop} {Q : Exit → Act → World → Prop} {E : Prop} {w : World} {B gx : Nat} {v : Value} {y : Int} {xs : List Int} (hown : OwnI w B v xs) (hcell : w.cell? ⟨gx, 0, none⟩ = some (.int .i64 y)) (hgd : o.guard = none) (s x : Operand)
    (ho : o.op = .call { callee := .builtin .append, args := #[s, x], argTypes := #[35, 35] })
    (hs : a.eval s = v) (hx : a.eval x = .slice (some ⟨gx, 0, none⟩) 1 1) (hB : B ≤ w.heap.size) (hlen : xs.length ≤ 1000000)
    (h : ∀ v' w', OwnI w' B v' (xs ++ [y]) → Below B w w' → K (a.put o.dst v') w') :
    if Region.wanted o (yielded ops a.tmps) = true then Oper.wp Try.prog o a w K Q else E := by
  have hw : Region.wanted o (yielded ops a.tmps) = true := by simp [Region.wanted, hgd]
  rw [if_pos hw]
  obtain ⟨i, hi, hz0, hz1', hz2⟩ := info_parts info_int
  refine wp_append_own _ s x _ ho B 2 i (.int .i64 0) 1 8 Try.underlying35 hi hz0 hz1' hz2 rfl (by omega) v (xs.map vi).length (xs.map vi) hs hown ⟨gx, 0, none⟩ 1 1 [vi y] hx rfl ?_ ?_ ?_ ?_ hB ?_
  · intro j u' hj
    cases j with
    | zero => simp at hj; subst hj; simpa [Addr.add] using hcell
    | succ j => simp at hj
  · intro u' hu'
    simp at hu'
    subst hu'
    rfl
  · rw [List.length_map]; unfold maxLen; omega
  · rw [List.length_map]; omega
  · intro v' w' h1 h2 _
    refine h v' w' ?_ ⟨h2.os, h2.tape, h2.output, h2.size, fun k hk => h2.block k (by omega) (fun e => by have := (hown.lt e.symm).1; omega)⟩
    have e : (xs.map vi ++ [vi y]).length = (xs.map vi).length + 1 := by simp
    unfold OwnI Own
    rw [List.map_append, show [y].map vi = [vi y] from rfl, e]
    exact h1
theorem c_l02Scale (v : Value) (n : Nat) (f : Nat → F) (t : F) (w : World) (hv : Ints w v (zl n f)) (hl : n ≤ 100000) :
    Calls Try.prog 121 #[v, .int .i64 (toI t)] w (RetI (zl n fun j => f j * t) w) := by
  obtain ⟨a, cap, hveq, _, hc⟩ := hv
  rw [zl_length] at hveq
  subst hveq
  have HC := Lib.hid hc
  clear hc
  have hb := toI_bd t
  obtain ⟨hc1, hc2⟩ := hb
  go_enter Try.func121, Try.ntmps121
  go_wp2_with fail
  go_loopw [5, 6] (fun s i wr => ∃ (k : Nat), k ≤ n ∧ i = .int .i64 k ∧ OwnI wr w.heap.size s (zl k fun j => f j * t) ∧ Below w.heap.size w wr) (fun _ i _ => n - (intOf i).toNat)
  case atStart => exact ⟨0, Nat.zero_le _, rfl, own_empty _ _ _ (Nat.le_refl _), below_alloc _ _⟩
  case round =>
    obtain ⟨k, hk, rfl, hown, hbel⟩ := hrel
    by_cases hlt : k < n
    · obtain ⟨b, off, rfl, hcell⟩ := HC.out k _ (zl_at f hlt)
      have g1 := bcell hbel hcell
      have hx := toI_bd (f k)
      obtain ⟨hx1, hx2⟩ := hx
      have HV : Hid (toI (f k) * toI t % 55441 = toI (f k * t)) := Lib.hid (toI_of (by rw [ofI_mul, ofI_toI, ofI_toI])).symm
      generalize toI (f k) = x at *
      have hpr := prod_bd hx1 hx2 hc1 hc2
      obtain ⟨hpr1, hpr2⟩ := hpr
      have HOW := Lib.hid hown
      have HB := Lib.hid hbel
      have hsz := hbel.size
      clear hcell hown hbel
      go_wp2_with (at_builtin; refine wp_pushI HOW.out rfl _ _ rfl rfl rfl (by first | with_reducible rfl | simp) (by omega) (by rw [zl_length]; omega) ?_; intro v' w2 ho2 _ hb2)
      go_roundw
      case rel => exact ⟨k + 1, by omega, by go_num, by rw [zl_snoc, ← HV.out]; exact ho2, HB.out.trans hb2⟩
      case measure => simp [intOf]; omega
    · obtain rfl : k = n := by omega
      have HOW := Lib.hid hown
      have HB := Lib.hid hbel
      clear hown hbel
      go_wp2_with fail
      go_ret
      exact ⟨_, rfl, HOW.out, HB.out⟩
set_option maxRecDepth 100000 in
set_option maxHeartbeats 1600000 in
theorem c_l02Plus (u v : Value) (n m : Nat) (f g : Nat → F) (t : F) (w : World) (hu : Ints w u (zl n f)) (hv : Ints w v (zl m g)) (hnm : n ≤ m) (hl : n ≤ 100000) :
    Calls Try.prog 113 #[u, v, .int .i64 (toI t)] w (RetI (zl n fun j => f j + t * g j) w) := by
  obtain ⟨a, cap, hueq, _, hc⟩ := hu
  obtain ⟨a', cap', hveq, _, hc'⟩ := hv
  rw [zl_length] at hueq hveq
  subst hueq hveq
  have HC := Lib.hid hc
  have HC' := Lib.hid hc'
  clear hc hc'
  have hb := toI_bd t
  obtain ⟨hc1, hc2⟩ := hb
  go_enter Try.func113, Try.ntmps113
  go_wp2_with fail
  go_loopw [7, 8] (fun s i wr => ∃ (k : Nat), k ≤ n ∧ i = .int .i64 k ∧ OwnI wr w.heap.size s (zl k fun j => f j + t * g j) ∧ Below w.heap.size w wr) (fun _ i _ => n - (intOf i).toNat)
  case atStart => exact ⟨0, Nat.zero_le _, rfl, own_empty _ _ _ (Nat.le_refl _), below_alloc _ _⟩
  case round =>
    obtain ⟨k, hk, rfl, hown, hbel⟩ := hrel
    by_cases hlt : k < n
    · obtain ⟨b, off, rfl, hcell⟩ := HC.out k _ (zl_at f hlt)
      obtain ⟨b', off', rfl, hcell'⟩ := HC'.out k _ (zl_at g (show k < m by omega))
      have hlb := Ints.lt hcell
      have hlb' := Ints.lt hcell'
      have g1 := bcell hbel hcell
      have g2 := bcell hbel hcell'
      have hx := toI_bd (f k)
      obtain ⟨hx1, hx2⟩ := hx
      have hy := toI_bd (g k)
      obtain ⟨hy1, hy2⟩ := hy
      have HV : Hid ((toI (f k) + toI t * toI (g k)) % 55441 = toI (f k + t * g k)) := Lib.hid (toI_of (by rw [ofI_add, ofI_mul, ofI_toI, ofI_toI, ofI_toI])).symm
      generalize toI (f k) = x at *
      generalize toI (g k) = y at *
      have hpr := prod_bd hc1 hc2 hy1 hy2
      obtain ⟨hpr1, hpr2⟩ := hpr
      have HOW := Lib.hid hown
      have HB := Lib.hid hbel
      have hsz := hbel.size
      clear hcell hcell' hown hbel
      have hk0 : (0 : Int) ≤ (k : Int) := Int.natCast_nonneg _
      have hk1 : (k : Int) < (n : Int) := by omega
      have hk2 : (k : Int) < (m : Int) := by omega
      have hw1 : IntKind.i64.wrap (toI t * y) = toI t * y := IntWalk.i64_in _ (by omega)
      have hw3 : IntKind.i64.wrap (x + toI t * y) = x + toI t * y := IntWalk.i64_in _ (by omega)
      have hw2 : (x + toI t * y).tmod 55441 = (x + toI t * y) % 55441 := Int.tmod_eq_emod_of_nonneg (by omega)
      go_wp2_with fail
      go_region_held3 (fun w' => w'.cell? ⟨b, off + k, none⟩ = some (.int .i64 x) ∧ w'.cell? ⟨b', off' + k, none⟩ = some (.int .i64 y))
        (first | go_keep | (refine ⟨bkeep hb2 hlb ?_, bkeep hb2 hlb' ?_⟩ <;> go_keep))
        ((refine step_pushI (gx := wr.heap.size) (y := (x + toI t * y) % 55441) ((HOW.out.alloc _).drewN 1) (by simp) (by rfl) _ _ (by rfl) (by rfl) (by rfl) (by simp; omega) (by rw [zl_length]; omega) ?_; intro v' w2 ho2 hb2))
      go_wp2_with fail
      go_roundw
      case rel => exact ⟨k + 1, by omega, by go_num, by rw [zl_snoc, ← HV.out]; exact ho2, below_more HB.out hsz hb2⟩
      case measure => simp [intOf]; omega
    · obtain rfl : k = n := by omega
      have HOW := Lib.hid hown
      have HB := Lib.hid hbel
      clear hown hbel
      go_wp2_with fail
      go_ret
      exact ⟨_, rfl, HOW.out, HB.out⟩
end Go.Proofs.Ytmbcncmmgfnlmaa

/- Memory: rows exchanged and replaced in an owned table, the first rows of one. No walk. -/
namespace Go.Proofs.Ytmbcncmmgfnlmaa
open Go.RowKit
open Fus (F Mx toI ofI toI_bd toI_of ofI_toI finv)

theorem tabF_set {r c i : Nat} (f : Mx) (h : Nat → F) : (tabF r c f).set i (zl c h) = tabF r c (Fus.setR f i h) := by
  unfold tabF
  rw [vec_set]
  refine vec_congr fun a _ => ?_
  by_cases e : a = i
  · rw [if_pos e]; exact zl_congr fun j _ => by simp [Fus.setR, e]
  · rw [if_neg e]; exact zl_congr fun j _ => by simp [Fus.setR, e]
theorem zl_set {c k : Nat} (f : Nat → F) (x : F) : (zl c f).set k (toI x) = zl c (fun j => if j = k then x else f j) := by
  unfold zl; rw [vec_set]; exact vec_congr fun j _ => by
    show (if j = k then toI x else toI (f j)) = toI (if j = k then x else f j)
    split <;> rfl
theorem tabF_upd {r c i k : Nat} (f : Mx) (x : F) : (tabF r c f).set i ((zl c (f i)).set k (toI x)) = tabF r c (fun a b => if a = i ∧ b = k then x else f a b) := by
  rw [zl_set, tabF_set]
  refine tabF_congr fun a b _ _ => ?_
  by_cases e1 : a = i
  · subst e1; simp [Fus.setR]
  · simp [Fus.setR, e1]
theorem tabF_take {r c d : Nat} (f : Mx) (h : d ≤ r) : (tabF r c f).take d = tabF d c f := by
  unfold tabF vec
  rw [← List.map_take, List.take_range, Nat.min_eq_left h]

section
variable {w w' : World} {T : TypeId} {B : Nat} {v u : Value} {us : List Value}
theorem Own.take {g n cap d : Nat} (h : Own w T B (.slice (some ⟨g, 0, none⟩) n cap) us) (hd : d ≤ n) : Own w T B (.slice (some ⟨g, 0, none⟩) d cap) (us.take d) := by
  have hn := h.len
  subst hn
  unfold Own at h ⊢
  obtain ⟨_, h2⟩ := h
  have hl : (us.take d).length = d := by rw [List.length_take]; omega
  rw [hl]
  refine ⟨by rw [hl]; omega, .inr ?_⟩
  rcases h2 with ⟨h3, _⟩ | ⟨g', cap', cur, h3, h4, h5, h6, h7, h8, h9⟩
  · cases h3
  · cases h3
    refine ⟨g, cap, cur, rfl, h4, h5, by omega, h7, h8, ?_⟩
    rw [← h9, List.take_take]
    congr 1
    omega
theorem Own.capLe {g n cap : Nat} (h : Own w T B (.slice (some ⟨g, 0, none⟩) n cap) us) : n ≤ cap := by
  have hn := h.len
  rcases h.shape with ⟨h1, _⟩ | ⟨g', cap', h1, _, _, h2⟩
  · cases h1
  · cases h1; exact h2
end
theorem OwnM.capLe {w : World} {B g n cap : Nat} {xss : List (List Int)} (h : OwnM w B (.slice (some ⟨g, 0, none⟩) n cap) xss) : n ≤ cap := by
  obtain ⟨us, ho, _⟩ := h; exact ho.capLe
theorem OwnM.take {w : World} {B g n cap d : Nat} {xss : List (List Int)} (h : OwnM w B (.slice (some ⟨g, 0, none⟩) n cap) xss) (hd : d ≤ n) : OwnM w B (.slice (some ⟨g, 0, none⟩) d cap) (xss.take d) := by
  obtain ⟨us, ho, hlen, hr, ha⟩ := h
  refine ⟨us.take d, ho.take hd, by simp [hlen], fun i u xs h1 h2 => ?_, fun i j u u' h1 h2 => ?_⟩
  · rw [List.getElem?_take] at h1 h2
    split at h1
    · rw [if_pos (by assumption)] at h2; exact hr i u xs h1 h2
    · cases h1
  · rw [List.getElem?_take] at h1 h2
    split at h1
    · split at h2
      · exact ha i j u u' h1 h2
      · cases h2
    · cases h1
theorem OwnM.drewN {w : World} {B : Nat} {v : Value} {xss : List (List Int)} (h : OwnM w B v xss) (n : Nat) : OwnM (w.drewN n) B v xss := by
  obtain ⟨us, ho, hlen, hr, ha⟩ := h
  exact ⟨us, ho, hlen, fun i u xs h1 h2 => hr i u xs h1 h2, ha⟩
theorem OwnM.len {w : World} {B g n cap : Nat} {s : Option Nat} {o : Nat} {xss : List (List Int)} (h : OwnM w B (.slice (some ⟨g, o, s⟩) n cap) xss) : n = xss.length := by
  obtain ⟨us, ho, hlen, _⟩ := h
  rw [ho.len, hlen]
theorem OwnM.frozenAt {w : World} {B g n cap : Nat} {xss : List (List Int)} (h : OwnM w B (.slice (some ⟨g, 0, none⟩) n cap) xss) (i : Nat) : w.frozen? ⟨g, i, none⟩ = false := by
  obtain ⟨us, ho, _⟩ := h; exact ho.frozen i
/-- what the walk wants to know where a row of an owned table is read -/
theorem OwnM.rowK {w : World} {B g n cap : Nat} {xss : List (List Int)} {k : Nat} {xs : List Int} (h : OwnM w B (.slice (some ⟨g, 0, none⟩) n cap) xss) (hx : xss[k]? = some xs) (hp : 0 < xs.length) :
    ∃ gk ck, w.cell? ⟨g, k, none⟩ = some (.slice (some ⟨gk, 0, none⟩) xs.length ck) ∧ OwnI w B (.slice (some ⟨gk, 0, none⟩) xs.length ck) xs ∧ gk ≠ g ∧ B ≤ gk ∧ gk < w.heap.size := by
  have h' := h
  obtain ⟨us, ho, _⟩ := h'
  obtain ⟨u, hu, hI⟩ := h.rowAt hx
  rcases hI.shape with ⟨_, h2⟩ | ⟨gk, ck, rfl, h3, h4, _⟩
  · rw [List.map_eq_nil_iff] at h2; subst h2; simp at hp
  · rw [List.length_map] at hu hI
    exact ⟨gk, ck, hu, hI, fun e => Own.other ho hI (by decide) rfl (by rw [e]; rfl), h3, h4⟩
theorem cell_set_over {w : World} {g p d : Nat} {u up : Value} (hp : w.cell? ⟨g, p, none⟩ = some up) (hd : w.cell? ⟨g, d, none⟩ = some u) : (w.setCell ⟨g, p, none⟩ u).cell? ⟨g, d, none⟩ = some u := by
  by_cases e : p = d
  · subst e; exact World.cell?_setCell_same _ _ _ hp
  · rw [World.cell?_setCell_other _ _ _ _ (fun h => e (by cases h; rfl))]; exact hd
theorem OwnM.lt {w : World} {B g n cap : Nat} {xss : List (List Int)} (h : OwnM w B (.slice (some ⟨g, 0, none⟩) n cap) xss) : B ≤ g ∧ g < w.heap.size := by
  obtain ⟨us, ho, _⟩ := h; exact ho.lt rfl
/-- .. where an entry of an owned table is read or written -/
theorem OwnM.entryI {w : World} {B g n cap : Nat} {xss : List (List Int)} {k i : Nat} {xs : List Int} {y : Int} (h : OwnM w B (.slice (some ⟨g, 0, none⟩) n cap) xss) (hx : xss[k]? = some xs) (hy : xs[i]? = some y) :
    ∃ gk ck, w.cell? ⟨g, k, none⟩ = some (.slice (some ⟨gk, 0, none⟩) xs.length ck) ∧ w.cell? ⟨gk, i, none⟩ = some (vi y) ∧ w.frozen? ⟨gk, i, none⟩ = false ∧ B ≤ gk ∧ gk ≠ g ∧
      (∀ x, OwnM (w.setCell ⟨gk, i, none⟩ (vi x)) B (.slice (some ⟨g, 0, none⟩) n cap) (xss.set k (xs.set i x))) ∧ OwnI w B (.slice (some ⟨gk, 0, none⟩) xs.length ck) xs := by
  obtain ⟨gk, ck, h1, h2, h3, h4, h5, h6⟩ := h.entry hx hy
  obtain ⟨gk', ck', h7, h8, _⟩ := h.rowK hx (by have := (List.getElem?_eq_some_iff.1 hy).1; omega)
  rw [h1] at h7
  cases h7
  exact ⟨gk, ck, h1, h2, h3, h4, h5, h6, h8⟩
/-- two rows exchanged -/
theorem OwnM.swap {w : World} {B g n cap : Nat} {xss : List (List Int)} {a b : Nat} {ua ub : Value} {xa xb : List Int} (h : OwnM w B (.slice (some ⟨g, 0, none⟩) n cap) xss)
    (ha : w.cell? ⟨g, a, none⟩ = some ua) (hb : w.cell? ⟨g, b, none⟩ = some ub) (hxa : xss[a]? = some xa) (hxb : xss[b]? = some xb) (hab : a ≠ b) :
    OwnM ((w.setCell ⟨g, a, none⟩ ub).setCell ⟨g, b, none⟩ ua) B (.slice (some ⟨g, 0, none⟩) n cap) ((xss.set a xb).set b xa) := by
  obtain ⟨us, ho, hlen, hr, hap⟩ := h
  have hla := (List.getElem?_eq_some_iff.1 hxa).1
  have hlb := (List.getElem?_eq_some_iff.1 hxb).1
  have hua : us[a]? = some ua := by
    obtain ⟨u, hu⟩ : ∃ u, us[a]? = some u := ⟨us[a]'(by omega), by simp⟩
    have := Own.cell ho hu
    rw [ha] at this; cases this; exact hu
  have hub : us[b]? = some ub := by
    obtain ⟨u, hu⟩ : ∃ u, us[b]? = some u := ⟨us[b]'(by omega), by simp⟩
    have := Own.cell ho hu
    rw [hb] at this; cases this; exact hu
  have idx : ∀ (j : Nat) (u : Value), ((us.set a ub).set b ua)[j]? = some u → (if j = b then us[a]? else if j = a then us[b]? else us[j]?) = some u := by
    intro j u hj
    rw [List.getElem?_set] at hj
    by_cases e : b = j
    · rw [if_pos e] at hj; rw [if_pos e.symm]
      split at hj
      · rw [hua]; exact hj
      · cases hj
    · rw [if_neg e] at hj; rw [if_neg (fun e' => e e'.symm)]
      rw [List.getElem?_set] at hj
      by_cases e2 : a = j
      · rw [if_pos e2] at hj; rw [if_pos e2.symm]
        split at hj
        · rw [hub]; exact hj
        · cases hj
      · rw [if_neg e2] at hj; rw [if_neg (fun e' => e2 e'.symm)]; exact hj
  have idx2 : ∀ (j : Nat) (x : List Int), ((xss.set a xb).set b xa)[j]? = some x → (if j = b then xss[a]? else if j = a then xss[b]? else xss[j]?) = some x := by
    intro j u hj
    rw [List.getElem?_set] at hj
    by_cases e : b = j
    · rw [if_pos e] at hj; rw [if_pos e.symm]
      split at hj
      · rw [hxa]; exact hj
      · cases hj
    · rw [if_neg e] at hj; rw [if_neg (fun e' => e e'.symm)]
      rw [List.getElem?_set] at hj
      by_cases e2 : a = j
      · rw [if_pos e2, if_pos (by omega)] at hj; rw [if_pos e2.symm, hxb]; exact hj
      · rw [if_neg e2] at hj; rw [if_neg (fun e' => e2 e'.symm)]; exact hj
  have row : ∀ {j : Nat} {u : Value} {xs : List Int}, us[j]? = some u → xss[j]? = some xs → OwnI ((w.setCell ⟨g, a, none⟩ ub).setCell ⟨g, b, none⟩ ua) B u xs := by
    intro j u xs h1 h2
    have h0 := hr j u xs h1 h2
    have hne : u.ownBlock ≠ some g := Own.other ho h0 (by decide) rfl
    exact Own.keepOther (a := ⟨g, b, none⟩) (Own.keepOther (a := ⟨g, a, none⟩) h0 hne _) hne _
  refine ⟨(us.set a ub).set b ua, (ho.store a ub).store b ua, by simp [hlen], fun j u xs h1 h2 => ?_, fun j k u1 u2 h1 h2 hjk => ?_⟩
  · have i1 := idx j u h1
    have i2 := idx2 j xs h2
    by_cases e : j = b
    · rw [if_pos e] at i1 i2; exact row i1 i2
    · rw [if_neg e] at i1 i2
      by_cases e2 : j = a
      · rw [if_pos e2] at i1 i2; exact row i1 i2
      · rw [if_neg e2] at i1 i2; exact row i1 i2
  · have i1 := idx j u1 h1
    have i2 := idx k u2 h2
    have pick : ∀ l : Nat, (if l = b then us[a]? else if l = a then us[b]? else us[l]?) = us[if l = b then a else if l = a then b else l]? := fun l => by split; rfl; split <;> rfl
    rw [pick] at i1 i2
    exact hap _ _ u1 u2 i1 i2 (by split <;> split <;> (try split) <;> (try split) <;> omega)
/-- row p gets row d, and row d a new row -/
theorem OwnM.swapIn {w0 w2 : World} {B g n cap p d : Nat} {xss : List (List Int)} {ud u : Value} {xd xs : List Int} (h : OwnM w0 B (.slice (some ⟨g, 0, none⟩) n cap) xss) (hB : B ≤ w0.heap.size)
    (hd : w0.cell? ⟨g, d, none⟩ = some ud) (hxd : xss[d]? = some xd) (hb : Below w0.heap.size (w0.setCell ⟨g, p, none⟩ ud) w2) (hu : OwnI w2 w0.heap.size u xs) :
    OwnM (w2.setCell ⟨g, d, none⟩ u) B (.slice (some ⟨g, 0, none⟩) n cap) ((xss.set p xd).set d xs) := by
  obtain ⟨us, ho, hlen, hr, hap⟩ := h
  have hld := (List.getElem?_eq_some_iff.1 hxd).1
  have hud : us[d]? = some ud := by
    obtain ⟨u, hu⟩ : ∃ u, us[d]? = some u := ⟨us[d]'(by omega), by simp⟩
    have := Own.cell ho hu
    rw [hd] at this; cases this; exact hu
  have hglt : g < w0.heap.size := (ho.lt rfl).2
  have hb' : Below (w0.setCell ⟨g, p, none⟩ ud).heap.size (w0.setCell ⟨g, p, none⟩ ud) w2 := hb.mono (by simp)
  have row : ∀ {j : Nat} {u' : Value} {xs' : List Int}, us[j]? = some u' → xss[j]? = some xs' → OwnI (w2.setCell ⟨g, d, none⟩ u) B u' xs' := by
    intro j u' xs' h1 h2
    have h0 := hr j u' xs' h1 h2
    have hne : u'.ownBlock ≠ some g := Own.other ho h0 (by decide) rfl
    exact Own.keepOther (a := ⟨g, d, none⟩) ((Own.keepOther (a := ⟨g, p, none⟩) h0 hne _).keep hb') hne _
  have old : ∀ (j : Nat) (u' : Value), us[j]? = some u' → ∀ b, u'.ownBlock = some b → b < w0.heap.size := by
    intro j u' h b hb'
    obtain ⟨xs', hx'⟩ : ∃ xs', xss[j]? = some xs' := ⟨xss[j]'(by rw [← hlen]; exact (List.getElem?_eq_some_iff.1 h).1), by simp⟩
    exact ((hr j u' xs' h hx').lt hb').2
  have idx : ∀ (j : Nat) (u' : Value), ((us.set p ud).set d u)[j]? = some u' → (j = d ∧ u' = u) ∨ (j ≠ d ∧ us[if j = p then d else j]? = some u') := by
    intro j u' hj
    rw [List.getElem?_set] at hj
    by_cases e : d = j
    · rw [if_pos e] at hj
      split at hj
      · cases hj; exact .inl ⟨e.symm, rfl⟩
      · cases hj
    · rw [if_neg e] at hj
      rw [List.getElem?_set] at hj
      by_cases e2 : p = j
      · rw [if_pos e2] at hj
        split at hj
        · cases hj; exact .inr ⟨fun e' => e e'.symm, by rw [if_pos e2.symm]; exact hud⟩
        · cases hj
      · rw [if_neg e2] at hj
        exact .inr ⟨fun e' => e e'.symm, by rw [if_neg (fun e' => e2 e'.symm)]; exact hj⟩
  have idx2 : ∀ (j : Nat) (x : List Int), ((xss.set p xd).set d xs)[j]? = some x → (j = d ∧ x = xs) ∨ (j ≠ d ∧ xss[if j = p then d else j]? = some x) := by
    intro j u' hj
    rw [List.getElem?_set] at hj
    by_cases e : d = j
    · rw [if_pos e] at hj
      split at hj
      · cases hj; exact .inl ⟨e.symm, rfl⟩
      · cases hj
    · rw [if_neg e] at hj
      rw [List.getElem?_set] at hj
      by_cases e2 : p = j
      · rw [if_pos e2] at hj
        split at hj
        · cases hj; exact .inr ⟨fun e' => e e'.symm, by rw [if_pos e2.symm]; exact hxd⟩
        · cases hj
      · rw [if_neg e2] at hj
        exact .inr ⟨fun e' => e e'.symm, by rw [if_neg (fun e' => e2 e'.symm)]; exact hj⟩
  refine ⟨(us.set p ud).set d u, ((ho.store p ud).keep hb').store d u, by simp [hlen], fun j u' x h1 h2 => ?_, fun j k u1 u2 h1 h2 hjk b hb1 hb2 => ?_⟩
  · rcases idx j u' h1 with ⟨e, rfl⟩ | ⟨e, i1⟩
    · rcases idx2 j x h2 with ⟨_, rfl⟩ | ⟨e2, _⟩
      · exact (hu.keepOther (fun e => by have := (hu.lt e).1; simp at this; omega) _).mono hB
      · exact absurd e e2
    · rcases idx2 j x h2 with ⟨e2, _⟩ | ⟨_, i2⟩
      · exact absurd e2 e
      · exact row i1 i2
  · rcases idx j u1 h1 with ⟨e1, rfl⟩ | ⟨e1, i1⟩ <;> rcases idx k u2 h2 with ⟨e2, rfl⟩ | ⟨e2, i2⟩
    · omega
    · have := (hu.lt hb1).1; have := old _ u2 i2 b hb2; omega
    · have := (hu.lt hb2).1; have := old _ u1 i1 b hb1; omega
    · refine hap _ _ u1 u2 i1 i2 ?_ b hb1 hb2
      split <;> split <;> omega
/-- an owned row stays while rows of a table are replaced -/
theorem OwnI.stays {w0 w : World} {B B' g n cap i : Nat} {xss : List (List Int)} {R u : Value} {xs : List Int} (h : OwnI w0 B' R xs) (hm : OwnM w0 B (.slice (some ⟨g, 0, none⟩) n cap) xss) (hb : Below w0.heap.size w0 w) : OwnI (w.setCell ⟨g, i, none⟩ u) B' R xs := by
  obtain ⟨us, ho, _⟩ := hm
  exact Own.keepOther (a := ⟨g, i, none⟩) (Own.keep h hb) (Own.other ho h (by decide) rfl) _
end Go.Proofs.Ytmbcncmmgfnlmaa
