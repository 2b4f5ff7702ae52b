/- Walks: bases of kernels by the reference. -/
import Derived.Test.YtmbcncmmgfnlmaaBas
import Derived.Test.YtmbcncmmgfnlmaaAlg
import Derived.Test.YtmbcncmmgfnlmaaGrd
namespace Go.Proofs.Ytmbcncmmgfnlmaa
open Go.RowKit
attribute [local go_sem ↓] Go.wp_at_zero Go.wp_at_succ
open Fus (F Mx toI ofI toI_bd toI_of ofI_toI ofI_neg ofI_mul finv redR redR_d ld isFree frees fvec freeRows kerR sm)

/-- the reduced basis of the kernel as a table -/
def kerF (r c : Nat) (f : Mx) : List (List Int) := tabF (kerR r c f).d c (kerR r c f).f
/-- the vectors of some free columns -/
def rowsOf (c : Nat) (g : Mx) (d : Nat) (ks : List Nat) : List (List Int) := ks.map fun k => zl c (fvec g d (ld g c) k)
theorem rowsOf_all (c : Nat) (g : Mx) (d : Nat) : rowsOf c g d (frees g c d c) = tabF (frees g c d c).length c (freeRows g c d) := by
  unfold rowsOf tabF freeRows
  generalize frees g c d c = ks
  refine List.ext_getElem? fun i => ?_
  by_cases h : i < ks.length
  · rw [vec_at _ h, List.getElem?_map, List.getElem?_eq_getElem h, List.getD_eq_getElem?_getD, List.getElem?_eq_getElem h]; rfl
  · rw [List.getElem?_eq_none (by rw [List.length_map]; omega), List.getElem?_eq_none (by rw [vec_length]; omega)]
theorem rowsOf_next {c d k : Nat} {g : Mx} (h : isFree g c d k = true) : rowsOf c g d (frees g c d (k + 1)) = rowsOf c g d (frees g c d k) ++ [zl c (fvec g d (ld g c) k)] := by
  rw [Fus.frees_succ, h]; simp [rowsOf]
theorem rowsOf_skip {c d k : Nat} {g : Mx} (h : isFree g c d k = false) : rowsOf c g d (frees g c d (k + 1)) = rowsOf c g d (frees g c d k) := by
  rw [Fus.frees_succ, h]; simp [rowsOf]
theorem frees_le (g : Mx) (c d n : Nat) : (frees g c d n).length ≤ n := by
  unfold frees; exact Nat.le_trans (List.length_filter_le _ _) (by simp)
theorem rowsOf_length (c : Nat) (g : Mx) (d n : Nat) : (rowsOf c g d (frees g c d n)).length ≤ n := by
  unfold rowsOf; rw [List.length_map]; exact frees_le g c d n
/-- the leading places as integers -/
def leads (g : Mx) (c d : Nat) : List Int := vec d fun i => (ld g c i : Int)
theorem leads_any (g : Mx) (c d k : Nat) : (leads g c d).any (fun x => x == (k : Int)) = !(isFree g c d k) := by
  unfold leads vec isFree
  rw [List.any_map, List.not_all_eq_any_not]
  congr 1
  funext i
  show ((ld g c i : Int) == (k : Int)) = !(ld g c i != k)
  by_cases h : ld g c i = k
  · simp [h]
  · have h1 : ¬ ((ld g c i : Int) = (k : Int)) := by omega
    rw [beq_eq_false_iff_ne.2 h1]; simpa using h
/-- a free vector with the first i leading places filled -/
def fvTo (g : Mx) (c : Nat) (k : Nat) (i : Nat) : Nat → F := fun j => (if j = k then 1 else 0) - sm i fun a => if j = ld g c a then g a k else 0
theorem fvTo_end (g : Mx) (c d k : Nat) : fvTo g c k d = fvec g d (ld g c) k := rfl
theorem fvTo_start (c : Nat) (g : Mx) (k : Nat) : (vec c fun _ => (0 : Int)).set k 1 = zl c (fvTo g c k 0) := by
  unfold zl
  rw [vec_set]
  refine vec_congr fun j _ => ?_
  show (if j = k then (1 : Int) else 0) = toI ((if j = k then 1 else 0) - 0)
  split
  · rw [show (1 : F) - 0 = 1 from by grind, Fus.toI_one]
  · rw [show (0 : F) - 0 = 0 from by grind, Fus.toI_zero]
theorem fvTo_next {c d k i : Nat} {g : Mx} {p : Nat → Nat} {r : Nat} (h : Fus.Red r c g d p) (hk : isFree g c d k = true) (hi : i < d) : (zl c (fvTo g c k i)).set (ld g c i) (toI (-(g i k))) = zl c (fvTo g c k (i + 1)) := by
  rw [zl_set]
  refine zl_congr fun j _ => ?_
  have h0 : fvTo g c k i (ld g c i) = 0 := by
    simp only [fvTo]
    rw [if_neg (Fus.isFree_iff.1 hk i hi), Fus.sm_zero (fun a ha => by
      rw [if_neg]
      have := (Fus.red_ld h).inc a i ha hi
      omega)]
    grind
  have e : fvTo g c k (i + 1) j = fvTo g c k i j - (if j = ld g c i then g i k else 0) := by
    simp only [fvTo, Fus.sm_succ]; grind
  rw [e]
  split
  · rename_i ej; rw [ej, h0]; grind
  · grind
/-- append of one new row, with what else stays told -/
theorem wp_pushM2 {ops : Array Oper} {rest : List Oper} {o : Oper} {a : Act} {Q : Exit → Act → World → Prop} {w0 w : World} {B : Nat} {v u : Value} {xss : List (List Int)} {xs : List Int} (hown : OwnM w0 B v xss) (hb : Below w0.heap.size w0 w) (hu : OwnI w w0.heap.size u xs) (hgd : o.guard = none) (s x : Operand)
    (ho : o.op = .call { callee := .builtin .append, args := #[s, x], argTypes := #[24, 24] })
    (hs : a.eval s = v) {gx : Nat} (hx : a.eval x = .slice (some ⟨gx, 0, none⟩) 1 1) (hgx : gx = w.heap.size)
    (hB : B ≤ w0.heap.size) (hlen : xss.length ≤ 1000000)
    (h : ∀ v' w', OwnM w' B v' (xss ++ [xs]) → Below B w w' → (∀ B' p ys, OwnI w B' p ys → OwnI w' B' p ys) → wpList Try.prog ops Q rest (a.put o.dst v') w') :
    wpList Try.prog ops Q (o :: rest) a (w.alloc (.cells #[u] 35)) := by
  obtain ⟨us, h1, h2, h3, h4⟩ := hown
  obtain ⟨p, n, c, rfl⟩ := hu.slice
  exact wp_push w hgd s x _ ho 35 (.slice none 0 0) 24 Try.underlying24 info_ints rfl B v (.slice p n c) us hs (h1.keep hb) hx hgx rfl (Nat.le_trans hB hb.size) (by omega) (by omega)
    (fun v' w' g1 g2 g3 => h v' w' (OwnM.push h1 h2 h3 h4 hb hB hu g1 g2) g3 (fun B' p ys hp => Own.grown (hp.alloc _) g2 (by
      cases hpb : p.ownBlock with
      | none => exact .inl rfl
      | some b => exact .inr (fun e => Own.other hp (h1.keep hb) (by decide) hpb e.symm))))
/-- an owned table without rows stays while integers are appended -/
theorem OwnM.stillNil {w w' : World} {B B' : Nat} {v u : Value} {xs : List Int} {o : Obj} (h : OwnM w B v []) (hp : OwnI w B' u xs) (hg : (w.alloc o).grownBy w' u.ownBlock) : OwnM w' B v [] := by
  obtain ⟨us, ho, hlen, _, _⟩ := h
  obtain rfl : us = [] := List.eq_nil_of_length_eq_zero hlen
  refine ⟨[], Own.grown (ho.alloc _) hg ?_, rfl, fun i u xs h => by simp at h, fun i j u u' h => by simp at h⟩
  cases hvb : v.ownBlock with
  | none => exact .inl rfl
  | some b => exact .inr (fun e => Own.other ho hp (by decide) hvb e.symm)
theorem leads_snoc (G : Mx) (c k : Nat) : leads G c (k + 1) = leads G c k ++ [(ld G c k : Int)] := vec_snoc _ _
theorem leads_at {G : Mx} {c d i : Nat} (h : i < d) : (leads G c d)[i]? = some (ld G c i : Int) := vec_at _ h
theorem c_l02First (v : Value) (c : Nat) (f : Nat → F) (p : Nat) (w : World) (hv : Ints w v (zl c f)) (hp : p < c) (hz : ∀ j, j < p → f j = 0) (hne : f p ≠ 0) (hl : c ≤ 100000) :
    Calls Try.prog 100 #[v] w fun e w' => e = .returned (.int .i64 p) ∧ w = w' := by
  obtain ⟨a, cap, hveq, _, hc⟩ := hv
  rw [zl_length] at hveq
  subst hveq
  have HC := Lib.hid hc
  have HZ := Lib.hid hz
  have HN := Lib.hid hne
  clear hc hz hne
  go_enter Try.func100, Try.ntmps100
  go_wp2_with fail
  go_loop [3] (fun i => ∃ k : Nat, k ≤ p ∧ i = .int .i64 k) (fun i => c - (intOf i).toNat)
  case atStart => exact ⟨0, Nat.zero_le _, rfl⟩
  case round =>
    obtain ⟨k, hk, rfl⟩ := hrel
    have hkc : k < c := by omega
    obtain ⟨b, off, rfl, hcell⟩ := HC.out k _ (zl_at f hkc)
    by_cases he : k = p
    · subst he
      have hB : (toI (f k) != 0) = true := by simpa using fun e => HN.out (toI_zero e)
      go_wp2_with fail
      go_ret
      exact ⟨rfl, rfl⟩
    · rw [HZ.out k (by omega), Fus.toI_zero] at hcell
      go_wp2_with fail
      go_round
      case rel => exact ⟨k + 1, by omega, by go_num⟩
      case measure => simp [intOf]; omega
theorem c_l01Index (v : Value) (xs : List Int) (n : Int) (w : World) (hv : Ints w v xs) :
    Calls Try.prog 123 #[v, .int .i64 n] w fun e w' => e = .returned (.int .i64 (idxOf (firstAt (fun x => x == n) xs))) ∧ w = w' := by
  obtain ⟨a, cap, rfl, hl, hc⟩ := hv
  have HC := Lib.hid hc
  clear hc
  go_enter Try.func123, Try.ntmps123
  go_wp2_with fail
  go_loop [5] (fun i => ∃ j : Nat, j ≤ xs.length ∧ i = .int .i64 j ∧ Hid (∀ (i : Nat) x, i < j → xs[i]? = some x → (x == n) = false)) (fun i => xs.length - (intOf i).toNat)
  case atStart => exact ⟨0, Nat.zero_le _, rfl, fun i x hi => absurd hi (Nat.not_lt_zero _)⟩
  case round =>
    obtain ⟨j, hj, rfl, H⟩ := hrel
    by_cases hlt : j < xs.length
    · obtain ⟨x, hx⟩ : ∃ x, xs[j]? = some x := ⟨xs[j], by simp [hlt]⟩
      obtain ⟨b, off, rfl, hcell⟩ := HC.out j x hx
      have HX := Lib.hid hx
      clear hx
      cases hp : (x == n)
      · have HP := Lib.hid hp
        go_wp2_with fail
        go_round
        case rel =>
          refine ⟨j + 1, by omega, by go_num, fun i y hi hy => ?_⟩
          by_cases e : i = j
          · subst e; rw [HX.out] at hy; cases hy; exact HP.out
          · exact H.out i y (by omega) hy
        case measure => simp [intOf]; omega
      · have HP := Lib.hid hp
        go_wp2_with fail
        go_ret
        exact ⟨ret_int (by rw [firstAt_some (k := j) H.out HX.out HP.out]; rfl), rfl⟩
    · go_wp2_with fail
      go_ret
      exact ⟨ret_int (by rw [firstAt_none (fun i x hx => H.out i x (by have := (List.getElem?_eq_some_iff.1 hx).1; omega) hx)]; rfl), rfl⟩
theorem c_l01Has (v : Value) (xs : List Int) (n : Int) (w : World) (hv : Ints w v xs) :
    Calls Try.prog 101 #[v, .int .i64 n] w fun e w' => e = .returned (.bool (xs.any (fun x => x == n))) ∧ w = w' := by
  have HI := Lib.hid (idx_any (fun x => x == n) xs)
  go_enter Try.func101, Try.ntmps101
  go_wp2_with (go_at_call 123; refine (c_l01Index v xs n _ hv).mono ?_; rintro e w' ⟨rfl, rfl⟩)
  go_ret
  exact ⟨ret_bool HI.out, rfl⟩
theorem cell_farB {w : World} {g g' i k : Nat} {u v : Value} (h : ¬ g = g') (hc : w.cell? ⟨g', k, none⟩ = some v) : (w.setCell ⟨g, i, none⟩ u).cell? ⟨g', k, none⟩ = some v := by
  rw [World.cell?_setCell_other _ _ _ _ (fun e => h (by cases e; rfl))]; exact hc
theorem mat_firstF {w : World} {v : Value} {r c : Nat} {f : Mx} (hv : IntRows w v (tabF r c f)) (hr : 0 < r) :
    ∃ b off cap a2 cap2, v = .slice (some ⟨b, off, none⟩) r cap ∧ w.cell? ⟨b, off, none⟩ = some (.slice a2 c cap2) := by
  obtain ⟨a, cap, h1, _, hc⟩ := hv
  rw [tabF_length] at h1
  obtain ⟨b, off, u, rfl, hcell, ⟨a2, cap2, hu, _, _⟩⟩ := hc 0 _ (tabF_at c f hr)
  rw [zl_length] at hu
  subst hu
  exact ⟨b, off, cap, a2, cap2, h1, by simpa using hcell⟩
set_option maxRecDepth 100000 in
set_option maxHeartbeats 4000000 in
theorem c_l02Kernel (v : Value) (r c : Nat) (f : Mx) (w : World) (hv : IntRows w v (tabF r c f)) (hr0 : 0 < r) (hc1 : 0 < c) (hc2 : c ≤ 1000) (hr : r ≤ 1000) :
    Calls Try.prog 59 #[v] w (RetM (kerF r c f) w) := by
  have HV := Lib.hid hv
  obtain ⟨b, off, cap, a2, cap2, rfl, hcell0⟩ := mat_firstF hv hr0
  clear hv
  obtain ⟨p, hp⟩ := Fus.red_redR r f c
  have HRED := Lib.hid hp
  have HKER : Hid (kerF r c f = basF (frees (redR r f c).f c (redR r f c).d c).length c (freeRows (redR r f c).f c (redR r f c).d)) := Lib.hid rfl
  have hdl := (redR_d r f c).1
  clear hp
  go_enter Try.func59, Try.ntmps59
  go_wp2_with fail
  go_region_held3 (fun w' => w'.cell? ⟨b, off, none⟩ = some (.slice a2 c cap2))
    (first | go_keep | (exact bcell hb1 hcell0))
    ((go_at_call 99; refine (c_l02Basis _ r c f _ (HV.out.keep (below_toDrewN 1 _ _)) hc1 hc2 hr).mono ?_; rintro e w1 ⟨v1, rfl, ho1, hb1⟩))
  have HB1 := Lib.hid (below_drewed (Below.refl w.heap.size w) hb1)
  have hsz1 := HB1.out.size
  have HI1 : Hid (IntRows w1 v1 (basF r c f)) := Lib.hid (ho1.rows (by unfold basF; rw [tabF_length]; omega) (fun xs hx => by rw [tabF_mem hx]; omega))
  unfold basF at HI1
  clear ho1 hb1
  generalize (redR r f c).f = G at *
  generalize (redR r f c).d = d at *
  obtain ⟨q1, cq, hv1, _, hqc⟩ := HI1.out
  rw [tabF_length] at hv1
  subst hv1
  have HQ := Lib.hid hqc
  have HLD : Hid (∀ i, i < d → ld G c i < c ∧ (∀ j, j < ld G c i → G i j = 0) ∧ G i (ld G c i) ≠ 0) := Lib.hid (fun i hi => by
    have hr := Fus.red_ld HRED.out
    refine ⟨hr.lt i hi, fun j hj => hr.left i j hi hj, ?_⟩
    rw [hr.col i i hi (by omega), if_pos rfl]
    exact fun e => Fus.zero_ne_one e.symm)
  clear hqc
  go_wp2_with fail
  go_loopw [5, 7] (fun s i wr => ∃ k : Nat, k ≤ d ∧ i = .int .i64 k ∧ OwnI wr w1.heap.size s (leads G c k) ∧ OwnM wr w1.heap.size (.slice (some ⟨w1.heap.size + 1, 0, none⟩) 0 0) [] ∧ Below w1.heap.size w1 wr) (fun _ i _ => d - (intOf i).toNat)
  case atStart => exact ⟨0, Nat.zero_le _, rfl, Own.alloc (own_empty w1 _ _ (Nat.le_refl _)) _, by have := ownM_empty (w1.alloc (.cells #[] 2)) w1.heap.size (by simp); simpa using this, (below_alloc _ _).alloc (by simp) _⟩
  case round =>
    obtain ⟨k, hk, rfl, hpiv, hlist, hbel⟩ := hrel
    by_cases hlt : k < d
    · obtain ⟨b1, o1, u1, rfl, hcell1, hI1⟩ := HQ.out k _ (tabF_at c G hlt)
      have hc1' := bcell hbel hcell1
      have HI := Lib.hid (hI1.keep hbel)
      have HL := Lib.hid (HLD.out k hlt)
      have HP := Lib.hid hpiv
      have HLI := Lib.hid hlist
      have HB := Lib.hid hbel
      have hsz := hbel.size
      clear hcell1 hI1 hpiv hlist hbel
      go_wp2_with fail
      refine (c_l02First u1 c (G k) (ld G c k) _ HI.out HL.out.1 HL.out.2.1 HL.out.2.2 (by omega)).mono ?_
      rintro e w2 ⟨rfl, rfl⟩
      go_wp2_with (at_builtin; refine wp_pushI HP.out rfl _ _ rfl rfl rfl (by first | with_reducible rfl | simp) (by omega) (by unfold leads; rw [vec_length]; omega) ?_; intro v' w3 ho3 hg3 hb3)
      go_roundw
      case rel => exact ⟨k + 1, by omega, by go_num, by rw [leads_snoc]; exact ho3, HLI.out.stillNil HP.out hg3, HB.out.trans hb3⟩
      case measure => simp [intOf]; omega
    · obtain rfl : d = k := by omega
      have HP := Lib.hid hpiv
      have HLI := Lib.hid hlist
      have HB := Lib.hid hbel
      clear hpiv hlist hbel
      obtain ⟨pp, np, cp, rfl⟩ := HP.out.slice
      go_wp2_with fail
      go_loopw [6, 8] (fun s i wr => ∃ k : Nat, k ≤ c ∧ i = .int .i64 k ∧ OwnM wr w1.heap.size s (rowsOf c G d (frees G c d k)) ∧ OwnI wr w1.heap.size (.slice pp np cp) (leads G c d) ∧ Below w1.heap.size w1 wr) (fun _ i _ => c - (intOf i).toNat)
      case atStart => exact ⟨0, Nat.zero_le _, rfl, HLI.out, HP.out, HB.out⟩
      case round =>
        obtain ⟨k, hk, rfl, hlist, hpiv, hbel⟩ := hrel
        clear HP HLI HB
        by_cases hkc : k < c
        · have HP := Lib.hid hpiv
          have HLI := Lib.hid hlist
          have HB := Lib.hid hbel
          have hsz := hbel.size
          clear hpiv hlist hbel
          have hmk := run_make_row' (P := Try.prog) 35 2 (.int .i64 0) 8 Try.underlying35 info_int rfl .i64 .i64 c (by omega) (by omega)
          go_wp2_with fail
          refine (c_l01Has _ _ (k : Int) _ (OwnI.ints HP.out (by unfold leads; rw [vec_length]; omega))).mono ?_
          rintro e w2 ⟨rfl, rfl⟩
          rw [leads_any]
          cases hf : isFree G c d k
          · have HF := Lib.hid hf
            clear hf hmk
            go_wp2_with fail
            go_roundw
            case rel => exact ⟨k + 1, by omega, by go_num, by rw [rowsOf_skip HF.out]; exact HLI.out, HP.out, HB.out⟩
            case measure => simp [intOf]; omega
          · have HF := Lib.hid hf
            clear hf
            have hkI : (k : Int) < (c : Int) := by omega
            have hkI0 : (0 : Int) ≤ (k : Int) := by omega
            have hz0 := own_zeros wr c (by omega)
            have hold := Own.cell hz0 (i := k) (u := vi 0) (by rw [List.getElem?_map, vec_at _ hkc]; rfl)
            have hfr := Own.frozen hz0 k
            have hset := World.setCell_alloc_new (w := wr) (madeCells #[.int .i64 0] c) 2 k (.int .i64 1)
            have HV0 : Hid (OwnI (wr.alloc (.cells ((madeCells #[.int .i64 0] c).setIfInBounds k (.int .i64 1)) 2)) wr.heap.size (.slice (some ⟨wr.heap.size, 0, none⟩) c c) (zl c (fvTo G c k 0))) := Lib.hid (by
              rw [← hset, ← fvTo_start]
              have := Own.store hz0 k (vi 1)
              rw [← List.map_set] at this
              exact this)
            have HA : Hid (Below wr.heap.size wr (wr.alloc (.cells ((madeCells #[.int .i64 0] c).setIfInBounds k (.int .i64 1)) 2))) := Lib.hid (below_alloc _ _)
            clear hset hz0
            go_wp2_with fail
            clear hmk hold hfr
            obtain ⟨wo, rfl⟩ : ∃ wo : World, wo = wr := ⟨_, rfl⟩
            go_loopw [10] (fun i wr => ∃ i' : Nat, i' ≤ d ∧ i = .int .i64 i' ∧ OwnI wr wo.heap.size (.slice (some ⟨wo.heap.size, 0, none⟩) c c) (zl c (fvTo G c k i')) ∧ Below wo.heap.size wo wr) (fun i _ => d - (intOf i).toNat)
            case atStart => exact ⟨0, Nat.zero_le _, rfl, HV0.out, HA.out⟩
            case round =>
              obtain ⟨i, hi, rfl, hv, hbel2⟩ := hrel
              clear HV0 HA
              by_cases hid : i < d
              · obtain ⟨b1, o1, u1, rfl, hcell1, ⟨a3, c3, hu1, _, hc3⟩⟩ := HQ.out i _ (tabF_at c G hid)
                rw [zl_length] at hu1
                subst hu1
                obtain ⟨b2, o2, rfl, hcell2⟩ := hc3 k _ (zl_at (G i) hkc)
                obtain ⟨gp, cp', hpe, _, hgp, _⟩ : ∃ gp cp', Value.slice pp np cp = .slice (some ⟨gp, 0, none⟩) d cp' ∧ w1.heap.size ≤ gp ∧ gp < wo.heap.size ∧ True := by
                  rcases HP.out.shape with ⟨_, h2⟩ | ⟨g, cap, h1, h2, h3, _⟩
                  · have := congrArg List.length h2; simp [leads, vec_length] at this; omega
                  · rw [List.length_map] at h1; unfold leads at h1; rw [vec_length] at h1; exact ⟨g, cap, h1, h2, h3, trivial⟩
                cases hpe
                have hpc := Own.cell HP.out (i := i) (u := vi (ld G c i)) (by rw [List.getElem?_map, leads_at hid]; rfl)
                have e1 := bcell hbel2 (bcell HB.out hcell1)
                have e2 := bcell hbel2 (bcell HB.out hcell2)
                have e3 := bcell hbel2 hpc
                have hb1 := Ints.lt (bcell HB.out hcell1)
                have hb2 := Ints.lt (bcell HB.out hcell2)
                have hLc := (HLD.out i hid).1
                have hvc := Own.cell hv (i := ld G c i) (u := vi (toI (fvTo G c k i (ld G c i)))) (by rw [List.getElem?_map, zl_at _ hLc]; rfl)
                have hvf := Own.frozen hv (ld G c i)
                have hn1 : ¬ b1 = wo.heap.size := by omega
                have hn2 : ¬ b2 = wo.heap.size := by omega
                have hn3 : ¬ gp = wo.heap.size := by omega
                have hm1 : ¬ wo.heap.size = b1 := by omega
                have hm2 : ¬ wo.heap.size = b2 := by omega
                have hm3 : ¬ wo.heap.size = gp := by omega
                have hiI : (i : Int) < (d : Int) := by omega
                have hiI0 : (0 : Int) ≤ (i : Int) := by omega
                have hlI : (ld G c i : Int) < (c : Int) := by omega
                have hlI0 : (0 : Int) ≤ (ld G c i : Int) := by omega
                have hxb := toI_bd (G i k)
                obtain ⟨hx1, hx2⟩ := hxb
                have hw1 : IntKind.i64.wrap (-toI (G i k)) = -toI (G i k) := IntWalk.i64_in _ (by omega)
                have HM : Hid (-toI (G i k) % 55441 = toI (-(G i k))) := Lib.hid (toI_of (by rw [ofI_neg, ofI_toI])).symm
                have HVN : Hid (OwnI (wr.setCell ⟨wo.heap.size, ld G c i, none⟩ (.int .i64 (toI (-(G i k))))) wo.heap.size (.slice (some ⟨wo.heap.size, 0, none⟩) c c) (zl c (fvTo G c k (i + 1)))) := Lib.hid (by
                  rw [← fvTo_next HRED.out HF.out hid]
                  have := Own.store hv (ld G c i) (vi (toI (-(G i k))))
                  rw [← List.map_set] at this
                  exact this)
                have HB2 := Lib.hid hbel2
                clear hcell1 hcell2 hc3 hpc hv hbel2
                go_wp2_with fail
                go_region_held3 (fun w' => w'.cell? ⟨gp, i, none⟩ = some (vi (ld G c i)) ∧ w'.cell? ⟨b1, o1 + i, none⟩ = some (.slice (some ⟨b2, o2, none⟩) c c3) ∧ w'.cell? ⟨b2, o2 + k, none⟩ = some (vi (toI (G i k))))
                  (first | go_keep | (exact ⟨cell_farB hm3 e3, cell_farB hm1 e1, cell_farB hm2 e2⟩))
                  ((go_at_call 102; refine (c_l01Mod _ _).mono ?_; rintro e w' ⟨rfl, rfl⟩; rw [HM.out]))
                go_wp2_with fail
                go_roundw
                case rel => exact ⟨i + 1, by omega, by go_num, HVN.out, (below_set (w1 := wr) HB2.out (Nat.le_refl _)).drew⟩
                case measure => simp [intOf]; omega
              · obtain rfl : d = i := by omega
                rw [fvTo_end] at hv
                have HV := Lib.hid hv
                have HB2 := Lib.hid hbel2
                have hsz2 := hbel2.size
                clear hv hbel2
                go_wp2_with (at_builtin; refine wp_pushM2 HLI.out HB2.out HV.out rfl _ _ rfl rfl rfl (by first | with_reducible rfl | simp) (by omega) (by have := rowsOf_length c G d k; omega) ?_; intro v' w3 ho3 hb3 hk3)
                go_roundw
                case rel => exact ⟨k + 1, by omega, by go_num, by rw [rowsOf_next HF.out]; exact ho3, hk3 _ _ _ (HP.out.keep HB2.out), (HB.out.trans (HB2.out.mono hsz)).trans hb3⟩
                case measure => simp [intOf]; omega
        · obtain rfl : c = k := by omega
          have hfl := rowsOf_length c G d c
          have hlen := frees_le G c d c
          rw [rowsOf_all] at hlist
          have HLI : Hid (IntRows wr u6 (tabF (frees G c d c).length c (freeRows G c d))) := Lib.hid (hlist.rows (by rw [tabF_length]; omega) (fun xs hx => by rw [tabF_mem hx]; omega))
          have HB := Lib.hid hbel
          have hsz := hbel.size
          clear hlist hpiv hbel
          go_wp2_with fail
          refine (c_l02Basis u6 (frees G c d c).length c (freeRows G c d) _ HLI.out hc1 hc2 (by omega)).mono ?_
          rintro e w5 ⟨v5, rfl, ho5, hb5⟩
          have hdl5 := (redR_d (frees G c d c).length (freeRows G c d) c).1
          have HI5 : Hid (IntRows w5 v5 (basF (frees G c d c).length c (freeRows G c d))) := Lib.hid (ho5.rows (by unfold basF; rw [tabF_length]; omega) (fun xs hx => by rw [tabF_mem hx]; omega))
          have HB5 := Lib.hid hb5
          clear ho5 hb5
          go_wp2_with fail
          refine (c_l01Own2 v5 _ _ HI5.out (fun xs hx => by rw [tabF_mem hx]; omega) (by unfold basF; rw [tabF_length]; omega)).mono ?_
          rintro e w6 ⟨v6, rfl, ho6, hb6⟩
          go_wp2_with fail
          go_ret
          refine ⟨v6, rfl, ?_, ((HB1.out.trans (HB.out.mono hsz1)).trans (HB5.out.mono (by omega))).trans (hb6.mono (by have := HB5.out.size; omega))⟩
          rw [HKER.out]
          exact ho6.mono (by have := HB5.out.size; omega)
end Go.Proofs.Ytmbcncmmgfnlmaa

/- Walks: bases of kernels by the program. -/
namespace Go.Proofs.Ytmbcncmmgfnlmaa
open Go.RowKit
attribute [local go_sem ↓] Go.wp_at_zero Go.wp_at_succ
open Fus (F Mx toI ofI toI_bd toI_of ofI_toI ofI_neg ofI_mul finv redR redR_d ld isFree frees fvec freeRows kerR sm)

def isNZ (x : Int) : Bool := x != 0
theorem c_kernel11 (x : Int) (w : World) :
    Calls Try.prog 96 #[.int .i64 x] w fun e w' => e = .returned (.bool (isNZ x)) ∧ w = w' := by
  go_enter Try.func96, Try.ntmps96
  go_wp2_with fail
  go_ret
  exact ⟨rfl, rfl⟩
theorem c_IndexFunc_nz (v : Value) (xs : List Int) (w : World) (hv : Ints w v xs) :
    Calls Try.prog 95 #[v, .func (.func 96) #[] #[]] w fun e w' => e = .returned (.int .i64 (idxOf (firstAt isNZ xs))) ∧ w = w' := by
  obtain ⟨a, cap, rfl, hl, hc⟩ := hv
  have HC := Lib.hid hc
  clear hc
  go_enter Try.func95, Try.ntmps95
  go_wp2_with fail
  go_loop [8] (fun i => ∃ k : Nat, k ≤ xs.length ∧ i = .int .i64 k ∧ Hid (∀ (i : Nat) x, i < k → xs[i]? = some x → isNZ x = false)) (fun i => xs.length - (intOf i).toNat)
  case atStart => exact ⟨0, Nat.zero_le _, rfl, fun i x hi => absurd hi (Nat.not_lt_zero _)⟩
  case round =>
    obtain ⟨k, hk, rfl, H⟩ := hrel
    by_cases hlt : k < xs.length
    · obtain ⟨x, hx⟩ : ∃ x, xs[k]? = some x := ⟨xs[k], by simp [hlt]⟩
      obtain ⟨b, off, rfl, hcell⟩ := HC.out k x hx
      have HX := Lib.hid hx
      clear hx
      cases hp : isNZ x
      · have HP := Lib.hid hp
        clear hp
        go_wp2_with fail
        refine (c_kernel11 x _).mono ?_
        rintro e w' ⟨rfl, rfl⟩
        rw [HP.out]
        go_wp2_with fail
        go_round
        case rel =>
          refine ⟨k + 1, by omega, by go_num, fun i y hi hy => ?_⟩
          by_cases e : i = k
          · subst e; rw [HX.out] at hy; cases hy; exact HP.out
          · exact H.out i y (by omega) hy
        case measure => simp [intOf]; omega
      · have HP := Lib.hid hp
        clear hp
        go_wp2_with fail
        refine (c_kernel11 x _).mono ?_
        rintro e w' ⟨rfl, rfl⟩
        rw [HP.out]
        go_wp2_with fail
        go_ret
        exact ⟨ret_int (by rw [firstAt_some (k := k) H.out HX.out HP.out]; rfl), rfl⟩
    · go_wp2_with fail
      go_ret
      exact ⟨ret_int (by rw [firstAt_none (fun i x hx => H.out i x (by have := (List.getElem?_eq_some_iff.1 hx).1; omega) hx)]; rfl), rfl⟩
/-- does a row begin in column k -/
def leadAt (k : Nat) (xs : List Int) : Bool := idxOf (firstAt isNZ xs) == (k : Int)
theorem c_kernel1 (v : Value) (xs : List Int) (a : Addr) (k : Nat) (w : World) (hv : Ints w v xs) (ha : w.cell? a = some (.int .i64 k)) :
    Calls Try.prog 94 #[v, .pointer (some a)] w fun e w' => e = .returned (.bool (leadAt k xs)) ∧ ∃ n, w' = w.drewN n := by
  have HQ : Hid (∀ w1 : World, w1.heap = w.heap → Calls Try.prog 95 #[v, .func (.func 96) #[] #[]] w1 fun e w' => e = .returned (.int .i64 (idxOf (firstAt isNZ xs))) ∧ w' = w1) := Lib.hid (fun w1 hw => (c_IndexFunc_nz v xs w1 (hv.ofHeap hw)).mono (fun e w' hh => ⟨hh.1, hh.2.symm⟩))
  obtain ⟨ad, cap, rfl, _, _⟩ := hv
  go_enter Try.func94, Try.ntmps94
  go_wp2_with fail
  go_quiet ((go_at_call 95; exact Calls.quiet_of_same (HQ.out _ rfl)))
  go_wp2_with fail
  go_ret
  exact ⟨rfl, _, rfl⟩
theorem c_IndexFunc_ker (v : Value) (m : List (List Int)) (a : Addr) (k : Nat) (w : World) (hv : IntRows w v m) (ha : w.cell? a = some (.int .i64 k)) :
    Calls Try.prog 105 #[v, .func (.func 94) #[] #[.pointer (some a)]] w fun e w' =>
      e = .returned (.int .i64 (idxOf (firstAt (leadAt k) m))) ∧ Drew w w' := by
  obtain ⟨ad, cap, rfl, hl, hc⟩ := hv
  have HC := Lib.hid hc
  clear hc
  go_enter Try.func105, Try.ntmps105
  go_wp2_with fail
  go_loopw [8] (fun i wr => ∃ j : Nat, j ≤ m.length ∧ i = .int .i64 j ∧ Hid (∀ (i : Nat) x, i < j → m[i]? = some x → leadAt k x = false) ∧ Drew w wr) (fun i _ => m.length - (intOf i).toNat)
  case atStart => exact ⟨0, Nat.zero_le _, rfl, fun i x hi => absurd hi (Nat.not_lt_zero _), Drew.refl _⟩
  case round =>
    obtain ⟨j, hj, rfl, H, hd⟩ := hrel
    by_cases hlt : j < m.length
    · obtain ⟨x, hx⟩ : ∃ x, m[j]? = some x := ⟨m[j], by simp [hlt]⟩
      obtain ⟨b, off, u, rfl, hcell, hI⟩ := HC.out j x hx
      have h1 := hd.cell hcell
      have h2 := hd.cell ha
      have HI := Lib.hid (hI.ofHeap hd.heap)
      have HX := Lib.hid hx
      have HD := Lib.hid hd
      clear hx hI hd hcell
      cases hp : leadAt k x
      · have HP := Lib.hid hp
        clear hp
        go_wp2_with fail
        refine (c_kernel1 u x _ k _ HI.out h2).mono ?_
        rintro e w1 ⟨rfl, nd, rfl⟩
        rw [HP.out]
        go_wp2_with fail
        go_roundw
        case rel =>
          refine ⟨j + 1, by omega, by go_num, fun i y hi hy => ?_, HD.out.more _⟩
          by_cases e : i = j
          · subst e; rw [HX.out] at hy; cases hy; exact HP.out
          · exact H.out i y (by omega) hy
        case measure => simp [intOf]; omega
      · have HP := Lib.hid hp
        clear hp
        go_wp2_with fail
        refine (c_kernel1 u x _ k _ HI.out h2).mono ?_
        rintro e w1 ⟨rfl, nd, rfl⟩
        rw [HP.out]
        go_wp2_with fail
        go_ret
        exact ⟨ret_int (by rw [firstAt_some (k := j) H.out HX.out HP.out]; rfl), HD.out.more _⟩
    · have HD := Lib.hid hd
      clear hd
      go_wp2_with fail
      go_ret
      exact ⟨ret_int (by rw [firstAt_none (fun i x hx => H.out i x (by have := (List.getElem?_eq_some_iff.1 hx).1; omega) hx)]; rfl), HD.out⟩
theorem c_ContainsFunc_ker (v : Value) (m : List (List Int)) (a : Addr) (k : Nat) (w : World) (hv : IntRows w v m) (ha : w.cell? a = some (.int .i64 k)) :
    Calls Try.prog 91 #[v, .func (.func 94) #[] #[.pointer (some a)]] w fun e w' =>
      e = .returned (.bool (m.any (leadAt k))) ∧ Drew w w' := by
  have HI := Lib.hid (idx_any (leadAt k) m)
  go_enter Try.func91, Try.ntmps91
  go_wp2_with fail
  refine (c_IndexFunc_ker v m a k _ hv ha).mono ?_
  rintro e w' ⟨rfl, hd⟩
  have HD := Lib.hid hd
  clear hd
  go_wp2_with fail
  go_ret
  exact ⟨ret_bool HI.out, HD.out⟩
theorem idxOf_least {c : Nat} (p : F → Bool) (q : Int → Bool) (hpq : ∀ a, q (toI a) = p a) (f : Nat → F) {i : Nat} (h : Fus.leastR (fun j => p (f j)) c = some i) : idxOf (firstAt q (zl c f)) = (i : Int) := by
  rcases Fus.leastR_cases (fun j => p (f j)) c with ⟨k, h1, h2, h3, h4⟩ | ⟨_, h2⟩
  · rw [h] at h4
    cases h4
    rw [firstAt_some (k := i) (y := toI (f i)) (fun j x hj hx => ?_) (zl_at f h1) (by rw [hpq]; exact h2)]
    · rfl
    · rw [zl_at f (by omega)] at hx; cases hx; rw [hpq]; exact h3 j hj
  · rw [h2] at h; cases h
/-- no row of the basis begins in a free column -/
theorem any_lead {r c d : Nat} {G : Mx} {p : Nat → Nat} (h : Fus.Red r c G d p) (k : Nat) : (tabF d c G).any (leadAt k) = !(isFree G c d k) := by
  unfold tabF vec isFree
  rw [List.any_map, List.not_all_eq_any_not, Bool.eq_iff_iff, List.any_eq_true, List.any_eq_true]
  have key : ∀ i, i < d → (leadAt k (zl c (G i)) = true ↔ (!(ld G c i != k)) = true) := fun i hi => by
    have e := (Fus.ld_red h hi)
    have := idxOf_least (fun x => x != 0) isNZ (fun a => by
      unfold isNZ
      by_cases ha : a = 0
      · rw [ha, Fus.toI_zero]; simp
      · have : toI a ≠ 0 := fun e => ha (toI_zero e)
        rw [bne_iff_ne.2 ha, bne_iff_ne.2 this]) (G i) e.2
    unfold leadAt
    rw [this, e.1]
    by_cases hk : p i = k
    · simp [hk]
    · have h1 : ¬ ((p i : Int) = (k : Int)) := by omega
      rw [beq_eq_false_iff_ne.2 h1]; simp [hk]
  constructor
  · rintro ⟨i, hi, hx⟩; exact ⟨i, hi, (key i (List.mem_range.1 hi)).1 hx⟩
  · rintro ⟨i, hi, hx⟩; exact ⟨i, hi, (key i (List.mem_range.1 hi)).2 hx⟩
theorem c_Index (v : Value) (xs : List Int) (n : Int) (w : World) (hv : Ints w v xs) :
    Calls Try.prog 98 #[v, .int .i64 n] w fun e w' => e = .returned (.int .i64 (idxOf (firstAt (fun x => n == x) xs))) ∧ w = w' := by
  obtain ⟨a, cap, rfl, hl, hc⟩ := hv
  have HC := Lib.hid hc
  clear hc
  go_enter Try.func98, Try.ntmps98
  go_wp2_with fail
  go_loop [8] (fun i => ∃ j : Nat, j ≤ xs.length ∧ i = .int .i64 j ∧ Hid (∀ (i : Nat) x, i < j → xs[i]? = some x → (n == x) = false)) (fun i => xs.length - (intOf i).toNat)
  case atStart => exact ⟨0, Nat.zero_le _, rfl, fun i x hi => absurd hi (Nat.not_lt_zero _)⟩
  case round =>
    obtain ⟨j, hj, rfl, H⟩ := hrel
    by_cases hlt : j < xs.length
    · obtain ⟨x, hx⟩ : ∃ x, xs[j]? = some x := ⟨xs[j], by simp [hlt]⟩
      obtain ⟨b, off, rfl, hcell⟩ := HC.out j x hx
      have HX := Lib.hid hx
      clear hx
      cases hp : (n == x)
      · have HP := Lib.hid hp
        go_wp2_with fail
        go_round
        case rel =>
          refine ⟨j + 1, by omega, by go_num, fun i y hi hy => ?_⟩
          by_cases e : i = j
          · subst e; rw [HX.out] at hy; cases hy; exact HP.out
          · exact H.out i y (by omega) hy
        case measure => simp [intOf]; omega
      · have HP := Lib.hid hp
        go_wp2_with fail
        go_ret
        exact ⟨ret_int (by rw [firstAt_some (k := j) H.out HX.out HP.out]; rfl), rfl⟩
    · go_wp2_with fail
      go_ret
      exact ⟨ret_int (by rw [firstAt_none (fun i x hx => H.out i x (by have := (List.getElem?_eq_some_iff.1 hx).1; omega) hx)]; rfl), rfl⟩
theorem index_one {r c d : Nat} {G : Mx} {p : Nat → Nat} (h : Fus.Red r c G d p) {i : Nat} (hi : i < d) : idxOf (firstAt (fun x => (1 : Int) == x) (zl c (G i))) = (ld G c i : Int) := by
  rw [(Fus.ld_red h hi).1]
  exact idxOf_least (fun x => x == 1) (fun x => (1 : Int) == x) (fun a => by
    by_cases ha : a = 1
    · rw [ha, Fus.toI_one]; simp
    · have : ¬ (1 : Int) = toI a := fun e => ha (Fus.toI_inj (by rw [← e, Fus.toI_one]))
      rw [beq_eq_false_iff_ne.2 this, beq_eq_false_iff_ne.2 ha]) (G i) (Fus.ld_one h hi)
end Go.Proofs.Ytmbcncmmgfnlmaa

/- Walk: bases of kernels by the program. -/
namespace Go.Proofs.Ytmbcncmmgfnlmaa
open Go.RowKit
attribute [local go_sem ↓] Go.wp_at_zero Go.wp_at_succ
open Fus (F Mx toI ofI toI_bd toI_of ofI_toI ofI_neg ofI_mul finv redR redR_d ld isFree frees fvec freeRows kerR sm)

set_option maxRecDepth 100000 in
set_option maxHeartbeats 4000000 in
theorem c_kernel (v : Value) (r c : Nat) (f : Mx) (w : World) (hv : IntRows w v (tabF r c f)) (hr0 : 0 < r) (hc1 : 0 < c) (hc2 : c ≤ 1000) (hr : r ≤ 1000) :
    Calls Try.prog 58 #[v] w (RetM (kerF r c f) w) := by
  have HV := Lib.hid hv
  obtain ⟨b, off, cap, a2, cap2, rfl, hcell0⟩ := mat_firstF hv hr0
  clear hv
  obtain ⟨p, hp⟩ := Fus.red_redR r f c
  have HRED := Lib.hid hp
  have HKER : Hid (kerF r c f = basF (frees (redR r f c).f c (redR r f c).d c).length c (freeRows (redR r f c).f c (redR r f c).d)) := Lib.hid rfl
  have hdl := (redR_d r f c).1
  clear hp
  go_enter Try.func58, Try.ntmps58
  go_wp2_with fail
  refine (c_reduce _ r c f _ HV.out hc1 hc2 hr).mono ?_
  rintro e w1 ⟨v1, rfl, ho1, hb1⟩
  have HB1 := Lib.hid hb1
  have hsz1 := hb1.size
  have hc01 := bcell hb1 hcell0
  have HI1 : Hid (IntRows w1 v1 (basF r c f)) := Lib.hid (ho1.rows (by show (basF r c f).length ≤ _; unfold basF; rw [tabF_length]; omega) (fun xs hx => by rw [tabF_mem hx]; omega))
  unfold basF at HI1
  clear ho1 hb1
  generalize (redR r f c).f = G at *
  generalize (redR r f c).d = d at *
  obtain ⟨q1, cq, hv1, _, hqc⟩ := HI1.out
  rw [tabF_length] at hv1
  subst hv1
  have HQ := Lib.hid hqc
  have HLD : Hid (∀ i, i < d → ld G c i < c) := Lib.hid (fun i hi => (Fus.red_ld HRED.out).lt i hi)
  have hcA := bcell (below_alloc w1 (.cells #[] 35)) hc01
  clear hqc
  go_wp2_with fail
  clear hcA
  go_loopw [5, 23] (fun s i wr => ∃ k : Nat, k ≤ c ∧ i = .int .i64 k ∧ OwnM wr w1.heap.size s (rowsOf c G d (frees G c d k)) ∧ Below w1.heap.size w1 wr) (fun _ i _ => c - (intOf i).toNat)
  case atStart => exact ⟨0, Nat.zero_le _, rfl, ownM_empty _ _ (Nat.le_refl _), below_alloc _ _⟩
  case round =>
    obtain ⟨k, hk, rfl, hlist, hbel⟩ := hrel
    by_cases hkc : k < c
    · have HB := Lib.hid hbel
      have hsz := hbel.size
      have HLI := Lib.hid hlist
      have hc02 := bcell hbel hc01
      have HIB : Hid (IntRows (wr.alloc (.cells #[.int .i64 k] 3)) (.slice q1 d cq) (tabF d c G)) := Lib.hid ((HI1.out.keep hbel).keep (below_alloc _ _))
      have hmk := run_make_row' (P := Try.prog) 35 2 (.int .i64 0) 8 Try.underlying35 info_int rfl .i64 .i64 c (by omega) (by omega)
      clear hlist hbel
      go_wp2_with fail
      refine (c_ContainsFunc_ker _ _ ⟨wr.heap.size, 0, none⟩ k _ HIB.out (Box.new wr 3 _).cell).mono ?_
      rintro e w2 ⟨rfl, hd2⟩
      rw [any_lead HRED.out]
      have HB2 : Hid (Below wr.heap.size wr w2) := Lib.hid ((below_alloc wr _).trans (hd2.below _))
      have hsz2 : wr.heap.size < w2.heap.size := by rw [hd2.heap]; simp
      have hcol : w2.cell? ⟨wr.heap.size, 0, none⟩ = some (.int .i64 k) := hd2.cell (Box.new wr 3 _).cell
      have hc03 := bcell HB2.out hc02
      clear hd2 HIB
      cases hf : isFree G c d k
      · have HF := Lib.hid hf
        clear hf hmk
        go_wp2_with fail
        go_roundw
        case rel => exact ⟨k + 1, by omega, by go_num, by rw [rowsOf_skip HF.out]; exact HLI.out.keep HB2.out, HB.out.trans (HB2.out.mono hsz)⟩
        case measure => simp [intOf]; omega
      · have HF := Lib.hid hf
        clear hf
        have hkI : (k : Int) < (c : Int) := by omega
        have hkI0 : (0 : Int) ≤ (k : Int) := by omega
        have hz0 := own_zeros w2 c (by omega)
        have hold := Own.cell hz0 (i := k) (u := vi 0) (by rw [List.getElem?_map, vec_at _ hkc]; rfl)
        have hfr := Own.frozen hz0 k
        have hcolz := bcell (below_alloc w2 (.cells (madeCells #[.int .i64 0] c) 2)) hcol
        have hset := World.setCell_alloc_new (w := w2) (madeCells #[.int .i64 0] c) 2 k (.int .i64 1)
        have HV0 : Hid (OwnI (w2.alloc (.cells ((madeCells #[.int .i64 0] c).setIfInBounds k (.int .i64 1)) 2)) w2.heap.size (.slice (some ⟨w2.heap.size, 0, none⟩) c c) (zl c (fvTo G c k 0))) := Lib.hid (by
          rw [← hset, ← fvTo_start]
          have := Own.store hz0 k (vi 1)
          rw [← List.map_set] at this
          exact this)
        have HA : Hid (Below w2.heap.size w2 (w2.alloc (.cells ((madeCells #[.int .i64 0] c).setIfInBounds k (.int .i64 1)) 2))) := Lib.hid (below_alloc _ _)
        clear hset hz0
        go_wp2_with fail
        clear hmk hold hfr hcolz
        obtain ⟨wo, rfl⟩ : ∃ wo : World, wo = wr := ⟨_, rfl⟩
        go_loopw [40] (fun i wr => ∃ i' : Nat, i' ≤ d ∧ i = .int .i64 i' ∧ OwnI wr w2.heap.size (.slice (some ⟨w2.heap.size, 0, none⟩) c c) (zl c (fvTo G c k i')) ∧ Below w2.heap.size w2 wr) (fun i _ => d - (intOf i).toNat)
        case atStart => exact ⟨0, Nat.zero_le _, rfl, HV0.out, HA.out⟩
        case round =>
          obtain ⟨i, hi, rfl, hv, hbel2⟩ := hrel
          clear HV0 HA
          by_cases hid : i < d
          · obtain ⟨b1, o1, u1, rfl, hcell1, hI1⟩ := HQ.out i _ (tabF_at c G hid)
            have HII := Lib.hid (((hI1.keep HB.out).keep HB2.out).keep hbel2)
            obtain ⟨a3, c3, hu1, _, hc3⟩ := hI1
            rw [zl_length] at hu1
            subst hu1
            obtain ⟨b2, o2, rfl, hcell2⟩ := hc3 k _ (zl_at (G i) hkc)
            have e1 := bcell hbel2 (bcell HB2.out (bcell HB.out hcell1))
            have e2 := bcell hbel2 (bcell HB2.out (bcell HB.out hcell2))
            have e3 := bcell hbel2 hcol
            have hb2 := Ints.lt (bcell HB2.out (bcell HB.out hcell2))
            have hLc := HLD.out i hid
            have hvc := Own.cell hv (i := ld G c i) (u := vi (toI (fvTo G c k i (ld G c i)))) (by rw [List.getElem?_map, zl_at _ hLc]; rfl)
            have hvf := Own.frozen hv (ld G c i)
            have hm2 : ¬ w2.heap.size = b2 := by omega
            have hm3 : ¬ w2.heap.size = wo.heap.size := by omega
            have hiI : (i : Int) < (d : Int) := by omega
            have hiI0 : (0 : Int) ≤ (i : Int) := by omega
            have hlI : (ld G c i : Int) < (c : Int) := by omega
            have hlI0 : (0 : Int) ≤ (ld G c i : Int) := by omega
            have hxb := toI_bd (G i k)
            obtain ⟨hx1, hx2⟩ := hxb
            have hw1 : IntKind.i64.wrap (-toI (G i k)) = -toI (G i k) := IntWalk.i64_in _ (by omega)
            have HM : Hid (-toI (G i k) % 55441 = toI (-(G i k))) := Lib.hid (toI_of (by rw [ofI_neg, ofI_toI])).symm
            have HIX := Lib.hid (index_one HRED.out hid)
            have HID : Hid (Ints wr.drew (.slice (some ⟨b2, o2, none⟩) c c3) (zl c (G i))) := Lib.hid (Ints.ofHeap rfl HII.out)
            have HVN : Hid (OwnI (wr.setCell ⟨w2.heap.size, ld G c i, none⟩ (.int .i64 (toI (-(G i k))))) w2.heap.size (.slice (some ⟨w2.heap.size, 0, none⟩) c c) (zl c (fvTo G c k (i + 1)))) := Lib.hid (by
              rw [← fvTo_next HRED.out HF.out hid]
              have := Own.store hv (ld G c i) (vi (toI (-(G i k))))
              rw [← List.map_set] at this
              exact this)
            have HBB := Lib.hid hbel2
            clear hcell1 hcell2 hc3 hv hbel2
            go_wp2_with fail
            go_region_held3 (fun w' => w'.cell? ⟨wo.heap.size, 0, none⟩ = some (.int .i64 k) ∧ w'.cell? ⟨b2, o2 + k, none⟩ = some (vi (toI (G i k))))
              (first | go_keep | (exact ⟨cell_farB hm3 e3, cell_farB hm2 e2⟩))
              (first
                | (go_at_call 98; refine (c_Index _ _ 1 _ HID.out).mono ?_; rintro e w' ⟨rfl, rfl⟩; rw [HIX.out])
                | (go_at_call 97; refine (c_mod _ _).mono ?_; rintro e w' ⟨rfl, rfl⟩; rw [HM.out]))
            all_goals
              go_wp2_with fail
              go_roundw
              case rel => exact ⟨i + 1, by omega, by go_num, HVN.out, (below_set (w1 := wr) HBB.out (Nat.le_refl _)).drew⟩
              case measure => simp [intOf]; omega
          · obtain rfl : d = i := by omega
            rw [fvTo_end] at hv
            have HV := Lib.hid hv
            have HBB := Lib.hid hbel2
            have hsz3 := hbel2.size
            have HL2 := Lib.hid (HLI.out.keep HB2.out)
            clear hv hbel2
            go_wp2_with (at_builtin; refine wp_pushM2 HL2.out HBB.out HV.out rfl _ _ rfl rfl rfl (by first | with_reducible rfl | simp) (by omega) (by have := rowsOf_length c G d k; omega) ?_; intro v' w3 ho3 hb3 _)
            go_roundw
            case rel => exact ⟨k + 1, by omega, by go_num, by rw [rowsOf_next HF.out]; exact ho3, ((HB.out.trans (HB2.out.mono hsz)).trans (HBB.out.mono (by omega))).trans hb3⟩
            case measure => simp [intOf]; omega
    · obtain rfl : c = k := by omega
      have hfl := rowsOf_length c G d c
      have hlen := frees_le G c d c
      rw [rowsOf_all] at hlist
      have HLI : Hid (IntRows wr u5 (tabF (frees G c d c).length c (freeRows G c d))) := Lib.hid (hlist.rows (by rw [tabF_length]; omega) (fun xs hx => by rw [tabF_mem hx]; omega))
      have HB := Lib.hid hbel
      have hsz := hbel.size
      clear hlist hbel
      go_wp2_with fail
      refine (c_reduce u5 (frees G c d c).length c (freeRows G c d) _ HLI.out hc1 hc2 (by omega)).mono ?_
      rintro e w5 ⟨v5, rfl, ho5, hb5⟩
      have HO5 := Lib.hid ho5
      have HB5 := Lib.hid hb5
      clear ho5 hb5
      go_wp2_with fail
      go_ret
      refine ⟨v5, rfl, ?_, (HB1.out.trans (HB.out.mono hsz1)).trans (HB5.out.mono (by omega))⟩
      rw [HKER.out]
      exact HO5.out.mono (by omega)
end Go.Proofs.Ytmbcncmmgfnlmaa

/- Walks: bases of kernels with their codes, program and reference. -/
namespace Go.Proofs.Ytmbcncmmgfnlmaa
open Go.RowKit
open Fus (F Mx toI ofI toI_bd redR redR_d kerR)

theorem matF {m : List (List Int)} (h : isMat m = true) : m = tabF m.length (width m) (entF m) := good_F (good_mat h)
theorem kerR_le (r c : Nat) (f : Mx) : (kerR r c f).d ≤ c := by have := Fus.rank_nullity r c f; omega
theorem kerF_length (r c : Nat) (f : Mx) : (kerF r c f).length = (kerR r c f).d := tabF_length _ _ _
theorem kerF_small {r c : Nat} {f : Mx} (hc : c ≤ 4096) : Small 4096 (kerF r c f) :=
  ⟨by rw [kerF_length]; have := kerR_le r c f; omega, fun xs hx => by rw [tabF_mem hx]; exact hc⟩
def kerN (m : List (List Int)) : List (List Int) × Int := if isMat m = true then (kerF m.length (width m) (entF m), 0) else ([], 1)
theorem kerN_small (m : List (List Int)) : Small 4096 (kerN m).1 := by
  unfold kerN
  split
  · rename_i h; obtain ⟨_, h2, _, h4, _⟩ := isMat_parts h; exact kerF_small (by omega)
  · exact ⟨by simp, fun _ h => by simp at h⟩
theorem c_KernelBasis (u : Value) (m : List (List Int)) (w : World) (hu : IntRows w u m) :
    Calls Try.prog 18 #[u] w (RetMC (kerN m) w) := by
  have HU := Lib.hid hu
  cases hm : isMat m
  · have H : Hid (kerN m = ([], 1)) := Lib.hid (by unfold kerN; rw [if_neg (by simp [hm])])
    have HM := Lib.hid hm
    clear hm hu
    go_enter Try.func18, Try.ntmps18
    go_wp2_with fail
    refine (c_IsMatrix u m _ HU.out).mono ?_
    rintro e w1 ⟨rfl, hb1⟩
    rw [HM.out]
    have HB1 := Lib.hid hb1
    clear hb1
    go_wp2_with fail
    go_ret2
    refine ⟨.slice none 0 0, ?_, ?_, HB1.out⟩
    · rw [H.out]; rfl
    · rw [H.out]; exact OwnM.nil _ _
  · have H : Hid (kerN m = (kerF m.length (width m) (entF m), 0)) := Lib.hid (by unfold kerN; rw [if_pos hm])
    have HP := Lib.hid (isMat_parts hm)
    have HT := Lib.hid (matF hm)
    have HM := Lib.hid hm
    clear hm hu
    go_enter Try.func18, Try.ntmps18
    go_wp2_with fail
    refine (c_IsMatrix u m _ HU.out).mono ?_
    rintro e w1 ⟨rfl, hb1⟩
    rw [HM.out]
    have HB1 := Lib.hid hb1
    have HU1 : Hid (IntRows w1 u (tabF m.length (width m) (entF m))) := Lib.hid (by rw [← HT.out]; exact HU.out.keep hb1)
    clear hb1
    go_wp2_with fail
    refine (c_kernel u m.length (width m) (entF m) _ HU1.out HP.out.1 HP.out.2.2.1 (by have := HP.out.2.2.2.1; omega) (by have := HP.out.2.1; omega)).mono ?_
    rintro e w3 ⟨v3, rfl, ho3, hb3⟩
    go_wp2_with fail
    go_ret2
    refine ⟨v3, ?_, ?_, HB1.out.trans (hb3.mono HB1.out.size)⟩
    · rw [H.out]; rfl
    · rw [H.out]; exact ho3.mono HB1.out.size
theorem c_SKernelBasis (u : Value) (m : List (List Int)) (w : World) (hu : IntRows w u m) :
    Calls Try.prog 19 #[u] w (RetMC (kerN m) w) := by
  have HU := Lib.hid hu
  cases hm : isMat m
  · have H : Hid (kerN m = ([], 1)) := Lib.hid (by unfold kerN; rw [if_neg (by simp [hm])])
    have HM := Lib.hid hm
    clear hm hu
    go_enter Try.func19, Try.ntmps19
    go_wp2_with fail
    refine (c_l02Is u m _ HU.out).mono ?_
    rintro e w1 ⟨rfl, hd⟩
    rw [HM.out]
    have HB1 := Lib.hid (hd.below w.heap.size)
    clear hd
    go_wp2_with fail
    go_ret2
    refine ⟨.slice none 0 0, ?_, ?_, HB1.out⟩
    · rw [H.out]; rfl
    · rw [H.out]; exact OwnM.nil _ _
  · have H : Hid (kerN m = (kerF m.length (width m) (entF m), 0)) := Lib.hid (by unfold kerN; rw [if_pos hm])
    have HP := Lib.hid (isMat_parts hm)
    have HT := Lib.hid (matF hm)
    have HM := Lib.hid hm
    clear hm hu
    go_enter Try.func19, Try.ntmps19
    go_wp2_with fail
    refine (c_l02Is u m _ HU.out).mono ?_
    rintro e w1 ⟨rfl, hd⟩
    rw [HM.out]
    have HB1 := Lib.hid (hd.below w.heap.size)
    have HU1 : Hid (IntRows w1 u (tabF m.length (width m) (entF m))) := Lib.hid (by rw [← HT.out]; exact HU.out.keep HB1.out)
    clear hd
    go_wp2_with fail
    refine (c_l02Kernel u m.length (width m) (entF m) _ HU1.out HP.out.1 HP.out.2.2.1 (by have := HP.out.2.2.2.1; omega) (by have := HP.out.2.1; omega)).mono ?_
    rintro e w3 ⟨v3, rfl, ho3, hb3⟩
    go_wp2_with fail
    go_ret2
    refine ⟨v3, ?_, ?_, HB1.out.trans (hb3.mono HB1.out.size)⟩
    · rw [H.out]; rfl
    · rw [H.out]; exact ho3.mono HB1.out.size
end Go.Proofs.Ytmbcncmmgfnlmaa
