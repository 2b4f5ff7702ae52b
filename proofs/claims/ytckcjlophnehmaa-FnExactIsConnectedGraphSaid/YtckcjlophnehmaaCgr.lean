/- Connected graphs: plain laws of reaching, and the walk of the reference. -/
import Derived.Test.YtckcjlophnehmaaTrv
import Derived.Test.YtckcjlophnehmaaHas
namespace Go.Proofs.Ytckcjlophnehmaa
open Go.RowKit

/-! plain laws: which corners are reached -/
def rowZ (m : List (List Int)) (i : Int) : List Int := m.getD i.toNat []
/-- have two corners an edge in common -/
def adj (m : List (List Int)) (i p : Int) : Bool := (rowZ m i).any (fun e => (rowZ m p).any (fun f => e == f))
theorem any_swap (a b : List Int) : b.any (fun f => a.any (fun e => e == f)) = a.any (fun e => b.any (fun f => e == f)) := by
  rw [Bool.eq_iff_iff]
  simp only [List.any_eq_true]
  constructor
  · rintro ⟨f, hf, e, he, h⟩; exact ⟨e, he, f, hf, h⟩
  · rintro ⟨e, he, f, hf, h⟩; exact ⟨f, hf, e, he, h⟩
def hasI (rs : List Int) (i : Int) : Bool := rs.any (fun x => i == x)
theorem hasI_iff {rs : List Int} {i : Int} : hasI rs i = true ↔ i ∈ rs := by
  simp [hasI]
def stepR (m : List (List Int)) (p : Int) (rs : List Int) (i : Int) : List Int := if adj m i p = true ∧ hasI rs i = false then rs ++ [i] else rs
def inn (m : List (List Int)) (p : Int) (rs : List Int) : Nat → List Int
  | 0 => rs
  | n + 1 => stepR m p (inn m p rs n) n
def bfs (m : List (List Int)) (V : Nat) : Nat → List Int
  | 0 => [0]
  | k + 1 => if k < (bfs m V k).length then inn m ((bfs m V k).getD k 0) (bfs m V k) V else bfs m V k
def InV (V : Nat) (rs : List Int) : Prop := rs.Nodup ∧ ∀ x ∈ rs, 0 ≤ x ∧ x < (V : Int)
theorem InV.len {V : Nat} {rs : List Int} (h : InV V rs) : rs.length ≤ V := pigeon V rs h.1 h.2
theorem InV.step {m : List (List Int)} {p : Int} {V n : Nat} {rs : List Int} (h : InV V rs) (hn : n < V) : InV V (stepR m p rs n) := by
  unfold stepR
  split
  · rename_i h1
    have hni : ((n : Nat) : Int) ∉ rs := fun hm => by rw [hasI_iff.2 hm] at h1; exact absurd h1.2 (by simp)
    refine ⟨List.nodup_append.2 ⟨h.1, by simp, fun a ha b hb => ?_⟩, fun x hx => ?_⟩
    · simp at hb; subst hb; intro e; subst e; exact hni ha
    · rcases List.mem_append.1 hx with hx | hx
      · exact h.2 x hx
      · simp at hx; omega
  · exact h
theorem InV.inn {m : List (List Int)} {p : Int} {V : Nat} {rs : List Int} (h : InV V rs) : ∀ n, n ≤ V → InV V (inn m p rs n)
  | 0, _ => h
  | n + 1, hn => (InV.inn h n (by omega)).step (by omega)
theorem stepR_get {m : List (List Int)} {p i : Int} {rs : List Int} {k : Nat} (hk : k < rs.length) : (stepR m p rs i)[k]? = rs[k]? := by
  unfold stepR
  split
  · rw [List.getElem?_append_left hk]
  · rfl
theorem stepR_len {m : List (List Int)} {p i : Int} {rs : List Int} : rs.length ≤ (stepR m p rs i).length := by
  unfold stepR
  split
  · simp
  · exact Nat.le_refl _
theorem inn_get {m : List (List Int)} {p : Int} {rs : List Int} {k : Nat} (hk : k < rs.length) : ∀ n, (inn m p rs n)[k]? = rs[k]? ∧ rs.length ≤ (inn m p rs n).length
  | 0 => ⟨rfl, Nat.le_refl _⟩
  | n + 1 => by
    obtain ⟨h1, h2⟩ := inn_get (m := m) (p := p) hk n
    exact ⟨(stepR_get (by omega)).trans h1, Nat.le_trans h2 stepR_len⟩
theorem bfs_inV {m : List (List Int)} {V : Nat} (hV : 0 < V) : ∀ k, InV V (bfs m V k)
  | 0 => ⟨by simp [bfs], fun x hx => by simp [bfs] at hx; omega⟩
  | k + 1 => by
    unfold bfs
    split
    · exact (bfs_inV hV k).inn V (Nat.le_refl _)
    · exact bfs_inV hV k
theorem bfs_stay {m : List (List Int)} {V k : Nat} (h : (bfs m V k).length ≤ k) : ∀ d, bfs m V (k + d) = bfs m V k
  | 0 => rfl
  | d + 1 => by
    have ih := bfs_stay h d
    have e : bfs m V (k + d + 1) = if k + d < (bfs m V (k + d)).length then inn m ((bfs m V (k + d)).getD (k + d) 0) (bfs m V (k + d)) V else bfs m V (k + d) := rfl
    show bfs m V (k + d + 1) = _
    rw [e, if_neg (by rw [ih]; omega), ih]
theorem bfs_next {m : List (List Int)} {V k : Nat} {p : Int} (h : (bfs m V k)[k]? = some p) : bfs m V (k + 1) = inn m p (bfs m V k) V := by
  have hk := (List.getElem?_eq_some_iff.1 h).1
  show (if k < (bfs m V k).length then _ else _) = _
  rw [if_pos hk, List.getD_eq_getElem?_getD, h]
  rfl
/-- the result and its code -/
noncomputable def connM (m : List (List Int)) : Bool × Int := if triB m = true then (decide ((bfs m m.length m.length).length = m.length), 0) else (false, 1)
theorem connM_no {m : List (List Int)} (h : triB m = false) : connM m = (false, 1) := by unfold connM; rw [if_neg (by rw [h]; simp)]
theorem connM_yes {m : List (List Int)} {k : Nat} (h : triB m = true) (hk : k ≤ m.length) (hl : (bfs m m.length k).length ≤ k) :
    connM m = (decide ((bfs m m.length k).length = m.length), 0) := by
  have e := bfs_stay hl (m.length - k)
  rw [show k + (m.length - k) = m.length by omega] at e
  unfold connM
  rw [if_pos h, e]
theorem stepR_yes {m : List (List Int)} {p i : Int} {rs : List Int} (h1 : adj m i p = true) (h2 : hasI rs i = false) : stepR m p rs i = rs ++ [i] := by unfold stepR; rw [if_pos ⟨h1, h2⟩]
theorem stepR_no1 {m : List (List Int)} {p i : Int} {rs : List Int} (h1 : adj m i p = false) : stepR m p rs i = rs := by unfold stepR; rw [if_neg (by rw [h1]; simp)]
theorem stepR_no2 {m : List (List Int)} {p i : Int} {rs : List Int} (h2 : hasI rs i = true) : stepR m p rs i = rs := by unfold stepR; rw [if_neg (by rw [h2]; simp)]
attribute [irreducible] stepR connM
def twoG (r : Bool × Int) : Value := .tuple #[.bool r.1, .int .i64 r.2]
theorem info_bool : (Try.prog.info? 4).map (fun i => (i.zero, i.size, i.bytes)) = some (some (.bool false), 1, 1) := by kernel_rfl
/-- the marks of those reached -/
def seenL (V : Nat) (rs : List Int) : List Value := vec V fun i => .bool (hasI rs i)
theorem seen_zero {V : Nat} : (List.replicate V (Value.bool false)).set 0 (.bool true) = seenL V [0] := by
  apply List.ext_getElem
  · simp [seenL, vec]
  · intro i h1 h2
    simp only [List.getElem_set, List.getElem_replicate, seenL, vec, List.getElem_map, List.getElem_range, hasI, List.any_cons, List.any_nil, Bool.or_false]
    by_cases e : i = 0
    · subst e; simp
    · have : ¬ ((i : Int) = 0) := by omega
      have e' : ¬ 0 = i := fun hh => e hh.symm
      rw [if_neg e', show (((i : Nat) : Int) == 0) = false from by rw [beq_eq_false_iff_ne]; exact this]
theorem rowZ_of {m : List (List Int)} {i : Nat} {r : List Int} (h : m[i]? = some r) : rowZ m (i : Int) = r := by
  unfold rowZ
  rw [Int.toNat_natCast, List.getD_eq_getElem?_getD, h]; rfl
theorem seen_set {V i : Nat} {rs : List Int} : (seenL V rs).set i (.bool true) = seenL V (rs ++ [(i : Int)]) := by
  unfold seenL
  rw [vec_set]
  refine vec_congr fun j _ => ?_
  unfold hasI
  by_cases e : j = i
  · subst e; simp
  · have e1 : (((j : Nat) : Int) == (i : Int)) = false := by rw [beq_eq_false_iff_ne]; omega
    simp [e, e1]
set_option maxHeartbeats 4000000 in
set_option maxRecDepth 100000 in
theorem c_SIsConnectedGraph (v : Value) (m : List (List Int)) (w : World) (hv : IntRows w v m) :
    Calls Try.prog 11 #[v] w fun e w' => e = .returned (twoG (connM m)) ∧ Below w.heap.size w w' := by
  have HV := Lib.hid hv
  cases ht : triB m
  · have HF := Lib.hid (connM_no ht)
    have HT := Lib.hid ht
    clear ht hv
    go_enter Try.func11, Try.ntmps11
    go_wp2_with fail
    refine (c_l15Graph v m _ HV.out).mono ?_
    rw [HT.out]
    rintro e w1 ⟨rfl, hb⟩
    have HB := Lib.hid hb
    clear hb
    go_wp2_with fail
    go_ret2
    exact ⟨by rw [HF.out]; rfl, HB.out⟩
  · have HT := Lib.hid ht
    obtain ⟨V, hVe⟩ : ∃ V, V = m.length := ⟨_, rfl⟩
    have HVe := Lib.hid hVe
    have hV1 : 1 ≤ V := by have := (triB_true ht).2.2.1; omega
    have hV6 : V ≤ 6 := by have := (triB_true ht).2.2.2.1; omega
    have H3 := Lib.hid (triB_true ht).1
    obtain ⟨a, cap, rfl, hl, hc⟩ := hv
    rw [← hVe] at hl HV ⊢
    have HC := Lib.hid hc
    have hmk := run_make_row' (P := Try.prog) 46 4 (.bool false) 1 Try.underlying46 info_bool rfl .i64 .i64 V (by omega) (by omega)
    clear ht hc hVe
    go_enter Try.func11, Try.ntmps11
    go_wp2_with fail
    refine (c_l15Graph _ m _ HV.out).mono ?_
    rw [HT.out]
    rintro e w1 ⟨rfl, hb⟩
    have HB := Lib.hid hb
    clear hb
    have HO0 := Own.made w1 4 (.bool false) V (Nat.le_refl _) (by unfold maxLen; omega)
    have hc0 := HO0.cell (show (List.replicate V (Value.bool false))[0]? = some (Value.bool false) by rw [List.getElem?_replicate, if_pos (by omega)])
    have hf0 := HO0.frozen 0
    have HO1 := HO0.store 0 (.bool true)
    rw [World.setCell_alloc_new, seen_zero] at HO1
    have HO1 := Lib.hid (HO1.alloc (.cells #[.int .i64 0] 3))
    clear HO0
    go_wp2_with fail
    have HR1 : Hid (Own ((w1.alloc (.cells ((madeCells #[Value.bool false] V).setIfInBounds 0 (.bool true)) 4)).alloc (.cells #[.int .i64 0] 3)) 3 (w1.heap.size + 1) (.slice (some ⟨w1.heap.size + 1, 0, none⟩) 1 1) ((bfs m V 0).map vi)) := Lib.hid (by
      have h := Own.lit (B := w1.heap.size + 1) (w1.alloc (.cells ((madeCells #[Value.bool false] V).setIfInBounds 0 (.bool true)) 4)) 3 [.int .i64 0] (by simp) (by simp [maxLen])
      simpa [bfs] using h)
    have hsz1 := HB.out.size
    have HB1 : Hid (Below w.heap.size w ((w1.alloc (.cells ((madeCells #[Value.bool false] V).setIfInBounds 0 (.bool true)) 4)).alloc (.cells #[.int .i64 0] 3))) := Lib.hid ((HB.out.alloc hsz1 _).alloc (by simp; omega) _)
    generalize hg : w1.heap.size = g at *
    go_loopw [5, 6] (fun s i wr => ∃ (k : Nat) (p : Option Addr) (cc n : Nat), k ≤ V ∧ i = .int .i64 k ∧ s = .slice p n cc ∧ n = (bfs m V k).length ∧ Own wr 3 (g + 1) s ((bfs m V k).map vi) ∧ Own wr 4 g (.slice (some ⟨g, 0, none⟩) V V) (seenL V (bfs m V k)) ∧ g + 2 ≤ wr.heap.size ∧ Below w.heap.size w wr) (fun _ i _ => V - (intOf i).toNat)
    case atStart => exact ⟨0, _, _, _, Nat.zero_le _, rfl, rfl, rfl, HR1.out, HO1.out, by simp; omega, HB1.out⟩
    case round =>
      obtain ⟨k, p, cc, n, hk, rfl, rfl, hn, hown, hseen, hszr, hbel⟩ := hrel
      have HN := Lib.hid hn
      by_cases hlt : k < n
      · obtain ⟨p0, hp0⟩ : ∃ p0, (bfs m V k)[k]? = some p0 := ⟨(bfs m V k)[k]'(by rw [← hn]; exact hlt), by simp⟩
        have hI := bfs_inV (m := m) hV1 k
        obtain ⟨hq1, hq2⟩ := hI.2 p0 (List.mem_of_getElem? hp0)
        obtain ⟨q, rfl⟩ : ∃ q : Nat, p0 = q := ⟨p0.toNat, by omega⟩
        have hqV : q < V := by omega
        have HP0 := Lib.hid hp0
        have HII := Lib.hid hI
        have HKL : Hid (k < (bfs m V k).length) := Lib.hid (by rw [← hn]; exact hlt)
        have HOW := Lib.hid hown
        have HSE := Lib.hid hseen
        have HB2 := Lib.hid hbel
        obtain ⟨rq, hrq⟩ : ∃ r, m[q]? = some r := ⟨m[q]'(by rw [← HVe.out]; exact hqV), by simp⟩
        have HRQ := Lib.hid hrq
        have HRZ := Lib.hid (rowZ_of hrq)
        have h3q : rq.length = 3 := H3.out rq (List.mem_of_getElem? hrq)
        have H3Q := Lib.hid h3q
        obtain ⟨bq, offq, uq, rfl, hcellq, ⟨aq, capq, rfl, hlq, hcq⟩⟩ := HC.out q rq hrq
        rw [h3q] at hcellq
        have HCELLQ := Lib.hid hcellq
        have HCQ := Lib.hid hcq
        clear hn hp0 hI hown hseen hbel hrq h3q hcellq hcq hlq
        go_wp2_with fail
        obtain ⟨wo, rfl⟩ : ∃ wo : World, wo = wr := ⟨_, rfl⟩
        go_loopw [5, 7] (fun s i wr => ∃ (i' : Nat) (p : Option Addr) (cc n : Nat), i' ≤ V ∧ i = .int .i64 i' ∧ s = .slice p n cc ∧ n = (inn m q (bfs m V k) i').length ∧ Own wr 3 (g + 1) s ((inn m q (bfs m V k) i').map vi) ∧ Own wr 4 g (.slice (some ⟨g, 0, none⟩) V V) (seenL V (inn m q (bfs m V k) i')) ∧ g + 2 ≤ wr.heap.size ∧ Below w.heap.size w wr) (fun _ i _ => V - (intOf i).toNat)
        case atStart => exact ⟨0, _, _, _, Nat.zero_le _, rfl, rfl, HN.out, HOW.out, HSE.out, hszr, HB2.out⟩
        case round =>
          obtain ⟨i, p, cc, n, hi, rfl, rfl, hn, hown, hseen, hszr, hbel⟩ := hrel
          obtain ⟨rs, hrs⟩ : ∃ rs, rs = inn m q (bfs m V k) i := ⟨_, rfl⟩
          rw [← hrs] at hn hown hseen
          have HRS := Lib.hid hrs
          have HN2 := Lib.hid hn
          have HOW3 := Lib.hid hown
          have HSE3 := Lib.hid hseen
          have HB3 := Lib.hid hbel
          obtain ⟨hrk, hrl⟩ : rs[k]? = some (q : Int) ∧ k < rs.length := by
            obtain ⟨h1, h2⟩ := inn_get (m := m) (p := (q : Int)) HKL.out i
            rw [hrs]
            exact ⟨h1.trans HP0.out, Nat.lt_of_lt_of_le HKL.out h2⟩
          have hkn : k < n := by omega
          have hnV : n ≤ V := by rw [hn, hrs]; exact (HII.out.inn i hi).len
          rcases hown.shape with ⟨hnil, _⟩ | ⟨gr, ccr, heq, hgr1, hgr2, _⟩
          · cases hnil; omega
          have hpe : p = some ⟨gr, 0, none⟩ := by cases heq; rfl
          subst hpe
          have hrc := hown.cell (u := vi q) (i := k) (by rw [List.getElem?_map, hrk]; rfl)
          have HRK := Lib.hid hrk
          clear hn hrs hown hseen hbel hrk hrl heq
          by_cases hlti : i < V
          · obtain ⟨ri, hri⟩ : ∃ r, m[i]? = some r := ⟨m[i]'(by rw [← HVe.out]; exact hlti), by simp⟩
            have HRI := Lib.hid hri
            have HRZI := Lib.hid (rowZ_of hri)
            have h3i : ri.length = 3 := H3.out ri (List.mem_of_getElem? hri)
            obtain ⟨bi, offi, ui, hab, hcelli, hIi⟩ := HC.out i ri hri
            cases hab
            have HCELLI := Lib.hid hcelli
            have HIII := Lib.hid hIi
            clear hri h3i hcelli
            obtain ⟨ai, capi, rfl, hli, _⟩ := hIi
            go_wp2_with fail
            obtain ⟨wi, rfl⟩ : ∃ wi : World, wi = wr := ⟨_, rfl⟩
            go_loopw [8, 9] (fun c j wr => ∃ (j' : Nat) (cb : Bool), j' ≤ 3 ∧ j = .int .i64 j' ∧ c = .bool cb ∧ Hid (cb = (rq.take j').any (fun f => ri.any (fun e => e == f))) ∧ Drew wi wr) (fun _ j _ => 3 - (intOf j).toNat)
            case atStart => exact ⟨0, false, Nat.zero_le _, rfl, rfl, rfl, Drew.refl _⟩
            case round =>
              obtain ⟨j, cb, hj, rfl, rfl, HCB, hd⟩ := hrel
              have HD := Lib.hid hd
              by_cases hltj : j < 3
              · obtain ⟨x, hx⟩ : ∃ x, rq[j]? = some x := ⟨rq[j]'(by rw [H3Q.out]; exact hltj), by simp⟩
                have HXX := Lib.hid hx
                have hnext : Hid ((rq.take (j + 1)).any (fun f => ri.any (fun e => e == f)) = (cb || ri.any (fun e => e == x))) := Lib.hid (by
                  rw [List.take_add_one, hx, HCB.out]; simp)
                cases cb
                · obtain ⟨b1, off1, rfl, hcx⟩ := HCQ.out j x hx
                  have g1 := hd.cell (bcell HB3.out HCELLI.out)
                  have g2 := hd.cell (bcell HB3.out HCELLQ.out)
                  have g3 := hd.cell (bcell HB3.out hcx)
                  have g4 := hd.cell hrc
                  have HQ : Hid (∀ w1 : World, w1.heap = wr.heap → Calls Try.prog 27 #[.slice ai ri.length capi, .int .i64 x] w1 fun e w' => e = .returned (.bool (ri.any (fun e => e == x))) ∧ w' = w1) := Lib.hid (fun w1 hw => (c_l01Has _ ri x w1 ((HIII.out.keep HB3.out).ofHeap (hw.trans HD.out.heap))).mono (fun e w' hh => And.intro hh.1 hh.2.symm))
                  clear hx hd hcx
                  go_wp2_with fail
                  go_quiet ((go_at_call 27; exact Calls.quiet_of_same (HQ.out _ rfl)))
                  go_wp2_with fail
                  go_roundw
                  case rel => exact ⟨j + 1, _, by omega, by go_num, rfl, Lib.hid (by rw [hnext.out]; simp), HD.out.more _⟩
                  case measure => simp [intOf]; omega
                · clear hx hd
                  go_wp2_with fail
                  go_quiet (fail)
                  go_wp2_with fail
                  go_roundw
                  case rel => exact ⟨j + 1, _, by omega, by go_num, rfl, Lib.hid (by rw [hnext.out]; simp), HD.out.more _⟩
                  case measure => simp [intOf]; omega
              · obtain rfl : j = 3 := by omega
                have HADJ : Hid (cb = adj m i q) := Lib.hid (by
                  rw [HCB.out, ← H3Q.out, List.take_length, any_swap]
                  unfold adj
                  rw [HRZ.out, HRZI.out])
                have HOWz := Lib.hid (HOW3.out.of_block (fun x _ => by rw [hd.heap]) : Own wr _ _ _ _)
                have HSEz := Lib.hid (HSE3.out.of_block (fun x _ => by rw [hd.heap]) : Own wr _ _ _ _)
                have HBz := Lib.hid (HB3.out.trans (hd.below _))
                have hsz2 : g + 2 ≤ wr.heap.size := by rw [hd.heap]; exact hszr
                have hszw : w.heap.size ≤ g := hsz1
                have hsc : wr.cell? ⟨g, i, none⟩ = some (.bool (hasI rs i)) := HSEz.out.cell (by unfold seenL; rw [vec_at _ hlti])
                have hsf := HSEz.out.frozen i
                clear hd HD
                cases cb
                · have HST : Hid (inn m q (bfs m V k) (i + 1) = rs) := Lib.hid (by
                    show stepR m q (inn m q (bfs m V k) i) i = rs
                    rw [← HRS.out]; exact stepR_no1 HADJ.out.symm)
                  go_wp2_with fail
                  go_roundw
                  case rel => exact ⟨i + 1, _, _, _, by omega, by go_num, rfl, by rw [HST.out]; exact HN2.out, by rw [HST.out]; exact HOWz.out, by rw [HST.out]; exact HSEz.out, hsz2, HBz.out⟩
                  case measure => simp [intOf]; omega
                · cases hh : hasI rs i
                  · have HST : Hid (inn m q (bfs m V k) (i + 1) = rs ++ [(i : Int)]) := Lib.hid (by
                      show stepR m q (inn m q (bfs m V k) i) i = _
                      rw [← HRS.out]; exact stepR_yes HADJ.out.symm hh)
                    rw [hh] at hsc
                    clear hh
                    have HS2 : Hid (Own (wr.setCell ⟨g, i, none⟩ (.bool true)) 4 g (.slice (some ⟨g, 0, none⟩) V V) (seenL V (rs ++ [(i : Int)]))) := Lib.hid (by
                      have h := HSEz.out.store i (.bool true)
                      rwa [seen_set] at h)
                    have HO2 : Hid (Own (wr.setCell ⟨g, i, none⟩ (.bool true)) 3 (g + 1) (.slice (some ⟨gr, 0, none⟩) n cc) (rs.map vi)) := Lib.hid (HOWz.out.keepOther (by simp [Value.ownBlock]; omega) _)
                    have HBs := Lib.hid (below_set HBz.out hszw : Below w.heap.size w (wr.setCell ⟨g, i, none⟩ (.bool true)))
                    go_wp2_with (at_builtin; refine wp_push (gx := wr.heap.size) (wr.setCell ⟨g, i, none⟩ (.bool true)) rfl (.tmp 64) (.tmp 66) 47 rfl 3 (.int .i64 0) 8 Try.underlying47 info_int3 rfl (g + 1) (.slice (some ⟨gr, 0, none⟩) n cc) (.int .i64 i) (rs.map vi) ?_ HO2.out ?_ ?_ ?_ ?_ ?_ ?_ ?_; rfl; rfl; simp; rfl; (simp; omega); (rw [List.length_map, ← HN2.out]; omega); omega; intro v' w2 ho2 hg2 hb2; obtain ⟨p2, n2, c2, rfl⟩ := ho2.slice)
                    have hn2 : n2 = (rs ++ [(i : Int)]).length := by
                      rcases ho2.shape with ⟨h1, h2⟩ | ⟨g2, c3, h1, _⟩
                      · simp at h2
                      · cases h1; simp
                    have HN3 : Hid (n2 = (inn m q (bfs m V k) (i + 1)).length) := Lib.hid (by rw [HST.out]; exact hn2)
                    have HO3 : Hid (Own w2 3 (g + 1) (.slice p2 n2 c2) ((inn m q (bfs m V k) (i + 1)).map vi)) := Lib.hid (by rw [HST.out, List.map_append]; exact ho2)
                    have HS3 : Hid (Own w2 4 g (.slice (some ⟨g, 0, none⟩) V V) (seenL V (inn m q (bfs m V k) (i + 1)))) := Lib.hid (by
                      rw [HST.out]
                      exact (HS2.out.alloc _).grown hg2 (.inr (by simp [Value.ownBlock]; omega)))
                    have HB4 := Lib.hid (HBs.out.trans (hb2.mono (by omega)))
                    have hs3 : g + 2 ≤ w2.heap.size := by have := hb2.size; simp at this; omega
                    clear ho2 hg2 hb2 hn2
                    go_wp2_with fail
                    go_roundw
                    case rel => exact ⟨i + 1, _, _, _, by omega, by go_num, rfl, HN3.out, HO3.out, HS3.out, hs3, HB4.out⟩
                    case measure => simp [intOf]; omega
                  · have HST : Hid (inn m q (bfs m V k) (i + 1) = rs) := Lib.hid (by
                      show stepR m q (inn m q (bfs m V k) i) i = rs
                      rw [← HRS.out]; exact stepR_no2 hh)
                    rw [hh] at hsc
                    clear hh
                    go_wp2_with fail
                    go_roundw
                    case rel => exact ⟨i + 1, _, _, _, by omega, by go_num, rfl, by rw [HST.out]; exact HN2.out, by rw [HST.out]; exact HOWz.out, by rw [HST.out]; exact HSEz.out, hsz2, HBz.out⟩
                    case measure => simp [intOf]; omega
          · obtain rfl : i = V := by omega
            have HST : Hid (rs = bfs m i (k + 1)) := Lib.hid (by rw [bfs_next HP0.out, HRS.out])
            go_wp2_with fail
            go_roundw
            case rel => exact ⟨k + 1, _, _, _, by omega, by go_num, rfl, by rw [← HST.out]; exact HN2.out, by rw [← HST.out]; exact HOW3.out, by rw [← HST.out]; exact HSE3.out, hszr, HB3.out⟩
            case measure => simp [intOf]; omega
      · have HF := Lib.hid (connM_yes (m := m) (k := k) HT.out (by rw [← HVe.out]; exact hk) (by rw [← HVe.out]; omega))
        have HB2 := Lib.hid hbel
        have hE : ((n : Int) == (V : Int)) = decide (n = V) := by rw [Bool.eq_iff_iff]; simp; omega
        clear hown hseen hbel hn
        go_wp2_with fail
        go_ret2
        exact ⟨by rw [HF.out, ← HVe.out]; unfold twoG; rw [← HN.out]; rfl, HB2.out⟩
end Go.Proofs.Ytckcjlophnehmaa
