/- Connected graphs: the walk of the program. -/
import Derived.Test.YtckcjlophnehmaaCgr
import Derived.Test.YtckcjlophnehmaaTrw
import Derived.Maps.AppendAt
namespace Go.Proofs.Ytckcjlophnehmaa
open Go.RowKit
/-- where the closure looks -/
def CgAt (w : World) (m : List (List Int)) (pg pr pk : Addr) (k q : Nat) : Prop :=
  ∃ v gr n cc, IntRows w v m ∧ w.cell? pg = some v ∧ w.cell? pr = some (.slice (some ⟨gr, 0, none⟩) n cc) ∧ w.cell? pk = some (.int .i64 k) ∧ k < n ∧ n ≤ 6 ∧ w.cell? ⟨gr, k, none⟩ = some (.int .i64 q)
theorem CgAt.drew {w w' : World} {m : List (List Int)} {pg pr pk : Addr} {k q : Nat} (h : CgAt w m pg pr pk k q) (hd : Drew w w') : CgAt w' m pg pr pk k q := by
  obtain ⟨v, gr, n, cc, h1, h2, h3, h4, h5, h6, h7⟩ := h
  exact ⟨v, gr, n, cc, h1.keep (hd.below _), hd.cell h2, hd.cell h3, hd.cell h4, h5, h6, hd.cell h7⟩
set_option maxHeartbeats 2000000 in
theorem c_cg1 (x : Int) (m : List (List Int)) (rq : List Int) (pg pr pk : Addr) (k q : Nat) (w : World) (h : CgAt w m pg pr pk k q) (hq : m[q]? = some rq) :
    Calls Try.prog 29 #[.int .i64 x, .pointer (some pg), .pointer (some pr), .pointer (some pk)] w fun e w' => e = .returned (.bool (rq.any (fun f => x == f))) ∧ Drew w w' := by
  obtain ⟨v, gr, n, cc, ⟨a, cap, rfl, hl, hc⟩, h2, h3, h4, h5, h6, h7⟩ := h
  have hql := (List.getElem?_eq_some_iff.1 hq).1
  obtain ⟨b, off, u, rfl, hcell, hI⟩ := hc q rq hq
  have HI := Lib.hid hI
  have HQ : Hid (∀ w1 : World, w1.heap = w.heap → Calls Try.prog 30 #[u, .int .i64 x] w1 fun e w' => e = .returned (.bool (rq.any (fun f => x == f))) ∧ w' = w1) := Lib.hid (fun w1 hw => (c_Contains _ rq x w1 (HI.out.ofHeap hw)).mono (fun e w' hh => And.intro hh.1 hh.2.symm))
  obtain ⟨a1, cap1, rfl, _, _⟩ := hI
  clear hq hc
  go_enter Try.func29, Try.ntmps29
  go_wp2_with fail
  go_quiet ((go_at_call 30; exact Calls.quiet_of_same (HQ.out _ rfl)))
  go_wp2_with fail
  go_ret
  exact ⟨rfl, _, rfl⟩
theorem c_IndexFunc_cg (v : Value) (xs : List Int) (m : List (List Int)) (rq : List Int) (pg pr pk : Addr) (k q : Nat) (w : World) (hv : Ints w v xs) (h : CgAt w m pg pr pk k q) (hq : m[q]? = some rq) :
    Calls Try.prog 47 #[v, .func (.func 29) #[] #[.pointer (some pg), .pointer (some pr), .pointer (some pk)]] w fun e w' =>
      e = .returned (.int .i64 (idxOf (firstAt (fun x => rq.any (fun f => x == f)) xs))) ∧ Drew w w' := by
  obtain ⟨ad, cap, rfl, hl, hc⟩ := hv
  have HC := Lib.hid hc
  have HG := Lib.hid h
  have HQ := Lib.hid hq
  clear hc h hq
  go_enter Try.func47, Try.ntmps47
  go_wp2_with fail
  go_loopw [8] (fun i wr => ∃ j : Nat, j ≤ xs.length ∧ i = .int .i64 j ∧ Hid (∀ (i : Nat) x, i < j → xs[i]? = some x → (rq.any (fun f => x == f)) = false) ∧ Drew w wr) (fun i _ => xs.length - (intOf i).toNat)
  case atStart => exact ⟨0, Nat.zero_le _, rfl, fun i x hi => absurd hi (Nat.not_lt_zero _), Drew.refl _⟩
  case round =>
    obtain ⟨j, hj, rfl, H, hd⟩ := hrel
    have HD := Lib.hid hd
    by_cases hlt : j < xs.length
    · obtain ⟨x, hx⟩ : ∃ x, xs[j]? = some x := ⟨xs[j], by simp [hlt]⟩
      obtain ⟨b, off, rfl, hcell⟩ := HC.out j x hx
      have h1 := hd.cell hcell
      have HX := Lib.hid hx
      clear hx hd hcell
      cases hp : rq.any (fun f => x == f)
      · have HP := Lib.hid hp
        clear hp
        go_wp2_with fail
        refine (c_cg1 x m rq _ _ _ k q _ (HG.out.drew HD.out) HQ.out).mono ?_
        rintro e w1 ⟨rfl, nd, rfl⟩
        rw [HP.out]
        go_wp2_with fail
        go_roundw
        case rel =>
          refine ⟨j + 1, by omega, by go_num, fun i y hi hy => ?_, HD.out.more _⟩
          by_cases e : i = j
          · subst e; rw [HX.out] at hy; cases hy; exact HP.out
          · exact H.out i y (by omega) hy
        case measure => simp [intOf]; omega
      · have HP := Lib.hid hp
        clear hp
        go_wp2_with fail
        refine (c_cg1 x m rq _ _ _ k q _ (HG.out.drew HD.out) HQ.out).mono ?_
        rintro e w1 ⟨rfl, nd, rfl⟩
        rw [HP.out]
        go_wp2_with fail
        go_ret
        exact ⟨ret_int (by rw [firstAt_some (k := j) H.out HX.out HP.out]; rfl), HD.out.more _⟩
    · clear hd
      go_wp2_with fail
      go_ret
      exact ⟨ret_int (by rw [firstAt_none (fun i x hx => H.out i x (by have := (List.getElem?_eq_some_iff.1 hx).1; omega) hx)]; rfl), HD.out⟩
theorem c_ContainsFunc_cg (v : Value) (xs : List Int) (m : List (List Int)) (rq : List Int) (pg pr pk : Addr) (k q : Nat) (w : World) (hv : Ints w v xs) (h : CgAt w m pg pr pk k q) (hq : m[q]? = some rq) :
    Calls Try.prog 28 #[v, .func (.func 29) #[] #[.pointer (some pg), .pointer (some pr), .pointer (some pk)]] w fun e w' =>
      e = .returned (.bool (xs.any (fun x => rq.any (fun f => x == f)))) ∧ Drew w w' := by
  have HI := Lib.hid (idx_any (fun x => rq.any (fun f => x == f)) xs)
  have HV := Lib.hid hv
  have HG := Lib.hid h
  have HQ := Lib.hid hq
  clear hv h hq
  go_enter Try.func28, Try.ntmps28
  go_wp2_with fail
  refine (c_IndexFunc_cg v xs m rq pg pr pk k q _ HV.out HG.out HQ.out).mono ?_
  rintro e w' ⟨rfl, hd⟩
  have HD := Lib.hid hd
  clear hd
  go_wp2_with fail
  go_ret
  exact ⟨ret_bool HI.out, HD.out⟩
/-- append of one integer: all blocks but the list's own stay, and the list does not come to lie in them -/
theorem wp_pushN3 {ops : Array Oper} {rest : List Oper} {o : Oper} {a : Act} {Q : Exit → Act → World → Prop} {w : World} {B : Nat} {v : Value} {y : Int} {xs : List Int} (hown : Own w 3 B v (xs.map vi)) (hgd : o.guard = none) (s x : Operand)
    (ho : o.op = .call { callee := .builtin .append, args := #[s, x], argTypes := #[47, 47] })
    (hs : a.eval s = v) {gx : Nat} (hx : a.eval x = .slice (some ⟨gx, 0, none⟩) 1 1) (hgx : gx = w.heap.size)
    (hB : B ≤ w.heap.size) (hlen : xs.length ≤ 1000000)
    (h : ∀ v' w', Own w' 3 B v' ((xs ++ [y]).map vi) → Below B w w' → (∀ g, g < w.heap.size → v.ownBlock ≠ some g → w'.heap[g]? = w.heap[g]? ∧ v'.ownBlock ≠ some g) → wpList Try.prog ops Q rest (a.put o.dst v') w') :
    wpList Try.prog ops Q (o :: rest) a (w.alloc (.cells #[.int .i64 y] 3)) := by
  subst hgx
  obtain ⟨i, hi, hz0, hz1', hz2⟩ := info_parts info_int3
  refine wpList_append_own_at _ hgd s x _ ho B 3 i (.int .i64 0) 1 8 Try.underlying47 hi hz0 hz1' hz2 rfl (by omega) v (xs.map vi).length (xs.map vi) hs (World.ownsRow.alloc hown _) ⟨w.heap.size, 0, none⟩ 1 1 [vi y] hx rfl ?_ ?_ ?_ ?_ ?_ ?_
  · exact cell_one_new _ _ _
  · intro u' hu'
    simp at hu'
    subst hu'
    rfl
  · rw [List.length_map]; unfold maxLen; omega
  · rw [List.length_map]; omega
  · simp; omega
  · intro v' w' g1 g2 _ hat
    refine h v' w' (by rw [List.map_append]; exact Own.push g1) (grown_below hown hB g2) (fun g hg hne => ⟨?_, ?_⟩)
    · rw [g2.block g (by simp; omega) (fun e => hne e.symm)]
      exact Below.heap_alloc _ _ _ hg
    · rcases hat with e | e
      · rw [e]; exact hne
      · rw [e]; simp; omega
theorem cell_new (w : World) (v : Value) (T : TypeId) {g : Nat} (h : g = w.heap.size) : (w.alloc (.cells #[v] T)).cell? ⟨g, 0, none⟩ = some v := by subst h; simp
theorem frozen_new (w : World) (v : Value) (T : TypeId) {g : Nat} (h : g = w.heap.size) : (w.alloc (.cells #[v] T)).frozen? ⟨g, 0, none⟩ = false := by subst h; simp
theorem OwnN.ints {w : World} {B : Nat} {v : Value} {xs : List Int} (h : Own w 3 B v (xs.map vi)) (hl : xs.length ≤ 17592186043904) : Ints w v xs := by
  rcases h.shape with ⟨rfl, hx⟩ | ⟨g, cap, rfl, _⟩
  · have hx' : xs = [] := by cases xs with | nil => rfl | cons => simp at hx
    subst hx'
    exact ⟨none, 0, rfl, by simp, fun i x hx => by simp at hx⟩
  · refine ⟨some ⟨g, 0, none⟩, cap, by simp, hl, fun i x hx => ⟨g, 0, rfl, ?_⟩⟩
    rw [Nat.zero_add]
    exact Own.cell h (u := vi x) (by simp [hx])
theorem cell_sameG {w w' : World} {g i : Nat} {v : Value} (h : w'.heap[g]? = w.heap[g]?) (hc : w.cell? ⟨g, i, none⟩ = some v) : w'.cell? ⟨g, i, none⟩ = some v := by
  rw [← hc]; simp only [World.cell?, h]
theorem frozen_sameG {w w' : World} {g i : Nat} {b : Bool} (h : w'.heap[g]? = w.heap[g]?) (hf : w.frozen? ⟨g, i, none⟩ = b) : w'.frozen? ⟨g, i, none⟩ = b := by
  rw [← hf]; simp only [World.frozen?, h]
set_option maxHeartbeats 4000000 in
set_option maxRecDepth 100000 in
theorem c_IsConnectedGraph (v : Value) (m : List (List Int)) (w : World) (hv : IntRowsW w v m) :
    Calls Try.prog 12 #[v] w fun e w' => e = .returned (twoG (connM m)) ∧ Below w.heap.size w w' := by
  have HV := Lib.hid hv
  obtain ⟨⟨a, cap, rfl, hl, hc⟩, _⟩ := hv
  cases ht : triB m
  · have HF := Lib.hid (connM_no ht)
    have HT := Lib.hid ht
    have HA : Hid (Below w.heap.size w (w.alloc (.cells #[.slice a m.length cap] 22))) := Lib.hid (below_alloc _ _)
    have hca : (w.alloc (.cells #[.slice a m.length cap] 22)).cell? ⟨w.heap.size, 0, none⟩ = some (.slice a m.length cap) := by simp
    clear ht hc
    go_enter Try.func12, Try.ntmps12
    go_wp2_with fail
    refine (c_IsTrivalent _ m _ ⟨HV.out.1.keep HA.out, HV.out.2⟩).mono ?_
    rw [HT.out]
    rintro e w1 ⟨rfl, hb⟩
    have HB := Lib.hid (HA.out.trans (hb.mono (by simp)))
    clear hb
    go_wp2_with fail
    go_ret2
    exact ⟨by rw [HF.out]; rfl, HB.out⟩
  · have HT := Lib.hid ht
    have HA : Hid (Below w.heap.size w (w.alloc (.cells #[.slice a m.length cap] 22))) := Lib.hid (below_alloc _ _)
    clear ht
    go_enter Try.func12, Try.ntmps12
    go_wp2_with fail
    refine (c_IsTrivalent _ m _ ⟨HV.out.1.keep HA.out, HV.out.2⟩).mono ?_
    rw [HT.out]
    rintro e w1 ⟨rfl, hb⟩
    have hcg : w1.cell? ⟨w.heap.size, 0, none⟩ = some (.slice a m.length cap) := bcell hb (by simp)
    have HB := Lib.hid (HA.out.trans (hb.mono (by simp)))
    have hs1 : w.heap.size + 1 ≤ w1.heap.size := by have := hb.size; simpa using this
    clear hb
    obtain ⟨V, hVe⟩ : ∃ V, V = m.length := ⟨_, rfl⟩
    have HVe := Lib.hid hVe
    have hV1 : 1 ≤ V := by have := (triB_true HT.out).2.2.1; omega
    have hV6 : V ≤ 6 := by have := (triB_true HT.out).2.2.2.1; omega
    rw [← hVe] at hcg hl
    have HC := Lib.hid hc
    clear hc hVe
    rw [← HVe.out] at HV
    go_wp2_with fail
    have HR1 : Hid (Own (((w1.alloc (.cells #[.int .i64 0] 3)).alloc (.cells #[.slice (some ⟨w1.heap.size, 0, none⟩) 1 1] 47)).alloc (.cells #[.int .i64 0] 3)) 3 w1.heap.size (.slice (some ⟨w1.heap.size, 0, none⟩) 1 1) ((bfs m V 0).map vi)) := Lib.hid (by
      have h := Own.lit (B := w1.heap.size) w1 3 [.int .i64 0] (Nat.le_refl _) (by simp [maxLen])
      have h2 := (h.alloc (.cells #[.slice (some ⟨w1.heap.size, 0, none⟩) 1 1] 47)).alloc (.cells #[.int .i64 0] 3)
      simpa [bfs] using h2)
    have HB1 : Hid (Below w.heap.size w (((w1.alloc (.cells #[.int .i64 0] 3)).alloc (.cells #[.slice (some ⟨w1.heap.size, 0, none⟩) 1 1] 47)).alloc (.cells #[.int .i64 0] 3))) := Lib.hid (((HB.out.alloc (by omega) _).alloc (by simp; omega) _).alloc (by simp; omega) _)
    have hcg1 : (((w1.alloc (.cells #[.int .i64 0] 3)).alloc (.cells #[.slice (some ⟨w1.heap.size, 0, none⟩) 1 1] 47)).alloc (.cells #[.int .i64 0] 3)).cell? ⟨w.heap.size, 0, none⟩ = some (.slice a V cap) := bcell (below_alloc _ _) (bcell (below_alloc _ _) (bcell (below_alloc _ _) hcg))
    have hi1 : (((w1.alloc (.cells #[.int .i64 0] 3)).alloc (.cells #[.slice (some ⟨w1.heap.size, 0, none⟩) 1 1] 47)).alloc (.cells #[.int .i64 0] 3)).cell? ⟨w1.heap.size + 2, 0, none⟩ = some (.int .i64 0) := cell_new _ _ _ (by simp)
    have hi2 : (((w1.alloc (.cells #[.int .i64 0] 3)).alloc (.cells #[.slice (some ⟨w1.heap.size, 0, none⟩) 1 1] 47)).alloc (.cells #[.int .i64 0] 3)).frozen? ⟨w1.heap.size + 2, 0, none⟩ = false := frozen_new _ _ _ (by simp)
    have hi3 : (((w1.alloc (.cells #[.int .i64 0] 3)).alloc (.cells #[.slice (some ⟨w1.heap.size, 0, none⟩) 1 1] 47)).alloc (.cells #[.int .i64 0] 3)).cell? ⟨w1.heap.size + 1, 0, none⟩ = some (.slice (some ⟨w1.heap.size, 0, none⟩) 1 1) := bcell (below_alloc _ _) (cell_new _ _ _ (by simp))
    have hi4 : (((w1.alloc (.cells #[.int .i64 0] 3)).alloc (.cells #[.slice (some ⟨w1.heap.size, 0, none⟩) 1 1] 47)).alloc (.cells #[.int .i64 0] 3)).frozen? ⟨w1.heap.size + 1, 0, none⟩ = false := bfrozen (below_alloc _ _) (cell_new _ (.slice (some ⟨w1.heap.size, 0, none⟩) 1 1) _ (by simp)) (frozen_new _ _ _ (by simp))
    generalize hg : w1.heap.size = g at *
    go_loopw [5] (fun pk wr => ∃ (k gk gr n cc : Nat), k ≤ V ∧ pk = .pointer (some ⟨gk, 0, none⟩) ∧ wr.cell? ⟨gk, 0, none⟩ = some (.int .i64 k) ∧ wr.frozen? ⟨gk, 0, none⟩ = false ∧ wr.cell? ⟨g + 1, 0, none⟩ = some (.slice (some ⟨gr, 0, none⟩) n cc) ∧ wr.frozen? ⟨g + 1, 0, none⟩ = false ∧ wr.cell? ⟨w.heap.size, 0, none⟩ = some (.slice a V cap) ∧ n = (bfs m V k).length ∧ Own wr 3 g (.slice (some ⟨gr, 0, none⟩) n cc) ((bfs m V k).map vi) ∧ gr ≠ g + 1 ∧ gr ≠ gk ∧ gk ≠ g + 1 ∧ g ≤ gk ∧ g + 3 ≤ wr.heap.size ∧ gk < wr.heap.size ∧ Below w.heap.size w wr) (fun pk wr => V - (intOf ((wr.cell? (match pk with | .pointer (some p) => p | _ => ⟨0, 0, none⟩)).getD undef)).toNat)
    case atStart => exact ⟨0, g + 2, g, 1, 1, Nat.zero_le _, rfl, hi1, hi2, hi3, hi4, hcg1, rfl, HR1.out, by omega, by omega, by omega, by omega, by simp; omega, by simp; omega, HB1.out⟩
    case round =>
      obtain ⟨k, gk, gr, n, cc, hk, rfl, hck, hfk, hcr, hfr, hcg2, hn, hown, hne1, hne2, hne3, hgk, hszr, hgkl, hbel⟩ := hrel
      by_cases hlt : k < n
      · obtain ⟨p0, hp0⟩ : ∃ p0, (bfs m V k)[k]? = some p0 := ⟨(bfs m V k)[k]'(by rw [← hn]; exact hlt), by simp⟩
        have hI := bfs_inV (m := m) hV1 k
        obtain ⟨hq1, hq2⟩ := hI.2 p0 (List.mem_of_getElem? hp0)
        obtain ⟨q, rfl⟩ : ∃ q : Nat, p0 = q := ⟨p0.toNat, by omega⟩
        have hqV : q < V := by omega
        have HP0 := Lib.hid hp0
        have HII := Lib.hid hI
        have HKL : Hid (k < (bfs m V k).length) := Lib.hid (by rw [← hn]; exact hlt)
        have HN := Lib.hid hn
        have HOW := Lib.hid hown
        have HB2 := Lib.hid hbel
        have HCK := Lib.hid hck
        have HFK := Lib.hid hfk
        have HCR := Lib.hid hcr
        have HFR := Lib.hid hfr
        have HCG := Lib.hid hcg2
        obtain ⟨rq, hrq⟩ : ∃ r, m[q]? = some r := ⟨m[q]'(by rw [← HVe.out]; exact hqV), by simp⟩
        have HRQ := Lib.hid hrq
        have HRZ := Lib.hid (rowZ_of hrq)
        clear hn hp0 hI hown hbel hrq
        go_wp2_with fail
        obtain ⟨wo, rfl⟩ : ∃ wo : World, wo = wr := ⟨_, rfl⟩
        go_loopw [21] (fun i wr => ∃ (i' gr n cc : Nat), i' ≤ V ∧ i = .int .i64 i' ∧ wr.cell? ⟨gk, 0, none⟩ = some (.int .i64 k) ∧ wr.frozen? ⟨gk, 0, none⟩ = false ∧ wr.cell? ⟨g + 1, 0, none⟩ = some (.slice (some ⟨gr, 0, none⟩) n cc) ∧ wr.frozen? ⟨g + 1, 0, none⟩ = false ∧ wr.cell? ⟨w.heap.size, 0, none⟩ = some (.slice a V cap) ∧ n = (inn m q (bfs m V k) i').length ∧ Own wr 3 g (.slice (some ⟨gr, 0, none⟩) n cc) ((inn m q (bfs m V k) i').map vi) ∧ gr ≠ g + 1 ∧ gr ≠ gk ∧ g + 3 ≤ wr.heap.size ∧ gk < wr.heap.size ∧ Below w.heap.size w wr) (fun i _ => V - (intOf i).toNat)
        case atStart => exact ⟨0, gr, n, cc, Nat.zero_le _, rfl, HCK.out, HFK.out, HCR.out, HFR.out, HCG.out, HN.out, HOW.out, hne1, hne2, hszr, hgkl, HB2.out⟩
        case round =>
          clear hck hfk hcr hfr hcg2 hne1 hne2 hszr hgkl hlt
          obtain ⟨i, gr, n, cc, hi, rfl, hck, hfk, hcr, hfr, hcg2, hn, hown, hne1, hne2, hszr, hgkl, hbel⟩ := hrel
          obtain ⟨rs, hrs⟩ : ∃ rs, rs = inn m q (bfs m V k) i := ⟨_, rfl⟩
          rw [← hrs] at hn hown
          have HRS := Lib.hid hrs
          have HN2 := Lib.hid hn
          have HOW3 := Lib.hid hown
          have HB3 := Lib.hid hbel
          obtain ⟨hrk, hrl⟩ : rs[k]? = some (q : Int) ∧ k < rs.length := by
            obtain ⟨h1, h2⟩ := inn_get (m := m) (p := (q : Int)) HKL.out i
            rw [hrs]
            exact ⟨h1.trans HP0.out, Nat.lt_of_lt_of_le HKL.out h2⟩
          have hkn : k < n := by omega
          have hnV : n ≤ V := by rw [hn, hrs]; exact (HII.out.inn i hi).len
          have hrc := hown.cell (u := vi q) (i := k) (by rw [List.getElem?_map, hrk]; rfl)
          have HAT : Hid (CgAt wr m ⟨w.heap.size, 0, none⟩ ⟨g + 1, 0, none⟩ ⟨gk, 0, none⟩ k q) := Lib.hid ⟨_, gr, n, cc, HV.out.1.keep HB3.out, hcg2, hcr, hck, hkn, by omega, hrc⟩
          clear hn hrs hown hbel hrk hrl hrc
          by_cases hlti : i < V
          · obtain ⟨ri, hri⟩ : ∃ r, m[i]? = some r := ⟨m[i]'(by rw [← HVe.out]; exact hlti), by simp⟩
            have HRI := Lib.hid hri
            have HADJ : Hid (ri.any (fun x => rq.any (fun f => x == f)) = adj m i q) := Lib.hid (by unfold adj; rw [HRZ.out, rowZ_of hri])
            obtain ⟨bi, offi, ui, rfl, hcelli, hIi⟩ := HC.out i ri hri
            have hcw := bcell HB3.out hcelli
            have HIII := Lib.hid (hIi.keep HB3.out)
            clear hri hcelli hIi
            go_wp2_with fail
            refine (c_ContainsFunc_cg ui ri m rq _ _ _ k q _ HIII.out HAT.out HRQ.out).mono ?_
            rw [HADJ.out]
            rintro e w2 ⟨rfl, hd⟩
            have hck := hd.cell hck
            have hcr := hd.cell hcr
            have hcg2 := hd.cell hcg2
            have hfk : w2.frozen? ⟨gk, 0, none⟩ = false := by rw [← hfk]; simp only [World.frozen?, hd.heap]
            have hfr : w2.frozen? ⟨g + 1, 0, none⟩ = false := by rw [← hfr]; simp only [World.frozen?, hd.heap]
            have HOW4 := Lib.hid (HOW3.out.of_block (fun x _ => by rw [hd.heap]) : Own w2 _ _ _ _)
            have HB4 := Lib.hid (HB3.out.trans (hd.below _))
            have hszr : g + 3 ≤ w2.heap.size := by rw [hd.heap]; exact hszr
            have hgkl : gk < w2.heap.size := by rw [hd.heap]; exact hgkl
            clear hd hcw
            cases hA : adj m i q
            · have HST : Hid (inn m q (bfs m V k) (i + 1) = rs) := Lib.hid (by
                show stepR m q (inn m q (bfs m V k) i) i = rs
                rw [← HRS.out]; exact stepR_no1 hA)
              clear hA
              go_wp2_with fail
              go_roundw
              case rel => exact ⟨i + 1, gr, n, cc, by omega, by go_num, hck, hfk, hcr, hfr, hcg2, by rw [HST.out]; exact HN2.out, by rw [HST.out]; exact HOW4.out, hne1, hne2, hszr, hgkl, HB4.out⟩
              case measure => simp [intOf]; omega
            · have HA2 := Lib.hid hA
              have HQN : Hid (Ints w2 (.slice (some ⟨gr, 0, none⟩) n cc) rs) := Lib.hid (OwnN.ints HOW4.out (by rw [← HN2.out]; omega))
              clear hA
              cases hh : hasI rs i
              · have HST : Hid (inn m q (bfs m V k) (i + 1) = rs ++ [(i : Int)]) := Lib.hid (by
                  show stepR m q (inn m q (bfs m V k) i) i = _
                  rw [← HRS.out]; exact stepR_yes HA2.out hh)
                have HH := Lib.hid hh
                clear hh
                go_wp2_with fail
                refine (c_ContainsN _ rs i _ HQN.out).mono ?_
                rw [show (rs.any fun x => (i : Int) == x) = false from HH.out]
                rintro e w3 ⟨rfl, rfl⟩
                have hgr := (HOW4.out.lt (g := gr) rfl).1
                have hws : w.heap.size + 1 ≤ g := hs1
                go_wp2_with (at_builtin; refine wp_pushN3 (gx := w2.heap.size) (y := (i : Int)) HOW4.out rfl (.tmp 36) (.tmp 38) rfl rfl rfl rfl (by omega) (by rw [← HN2.out]; omega) ?_; intro v' w4 ho4 hb4 hk4; obtain ⟨p4, n4, c4, rfl⟩ := ho4.slice; have hck4 := cell_sameG (hk4 gk hgkl (by simp [Value.ownBlock]; exact hne2)).1 hck; have hfk4 := frozen_sameG (hk4 gk hgkl (by simp [Value.ownBlock]; exact hne2)).1 hfk; have hcr4 := cell_sameG (hk4 (g + 1) (by omega) (by simp [Value.ownBlock]; exact hne1)).1 hcr; have hfr4 := frozen_sameG (hk4 (g + 1) (by omega) (by simp [Value.ownBlock]; exact hne1)).1 hfr; have hcg4 := cell_sameG (hk4 w.heap.size (by omega) (by simp [Value.ownBlock]; omega)).1 hcg2)
                obtain ⟨gr4, hp4, hn4⟩ : ∃ gr4, p4 = some ⟨gr4, 0, none⟩ ∧ n4 = (rs ++ [(i : Int)]).length := by
                  rcases ho4.shape with ⟨h1, h2⟩ | ⟨g2, c3, h1, _⟩
                  · simp at h2
                  · cases h1; exact ⟨g2, rfl, by simp⟩
                subst hp4
                have hb41 : gr4 ≠ g + 1 := fun e => (hk4 (g + 1) (by omega) (by simp [Value.ownBlock]; exact hne1)).2 (by simp [Value.ownBlock, e])
                have hb42 : gr4 ≠ gk := fun e => (hk4 gk hgkl (by simp [Value.ownBlock]; exact hne2)).2 (by simp [Value.ownBlock, e])
                have HN5 : Hid (n4 = (inn m q (bfs m V k) (i + 1)).length) := Lib.hid (by rw [HST.out]; exact hn4)
                have HO5 : Hid (Own (w4.setCell ⟨g + 1, 0, none⟩ (.slice (some ⟨gr4, 0, none⟩) n4 c4)) 3 g (.slice (some ⟨gr4, 0, none⟩) n4 c4) ((inn m q (bfs m V k) (i + 1)).map vi)) := Lib.hid (by rw [HST.out]; exact ho4.keepOther (by simp [Value.ownBlock]; exact hb41) _)
                have HB5 : Hid (Below w.heap.size w (w4.setCell ⟨g + 1, 0, none⟩ (.slice (some ⟨gr4, 0, none⟩) n4 c4))) := Lib.hid (below_set (HB4.out.trans (hb4.mono (by omega))) (by omega))
                have hs5 := hb4.size
                clear ho4 hb4 hk4 hn4
                go_roundw
                case rel => exact ⟨i + 1, gr4, n4, c4, by omega, by go_num, (World.cell?_setCell_other _ _ _ _ (fun h => by simp at h <;> omega)).trans hck4, by simp [hfk4], World.cell?_setCell_same _ _ _ hcr4, by simp [hfr4], (World.cell?_setCell_other _ _ _ _ (fun h => by simp at h <;> omega)).trans hcg4, HN5.out, HO5.out, hb41, hb42, by simp; omega, by simp; omega, HB5.out⟩
                case measure => simp [intOf]; omega
              · have HST : Hid (inn m q (bfs m V k) (i + 1) = rs) := Lib.hid (by
                  show stepR m q (inn m q (bfs m V k) i) i = rs
                  rw [← HRS.out]; exact stepR_no2 hh)
                have HH := Lib.hid hh
                clear hh
                go_wp2_with fail
                refine (c_ContainsN _ rs i _ HQN.out).mono ?_
                rw [show (rs.any fun x => (i : Int) == x) = true from HH.out]
                rintro e w3 ⟨rfl, rfl⟩
                go_wp2_with fail
                go_roundw
                case rel => exact ⟨i + 1, gr, n, cc, by omega, by go_num, hck, hfk, hcr, hfr, hcg2, by rw [HST.out]; exact HN2.out, by rw [HST.out]; exact HOW4.out, hne1, hne2, hszr, hgkl, HB4.out⟩
                case measure => simp [intOf]; omega
          · obtain rfl : i = V := by omega
            have HST : Hid (rs = bfs m i (k + 1)) := Lib.hid (by rw [bfs_next HP0.out, HRS.out])
            have hgr := (HOW3.out.lt (g := gr) rfl)
            go_wp2_with fail
            go_roundw
            case rel => exact ⟨k + 1, wr.heap.size, gr, n, cc, by omega, rfl, by rw [cell_new _ _ _ rfl]; go_num, frozen_new _ _ _ rfl, bcell (below_alloc _ _) hcr, bfrozen (below_alloc _ _) hcr hfr, bcell (below_alloc _ _) hcg2, by rw [← HST.out]; exact HN2.out, by rw [← HST.out]; exact HOW3.out.alloc _, hne1, by omega, by omega, by omega, by simp; omega, by simp, HB3.out.alloc (by omega) _⟩
            case measure => simp [HCK.out, cell_new _ _ _ rfl, intOf]; omega
      · have HF := Lib.hid (connM_yes (m := m) (k := k) HT.out (by rw [← HVe.out]; exact hk) (by rw [← HVe.out]; omega))
        have HN := Lib.hid hn
        have HB2 := Lib.hid hbel
        have hE : ((n : Int) == (V : Int)) = decide (n = V) := by rw [Bool.eq_iff_iff]; simp; omega
        clear hown hbel hn
        go_wp2_with fail
        go_ret2
        exact ⟨by rw [HF.out, ← HVe.out]; unfold twoG; rw [← HN.out]; rfl, HB2.out⟩
end Go.Proofs.Ytckcjlophnehmaa
