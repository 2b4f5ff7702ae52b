/- Walks of the laws' helpers that mark the cells of a result and look whether the marks are held; what stays meanwhile. -/
import Derived.Test.YtckcjlophnehmaaHlm
namespace Go.Proofs.Ytckcjlophnehmaa
open Go.RowKit

/-- nothing has turned but blocks of S; no block is new -/
structure Touch (S : Nat → Prop) (w w' : World) : Prop where
  os : w'.os = w.os
  tape : w'.tape = w.tape
  output : w'.output = w.output
  size : w'.heap.size = w.heap.size
  block : ∀ k, ¬ S k → w'.heap[k]? = w.heap[k]?
theorem Touch.refl (S : Nat → Prop) (w : World) : Touch S w w := ⟨rfl, rfl, rfl, rfl, fun _ _ => rfl⟩
theorem Touch.trans {S : Nat → Prop} {a b c : World} (h : Touch S a b) (h' : Touch S b c) : Touch S a c :=
  ⟨h'.os.trans h.os, h'.tape.trans h.tape, h'.output.trans h.output, h'.size.trans h.size, fun k hk => (h'.block k hk).trans (h.block k hk)⟩
theorem Touch.mono {S S' : Nat → Prop} {a b : World} (h : Touch S a b) (hs : ∀ k, S k → S' k) : Touch S' a b :=
  ⟨h.os, h.tape, h.output, h.size, fun k hk => h.block k (fun hh => hk (hs k hh))⟩
theorem Touch.drewN {S : Nat → Prop} {a b : World} (h : Touch S a b) (n : Nat) : Touch S a (b.drewN n) := ⟨h.os, h.tape, h.output, h.size, h.block⟩
theorem Touch.set {S : Nat → Prop} {a b : World} (h : Touch S a b) {g i : Nat} {v : Value} (hg : S g) : Touch S a (b.setCell ⟨g, i, none⟩ v) :=
  ⟨h.os, h.tape, h.output, (by rw [← h.size]; simp [World.setCell]), fun k hk => (Below.heap_setCell _ _ _ _ (fun e => hk (by simp at e; rw [e]; exact hg))).trans (h.block k hk)⟩
theorem Touch.below {S : Nat → Prop} {B : Nat} {w0 w w' : World} (hb : Below B w0 w) (h : Touch S w w') (hs : ∀ k, S k → B ≤ k) : Below B w0 w' :=
  hb.trans ⟨h.os, h.tape, h.output, by rw [h.size]; exact Nat.le_refl _, fun k hk => h.block k (fun hh => by have := hs k hh; omega)⟩

/-- whose block it is -/
def blockOf (v : Value) : Nat → Prop := fun k => v.ownBlock = some k
def upFrom (k : Int) : Nat → List Int
  | 0 => []
  | n + 1 => k :: upFrom (k + 1) n
theorem upFrom_length (k : Int) (n : Nat) : (upFrom k n).length = n := by
  induction n generalizing k with
  | zero => rfl
  | succ n ih => simp [upFrom, ih]
theorem upFrom_at (k : Int) (n i : Nat) (h : i < n) : (upFrom k n)[i]? = some (k + i) := by
  induction n generalizing k i with
  | zero => omega
  | succ n ih =>
    cases i with
    | zero => simp [upFrom]
    | succ i => simp only [upFrom, List.getElem?_cons_succ]; rw [ih (k + 1) i (by omega)]; congr 1; omega
theorem upFrom_take (k : Int) (n i : Nat) (h : i ≤ n) : (upFrom k n).take i = upFrom k i := by
  refine List.ext_getElem? fun j => ?_
  rw [List.getElem?_take]
  split
  · rename_i hj
    rw [upFrom_at k n j (by omega), upFrom_at k i j hj]
  · rw [List.getElem?_eq_none (by rw [upFrom_length]; omega)]

theorem marked_next {xs : List Int} {k : Int} {i : Nat} (h : i < xs.length) :
    ((upFrom k i ++ xs.drop i).map vi).set i (vi (k + i)) = (upFrom k (i + 1) ++ xs.drop (i + 1)).map vi := by
  rw [← List.map_set]
  congr 1
  rw [List.set_append_right _ _ (by rw [upFrom_length]; exact Nat.le_refl _), upFrom_length, Nat.sub_self]
  rw [← upFrom_take k (i + 1) i (by omega)]
  have e : upFrom k (i + 1) = (upFrom k (i + 1)).take i ++ [k + i] := by
    have h1 := List.take_succ_eq_append_getElem (l := upFrom k (i + 1)) (i := i) (by rw [upFrom_length]; omega)
    rw [List.take_of_length_le (by rw [upFrom_length]; omega)] at h1
    rw [List.getElem_eq_getElem?_get] at h1
    simp only [upFrom_at k (i + 1) i (by omega), Option.get_some] at h1
    exact h1
  conv => rhs; rw [e]
  rw [List.append_assoc]
  congr 1
  rw [List.drop_eq_getElem_cons h]
  rfl
def MarkPost (v : Value) (B : Nat) (xs : List Int) (k : Int) (w : World) (e : Ending) (w' : World) : Prop :=
  e = .returned (.int .i64 (k + xs.length)) ∧ OwnI w' B v (upFrom k xs.length) ∧ Touch (blockOf v) w w'
theorem c_markInt64S (v : Value) (xs : List Int) (k : Int) (B : Nat) (w : World) (hv : OwnI w B v xs) (hl : xs.length ≤ 17592186043904) (hk : 0 ≤ k) (hk' : k ≤ 1000000000000000) :
    Calls Try.prog 19 #[v, .int .i64 k] w (MarkPost v B xs k w) := by
  rcases hv.shape with ⟨rfl, hx⟩ | ⟨g, cap, rfl, _⟩
  · have hx' : xs = [] := by simpa using hx
    subst hx'
    have HV := Lib.hid hv
    clear hv hx
    go_enter Try.func19, Try.ntmps19
    go_wp2_with fail
    refine wp_loop_rounds 1 ?_
    rw [rounds_succ]
    go_wp2_with fail
    go_ret
    exact ⟨ret_int (by simp), HV.out, Touch.refl _ _⟩
  · have HV := Lib.hid hv
    rw [List.length_map] at HV ⊢
    clear hv
    go_enter Try.func19, Try.ntmps19
    go_wp2_with fail
    go_loopw [1, 5] (fun c i wr => ∃ j : Nat, j ≤ xs.length ∧ i = .int .i64 j ∧ c = .int .i64 (k + j) ∧ OwnI wr B (.slice (some ⟨g, 0, none⟩) xs.length cap) (upFrom k j ++ xs.drop j) ∧ Touch (blockOf (.slice (some ⟨g, 0, none⟩) xs.length cap)) w wr) (fun _ i _ => xs.length - (intOf i).toNat)
    case atStart => exact ⟨0, Nat.zero_le _, rfl, by simp, HV.out, Touch.refl _ _⟩
    case round =>
      obtain ⟨j, hj, rfl, rfl, hown, ht⟩ := hrel
      by_cases hlt : j < xs.length
      · obtain ⟨y, hy⟩ : ∃ y, ((upFrom k j ++ xs.drop j).map vi)[j]? = some y := ⟨_, List.getElem?_eq_getElem (by simp [upFrom_length]; omega)⟩
        have hold := Own.cell hown hy
        have hfr := Own.frozen hown j
        have HO := Lib.hid (Own.store hown j (vi (k + j)))
        have HT : Hid (Touch (blockOf (.slice (some ⟨g, 0, none⟩) xs.length cap)) w (wr.setCell ⟨g, j, none⟩ (vi (k + j)))) := Lib.hid (ht.set rfl)
        clear hy hown ht
        go_wp2_with fail
        go_roundw
        case rel => exact ⟨j + 1, by omega, by go_num, by have e : k + (j : Int) + 1 = k + ((j + 1 : Nat) : Int) := by omega
                                                          rw [e], by have h := HO.out; rw [marked_next hlt] at h; exact h, HT.out⟩
        case measure => simp [intOf]; omega
      · obtain rfl : j = xs.length := by omega
        have HO := Lib.hid hown
        have HT := Lib.hid ht
        clear hown ht
        go_wp2_with fail
        go_ret
        exact ⟨rfl, by have h := HO.out; simpa using h, HT.out⟩
theorem c_heldInt64S (v : Value) (n : Nat) (k : Int) (w : World) (hv : Ints w v (upFrom k n)) (hk : 0 ≤ k) (hk' : k ≤ 1000000000000000) :
    Calls Try.prog 62 #[v, .int .i64 k] w fun e w' => e = .returned (.int .i64 (k + n)) ∧ w = w' := by
  obtain ⟨a, cap, rfl, hl, hc⟩ := hv
  rw [upFrom_length] at hl ⊢
  have HC := Lib.hid hc
  clear hc
  go_enter Try.func62, Try.ntmps62
  go_wp2_with fail
  go_loop [1, 5] (fun c i => ∃ j : Nat, j ≤ n ∧ i = .int .i64 j ∧ c = .int .i64 (k + j)) (fun _ i => n - (intOf i).toNat)
  case atStart => exact ⟨0, Nat.zero_le _, rfl, by simp⟩
  case round =>
    obtain ⟨j, hj, rfl, rfl⟩ := hrel
    by_cases hlt : j < n
    · obtain ⟨b, off, rfl, hcell⟩ := HC.out j (k + j) (upFrom_at k n j hlt)
      go_wp2_with fail
      go_round
      case rel => exact ⟨j + 1, by omega, by go_num, by have e : k + (j : Int) + 1 = k + ((j + 1 : Nat) : Int) := by omega
                                                        rw [e]⟩
      case measure => simp [intOf]; omega
    · obtain rfl : j = n := by omega
      go_wp2_with fail
      go_ret
      exact ⟨rfl, rfl⟩

def marksM (k : Int) (xss : List (List Int)) : List (List Int) := xss.mapIdx fun i xs => upFrom (k + totK xss i) xs.length
theorem marksM_length (k : Int) (xss : List (List Int)) : (marksM k xss).length = xss.length := by simp [marksM]
theorem marksM_at {k : Int} {xss : List (List Int)} {i : Nat} {xs : List Int} (h : xss[i]? = some xs) : (marksM k xss)[i]? = some (upFrom (k + totK xss i) xs.length) := by
  simp [marksM, List.getElem?_mapIdx, h]

/-- rows that the call owns, all of their blocks below hi -/
def OwnB (w : World) (lo hi : Nat) (v : Value) (xss : List (List Int)) : Prop :=
  ∃ us, Own w 29 lo v us ∧ us.length = xss.length ∧ (∀ (i : Nat) (u : Value) (xs : List Int), us[i]? = some u → xss[i]? = some xs → OwnI w lo u xs) ∧ apart us ∧
    (∀ g, v.ownBlock = some g → g < hi) ∧ (∀ (i : Nat) u, us[i]? = some u → ∀ g, u.ownBlock = some g → g < hi)
theorem OwnM.bound {w : World} {B : Nat} {v : Value} {xss : List (List Int)} (h : OwnM w B v xss) : OwnB w B w.heap.size v xss := by
  obtain ⟨us, ho, hlen, hr, ha⟩ := h
  refine ⟨us, ho, hlen, hr, ha, fun g hg => (ho.lt hg).2, fun i u hu g hg => ?_⟩
  have hi := (List.getElem?_eq_some_iff.1 hu).1
  exact ((hr i u _ hu (List.getElem?_eq_getElem (by omega))).lt hg).2
theorem OwnB.own {w : World} {lo hi : Nat} {v : Value} {xss : List (List Int)} (h : OwnB w lo hi v xss) : OwnM w lo v xss := by
  obtain ⟨us, ho, hlen, hr, ha, _⟩ := h
  exact ⟨us, ho, hlen, hr, ha⟩
/-- .. stay while their range of blocks stays -/
theorem OwnB.same {w w' : World} {lo hi : Nat} {v : Value} {xss : List (List Int)} (h : OwnB w lo hi v xss) (hs : ∀ k, lo ≤ k → k < hi → w'.heap[k]? = w.heap[k]?) : OwnB w' lo hi v xss := by
  obtain ⟨us, ho, hlen, hr, ha, h1, h2⟩ := h
  refine ⟨us, ho.of_block fun g hg => hs g (ho.lt hg).1 (h1 g hg), hlen, fun i u xs hu hx => ?_, ha, h1, h2⟩
  exact (hr i u xs hu hx).of_block fun g hg => hs g ((hr i u xs hu hx).lt hg).1 (h2 i u hu g hg)
theorem OwnB.keep {w w' : World} {lo hi B : Nat} {v : Value} {xss : List (List Int)} (h : OwnB w lo hi v xss) (hb : Below B w w') (hB : hi ≤ B) : OwnB w' lo hi v xss :=
  h.same fun k _ hk => hb.block k (by omega)
theorem OwnB.touch {w w' : World} {lo hi : Nat} {S : Nat → Prop} {v : Value} {xss : List (List Int)} (h : OwnB w lo hi v xss) (ht : Touch S w w') (hS : ∀ k, S k → k < lo ∨ hi ≤ k) : OwnB w' lo hi v xss :=
  h.same fun k h1 h2 => ht.block k (fun hk => by have := hS k hk; omega)
def inRange (lo hi : Nat) : Nat → Prop := fun k => lo ≤ k ∧ k < hi

def MarkPostM (v : Value) (lo hi : Nat) (xss : List (List Int)) (k : Int) (w : World) (e : Ending) (w' : World) : Prop :=
  e = .returned (.int .i64 (k + totK xss xss.length)) ∧ OwnB w' lo hi v (marksM k xss) ∧ Touch (inRange lo hi) w w'
theorem c_markInt64SS (v : Value) (xss : List (List Int)) (k : Int) (lo hi : Nat) (w : World) (hv : OwnB w lo hi v xss) (hl : xss.length ≤ 17592186043904) (hl' : ∀ xs ∈ xss, xs.length ≤ 17592186043904) (hk : 0 ≤ k) (hk' : k + totK xss xss.length ≤ 1000000000000000) :
    Calls Try.prog 55 #[v, .int .i64 k] w (MarkPostM v lo hi xss k w) := by
  obtain ⟨us, ho, hlen, hr, ha, hb1, hb2⟩ := hv
  have HO := Lib.hid ho
  have HR := Lib.hid hr
  have HA := Lib.hid ha
  have HB1 := Lib.hid hb1
  have HB2 := Lib.hid hb2
  have HLR := Lib.hid hl'
  have HLEN := Lib.hid hlen
  rcases ho.shape with ⟨rfl, hx⟩ | ⟨g, cap, rfl, _⟩
  · have hx' : xss = [] := by rw [hx] at hlen; exact List.eq_nil_of_length_eq_zero hlen.symm
    subst hx' hx
    clear ho hr ha hb1 hb2 hl' hlen
    go_enter Try.func55, Try.ntmps55
    go_wp2_with fail
    refine wp_loop_rounds 1 ?_
    rw [rounds_succ]
    go_wp2_with fail
    go_ret
    exact ⟨ret_int (by simp [totK]), ⟨[], HO.out, rfl, HR.out, HA.out, HB1.out, HB2.out⟩, Touch.refl _ _⟩
  · have hul : us.length = xss.length := hlen
    rw [hul] at HO HB1 ⊢
    clear ho hr ha hb1 hb2 hl' hlen hul
    go_enter Try.func55, Try.ntmps55
    go_wp2_with fail
    go_loopw [1, 5] (fun c i wr => ∃ j : Nat, j ≤ xss.length ∧ i = .int .i64 j ∧ c = .int .i64 (k + totK xss j) ∧ Own wr 29 lo (.slice (some ⟨g, 0, none⟩) xss.length cap) us ∧
      Hid (∀ (i : Nat) (u : Value) (xs : List Int), us[i]? = some u → xss[i]? = some xs → OwnI wr lo u (if i < j then upFrom (k + totK xss i) xs.length else xs)) ∧ Touch (inRange lo hi) w wr) (fun _ i _ => xss.length - (intOf i).toNat)
    case atStart => exact ⟨0, Nat.zero_le _, rfl, by simp [totK], HO.out, fun i u xs h1 h2 => by rw [if_neg (Nat.not_lt_zero _)]; exact HR.out i u xs h1 h2, Touch.refl _ _⟩
    case round =>
      obtain ⟨j, hj, rfl, rfl, hown, HK, ht⟩ := hrel
      by_cases hlt : j < xss.length
      · obtain ⟨xs, hx⟩ : ∃ xs, xss[j]? = some xs := ⟨xss[j], by simp [hlt]⟩
        obtain ⟨u, hu⟩ : ∃ u, us[j]? = some u := ⟨us[j]'(by rw [HLEN.out]; exact hlt), by simp⟩
        have hcell := Own.cell hown hu
        have hrow := HK.out j u xs hu hx
        rw [if_neg (Nat.lt_irrefl _)] at hrow
        have HROW := Lib.hid hrow
        have HN := Lib.hid (totK_next hx)
        have hm1 := totK_nonneg xss j
        have hm2 := totK_mono xss (Nat.le_of_lt hlt)
        have HOW := Lib.hid hown
        have HT := Lib.hid ht
        have HX := Lib.hid hx
        have HU := Lib.hid hu
        clear hx hu hrow hown ht
        go_wp2_with fail
        refine (c_markInt64S u xs (k + totK xss j) lo _ HROW.out (HLR.out xs (List.mem_of_getElem? HX.out)) (by omega) (by omega)).mono ?_
        rintro e w1 ⟨rfl, hm, htc⟩
        have HM := Lib.hid hm
        have HTC := Lib.hid htc
        clear hm htc
        go_wp2_with fail
        go_roundw
        case rel =>
          refine ⟨j + 1, by omega, by go_num, by rw [HN.out, Int.add_assoc], ?_, fun i u' xs' h1 h2 => ?_, ?_⟩
          · refine HOW.out.of_block fun b hb => HTC.out.block b (fun hh => Own.other HOW.out HROW.out (by decide) hb hh)
          · by_cases e : i = j
            · subst e
              rw [HU.out] at h1; rw [HX.out] at h2; cases h1; cases h2
              rw [if_pos (Nat.lt_succ_self _)]
              exact HM.out
            · have hold := HK.out i u' xs' h1 h2
              have e2 : (if i < j + 1 then upFrom (k + totK xss i) xs'.length else xs') = (if i < j then upFrom (k + totK xss i) xs'.length else xs') := by
                by_cases hij : i < j
                · rw [if_pos hij, if_pos (by omega)]
                · rw [if_neg hij, if_neg (by omega)]
              rw [e2]
              exact hold.of_block fun b hb => HTC.out.block b (fun hh => HA.out i j u' u h1 HU.out e b hb hh)
          · exact HT.out.trans (HTC.out.mono fun b hb => ⟨(HROW.out.lt hb).1, HB2.out j u HU.out b hb⟩)
        case measure => simp [intOf]; omega
      · obtain rfl : j = xss.length := by omega
        have HOW := Lib.hid hown
        have HT := Lib.hid ht
        clear hown ht
        go_wp2_with fail
        go_ret
        refine ⟨rfl, ⟨us, HOW.out, by rw [marksM_length]; exact HLEN.out, fun i u ys h1 h2 => ?_, HA.out, HB1.out, HB2.out⟩, HT.out⟩
        have hi : i < xss.length := by have := (List.getElem?_eq_some_iff.1 h1).1; rw [HLEN.out] at this; exact this
        have hxi : xss[i]? = some xss[i] := List.getElem?_eq_getElem hi
        rw [marksM_at hxi] at h2
        cases h2
        have h3 := HK.out i u _ h1 hxi
        rw [if_pos hi] at h3
        exact h3
theorem c_heldInt64SS (v : Value) (xss : List (List Int)) (k : Int) (w : World) (hv : IntRows w v (marksM k xss)) (hk : 0 ≤ k) (hk' : k + totK xss xss.length ≤ 1000000000000000) :
    Calls Try.prog 56 #[v, .int .i64 k] w fun e w' => e = .returned (.int .i64 (k + totK xss xss.length)) ∧ w = w' := by
  obtain ⟨a, cap, rfl, hl, hc⟩ := hv
  rw [marksM_length] at hl ⊢
  have HC := Lib.hid hc
  clear hc
  go_enter Try.func56, Try.ntmps56
  go_wp2_with fail
  go_loop [1, 5] (fun c i => ∃ j : Nat, j ≤ xss.length ∧ i = .int .i64 j ∧ c = .int .i64 (k + totK xss j)) (fun _ i => xss.length - (intOf i).toNat)
  case atStart => exact ⟨0, Nat.zero_le _, rfl, by simp [totK]⟩
  case round =>
    obtain ⟨j, hj, rfl, rfl⟩ := hrel
    by_cases hlt : j < xss.length
    · obtain ⟨xs, hx⟩ : ∃ xs, xss[j]? = some xs := ⟨xss[j], by simp [hlt]⟩
      obtain ⟨b, off, u, rfl, hcell, hI⟩ := HC.out j _ (marksM_at hx)
      have HI := Lib.hid hI
      have HN := Lib.hid (totK_next hx)
      have hm1 := totK_nonneg xss j
      have hm2 := totK_mono xss (Nat.le_of_lt hlt)
      have hm3 : totK xss (j + 1) ≤ totK xss xss.length := totK_mono xss (by omega)
      have hm4 : 0 ≤ k + totK xss j + xs.length := by omega
      clear hI hx
      go_wp2_with fail
      refine (c_heldInt64S u xs.length (k + totK xss j) _ HI.out (by omega) (by omega)).mono ?_
      rintro e w1 ⟨rfl, rfl⟩
      go_wp2_with fail
      go_round
      case rel => exact ⟨j + 1, by omega, by go_num, by rw [HN.out, Int.add_assoc]⟩
      case measure => simp [intOf]; omega
    · obtain rfl : j = xss.length := by omega
      go_wp2_with fail
      go_ret
      exact ⟨rfl, rfl⟩

/-- a row that the call owns, its block below hi -/
def OwnIB (w : World) (lo hi : Nat) (v : Value) (xs : List Int) : Prop := OwnI w lo v xs ∧ ∀ g, v.ownBlock = some g → g < hi
theorem OwnI.bound {w : World} {B : Nat} {v : Value} {xs : List Int} (h : OwnI w B v xs) : OwnIB w B w.heap.size v xs := ⟨h, fun _ hg => (h.lt hg).2⟩
theorem OwnIB.same {w w' : World} {lo hi : Nat} {v : Value} {xs : List Int} (h : OwnIB w lo hi v xs) (hs : ∀ k, lo ≤ k → k < hi → w'.heap[k]? = w.heap[k]?) : OwnIB w' lo hi v xs :=
  ⟨h.1.of_block fun g hg => hs g (h.1.lt hg).1 (h.2 g hg), h.2⟩
theorem OwnIB.keep {w w' : World} {lo hi B : Nat} {v : Value} {xs : List Int} (h : OwnIB w lo hi v xs) (hb : Below B w w') (hB : hi ≤ B) : OwnIB w' lo hi v xs :=
  h.same fun k _ hk => hb.block k (by omega)
theorem OwnIB.touch {w w' : World} {lo hi : Nat} {S : Nat → Prop} {v : Value} {xs : List Int} (h : OwnIB w lo hi v xs) (ht : Touch S w w') (hS : ∀ k, S k → k < lo ∨ hi ≤ k) : OwnIB w' lo hi v xs :=
  h.same fun k h1 h2 => ht.block k (fun hk => by have := hS k hk; omega)
theorem OwnIB.ints {w : World} {lo hi : Nat} {v : Value} {xs : List Int} (h : OwnIB w lo hi v xs) (hl : xs.length ≤ 17592186043904) : Ints w v xs := OwnI.ints h.1 hl
theorem OwnB.rows {w : World} {lo hi : Nat} {v : Value} {xss : List (List Int)} (h : OwnB w lo hi v xss) (hl : xss.length ≤ 5864062014634) (hl' : ∀ xs ∈ xss, xs.length ≤ 17592186043904) : IntRows w v xss := h.own.rows hl hl'
theorem c_markIB (v : Value) (xs : List Int) (k : Int) (lo hi : Nat) (w : World) (hv : OwnIB w lo hi v xs) (hl : xs.length ≤ 17592186043904) (hk : 0 ≤ k) (hk' : k ≤ 1000000000000000) :
    Calls Try.prog 19 #[v, .int .i64 k] w fun e w' => e = .returned (.int .i64 (k + xs.length)) ∧ OwnIB w' lo hi v (upFrom k xs.length) ∧ Touch (inRange lo hi) w w' :=
  (c_markInt64S v xs k lo w hv.1 hl hk hk').mono fun _ _ h => ⟨h.1, ⟨h.2.1, hv.2⟩, h.2.2.mono fun b hb => ⟨(hv.1.lt hb).1, hv.2 b hb⟩⟩
/-- lengths of what is small -/
def Small (L : Nat) (xss : List (List Int)) : Prop := xss.length ≤ L ∧ ∀ xs ∈ xss, xs.length ≤ L
theorem Small.tot {L : Nat} {xss : List (List Int)} (h : Small L xss) (n : Nat) : totK xss n ≤ (n : Int) * (L : Int) := by
  induction n with
  | zero => simp [totK]
  | succ n ih =>
    have hr : ((xss.getD n []).length : Int) ≤ (L : Int) := by
      rw [List.getD_eq_getElem?_getD]
      cases hx : xss[n]? with
      | none => simp
      | some xs => simp only [Option.getD_some]; have := h.2 xs (List.mem_of_getElem? hx); omega
    simp only [totK]
    have e : ((n + 1 : Nat) : Int) * (L : Int) = (n : Int) * L + L := by rw [Int.natCast_add, Int.add_mul]; simp
    omega
theorem Small.total {xss : List (List Int)} (h : Small 4096 xss) : totK xss xss.length ≤ 16777216 := by
  have h1 := h.tot xss.length
  have h2 := h.1
  omega
theorem Small.len {xss : List (List Int)} (h : Small 4096 xss) : xss.length ≤ 5864062014634 := by have := h.1; omega
theorem Small.row {xss : List (List Int)} (h : Small 4096 xss) : ∀ xs ∈ xss, xs.length ≤ 17592186043904 := fun xs hx => by have := h.2 xs hx; omega
theorem marks_len {k : Int} {xss : List (List Int)} (h : xss.length ≤ 5864062014634) : (marksM k xss).length ≤ 5864062014634 := by rw [marksM_length]; exact h
theorem marks_row {k : Int} {xss : List (List Int)} (h : ∀ xs ∈ xss, xs.length ≤ 17592186043904) : ∀ xs ∈ marksM k xss, xs.length ≤ 17592186043904 := by
  intro ys hy
  obtain ⟨i, hi⟩ := List.getElem?_of_mem hy
  have hlt := (List.getElem?_eq_some_iff.1 hi).1
  rw [marksM_length] at hlt
  rw [marksM_at (List.getElem?_eq_getElem hlt)] at hi
  cases hi
  rw [upFrom_length]
  exact h _ (List.getElem_mem hlt)
/-- posts of calls with a code beside what they make -/
def RetMC (r : List (List Int) × Int) (w : World) (e : Ending) (w' : World) : Prop := ∃ v, e = .returned (.tuple #[v, .int .i64 r.2]) ∧ OwnM w' w.heap.size v r.1 ∧ Below w.heap.size w w'
def RetIC (r : List Int × Int) (w : World) (e : Ending) (w' : World) : Prop := ∃ v, e = .returned (.tuple #[v, .int .i64 r.2]) ∧ OwnI w' w.heap.size v r.1 ∧ Below w.heap.size w w'
theorem OwnM.nil (w : World) (B : Nat) : OwnM w B (.slice none 0 0) [] :=
  ⟨[], Own.nil _ _ _, rfl, fun i u xs h => by simp at h, fun i j u u' h => by simp at h⟩
end Go.Proofs.Ytckcjlophnehmaa
