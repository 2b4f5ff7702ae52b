/- Trivalent graphs: plain laws of counting, and the walk of the reference. -/
import Derived.Test.YtckcjlophnehmaaMrk
import Derived.Test.YtckcjlophnehmaaApp
import Derived.Maps.OwnSet
import Derived.Maps.RangeWalk
import Derived.Deep.RegionLaw
import Derived.BigRegion
namespace Go.Proofs.Ytckcjlophnehmaa
open Go.RowKit

/-! plain laws: trivalent graphs, counted -/
/-- all entries, row by row -/
def upto (m : List (List Int)) (k : Nat) : List Int := (m.take k).flatten
theorem upto_zero (m : List (List Int)) : upto m 0 = [] := rfl
theorem upto_next {m : List (List Int)} {k : Nat} {r : List Int} (h : m[k]? = some r) : upto m (k + 1) = upto m k ++ r := by
  obtain ⟨hk, e⟩ := List.getElem?_eq_some_iff.1 h
  unfold upto
  rw [List.take_add_one, h]
  simp
theorem upto_all (m : List (List Int)) : upto m m.length = m.flatten := by simp [upto]
theorem upto_len {m : List (List Int)} : ∀ k : Nat, k ≤ m.length → (∀ i r, i < k → m[i]? = some r → r.length = 3) → (upto m k).length = 3 * k
  | 0, _, _ => rfl
  | k + 1, hk, h => by
    have hx : m[k]? = some m[k] := by simp
    rw [upto_next hx, List.length_append, upto_len k (by omega) (fun i r hi => h i r (by omega)), h k _ (by omega) hx]
    omega

theorem count_filter_ne (l : List Int) (d : Int) : l.length = l.count d + (l.filter (fun x => decide (x ≠ d))).length := by
  induction l with
  | nil => rfl
  | cons a r ih =>
    by_cases e : a = d
    · subst e
      simp only [List.length_cons, List.count_cons_self, List.filter_cons]
      simp
      simp at ih
      omega
    · have e1 : (a == d) = false := by simpa using e
      simp only [List.length_cons, List.count_cons, e1, List.filter_cons]
      simp [e]
      simp at ih
      omega

/-- distinct numbers in a range are no more than it has -/
theorem pigeon : ∀ (n : Nat) (ds : List Int), ds.Nodup → (∀ x ∈ ds, 0 ≤ x ∧ x < n) → ds.length ≤ n
  | 0, ds, _, h => by
    cases ds with
    | nil => simp
    | cons d r => have := h d (by simp); omega
  | n + 1, ds, hd, h => by
    have h1 := pigeon n (ds.filter (fun x => decide (x ≠ (n : Int)))) (hd.filter _) (fun x hx => by
      have h2 := List.mem_filter.1 hx
      have h3 := h x h2.1
      have h4 : x ≠ (n : Int) := by simpa using h2.2
      omega)
    have h2 : ds.length ≤ (ds.filter (fun x => decide (x ≠ (n : Int)))).length + 1 := by
      have h5 := hd.count (a := (n : Int))
      have h6 : ds.count (n : Int) ≤ 1 := by rw [h5]; split <;> omega
      have h7 := count_filter_ne ds (n : Int)
      omega
    omega
/-- each counted twice: the list is twice as long -/
theorem twice_len : ∀ (ds ws : List Int), ds.Nodup → (∀ x ∈ ws, x ∈ ds) → (∀ x ∈ ds, ws.count x = 2) → ws.length = 2 * ds.length
  | [], ws, _, h, _ => by
    cases ws with
    | nil => rfl
    | cons w r => exact absurd (h w (by simp)) (by simp)
  | d :: ds, ws, hd, h, h2 => by
    obtain ⟨hd1, hd2⟩ := List.nodup_cons.1 hd
    have ih := twice_len ds (ws.filter (fun x => decide (x ≠ d))) hd2 (fun x hx => by
      have h3 := List.mem_filter.1 hx
      have h4 := h x h3.1
      have h5 : x ≠ d := by simpa using h3.2
      simpa [h5] using h4) (fun x hx => by
      have hne : x ≠ d := fun e => hd1 (e ▸ hx)
      rw [List.count_filter (by simp [hne])]
      exact h2 x (by simp [hx]))
    have h6 := h2 d (by simp)
    have h7 := count_filter_ne ws d
    simp only [List.length_cons]
    omega
/-- what a trivalent graph is, as the reference counts -/
def TriP (m : List (List Int)) : Prop :=
  (∀ r ∈ m, r.length = 3) ∧ 3 * m.length % 2 = 0 ∧ 2 ≤ 3 * m.length ∧ 3 * m.length ≤ 18 ∧ (∀ x ∈ m.flatten, 0 ≤ x ∧ x < ((3 * m.length / 2 : Nat) : Int)) ∧
    ∀ i : Nat, i < 3 * m.length / 2 → m.flatten.count (i : Int) = 2
open Classical in
noncomputable def triB (m : List (List Int)) : Bool := decide (TriP m)
theorem triB_yes {m : List (List Int)} (h : TriP m) : triB m = true := by unfold triB; simp [h]
theorem triB_no {m : List (List Int)} (h : ¬ TriP m) : triB m = false := by unfold triB; simp [h]
theorem triB_true {m : List (List Int)} (h : triB m = true) : TriP m := by unfold triB at h; simpa using h
attribute [irreducible] triB
theorem flat_len {m : List (List Int)} (h : ∀ r ∈ m, r.length = 3) : m.flatten.length = 3 * m.length := by
  rw [← upto_all, upto_len m.length (Nat.le_refl _) (fun i r _ hr => h r (List.mem_of_getElem? hr))]
/-- the program's words for it: distinct entries -/
def Dist (ds ws : List Int) : Prop := ds.Nodup ∧ ∀ x, x ∈ ds ↔ x ∈ ws
theorem tri_prog {m : List (List Int)} {ds : List Int} (hD : Dist ds m.flatten) (h3 : ∀ r ∈ m, r.length = 3) (h : ∀ x ∈ m.flatten, m.flatten.count x = 2 ∧ 0 ≤ x ∧ x ≤ (ds.length : Int) - 1) (h1 : 1 ≤ ds.length) (h9 : ds.length ≤ 9) : TriP m := by
  have e := twice_len ds m.flatten hD.1 (fun x hx => (hD.2 x).2 hx) (fun x hx => (h x ((hD.2 x).1 hx)).1)
  have e3 := flat_len h3
  have e2 : 3 * m.length / 2 = ds.length := by omega
  refine ⟨h3, by omega, by omega, by omega, fun x hx => by rw [e2]; have := h x hx; omega, fun i hi => ?_⟩
  rw [e2] at hi
  have hi' : (i : Int) ∈ ds := by
    apply Classical.byContradiction
    intro hn
    have := pigeon ds.length ((i : Int) :: ds) (List.nodup_cons.2 ⟨hn, hD.1⟩) (fun x hx => by
      rcases List.mem_cons.1 hx with rfl | hx
      · omega
      · have := h x ((hD.2 x).1 hx); omega)
    simp only [List.length_cons] at this
    omega
  exact (h _ ((hD.2 _).1 hi')).1
theorem prog_tri {m : List (List Int)} {ds : List Int} (hD : Dist ds m.flatten) (h : TriP m) : (∀ x ∈ m.flatten, m.flatten.count x = 2 ∧ 0 ≤ x ∧ x ≤ (ds.length : Int) - 1) ∧ 1 ≤ ds.length ∧ ds.length ≤ 9 := by
  obtain ⟨h3, ha, hb, hc, hr, hn⟩ := h
  have e3 := flat_len h3
  have hcnt : ∀ x ∈ m.flatten, m.flatten.count x = 2 := fun x hx => by
    have h4 := hr x hx
    have h5 := hn x.toNat (by omega)
    rwa [show ((x.toNat : Nat) : Int) = x by omega] at h5
  have e := twice_len ds m.flatten hD.1 (fun x hx => (hD.2 x).2 hx) (fun x hx => hcnt x ((hD.2 x).1 hx))
  refine ⟨fun x hx => ⟨hcnt x hx, ?_⟩, by omega, by omega⟩
  have := hr x hx
  omega
/-! the reference -/
def cnt (us : List Int) (i : Nat) : Int := (us.count (i : Int) : Nat)
theorem cnt_nil (e : Nat) : vec e (cnt []) = List.replicate e 0 := by
  apply List.ext_getElem
  · simp [vec]
  · intro i h1 h2
    simp [vec, cnt]
theorem cnt_set {us : List Int} {e j : Nat} {x : Int} (hx : x = (j : Int)) : (vec e (cnt us)).set j (cnt us j + 1) = vec e (cnt (us ++ [x])) := by
  rw [vec_set]
  refine vec_congr fun i _ => ?_
  subst hx
  simp only [cnt, List.count_append]
  by_cases e : i = j
  · subst e; simp
  · have e1 : ¬ (j : Int) = (i : Int) := by omega
    simp [e, e1]
theorem cnt_bd {us : List Int} {n : Nat} (h : us.length ≤ n) (i : Nat) : 0 ≤ cnt us i ∧ cnt us i ≤ n := by
  have := List.count_le_length (a := (i : Int)) (l := us)
  unfold cnt; omega
theorem info_int3 : (Try.prog.info? 3).map (fun i => (i.zero, i.size, i.bytes)) = some (some (.int .i64 0), 1, 8) := by kernel_rfl
set_option maxHeartbeats 2000000 in
theorem c_l15Graph (v : Value) (m : List (List Int)) (w : World) (hv : IntRows w v m) :
    Calls Try.prog 25 #[v] w fun e w' => e = .returned (.bool (triB m)) ∧ Below w.heap.size w w' := by
  obtain ⟨a, cap, rfl, hl, hc⟩ := hv
  have HC := Lib.hid hc
  clear hc
  obtain ⟨V, hV⟩ : ∃ V, V = m.length := ⟨_, rfl⟩
  rw [← hV] at hl ⊢
  have HV := Lib.hid hV
  obtain ⟨T, hT⟩ : ∃ T, T = triB m := ⟨_, rfl⟩
  rw [← hT]
  have HT := Lib.hid hT
  clear hV hT
  go_enter Try.func25, Try.ntmps25
  go_wp2_with fail
  go_loop [3, 4] (fun s i => ∃ (k : Nat), k ≤ V ∧ i = .int .i64 k ∧ s = .int .i64 (3 * (k : Int)) ∧ Hid (∀ i r, i < k → m[i]? = some r → r.length = 3)) (fun _ i => V - (intOf i).toNat)
  case atStart => exact ⟨0, Nat.zero_le _, rfl, rfl, fun i r h => absurd h (Nat.not_lt_zero _)⟩
  case round =>
    obtain ⟨k, hk, rfl, rfl, H⟩ := hrel
    by_cases hlt : k < V
    · obtain ⟨r, hr⟩ : ∃ r, m[k]? = some r := ⟨m[k]'(by rw [← HV.out]; exact hlt), by simp⟩
      obtain ⟨b, off, u, rfl, hcell, ⟨a1, cap1, rfl, hl1, _⟩⟩ := HC.out k r hr
      have HR := Lib.hid hr
      clear hr
      by_cases h3 : r.length = 3
      · have h3B : ((r.length : Int) != 3) = false := by simp [h3]
        have H3 := Lib.hid h3
        clear h3
        go_wp2_with fail
        go_round
        case rel =>
          refine ⟨k + 1, by omega, by go_num, by first | rfl | go_num, fun i y hi hy => ?_⟩
          by_cases e : i = k
          · subst e; rw [HR.out] at hy; cases hy; exact H3.out
          · exact H.out i y (by omega) hy
        case measure => simp [intOf]; omega
      · have h3B : ((r.length : Int) != 3) = true := by rw [bne_iff_ne]; omega
        have HF : Hid (T = false) := Lib.hid (by rw [HT.out]; exact triB_no (fun h => h3 (h.1 r (List.mem_of_getElem? HR.out))))
        clear h3
        go_wp2_with fail
        go_ret
        exact ⟨ret_bool HF.out.symm, Below.refl _ _⟩
    · obtain rfl : k = V := by omega
      have H3 : Hid (∀ r ∈ m, r.length = 3) := Lib.hid (fun r hr => by
        obtain ⟨i, hi⟩ := List.getElem?_of_mem hr
        have := (List.getElem?_eq_some_iff.1 hi).1
        exact H.out i r (by rw [HV.out]; exact this) hi)
      by_cases h2 : ¬ (3 * (k : Int)) % 2 = 0
      · have h2B : ((3 * (k : Int)) % 2 != 0) = true := by rw [bne_iff_ne]; exact h2
        have HF : Hid (T = false) := Lib.hid (by rw [HT.out]; exact triB_no (fun h => by have := h.2.1; have := HV.out; omega))
        clear h2
        go_wp2_with fail
        go_ret
        exact ⟨ret_bool HF.out.symm, Below.refl _ _⟩
      have h2 : (3 * (k : Int)) % 2 = 0 := by omega
      have h2B : ((3 * (k : Int)) % 2 != 0) = false := by rw [h2]; rfl
      by_cases hlo : 3 * (k : Int) < 2
      · have HF : Hid (T = false) := Lib.hid (by rw [HT.out]; exact triB_no (fun h => by have := h.2.2.1; have := HV.out; omega))
        clear h2
        go_wp2_with fail
        go_ret
        exact ⟨ret_bool HF.out.symm, Below.refl _ _⟩
      by_cases hhi : 18 < 3 * (k : Int)
      · have HF : Hid (T = false) := Lib.hid (by rw [HT.out]; exact triB_no (fun h => by have := h.2.2.2.1; have := HV.out; omega))
        clear h2
        go_wp2_with fail
        go_ret
        exact ⟨ret_bool HF.out.symm, Below.refl _ _⟩
      obtain ⟨e, he⟩ : ∃ e : Nat, 3 * k = 2 * e := ⟨3 * k / 2, by omega⟩
      have HE := Lib.hid he
      have he9 : e ≤ 9 := by omega
      have hq1 : (3 * (k : Int)) / 2 = (e : Int) := by omega
      clear h2 he
      have hmk := run_make_row' (P := Try.prog) 47 3 (.int .i64 0) 8 Try.underlying47 info_int3 rfl .i64 .i64 e (by omega) (by omega)
      go_wp2_with fail
      have HO0 : Hid (Own (w.alloc (.cells (madeCells #[.int .i64 0] e) 3)) 3 w.heap.size (.slice (some ⟨w.heap.size, 0, none⟩) e e) ((vec e (cnt (upto m 0))).map vi)) := Lib.hid (by
        rw [upto_zero, cnt_nil, List.map_replicate]
        exact Own.made w 3 (.int .i64 0) e (Nat.le_refl _) (by unfold maxLen; omega))
      go_loopw [6] (fun i wr => ∃ (n : Nat), n ≤ k ∧ i = .int .i64 n ∧ Own wr 3 w.heap.size (.slice (some ⟨w.heap.size, 0, none⟩) e e) ((vec e (cnt (upto m n))).map vi) ∧ Below w.heap.size w wr ∧ Hid (∀ x ∈ upto m n, 0 ≤ x ∧ x < (e : Int))) (fun i _ => k - (intOf i).toNat)
      case atStart => exact ⟨0, Nat.zero_le _, rfl, HO0.out, below_alloc _ _, fun x hx => by simp [upto_zero] at hx⟩
      case round =>
        obtain ⟨n, hn, rfl, hown, hbel, HX⟩ := hrel
        by_cases hltn : n < k
        · obtain ⟨r, hr⟩ : ∃ r, m[n]? = some r := ⟨m[n]'(by rw [← HV.out]; exact hltn), by simp⟩
          obtain ⟨b, off, u, rfl, hcell, ⟨a1, cap1, rfl, hl1, hcr⟩⟩ := HC.out n r hr
          have h3 : r.length = 3 := H3.out r (List.mem_of_getElem? hr)
          have HCR := Lib.hid hcr
          have HR := Lib.hid hr
          rw [h3] at hcell
          have H33 := Lib.hid h3
          have HU : Hid ((upto m n).length = 3 * n) := Lib.hid (upto_len n (by rw [← HV.out]; omega) (fun i r _ hr => H3.out r (List.mem_of_getElem? hr)))
          have HOW := Lib.hid hown
          have HB := Lib.hid hbel
          have hsz := hbel.size
          have HCELL := Lib.hid hcell
          clear hr hcr h3 hown hbel hcell
          go_wp2_with fail
          obtain ⟨wo, rfl⟩ : ∃ wo : World, wo = wr := ⟨_, rfl⟩
          go_loopw [7] (fun i wr => ∃ (j : Nat), j ≤ 3 ∧ i = .int .i64 j ∧ Own wr 3 w.heap.size (.slice (some ⟨w.heap.size, 0, none⟩) e e) ((vec e (cnt (upto m n ++ r.take j))).map vi) ∧ Below w.heap.size w wr ∧ Hid (∀ x ∈ upto m n ++ r.take j, 0 ≤ x ∧ x < (e : Int))) (fun i _ => 3 - (intOf i).toNat)
          case atStart => exact ⟨0, Nat.zero_le _, rfl, by simpa using HOW.out, HB.out, Lib.hid (by simpa using HX.out)⟩
          case round =>
            obtain ⟨j, hj, rfl, hown, hbel, HX2⟩ := hrel
            by_cases hltj : j < 3
            · obtain ⟨x, hx⟩ : ∃ x, r[j]? = some x := ⟨r[j]'(by rw [H33.out]; exact hltj), by simp⟩
              obtain ⟨b1, off1, rfl, hcx⟩ := HCR.out j x hx
              have hcxw := bcell hbel hcx
              have hcellw := bcell hbel HCELL.out
              have HXX := Lib.hid hx
              have he1 : 1 ≤ e := by omega
              have hwe : IntKind.i64.wrap ((e : Int) - 1) = (e : Int) - 1 := IntWalk.i64_in _ (by omega)
              have HOW := Lib.hid hown
              have HB := Lib.hid hbel
              clear hx hcx hown hbel
              by_cases hin : 0 ≤ x ∧ x < (e : Int)
              · have HI := Lib.hid (inR_yes (l := 0) (h := (e : Int) - 1) (n := x) hin.1 (by omega))
                have HQ : Hid (∀ w1 : World, Calls Try.prog 34 #[.int .i64 x, .int .i64 0, .int .i64 ((e : Int) - 1)] w1 fun e w' => e = .returned (.bool true) ∧ w' = w1) := Lib.hid (fun w1 => (c_l01In _ _ _ w1).mono (fun e w' hh => And.intro (by rw [hh.1, HI.out]) hh.2.symm))
                obtain ⟨p, hp⟩ : ∃ p : Nat, x = p := ⟨x.toNat, by omega⟩
                subst hp
                have hpe : p < e := by omega
                clear hin
                go_wp2_with fail
                have hcp : wr.cell? ⟨w.heap.size, p, none⟩ = some (.int .i64 (cnt (upto m n ++ r.take j) p)) := HOW.out.cell (by rw [List.getElem?_map, vec_at _ hpe]; rfl)
                have hfp := HOW.out.frozen p
                obtain ⟨hc1, hc2⟩ := cnt_bd (us := upto m n ++ r.take j) (n := 18) (by have := HU.out; rw [List.length_append, List.length_take]; omega) p
                have HS : Hid (Own (wr.setCell ⟨w.heap.size, p, none⟩ (.int .i64 (cnt (upto m n ++ r.take j) p + 1))) 3 w.heap.size (.slice (some ⟨w.heap.size, 0, none⟩) e e) ((vec e (cnt (upto m n ++ r.take (j + 1)))).map vi)) := Lib.hid (by
                  have h := HOW.out.store p (.int .i64 (cnt (upto m n ++ r.take j) p + 1))
                  rw [show (Value.int .i64 (cnt (upto m n ++ r.take j) p + 1)) = vi (cnt (upto m n ++ r.take j) p + 1) from rfl, ← List.map_set, cnt_set (x := (p : Int)) rfl] at h
                  rw [List.take_add_one, HXX.out]
                  simpa [List.append_assoc] using h)
                have HX3 : Hid (∀ x ∈ upto m n ++ r.take (j + 1), 0 ≤ x ∧ x < (e : Int)) := Lib.hid (fun y hy => by
                  rw [List.take_add_one, HXX.out] at hy
                  simp only [Option.toList, List.mem_append, List.mem_singleton] at hy
                  rcases hy with h | h | h
                  · exact HX2.out y (List.mem_append.2 (.inl h))
                  · exact HX2.out y (List.mem_append.2 (.inr h))
                  · subst h; omega)
                generalize hcv : cnt (upto m n ++ r.take j) p = cv at *
                clear hcv
                go_wp2_with fail
                refine (HQ.out _).mono ?_
                rintro e1 w1 ⟨rfl, rfl⟩
                go_wp2_with fail
                go_roundw
                case rel => exact ⟨j + 1, by omega, by go_num, HS.out, below_set HB.out (Nat.le_refl _), HX3⟩
                case measure => simp [intOf]; omega
              · have HI := Lib.hid (inR_no (l := 0) (h := (e : Int) - 1) (n := x) (by omega))
                have HQ : Hid (∀ w1 : World, Calls Try.prog 34 #[.int .i64 x, .int .i64 0, .int .i64 ((e : Int) - 1)] w1 fun e w' => e = .returned (.bool false) ∧ w' = w1) := Lib.hid (fun w1 => (c_l01In _ _ _ w1).mono (fun e w' hh => And.intro (by rw [hh.1, HI.out]) hh.2.symm))
                have HF : Hid (T = false) := Lib.hid (by
                  rw [HT.out]
                  refine triB_no (fun h => hin ?_)
                  have h5 := h.2.2.2.2.1 x (List.mem_flatten.2 ⟨r, List.mem_of_getElem? HR.out, List.mem_of_getElem? HXX.out⟩)
                  have := HE.out; have := HV.out
                  omega)
                clear hin
                go_wp2_with fail
                refine (HQ.out _).mono ?_
                rintro e1 w1 ⟨rfl, rfl⟩
                go_wp2_with fail
                go_ret
                exact ⟨ret_bool HF.out.symm, HB.out⟩
            · obtain rfl : j = 3 := by omega
              have HOW : Hid (Own wr 3 w.heap.size (.slice (some ⟨w.heap.size, 0, none⟩) e e) ((vec e (cnt (upto m (n + 1)))).map vi)) := Lib.hid (by
                rw [upto_next HR.out]
                rw [show r.take 3 = r from by rw [← H33.out, List.take_length]] at hown
                exact hown)
              have HX3 : Hid (∀ x ∈ upto m (n + 1), 0 ≤ x ∧ x < (e : Int)) := Lib.hid (by
                rw [upto_next HR.out]
                have h := HX2.out
                rw [show r.take 3 = r from by rw [← H33.out, List.take_length]] at h
                exact h)
              have HB := Lib.hid hbel
              clear hown hbel
              go_wp2_with fail
              go_roundw
              case rel => exact ⟨n + 1, by omega, by go_num, HOW.out, HB.out, HX3⟩
              case measure => simp [intOf]; omega
        · obtain rfl : n = k := by omega
          have HU : Hid (upto m n = m.flatten) := Lib.hid (by rw [HV.out, upto_all])
          rw [HU.out] at hown
          have HOW := Lib.hid hown
          have HB := Lib.hid hbel
          have HX4 : Hid (∀ x ∈ m.flatten, 0 ≤ x ∧ x < (e : Int)) := Lib.hid (by rw [← HU.out]; exact HX.out)
          clear hown hbel
          go_wp2_with fail
          go_loop [8] (fun i => ∃ (j : Nat), j ≤ e ∧ i = .int .i64 j ∧ Hid (∀ i : Nat, i < j → cnt m.flatten i = 2)) (fun i => e - (intOf i).toNat)
          case atStart => exact ⟨0, Nat.zero_le _, rfl, fun i h => absurd h (Nat.not_lt_zero _)⟩
          case round =>
            obtain ⟨j, hj, rfl, HJ⟩ := hrel
            by_cases hltj : j < e
            · have hcp : wr.cell? ⟨w.heap.size, j, none⟩ = some (.int .i64 (cnt m.flatten j)) := HOW.out.cell (by rw [List.getElem?_map, vec_at _ hltj]; rfl)
              by_cases h2 : cnt m.flatten j = 2
              · have h2B : (cnt m.flatten j != 2) = false := by rw [h2]; rfl
                have HJ2 := Lib.hid h2
                clear h2
                go_wp2_with fail
                go_round
                case rel =>
                  refine ⟨j + 1, by omega, by go_num, fun i hi => ?_⟩
                  by_cases e : i = j
                  · subst e; exact HJ2.out
                  · exact HJ.out i (by omega)
                case measure => simp [intOf]; omega
              · have h2B : (cnt m.flatten j != 2) = true := by rw [bne_iff_ne]; exact h2
                have HF : Hid (T = false) := Lib.hid (by
                  rw [HT.out]
                  refine triB_no (fun h => h2 ?_)
                  have h5 := h.2.2.2.2.2 j (by have := HE.out; have := HV.out; omega)
                  unfold cnt; rw [h5]; rfl)
                clear h2
                go_wp2_with fail
                go_ret
                exact ⟨ret_bool HF.out.symm, HB.out⟩
            · obtain rfl : j = e := by omega
              have HF : Hid (T = true) := Lib.hid (by
                rw [HT.out]
                refine triB_yes ⟨H3.out, by have := HE.out; have := HV.out; omega, by have := HV.out; omega, by have := HV.out; omega, fun x hx => ?_, fun i hi => ?_⟩
                · have := HX4.out x hx; have := HE.out; have := HV.out; omega
                · have h := HJ.out i (by have := HE.out; have := HV.out; omega)
                  unfold cnt at h; omega)
              go_wp2_with fail
              go_ret
              exact ⟨ret_bool HF.out.symm, HB.out⟩
theorem c_SIsTrivalent (v : Value) (m : List (List Int)) (w : World) (hv : IntRows w v m) :
    Calls Try.prog 7 #[v] w fun e w' => e = .returned (.bool (triB m)) ∧ Below w.heap.size w w' := by
  go_enter Try.func7, Try.ntmps7
  go_wp2_with (go_at_call 25; refine (c_l15Graph v m _ hv).mono ?_; rintro e w' ⟨rfl, hb⟩)
  go_ret
  exact ⟨rfl, hb⟩
end Go.Proofs.Ytckcjlophnehmaa
