/- Walks: traces, matrices applied to vectors. -/
import Derived.Test.YtmbcncmmgfnlmaaMat
import Derived.Test.YtmbcncmmgfnlmaaMrk
import Derived.Test.YtmbcncmmgfnlmaaApp
namespace Go.Proofs.Ytmbcncmmgfnlmaa
open Go.RowKit

theorem isMat_iff (m : List (List Int)) : isMat m = true → 1 ≤ m.length ∧ m.length ≤ 16 ∧ 1 ≤ width m ∧ width m ≤ 16 ∧ (∀ (i : Nat) x, m[i]? = some x → x.length = width m ∧ x.all isNum = true) := isMat_parts

/-- the code of a square matrix; inRange: is all else in its range -/
def sqCode (m : List (List Int)) (inRange : Bool) : Int := if isMat m = true then (if m.length = width m ∧ inRange = true then 0 else 2) else 1
theorem c_isSquare (v : Value) (m : List (List Int)) (w : World) (hv : IntRows w v m) (hp : 0 < m.length) :
    Calls Try.prog 87 #[v] w fun e w' => e = .returned (.bool (decide (m.length = width m))) ∧ w = w' := by
  obtain ⟨a, cap, rfl, hl, hc⟩ := hv
  obtain ⟨x0, hx0⟩ : ∃ x, m[0]? = some x := ⟨m[0], by simp⟩
  obtain ⟨b, off, u0, rfl, hcell0, ⟨a2, cap2, rfl, hl2, _⟩⟩ := hc 0 x0 hx0
  have hcell0' : w.cell? ⟨b, off, none⟩ = some (.slice a2 x0.length cap2) := by simpa using hcell0
  have HW := Lib.hid (width_eq hx0)
  clear hcell0 hx0 hc
  by_cases h : m.length = x0.length
  · have hB : ((m.length : Int) == (x0.length : Int)) = true := by simp [h]
    have HT : Hid (decide (m.length = width m) = true) := Lib.hid (decide_eq_true (by rw [HW.out]; exact h))
    clear h
    go_enter Try.func87, Try.ntmps87
    go_wp2_with fail
    go_ret
    exact ⟨ret_bool HT.out.symm, rfl⟩
  · have hB : ((m.length : Int) == (x0.length : Int)) = false := by simp only [beq_eq_false_iff_ne]; omega
    have HT : Hid (decide (m.length = width m) = false) := Lib.hid (decide_eq_false (by rw [HW.out]; exact h))
    clear h
    go_enter Try.func87, Try.ntmps87
    go_wp2_with fail
    go_ret
    exact ⟨ret_bool HT.out.symm, rfl⟩
theorem c_squareCode (v : Value) (m : List (List Int)) (ir : Bool) (w : World) (hv : IntRows w v m) :
    Calls Try.prog 64 #[v, .bool ir] w fun e w' => e = .returned (.int .i64 (sqCode m ir)) ∧ Below w.heap.size w w' := by
  cases hm : isMat m
  · have H : Hid (sqCode m ir = 1) := Lib.hid (by unfold sqCode; rw [if_neg (by simp [hm])])
    have HM := Lib.hid hm
    clear hm
    go_enter Try.func64, Try.ntmps64
    go_wp2_with fail
    refine (c_IsMatrix v m _ hv).mono ?_
    rintro e w1 ⟨rfl, hb⟩
    rw [HM.out]
    go_wp2_with fail
    go_ret
    exact ⟨ret_int H.out.symm, hb⟩
  · have HP := isMat_parts hm
    have hpos := HP.1
    have HM := Lib.hid hm
    by_cases hs : m.length = width m
    · have HD : Hid (decide (m.length = width m) = true) := Lib.hid (decide_eq_true hs)
      have HS := Lib.hid hs
      clear hs HP hm
      cases ir
      · have H : Hid (sqCode m false = 2) := Lib.hid (by unfold sqCode; rw [if_pos HM.out, if_neg (by simp)])
        go_enter Try.func64, Try.ntmps64
        go_wp2_with fail
        refine (c_IsMatrix v m _ hv).mono ?_
        rintro e w1 ⟨rfl, hb⟩
        rw [HM.out]
        have HB := Lib.hid hb
        have HV := Lib.hid (hv.keep hb)
        clear hb
        go_wp2_with fail
        refine (c_isSquare v m _ HV.out (by omega)).mono ?_
        rintro e w2 ⟨rfl, rfl⟩
        rw [HD.out]
        go_wp2_with fail
        go_ret
        exact ⟨ret_int H.out.symm, HB.out⟩
      · have H : Hid (sqCode m true = 0) := Lib.hid (by unfold sqCode; rw [if_pos HM.out, if_pos ⟨HS.out, rfl⟩])
        go_enter Try.func64, Try.ntmps64
        go_wp2_with fail
        refine (c_IsMatrix v m _ hv).mono ?_
        rintro e w1 ⟨rfl, hb⟩
        rw [HM.out]
        have HB := Lib.hid hb
        have HV := Lib.hid (hv.keep hb)
        clear hb
        go_wp2_with fail
        refine (c_isSquare v m _ HV.out (by omega)).mono ?_
        rintro e w2 ⟨rfl, rfl⟩
        rw [HD.out]
        go_wp2_with fail
        go_ret
        exact ⟨ret_int H.out.symm, HB.out⟩
    · have HD : Hid (decide (m.length = width m) = false) := Lib.hid (decide_eq_false hs)
      have H : Hid (sqCode m ir = 2) := Lib.hid (by unfold sqCode; rw [if_pos hm, if_neg (fun h => hs h.1)])
      clear hs HP hm
      go_enter Try.func64, Try.ntmps64
      go_wp2_with fail
      refine (c_IsMatrix v m _ hv).mono ?_
      rintro e w1 ⟨rfl, hb⟩
      rw [HM.out]
      have HB := Lib.hid hb
      have HV := Lib.hid (hv.keep hb)
      clear hb
      go_wp2_with fail
      refine (c_isSquare v m _ HV.out (by omega)).mono ?_
      rintro e w2 ⟨rfl, rfl⟩
      rw [HD.out]
      go_wp2_with fail
      go_ret
      exact ⟨ret_int H.out.symm, HB.out⟩
theorem c_l02Square (v : Value) (m : List (List Int)) (w : World) (hv : IntRows w v m) :
    Calls Try.prog 66 #[v] w fun e w' => e = .returned (.int .i64 (sqCode m true)) ∧ Below w.heap.size w w' := by
  have HV := Lib.hid hv
  cases hm : isMat m
  · have H : Hid (sqCode m true = 1) := Lib.hid (by unfold sqCode; rw [if_neg (by simp [hm])])
    have HM := Lib.hid hm
    clear hm
    go_enter Try.func66, Try.ntmps66
    go_wp2_with fail
    refine (c_l02Is v m _ HV.out).mono ?_
    rintro e w1 ⟨rfl, hd⟩
    rw [HM.out]
    go_wp2_with fail
    go_ret
    exact ⟨ret_int H.out.symm, hd.below _⟩
  · have HP := isMat_parts hm
    have hpos := HP.1
    have HM := Lib.hid hm
    obtain ⟨a, cap, rfl, hl, hc⟩ := hv
    obtain ⟨x0, hx0⟩ : ∃ x, m[0]? = some x := ⟨m[0]'(by omega), by simp⟩
    obtain ⟨b, off, u0, rfl, hcell0, ⟨a2, cap2, rfl, hl2, _⟩⟩ := hc 0 x0 hx0
    have hcell0' : w.cell? ⟨b, off, none⟩ = some (.slice a2 x0.length cap2) := by simpa using hcell0
    have HW := Lib.hid (width_eq hx0)
    have hpos' : 0 < m.length := by omega
    clear hcell0 hx0 hc HP hm
    by_cases h : m.length = x0.length
    · have hB : ((m.length : Int) != (x0.length : Int)) = false := by simp [h]
      have H : Hid (sqCode m true = 0) := Lib.hid (by unfold sqCode; rw [if_pos HM.out, if_pos ⟨by rw [HW.out]; exact h, rfl⟩])
      clear h
      go_enter Try.func66, Try.ntmps66
      go_wp2_with fail
      refine (c_l02Is _ m _ HV.out).mono ?_
      rintro e w1 ⟨rfl, hd⟩
      rw [HM.out]
      have hc1 := hd.cell hcell0'
      have HD := Lib.hid hd
      clear hd
      go_wp2_with fail
      go_ret
      exact ⟨ret_int H.out.symm, HD.out.below _⟩
    · have hB : ((m.length : Int) != (x0.length : Int)) = true := by rw [bne_iff_ne]; omega
      have H : Hid (sqCode m true = 2) := Lib.hid (by unfold sqCode; rw [if_pos HM.out, if_neg (fun hh => h (by rw [← HW.out]; exact hh.1))])
      clear h
      go_enter Try.func66, Try.ntmps66
      go_wp2_with fail
      refine (c_l02Is _ m _ HV.out).mono ?_
      rintro e w1 ⟨rfl, hd⟩
      rw [HM.out]
      have hc1 := hd.cell hcell0'
      have HD := Lib.hid hd
      clear hd
      go_wp2_with fail
      go_ret
      exact ⟨ret_int H.out.symm, HD.out.below _⟩

/-! traces -/
def trZ (m : List (List Int)) : Int := sumK m.length (fun i => ent m i i) % 55441
theorem ent_num {m : List (List Int)} (h : ∀ (i : Nat) x, m[i]? = some x → x.all isNum = true) (i j : Nat) : 0 ≤ ent m i j ∧ ent m i j < 55441 := by
  unfold ent
  simp only [List.getD_eq_getElem?_getD]
  cases h1 : m[i]? with
  | none => simp
  | some xs =>
    simp only [Option.getD_some]
    cases h2 : xs[j]? with
    | none => simp
    | some x => simp only [Option.getD_some]; exact nums_at (h i xs h1) h2
theorem c_trace (v : Value) (m : List (List Int)) (w : World) (hv : IntRows w v m) (hm : ∀ (i : Nat) x, m[i]? = some x → x.length = m.length ∧ x.all isNum = true) (hmax : m.length ≤ 1000000) :
    Calls Try.prog 71 #[v] w fun e w' => e = .returned (.int .i64 (trZ m)) ∧ w = w' := by
  obtain ⟨a, cap, rfl, hl, hc⟩ := hv
  have HC := Lib.hid hc
  have HM := Lib.hid hm
  clear hc hm
  go_enter Try.func71, Try.ntmps71
  go_wp2_with fail
  go_loop [3, 7] (fun s i => ∃ (k : Nat) (t : Int), k ≤ m.length ∧ i = .int .i64 k ∧ s = .int .i64 t ∧ 0 ≤ t ∧ t ≤ 55440 * k ∧ Hid (t = sumK k (fun i => ent m i i))) (fun _ i => m.length - (intOf i).toNat)
  case atStart => exact ⟨0, 0, Nat.zero_le _, rfl, rfl, by omega, by omega, rfl⟩
  case round =>
    obtain ⟨k, t, hk, rfl, rfl, ht1, ht2, H⟩ := hrel
    by_cases hlt : k < m.length
    · obtain ⟨xs, hx⟩ : ∃ xs, m[k]? = some xs := ⟨m[k], by simp [hlt]⟩
      have hlen := (HM.out k xs hx).1
      obtain ⟨x, hxx⟩ : ∃ x, xs[k]? = some x := ⟨xs[k]'(by omega), by simp⟩
      obtain ⟨b, off, u, rfl, hcell, ⟨a1, cap1, rfl, hl1, hc1⟩⟩ := HC.out k xs hx
      obtain ⟨b', off', rfl, hcell'⟩ := hc1 k x hxx
      have hb := nums_at (HM.out k xs hx).2 hxx
      obtain ⟨hb1, hb2⟩ := hb
      have hlt' : k < xs.length := by omega
      have HE := Lib.hid (ent_at hx hxx)
      clear hx hxx hc1 hlen
      go_wp2_with fail
      go_round
      case rel => exact ⟨k + 1, _, by omega, by go_num, rfl, by omega, by omega, by have e : sumK (k + 1) (fun i => ent m i i) = sumK k (fun i => ent m i i) + ent m k k := rfl
                                                                                    rw [e, ← H.out, HE.out]; rfl⟩
      case measure => simp [intOf]; omega
    · obtain rfl : k = m.length := by omega
      go_wp2_with fail
      go_ret
      exact ⟨ret_int (by unfold trZ; rw [← H.out]), rfl⟩
def trN (m : List (List Int)) : Int × Int := if sqCode m true = 0 then (trZ m, 0) else (0, sqCode m true)
theorem sq_parts {m : List (List Int)} {b : Bool} (h : sqCode m b = 0) : isMat m = true ∧ m.length = width m ∧ b = true := by
  unfold sqCode at h
  split at h
  · split at h
    · rename_i h1 h2; exact ⟨h1, h2.1, h2.2⟩
    · omega
  · omega
theorem sq_rows {m : List (List Int)} {b : Bool} (h : sqCode m b = 0) : 1 ≤ m.length ∧ m.length ≤ 16 ∧ ∀ (i : Nat) x, m[i]? = some x → x.length = m.length ∧ x.all isNum = true := by
  obtain ⟨h1, h2, _⟩ := sq_parts h
  obtain ⟨p1, p2, _, _, p5⟩ := isMat_parts h1
  exact ⟨p1, p2, fun i x hx => ⟨by rw [h2]; exact (p5 i x hx).1, (p5 i x hx).2⟩⟩
theorem c_TraceOf (v : Value) (m : List (List Int)) (w : World) (hv : IntRows w v m) :
    Calls Try.prog 31 #[v] w fun e w' => e = .returned (two (trN m)) ∧ Below w.heap.size w w' := by
  by_cases h : sqCode m true = 0
  · have HR := Lib.hid (sq_rows h)
    have H : Hid (trN m = (trZ m, 0)) := Lib.hid (if_pos h)
    have hB : (sqCode m true != 0) = false := by simp [h]
    clear h
    go_enter Try.func31, Try.ntmps31
    go_wp2_with fail
    refine (c_squareCode v m true _ hv).mono ?_
    rintro e w1 ⟨rfl, hb⟩
    have HB := Lib.hid hb
    have HV := Lib.hid (hv.keep hb)
    clear hb
    go_wp2_with fail
    refine (c_trace v m _ HV.out HR.out.2.2 (by have := HR.out.2.1; omega)).mono ?_
    rintro e w2 ⟨rfl, rfl⟩
    go_wp2_with fail
    go_ret2
    exact ⟨ret_two H.out, HB.out⟩
  · have H : Hid (trN m = (0, sqCode m true)) := Lib.hid (if_neg h)
    have hB : (sqCode m true != 0) = true := by rw [bne_iff_ne]; exact h
    clear h
    go_enter Try.func31, Try.ntmps31
    go_wp2_with fail
    refine (c_squareCode v m true _ hv).mono ?_
    rintro e w1 ⟨rfl, hb⟩
    go_wp2_with fail
    go_ret2
    exact ⟨ret_two H.out, hb⟩

/-! a matrix applied to a vector -/
def appZ (m : List (List Int)) (xs : List Int) : List Int := vec m.length fun i => dotZ (m.getD i []) xs
theorem c_apply (u v : Value) (m : List (List Int)) (xs : List Int) (w : World) (hu : IntRows w u m) (hv : Ints w v xs) (hm : ∀ (i : Nat) x, m[i]? = some x → x.length = xs.length ∧ x.all isNum = true) (hx : xs.all isNum = true) (h1 : m.length ≤ 100000) (h2 : xs.length ≤ 100000) :
    Calls Try.prog 62 #[u, v] w (RetI (appZ m xs) w) := by
  have HV := Lib.hid hv
  obtain ⟨a, cap, rfl, hl, hc⟩ := hu
  have HC := Lib.hid hc
  have HM := Lib.hid hm
  have HX := Lib.hid hx
  clear hc hm hx hv
  go_enter Try.func62, Try.ntmps62
  go_wp2_with fail
  go_loopw [5, 11] (fun s i wr => ∃ (k : Nat), k ≤ m.length ∧ i = .int .i64 k ∧ OwnI wr w.heap.size s (vec k fun i => dotZ (m.getD i []) xs) ∧ Below w.heap.size w wr) (fun _ i _ => m.length - (intOf i).toNat)
  case atStart => exact ⟨0, Nat.zero_le _, rfl, own_empty _ _ _ (Nat.le_refl _), below_alloc _ _⟩
  case round =>
    obtain ⟨k, hk, rfl, hown, hbel⟩ := hrel
    by_cases hlt : k < m.length
    · obtain ⟨x, hx⟩ : ∃ x, m[k]? = some x := ⟨m[k], by simp [hlt]⟩
      obtain ⟨b, off, q, rfl, hcell, hI⟩ := HC.out k x hx
      have hc1 := bcell hbel hcell
      have HI := Lib.hid (hI.keep hbel)
      have HV' := Lib.hid (HV.out.keep hbel)
      have HR := Lib.hid (HM.out k x hx)
      have HG : Hid (m.getD k [] = x) := Lib.hid (by simp [List.getD_eq_getElem?_getD, hx])
      have HOW := Lib.hid hown
      have HB := Lib.hid hbel
      have hsz := hbel.size
      clear hx hcell hI hown hbel
      go_wp2_with fail
      refine (c_dot q v x xs _ HI.out HV'.out HR.out.1 (by rw [HR.out.1]; omega) HR.out.2 HX.out).mono ?_
      rintro e w1 ⟨rfl, hb1⟩
      have HB1 := Lib.hid hb1
      have hsz1 := hb1.size
      clear hb1 hc1
      go_wp2_with (at_builtin; refine wp_pushI (HOW.out.keep HB1.out) rfl _ _ rfl rfl rfl (by first | with_reducible rfl | simp) (by omega) (by rw [vec_length]; omega) ?_; intro v' w2 ho2 _ hb2)
      go_roundw
      case rel => exact ⟨k + 1, by omega, by go_num, by rw [vec_snoc, HG.out]; exact ho2, (HB.out.trans (HB1.out.mono hsz)).trans hb2⟩
      case measure => simp [intOf]; omega
    · obtain rfl : k = m.length := by omega
      have HOW := Lib.hid hown
      have HB := Lib.hid hbel
      clear hown hbel
      go_wp2_with fail
      go_ret
      exact ⟨_, rfl, HOW.out, HB.out⟩
end Go.Proofs.Ytmbcncmmgfnlmaa

/- Walks: matrices applied to vectors by the reference, zero matrices, transposed matrices, products; their codes. -/
namespace Go.Proofs.Ytmbcncmmgfnlmaa
open Go.RowKit

/-- a matrix applied to a vector, with its code -/
def appN (m : List (List Int)) (xs : List Int) : List Int × Int :=
  if isMat m = true then (if xs.length = width m ∧ xs.all isNum = true then (appZ m xs, 0) else ([], 2)) else ([], 1)
theorem appN_small (m : List (List Int)) (xs : List Int) : (appN m xs).1.length ≤ 4096 := by
  unfold appN
  split
  · split
    · rename_i h1 _; have := (isMat_parts h1).2.1; simp only [appZ, vec_length]; omega
    · simp
  · simp
theorem mat_first {w : World} {v : Value} {m : List (List Int)} (hv : IntRows w v m) (hp : 0 < m.length) :
    ∃ b off cap a2 cap2 x0, v = .slice (some ⟨b, off, none⟩) m.length cap ∧ m.length ≤ 5864062014634 ∧ m[0]? = some x0 ∧ width m = x0.length ∧ x0.length ≤ 17592186043904 ∧ w.cell? ⟨b, off, none⟩ = some (.slice a2 x0.length cap2) := by
  obtain ⟨a, cap, rfl, hl, hc⟩ := hv
  obtain ⟨x0, hx0⟩ : ∃ x, m[0]? = some x := ⟨m[0], by simp⟩
  obtain ⟨b, off, u0, rfl, hcell0, ⟨a2, cap2, rfl, hl2, _⟩⟩ := hc 0 x0 hx0
  exact ⟨b, off, cap, a2, cap2, x0, rfl, hl, hx0, width_eq hx0, hl2, by simpa using hcell0⟩

theorem c_ApplyMatrix (u : Value) (m : List (List Int)) (v : Value) (xs : List Int) (w : World) (hu : IntRows w u m) (hv : Ints w v xs) :
    Calls Try.prog 22 #[u, v] w (RetIC (appN m xs) w) := by
  have HU := Lib.hid hu
  have HV := Lib.hid hv
  cases hm : isMat m
  · have H : Hid (appN m xs = ([], 1)) := Lib.hid (by unfold appN; rw [if_neg (by simp [hm])])
    have HM := Lib.hid hm
    clear hm hu hv
    go_enter Try.func22, Try.ntmps22
    go_wp2_with fail
    refine (c_IsMatrix u m _ HU.out).mono ?_
    rintro e w1 ⟨rfl, hb1⟩
    rw [HM.out]
    have HB1 := Lib.hid hb1
    clear hb1
    go_wp2_with fail
    go_ret2
    refine ⟨.slice none 0 0, ?_, ?_, HB1.out⟩
    · rw [H.out]; rfl
    · rw [H.out]; exact Own.nil _ _ _
  · have HP := Lib.hid (isMat_parts hm)
    have hpos : 0 < m.length := HP.out.1
    have HM := Lib.hid hm
    obtain ⟨b, off, cap, a2, cap2, x0, rfl, hl, hx0, hw0, hl2, hcell0⟩ := mat_first hu hpos
    have HW := Lib.hid hw0
    obtain ⟨a', cap', rfl, hl', _⟩ := hv
    clear hm hu hx0 hw0
    by_cases hlen : xs.length = x0.length
    · have hlenB : ((xs.length : Int) != (x0.length : Int)) = false := by simp [hlen]
      have HL := Lib.hid hlen
      clear hlen
      cases hx : xs.all isNum
      · have H : Hid (appN m xs = ([], 2)) := Lib.hid (by unfold appN; rw [if_pos HM.out, if_neg (by simp [hx])])
        have HX := Lib.hid hx
        clear hx
        go_enter Try.func22, Try.ntmps22
        go_wp2_with fail
        refine (c_IsMatrix _ m _ HU.out).mono ?_
        rintro e w1 ⟨rfl, hb1⟩
        rw [HM.out]
        have HB1 := Lib.hid hb1
        have hcell1 := bcell HB1.out hcell0
        have HV1 := Lib.hid (HV.out.keep HB1.out)
        clear hb1
        go_wp2_with fail
        refine (c_areNumbers _ xs _ HV1.out).mono ?_
        rintro e w2 ⟨rfl, hb2⟩
        rw [HX.out]
        go_wp2_with fail
        go_ret2
        refine ⟨.slice none 0 0, ?_, ?_, HB1.out.trans (hb2.mono HB1.out.size)⟩
        · rw [H.out]; rfl
        · rw [H.out]; exact Own.nil _ _ _
      · have H : Hid (appN m xs = (appZ m xs, 0)) := Lib.hid (by unfold appN; rw [if_pos HM.out, if_pos ⟨by rw [HW.out]; exact HL.out, hx⟩])
        have HX := Lib.hid hx
        clear hx
        go_enter Try.func22, Try.ntmps22
        go_wp2_with fail
        refine (c_IsMatrix _ m _ HU.out).mono ?_
        rintro e w1 ⟨rfl, hb1⟩
        rw [HM.out]
        have HB1 := Lib.hid hb1
        have hcell1 := bcell HB1.out hcell0
        have HU1 := Lib.hid (HU.out.keep HB1.out)
        have HV1 := Lib.hid (HV.out.keep HB1.out)
        clear hb1
        go_wp2_with fail
        refine (c_areNumbers _ xs _ HV1.out).mono ?_
        rintro e w2 ⟨rfl, hb2⟩
        rw [HX.out]
        have HB2 := Lib.hid (HB1.out.trans (hb2.mono HB1.out.size))
        have HU2 := Lib.hid (HU1.out.keep hb2)
        have HV2 := Lib.hid (HV1.out.keep hb2)
        clear hb2
        go_wp2_with fail
        refine (c_apply _ _ m xs _ HU2.out HV2.out (fun i x hx => ⟨by rw [(HP.out.2.2.2.2 i x hx).1, HW.out]; exact HL.out.symm, (HP.out.2.2.2.2 i x hx).2⟩) HX.out (Nat.le_trans HP.out.2.1 (by omega)) (by have h1 := HP.out.2.2.2.1; have h2 := HW.out; have h3 := HL.out; omega)).mono ?_
        rintro e w3 ⟨v3, rfl, ho3, hb3⟩
        go_wp2_with fail
        go_ret2
        refine ⟨v3, ?_, ?_, HB2.out.trans (hb3.mono HB2.out.size)⟩
        · rw [H.out]; rfl
        · rw [H.out]; exact ho3.mono HB2.out.size
    · have hlenB : ((xs.length : Int) != (x0.length : Int)) = true := by rw [bne_iff_ne]; omega
      have H : Hid (appN m xs = ([], 2)) := Lib.hid (by unfold appN; rw [if_pos HM.out, if_neg (fun h => hlen (by rw [← HW.out]; exact h.1))])
      clear hlen
      go_enter Try.func22, Try.ntmps22
      go_wp2_with fail
      refine (c_IsMatrix _ m _ HU.out).mono ?_
      rintro e w1 ⟨rfl, hb1⟩
      rw [HM.out]
      have HB1 := Lib.hid hb1
      have hcell1 := bcell HB1.out hcell0
      clear hb1
      go_wp2_with fail
      go_ret2
      refine ⟨.slice none 0 0, ?_, ?_, HB1.out⟩
      · rw [H.out]; rfl
      · rw [H.out]; exact Own.nil _ _ _


/-! zero matrices; matrices turned over -/
def turnZ (m : List (List Int)) : List (List Int) := tab (width m) m.length fun i j => ent m j i
theorem c_zeros (r c : Nat) (w : World) (hr : r ≤ 100000) (hc : c ≤ 100000) :
    Calls Try.prog 93 #[.int .i64 r, .int .i64 c] w (RetM (tab r c fun _ _ => 0) w) := by
  have hmk := run_make_row' (P := Try.prog) 35 2 (.int .i64 0) 8 Try.underlying35 info_int rfl .i64 .i64 c (by omega) (by omega)
  go_enter Try.func93, Try.ntmps93
  go_wp2_with fail
  go_loopw [5, 8] (fun s i wr => ∃ (k : Nat), k ≤ r ∧ i = .int .i64 k ∧ OwnM wr w.heap.size s (tab k c fun _ _ => 0) ∧ Below w.heap.size w wr) (fun _ i _ => r - (intOf i).toNat)
  case atStart => exact ⟨0, Nat.zero_le _, rfl, ownM_empty _ _ (Nat.le_refl _), below_alloc _ _⟩
  case round =>
    obtain ⟨k, hk, rfl, hown, hbel⟩ := hrel
    by_cases hlt : k < r
    · have HOW := Lib.hid hown
      have HB := Lib.hid hbel
      have hsz := hbel.size
      have HA := Lib.hid (below_alloc wr (.cells (madeCells #[.int .i64 0] c) 2))
      have HO := Lib.hid (own_zeros wr c (by omega))
      clear hown hbel
      go_wp2_with (at_builtin; refine wp_pushM HOW.out HA.out HO.out rfl _ _ rfl rfl rfl (by first | with_reducible rfl | simp) (by omega) (by rw [tab_length]; omega) ?_; intro v' w2 ho2 hb2)
      go_roundw
      case rel => exact ⟨k + 1, by omega, by go_num, by rw [tab, vec_snoc]; exact ho2, (HB.out.trans (HA.out.mono hsz)).trans hb2⟩
      case measure => simp [intOf]; omega
    · obtain rfl : k = r := by omega
      have HOW := Lib.hid hown
      have HB := Lib.hid hbel
      clear hown hbel
      go_wp2_with fail
      go_ret
      exact ⟨_, rfl, HOW.out, HB.out⟩
end Go.Proofs.Ytmbcncmmgfnlmaa
