/- Walks: the sum of products with its code, program and reference; the law on it. -/
import Derived.Test.YtdddimhonkbapaaHlp
namespace Go.Proofs.Ytdddimhonkbapaa
open Go.RowKit
def dotN (xs ys : List Int) : Int × Int :=
  if xs.length = ys.length ∧ xs.length ≤ 64 ∧ xs.all isNum = true ∧ ys.all isNum = true then (dotZ xs ys, 0) else (0, 2)
theorem dotN_no {xs ys : List Int} (h : ¬ (xs.length = ys.length ∧ xs.length ≤ 64 ∧ xs.all isNum = true ∧ ys.all isNum = true)) : dotN xs ys = (0, 2) := if_neg h

theorem c_DotOf (u v : Value) (xs ys : List Int) (w : World) (hu : Ints w u xs) (hv : Ints w v ys) :
    Calls Try.prog 14 #[u, v] w fun e w' => e = .returned (two (dotN xs ys)) ∧ Below w.heap.size w w' := by
  have HU := Lib.hid hu
  have HV := Lib.hid hv
  obtain ⟨a, cap, rfl, hl, _⟩ := hu
  obtain ⟨a', cap', rfl, hl', _⟩ := hv
  by_cases hlen : xs.length = ys.length
  · have hlenB : ((xs.length : Int) != (ys.length : Int)) = false := by simp [hlen]
    have HL := Lib.hid hlen
    clear hlen
    by_cases hmax : xs.length ≤ 64
    · have HM := Lib.hid hmax
      cases hx : xs.all isNum
      · have H : Hid (dotN xs ys = (0, 2)) := Lib.hid (dotN_no (by simp [hx]))
        have HX := Lib.hid hx
        clear hx
        go_enter Try.func14, Try.ntmps14
        go_wp2_with fail
        refine (c_areNumbers _ xs _ HU.out).mono ?_
        rintro e w1 ⟨rfl, hb1⟩
        rw [HX.out]
        go_wp2_with fail
        go_ret2
        exact ⟨ret_two H.out, hb1⟩
      · have HX := Lib.hid hx
        clear hx
        cases hy : ys.all isNum
        · have H : Hid (dotN xs ys = (0, 2)) := Lib.hid (dotN_no (by simp [hy]))
          have HY := Lib.hid hy
          clear hy
          go_enter Try.func14, Try.ntmps14
          go_wp2_with fail
          refine (c_areNumbers _ xs _ HU.out).mono ?_
          rintro e w1 ⟨rfl, hb1⟩
          rw [HX.out]
          go_wp2_with fail
          refine (c_areNumbers _ ys _ (HV.out.keep hb1)).mono ?_
          rintro e w2 ⟨rfl, hb2⟩
          rw [HY.out]
          go_wp2_with fail
          go_ret2
          exact ⟨ret_two H.out, hb1.trans (hb2.mono hb1.size)⟩
        · have H : Hid (dotN xs ys = (dotZ xs ys, 0)) := Lib.hid (if_pos ⟨HL.out, HM.out, HX.out, hy⟩)
          have HY := Lib.hid hy
          clear hy
          go_enter Try.func14, Try.ntmps14
          go_wp2_with fail
          refine (c_areNumbers _ xs _ HU.out).mono ?_
          rintro e w1 ⟨rfl, hb1⟩
          rw [HX.out]
          go_wp2_with fail
          refine (c_areNumbers _ ys _ (HV.out.keep hb1)).mono ?_
          rintro e w2 ⟨rfl, hb2⟩
          rw [HY.out]
          go_wp2_with fail
          refine (c_dot _ _ xs ys _ ((HU.out.keep hb1).keep hb2) ((HV.out.keep hb1).keep hb2) HL.out (Nat.le_trans HM.out (by omega)) HX.out HY.out).mono ?_
          rintro e w3 ⟨rfl, hb3⟩
          go_wp2_with fail
          go_ret2
          exact ⟨ret_two H.out, (hb1.trans (hb2.mono hb1.size)).trans (hb3.mono (Nat.le_trans hb1.size hb2.size))⟩
    · have H : Hid (dotN xs ys = (0, 2)) := Lib.hid (dotN_no (by omega))
      go_enter Try.func14, Try.ntmps14
      go_wp2_with fail
      go_ret2
      exact ⟨ret_two H.out, Below.refl _ _⟩
  · have H : Hid (dotN xs ys = (0, 2)) := Lib.hid (dotN_no (by omega))
    have hlenB : ((xs.length : Int) != (ys.length : Int)) = true := by rw [bne_iff_ne]; omega
    clear hlen
    go_enter Try.func14, Try.ntmps14
    go_wp2_with fail
    go_ret2
    exact ⟨ret_two H.out, Below.refl _ _⟩

theorem c_SDotOf (u v : Value) (xs ys : List Int) (w : World) (hu : Ints w u xs) (hv : Ints w v ys) :
    Calls Try.prog 12 #[u, v] w fun e w' => e = .returned (two (dotN xs ys)) ∧ Below w.heap.size w w' := by
  have HU := Lib.hid hu
  have HV := Lib.hid hv
  obtain ⟨a, cap, rfl, hl, _⟩ := hu
  obtain ⟨a', cap', rfl, hl', _⟩ := hv
  by_cases hlen : xs.length = ys.length
  · have hlenB : ((xs.length : Int) != (ys.length : Int)) = false := by simp [hlen]
    have HL := Lib.hid hlen
    clear hlen
    by_cases hmax : xs.length ≤ 64
    · have HM := Lib.hid hmax
      cases hx : xs.all isNum
      · have H : Hid (dotN xs ys = (0, 2)) := Lib.hid (dotN_no (by simp [hx]))
        have HX := Lib.hid hx
        clear hx
        go_enter Try.func12, Try.ntmps12
        go_wp2_with fail
        refine (c_l01Numbers _ xs _ HU.out).mono ?_
        rintro e w1 ⟨rfl, rfl⟩
        rw [HX.out]
        go_wp2_with fail
        go_ret2
        exact ⟨ret_two H.out, Below.refl _ _⟩
      · have HX := Lib.hid hx
        clear hx
        cases hy : ys.all isNum
        · have H : Hid (dotN xs ys = (0, 2)) := Lib.hid (dotN_no (by simp [hy]))
          have HY := Lib.hid hy
          clear hy
          go_enter Try.func12, Try.ntmps12
          go_wp2_with fail
          refine (c_l01Numbers _ xs _ HU.out).mono ?_
          rintro e w1 ⟨rfl, rfl⟩
          rw [HX.out]
          go_wp2_with fail
          refine (c_l01Numbers _ ys _ HV.out).mono ?_
          rintro e w2 ⟨rfl, rfl⟩
          rw [HY.out]
          go_wp2_with fail
          go_ret2
          exact ⟨ret_two H.out, Below.refl _ _⟩
        · have H : Hid (dotN xs ys = (dotZ xs ys, 0)) := Lib.hid (if_pos ⟨HL.out, HM.out, HX.out, hy⟩)
          have HY := Lib.hid hy
          clear hy
          go_enter Try.func12, Try.ntmps12
          go_wp2_with fail
          refine (c_l01Numbers _ xs _ HU.out).mono ?_
          rintro e w1 ⟨rfl, rfl⟩
          rw [HX.out]
          go_wp2_with fail
          refine (c_l01Numbers _ ys _ HV.out).mono ?_
          rintro e w2 ⟨rfl, rfl⟩
          rw [HY.out]
          go_wp2_with fail
          refine (c_l01Dot _ _ xs ys _ HU.out HV.out HL.out HX.out HY.out).mono ?_
          rintro e w3 ⟨rfl, hb3⟩
          go_wp2_with fail
          go_ret2
          exact ⟨ret_two H.out, hb3⟩
    · have H : Hid (dotN xs ys = (0, 2)) := Lib.hid (dotN_no (by omega))
      go_enter Try.func12, Try.ntmps12
      go_wp2_with fail
      go_ret2
      exact ⟨ret_two H.out, Below.refl _ _⟩
  · have H : Hid (dotN xs ys = (0, 2)) := Lib.hid (dotN_no (by omega))
    have hlenB : ((xs.length : Int) != (ys.length : Int)) = true := by rw [bne_iff_ne]; omega
    clear hlen
    go_enter Try.func12, Try.ntmps12
    go_wp2_with fail
    go_ret2
    exact ⟨ret_two H.out, Below.refl _ _⟩

end Go.Proofs.Ytdddimhonkbapaa
