/- Walks: determinants with their codes, program and reference. -/
import Derived.Test.YtmbcncmmgfnlmaaGsp
import Derived.Test.YtmbcncmmgfnlmaaDtw
namespace Go.Proofs.Ytmbcncmmgfnlmaa
open Go.RowKit
open Fus (F Mx toI ofI toI_bd redR redR_d)

def detN (m : List (List Int)) : Int × Int := if sqCode m true = 0 then (toI (redR m.length (entF m) m.length).det, 0) else (0, sqCode m true)
theorem sq_F {m : List (List Int)} {b : Bool} (h : sqCode m b = 0) : m = tabF m.length m.length (entF m) := by
  obtain ⟨h1, h2, _⟩ := sq_parts h
  have e := mat_F h1
  rw [← h2] at e
  exact e
theorem c_Determinant (v : Value) (m : List (List Int)) (w : World) (hv : IntRows w v m) :
    Calls Try.prog 30 #[v] w fun e w' => e = .returned (two (detN m)) ∧ Below w.heap.size w w' := by
  by_cases h : sqCode m true = 0
  · have HR := Lib.hid (sq_rows h)
    have HT := Lib.hid (sq_F h)
    have H : Hid (detN m = (toI (redR m.length (entF m) m.length).det, 0)) := Lib.hid (if_pos h)
    have HD : Hid (detF m.length m.length (entF m) = toI (redR m.length (entF m) m.length).det) := Lib.hid (if_neg (by have := HR.out.1; omega))
    have hB : (sqCode m true != 0) = false := by simp [h]
    clear h
    go_enter Try.func30, Try.ntmps30
    go_wp2_with fail
    refine (c_squareCode v m true _ hv).mono ?_
    rintro e w1 ⟨rfl, hb⟩
    have HB := Lib.hid hb
    have HV : Hid (IntRows w1 v (tabF m.length m.length (entF m))) := Lib.hid (by rw [← HT.out]; exact hv.keep hb)
    clear hb
    go_wp2_with fail
    refine (c_reduce v m.length m.length (entF m) _ HV.out HR.out.1 (by have := HR.out.2.1; omega) (by have := HR.out.2.1; omega)).mono ?_
    rintro e w2 ⟨v2, rfl, _, hb2⟩
    rw [HD.out]
    go_wp2_with fail
    go_ret2
    exact ⟨ret_two H.out, HB.out.trans (hb2.mono HB.out.size)⟩
  · have H : Hid (detN m = (0, sqCode m true)) := Lib.hid (if_neg h)
    have hB : (sqCode m true != 0) = true := by rw [bne_iff_ne]; exact h
    clear h
    go_enter Try.func30, Try.ntmps30
    go_wp2_with fail
    refine (c_squareCode v m true _ hv).mono ?_
    rintro e w1 ⟨rfl, hb⟩
    go_wp2_with fail
    go_ret2
    exact ⟨ret_two H.out, hb⟩

end Go.Proofs.Ytmbcncmmgfnlmaa
