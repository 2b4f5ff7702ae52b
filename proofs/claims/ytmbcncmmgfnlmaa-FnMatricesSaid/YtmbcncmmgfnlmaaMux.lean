/- Walks: matrices applied to vectors by the reference, zero matrices, transposed matrices, products; their codes. -/
import Derived.Test.YtmbcncmmgfnlmaaMul
namespace Go.Proofs.Ytmbcncmmgfnlmaa
open Go.RowKit

/-- a matrix applied to a vector, with its code -/
def appN (m : List (List Int)) (xs : List Int) : List Int × Int :=
  if isMat m = true then (if xs.length = width m ∧ xs.all isNum = true then (appZ m xs, 0) else ([], 2)) else ([], 1)
theorem appN_small (m : List (List Int)) (xs : List Int) : (appN m xs).1.length ≤ 4096 := by
  unfold appN
  split
  · split
    · rename_i h1 _; have := (isMat_parts h1).2.1; simp only [appZ, vec_length]; omega
    · simp
  · simp
theorem mat_first {w : World} {v : Value} {m : List (List Int)} (hv : IntRows w v m) (hp : 0 < m.length) :
    ∃ b off cap a2 cap2 x0, v = .slice (some ⟨b, off, none⟩) m.length cap ∧ m.length ≤ 5864062014634 ∧ m[0]? = some x0 ∧ width m = x0.length ∧ x0.length ≤ 17592186043904 ∧ w.cell? ⟨b, off, none⟩ = some (.slice a2 x0.length cap2) := by
  obtain ⟨a, cap, rfl, hl, hc⟩ := hv
  obtain ⟨x0, hx0⟩ : ∃ x, m[0]? = some x := ⟨m[0], by simp⟩
  obtain ⟨b, off, u0, rfl, hcell0, ⟨a2, cap2, rfl, hl2, _⟩⟩ := hc 0 x0 hx0
  exact ⟨b, off, cap, a2, cap2, x0, rfl, hl, hx0, width_eq hx0, hl2, by simpa using hcell0⟩

theorem c_ApplyMatrix (u : Value) (m : List (List Int)) (v : Value) (xs : List Int) (w : World) (hu : IntRows w u m) (hv : Ints w v xs) :
    Calls Try.prog 22 #[u, v] w (RetIC (appN m xs) w) := by
  have HU := Lib.hid hu
  have HV := Lib.hid hv
  cases hm : isMat m
  · have H : Hid (appN m xs = ([], 1)) := Lib.hid (by unfold appN; rw [if_neg (by simp [hm])])
    have HM := Lib.hid hm
    clear hm hu hv
    go_enter Try.func22, Try.ntmps22
    go_wp2_with fail
    refine (c_IsMatrix u m _ HU.out).mono ?_
    rintro e w1 ⟨rfl, hb1⟩
    rw [HM.out]
    have HB1 := Lib.hid hb1
    clear hb1
    go_wp2_with fail
    go_ret2
    refine ⟨.slice none 0 0, ?_, ?_, HB1.out⟩
    · rw [H.out]; rfl
    · rw [H.out]; exact Own.nil _ _ _
  · have HP := Lib.hid (isMat_parts hm)
    have hpos : 0 < m.length := HP.out.1
    have HM := Lib.hid hm
    obtain ⟨b, off, cap, a2, cap2, x0, rfl, hl, hx0, hw0, hl2, hcell0⟩ := mat_first hu hpos
    have HW := Lib.hid hw0
    obtain ⟨a', cap', rfl, hl', _⟩ := hv
    clear hm hu hx0 hw0
    by_cases hlen : xs.length = x0.length
    · have hlenB : ((xs.length : Int) != (x0.length : Int)) = false := by simp [hlen]
      have HL := Lib.hid hlen
      clear hlen
      cases hx : xs.all isNum
      · have H : Hid (appN m xs = ([], 2)) := Lib.hid (by unfold appN; rw [if_pos HM.out, if_neg (by simp [hx])])
        have HX := Lib.hid hx
        clear hx
        go_enter Try.func22, Try.ntmps22
        go_wp2_with fail
        refine (c_IsMatrix _ m _ HU.out).mono ?_
        rintro e w1 ⟨rfl, hb1⟩
        rw [HM.out]
        have HB1 := Lib.hid hb1
        have hcell1 := bcell HB1.out hcell0
        have HV1 := Lib.hid (HV.out.keep HB1.out)
        clear hb1
        go_wp2_with fail
        refine (c_areNumbers _ xs _ HV1.out).mono ?_
        rintro e w2 ⟨rfl, hb2⟩
        rw [HX.out]
        go_wp2_with fail
        go_ret2
        refine ⟨.slice none 0 0, ?_, ?_, HB1.out.trans (hb2.mono HB1.out.size)⟩
        · rw [H.out]; rfl
        · rw [H.out]; exact Own.nil _ _ _
      · have H : Hid (appN m xs = (appZ m xs, 0)) := Lib.hid (by unfold appN; rw [if_pos HM.out, if_pos ⟨by rw [HW.out]; exact HL.out, hx⟩])
        have HX := Lib.hid hx
        clear hx
        go_enter Try.func22, Try.ntmps22
        go_wp2_with fail
        refine (c_IsMatrix _ m _ HU.out).mono ?_
        rintro e w1 ⟨rfl, hb1⟩
        rw [HM.out]
        have HB1 := Lib.hid hb1
        have hcell1 := bcell HB1.out hcell0
        have HU1 := Lib.hid (HU.out.keep HB1.out)
        have HV1 := Lib.hid (HV.out.keep HB1.out)
        clear hb1
        go_wp2_with fail
        refine (c_areNumbers _ xs _ HV1.out).mono ?_
        rintro e w2 ⟨rfl, hb2⟩
        rw [HX.out]
        have HB2 := Lib.hid (HB1.out.trans (hb2.mono HB1.out.size))
        have HU2 := Lib.hid (HU1.out.keep hb2)
        have HV2 := Lib.hid (HV1.out.keep hb2)
        clear hb2
        go_wp2_with fail
        refine (c_apply _ _ m xs _ HU2.out HV2.out (fun i x hx => ⟨by rw [(HP.out.2.2.2.2 i x hx).1, HW.out]; exact HL.out.symm, (HP.out.2.2.2.2 i x hx).2⟩) HX.out (Nat.le_trans HP.out.2.1 (by omega)) (by have h1 := HP.out.2.2.2.1; have h2 := HW.out; have h3 := HL.out; omega)).mono ?_
        rintro e w3 ⟨v3, rfl, ho3, hb3⟩
        go_wp2_with fail
        go_ret2
        refine ⟨v3, ?_, ?_, HB2.out.trans (hb3.mono HB2.out.size)⟩
        · rw [H.out]; rfl
        · rw [H.out]; exact ho3.mono HB2.out.size
    · have hlenB : ((xs.length : Int) != (x0.length : Int)) = true := by rw [bne_iff_ne]; omega
      have H : Hid (appN m xs = ([], 2)) := Lib.hid (by unfold appN; rw [if_pos HM.out, if_neg (fun h => hlen (by rw [← HW.out]; exact h.1))])
      clear hlen
      go_enter Try.func22, Try.ntmps22
      go_wp2_with fail
      refine (c_IsMatrix _ m _ HU.out).mono ?_
      rintro e w1 ⟨rfl, hb1⟩
      rw [HM.out]
      have HB1 := Lib.hid hb1
      have hcell1 := bcell HB1.out hcell0
      clear hb1
      go_wp2_with fail
      go_ret2
      refine ⟨.slice none 0 0, ?_, ?_, HB1.out⟩
      · rw [H.out]; rfl
      · rw [H.out]; exact Own.nil _ _ _


/-! zero matrices; matrices turned over -/
def turnZ (m : List (List Int)) : List (List Int) := tab (width m) m.length fun i j => ent m j i
theorem c_zeros (r c : Nat) (w : World) (hr : r ≤ 100000) (hc : c ≤ 100000) :
    Calls Try.prog 93 #[.int .i64 r, .int .i64 c] w (RetM (tab r c fun _ _ => 0) w) := by
  have hmk := run_make_row' (P := Try.prog) 35 2 (.int .i64 0) 8 Try.underlying35 info_int rfl .i64 .i64 c (by omega) (by omega)
  go_enter Try.func93, Try.ntmps93
  go_wp2_with fail
  go_loopw [5, 8] (fun s i wr => ∃ (k : Nat), k ≤ r ∧ i = .int .i64 k ∧ OwnM wr w.heap.size s (tab k c fun _ _ => 0) ∧ Below w.heap.size w wr) (fun _ i _ => r - (intOf i).toNat)
  case atStart => exact ⟨0, Nat.zero_le _, rfl, ownM_empty _ _ (Nat.le_refl _), below_alloc _ _⟩
  case round =>
    obtain ⟨k, hk, rfl, hown, hbel⟩ := hrel
    by_cases hlt : k < r
    · have HOW := Lib.hid hown
      have HB := Lib.hid hbel
      have hsz := hbel.size
      have HA := Lib.hid (below_alloc wr (.cells (madeCells #[.int .i64 0] c) 2))
      have HO := Lib.hid (own_zeros wr c (by omega))
      clear hown hbel
      go_wp2_with (at_builtin; refine wp_pushM HOW.out HA.out HO.out rfl _ _ rfl rfl rfl (by first | with_reducible rfl | simp) (by omega) (by rw [tab_length]; omega) ?_; intro v' w2 ho2 hb2)
      go_roundw
      case rel => exact ⟨k + 1, by omega, by go_num, by rw [tab, vec_snoc]; exact ho2, (HB.out.trans (HA.out.mono hsz)).trans hb2⟩
      case measure => simp [intOf]; omega
    · obtain rfl : k = r := by omega
      have HOW := Lib.hid hown
      have HB := Lib.hid hbel
      clear hown hbel
      go_wp2_with fail
      go_ret
      exact ⟨_, rfl, HOW.out, HB.out⟩
end Go.Proofs.Ytmbcncmmgfnlmaa
