/- Walk: bases of kernels by the program. -/
import Derived.Test.YtmbcncmmgfnlmaaKrm
namespace Go.Proofs.Ytmbcncmmgfnlmaa
open Go.RowKit
attribute [local go_sem ↓] Go.wp_at_zero Go.wp_at_succ
open Fus (F Mx toI ofI toI_bd toI_of ofI_toI ofI_neg ofI_mul finv redR redR_d ld isFree frees fvec freeRows kerR sm)

set_option maxRecDepth 100000 in
set_option maxHeartbeats 4000000 in
theorem c_kernel (v : Value) (r c : Nat) (f : Mx) (w : World) (hv : IntRows w v (tabF r c f)) (hr0 : 0 < r) (hc1 : 0 < c) (hc2 : c ≤ 1000) (hr : r ≤ 1000) :
    Calls Try.prog 58 #[v] w (RetM (kerF r c f) w) := by
  have HV := Lib.hid hv
  obtain ⟨b, off, cap, a2, cap2, rfl, hcell0⟩ := mat_firstF hv hr0
  clear hv
  obtain ⟨p, hp⟩ := Fus.red_redR r f c
  have HRED := Lib.hid hp
  have HKER : Hid (kerF r c f = basF (frees (redR r f c).f c (redR r f c).d c).length c (freeRows (redR r f c).f c (redR r f c).d)) := Lib.hid rfl
  have hdl := (redR_d r f c).1
  clear hp
  go_enter Try.func58, Try.ntmps58
  go_wp2_with fail
  refine (c_reduce _ r c f _ HV.out hc1 hc2 hr).mono ?_
  rintro e w1 ⟨v1, rfl, ho1, hb1⟩
  have HB1 := Lib.hid hb1
  have hsz1 := hb1.size
  have hc01 := bcell hb1 hcell0
  have HI1 : Hid (IntRows w1 v1 (basF r c f)) := Lib.hid (ho1.rows (by show (basF r c f).length ≤ _; unfold basF; rw [tabF_length]; omega) (fun xs hx => by rw [tabF_mem hx]; omega))
  unfold basF at HI1
  clear ho1 hb1
  generalize (redR r f c).f = G at *
  generalize (redR r f c).d = d at *
  obtain ⟨q1, cq, hv1, _, hqc⟩ := HI1.out
  rw [tabF_length] at hv1
  subst hv1
  have HQ := Lib.hid hqc
  have HLD : Hid (∀ i, i < d → ld G c i < c) := Lib.hid (fun i hi => (Fus.red_ld HRED.out).lt i hi)
  have hcA := bcell (below_alloc w1 (.cells #[] 35)) hc01
  clear hqc
  go_wp2_with fail
  clear hcA
  go_loopw [5, 23] (fun s i wr => ∃ k : Nat, k ≤ c ∧ i = .int .i64 k ∧ OwnM wr w1.heap.size s (rowsOf c G d (frees G c d k)) ∧ Below w1.heap.size w1 wr) (fun _ i _ => c - (intOf i).toNat)
  case atStart => exact ⟨0, Nat.zero_le _, rfl, ownM_empty _ _ (Nat.le_refl _), below_alloc _ _⟩
  case round =>
    obtain ⟨k, hk, rfl, hlist, hbel⟩ := hrel
    by_cases hkc : k < c
    · have HB := Lib.hid hbel
      have hsz := hbel.size
      have HLI := Lib.hid hlist
      have hc02 := bcell hbel hc01
      have HIB : Hid (IntRows (wr.alloc (.cells #[.int .i64 k] 3)) (.slice q1 d cq) (tabF d c G)) := Lib.hid ((HI1.out.keep hbel).keep (below_alloc _ _))
      have hmk := run_make_row' (P := Try.prog) 35 2 (.int .i64 0) 8 Try.underlying35 info_int rfl .i64 .i64 c (by omega) (by omega)
      clear hlist hbel
      go_wp2_with fail
      refine (c_ContainsFunc_ker _ _ ⟨wr.heap.size, 0, none⟩ k _ HIB.out (Box.new wr 3 _).cell).mono ?_
      rintro e w2 ⟨rfl, hd2⟩
      rw [any_lead HRED.out]
      have HB2 : Hid (Below wr.heap.size wr w2) := Lib.hid ((below_alloc wr _).trans (hd2.below _))
      have hsz2 : wr.heap.size < w2.heap.size := by rw [hd2.heap]; simp
      have hcol : w2.cell? ⟨wr.heap.size, 0, none⟩ = some (.int .i64 k) := hd2.cell (Box.new wr 3 _).cell
      have hc03 := bcell HB2.out hc02
      clear hd2 HIB
      cases hf : isFree G c d k
      · have HF := Lib.hid hf
        clear hf hmk
        go_wp2_with fail
        go_roundw
        case rel => exact ⟨k + 1, by omega, by go_num, by rw [rowsOf_skip HF.out]; exact HLI.out.keep HB2.out, HB.out.trans (HB2.out.mono hsz)⟩
        case measure => simp [intOf]; omega
      · have HF := Lib.hid hf
        clear hf
        have hkI : (k : Int) < (c : Int) := by omega
        have hkI0 : (0 : Int) ≤ (k : Int) := by omega
        have hz0 := own_zeros w2 c (by omega)
        have hold := Own.cell hz0 (i := k) (u := vi 0) (by rw [List.getElem?_map, vec_at _ hkc]; rfl)
        have hfr := Own.frozen hz0 k
        have hcolz := bcell (below_alloc w2 (.cells (madeCells #[.int .i64 0] c) 2)) hcol
        have hset := World.setCell_alloc_new (w := w2) (madeCells #[.int .i64 0] c) 2 k (.int .i64 1)
        have HV0 : Hid (OwnI (w2.alloc (.cells ((madeCells #[.int .i64 0] c).setIfInBounds k (.int .i64 1)) 2)) w2.heap.size (.slice (some ⟨w2.heap.size, 0, none⟩) c c) (zl c (fvTo G c k 0))) := Lib.hid (by
          rw [← hset, ← fvTo_start]
          have := Own.store hz0 k (vi 1)
          rw [← List.map_set] at this
          exact this)
        have HA : Hid (Below w2.heap.size w2 (w2.alloc (.cells ((madeCells #[.int .i64 0] c).setIfInBounds k (.int .i64 1)) 2))) := Lib.hid (below_alloc _ _)
        clear hset hz0
        go_wp2_with fail
        clear hmk hold hfr hcolz
        obtain ⟨wo, rfl⟩ : ∃ wo : World, wo = wr := ⟨_, rfl⟩
        go_loopw [40] (fun i wr => ∃ i' : Nat, i' ≤ d ∧ i = .int .i64 i' ∧ OwnI wr w2.heap.size (.slice (some ⟨w2.heap.size, 0, none⟩) c c) (zl c (fvTo G c k i')) ∧ Below w2.heap.size w2 wr) (fun i _ => d - (intOf i).toNat)
        case atStart => exact ⟨0, Nat.zero_le _, rfl, HV0.out, HA.out⟩
        case round =>
          obtain ⟨i, hi, rfl, hv, hbel2⟩ := hrel
          clear HV0 HA
          by_cases hid : i < d
          · obtain ⟨b1, o1, u1, rfl, hcell1, hI1⟩ := HQ.out i _ (tabF_at c G hid)
            have HII := Lib.hid (((hI1.keep HB.out).keep HB2.out).keep hbel2)
            obtain ⟨a3, c3, hu1, _, hc3⟩ := hI1
            rw [zl_length] at hu1
            subst hu1
            obtain ⟨b2, o2, rfl, hcell2⟩ := hc3 k _ (zl_at (G i) hkc)
            have e1 := bcell hbel2 (bcell HB2.out (bcell HB.out hcell1))
            have e2 := bcell hbel2 (bcell HB2.out (bcell HB.out hcell2))
            have e3 := bcell hbel2 hcol
            have hb2 := Ints.lt (bcell HB2.out (bcell HB.out hcell2))
            have hLc := HLD.out i hid
            have hvc := Own.cell hv (i := ld G c i) (u := vi (toI (fvTo G c k i (ld G c i)))) (by rw [List.getElem?_map, zl_at _ hLc]; rfl)
            have hvf := Own.frozen hv (ld G c i)
            have hm2 : ¬ w2.heap.size = b2 := by omega
            have hm3 : ¬ w2.heap.size = wo.heap.size := by omega
            have hiI : (i : Int) < (d : Int) := by omega
            have hiI0 : (0 : Int) ≤ (i : Int) := by omega
            have hlI : (ld G c i : Int) < (c : Int) := by omega
            have hlI0 : (0 : Int) ≤ (ld G c i : Int) := by omega
            have hxb := toI_bd (G i k)
            obtain ⟨hx1, hx2⟩ := hxb
            have hw1 : IntKind.i64.wrap (-toI (G i k)) = -toI (G i k) := IntWalk.i64_in _ (by omega)
            have HM : Hid (-toI (G i k) % 55441 = toI (-(G i k))) := Lib.hid (toI_of (by rw [ofI_neg, ofI_toI])).symm
            have HIX := Lib.hid (index_one HRED.out hid)
            have HID : Hid (Ints wr.drew (.slice (some ⟨b2, o2, none⟩) c c3) (zl c (G i))) := Lib.hid (Ints.ofHeap rfl HII.out)
            have HVN : Hid (OwnI (wr.setCell ⟨w2.heap.size, ld G c i, none⟩ (.int .i64 (toI (-(G i k))))) w2.heap.size (.slice (some ⟨w2.heap.size, 0, none⟩) c c) (zl c (fvTo G c k (i + 1)))) := Lib.hid (by
              rw [← fvTo_next HRED.out HF.out hid]
              have := Own.store hv (ld G c i) (vi (toI (-(G i k))))
              rw [← List.map_set] at this
              exact this)
            have HBB := Lib.hid hbel2
            clear hcell1 hcell2 hc3 hv hbel2
            go_wp2_with fail
            go_region_held3 (fun w' => w'.cell? ⟨wo.heap.size, 0, none⟩ = some (.int .i64 k) ∧ w'.cell? ⟨b2, o2 + k, none⟩ = some (vi (toI (G i k))))
              (first | go_keep | (exact ⟨cell_farB hm3 e3, cell_farB hm2 e2⟩))
              (first
                | (go_at_call 98; refine (c_Index _ _ 1 _ HID.out).mono ?_; rintro e w' ⟨rfl, rfl⟩; rw [HIX.out])
                | (go_at_call 97; refine (c_mod _ _).mono ?_; rintro e w' ⟨rfl, rfl⟩; rw [HM.out]))
            all_goals
              go_wp2_with fail
              go_roundw
              case rel => exact ⟨i + 1, by omega, by go_num, HVN.out, (below_set (w1 := wr) HBB.out (Nat.le_refl _)).drew⟩
              case measure => simp [intOf]; omega
          · obtain rfl : d = i := by omega
            rw [fvTo_end] at hv
            have HV := Lib.hid hv
            have HBB := Lib.hid hbel2
            have hsz3 := hbel2.size
            have HL2 := Lib.hid (HLI.out.keep HB2.out)
            clear hv hbel2
            go_wp2_with (at_builtin; refine wp_pushM2 HL2.out HBB.out HV.out rfl _ _ rfl rfl rfl (by first | with_reducible rfl | simp) (by omega) (by have := rowsOf_length c G d k; omega) ?_; intro v' w3 ho3 hb3 _)
            go_roundw
            case rel => exact ⟨k + 1, by omega, by go_num, by rw [rowsOf_next HF.out]; exact ho3, ((HB.out.trans (HB2.out.mono hsz)).trans (HBB.out.mono (by omega))).trans hb3⟩
            case measure => simp [intOf]; omega
    · obtain rfl : c = k := by omega
      have hfl := rowsOf_length c G d c
      have hlen := frees_le G c d c
      rw [rowsOf_all] at hlist
      have HLI : Hid (IntRows wr u5 (tabF (frees G c d c).length c (freeRows G c d))) := Lib.hid (hlist.rows (by rw [tabF_length]; omega) (fun xs hx => by rw [tabF_mem hx]; omega))
      have HB := Lib.hid hbel
      have hsz := hbel.size
      clear hlist hbel
      go_wp2_with fail
      refine (c_reduce u5 (frees G c d c).length c (freeRows G c d) _ HLI.out hc1 hc2 (by omega)).mono ?_
      rintro e w5 ⟨v5, rfl, ho5, hb5⟩
      have HO5 := Lib.hid ho5
      have HB5 := Lib.hid hb5
      clear ho5 hb5
      go_wp2_with fail
      go_ret
      refine ⟨v5, rfl, ?_, (HB1.out.trans (HB.out.mono hsz1)).trans (HB5.out.mono (by omega))⟩
      rw [HKER.out]
      exact HO5.out.mono (by omega)
end Go.Proofs.Ytmbcncmmgfnlmaa
