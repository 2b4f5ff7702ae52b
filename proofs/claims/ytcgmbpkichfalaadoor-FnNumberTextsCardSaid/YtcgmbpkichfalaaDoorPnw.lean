/- Texts of numbers: the walk of ParseNumber, the program. -/
import Derived.Test.YtcgmbpkichfalaaDoorNtv
import Derived.Lib.ParseIntBTie
import Derived.Lib.AtoiErrMem
namespace Go.Proofs.YtcgmbpkichfalaaDoor
open Go.RowKit Txt
theorem beq_list {a b : List UInt8} : (a == b) = decide (a = b) := by
  rw [Bool.eq_iff_iff, beq_iff_eq, decide_eq_true_iff]
theorem atoi_cases (l : List UInt8) : (∃ v, Lib.atoiAll l = Lib.NumEnd.ok v) ∨ Lib.atoiAll l = Lib.NumEnd.syntax ∨ Lib.atoiAll l = Lib.NumEnd.range := by
  cases Lib.atoiAll l with
  | ok v => exact .inl ⟨v, rfl⟩
  | _ => first | exact .inr (.inl rfl) | exact .inr (.inr rfl)
/-- a number and whether it is one -/
def twoB (r : Int × Bool) : Value := .tuple #[.int .i64 r.1, .bool r.2]
theorem ret_twoB {a : Int} {b : Bool} {r : Int × Bool} (h : r = (a, b)) : Ending.returned (.tuple #[.int .i64 a, .bool b]) = .returned (twoB r) := by rw [h]; rfl
set_option maxHeartbeats 2000000 in
theorem c_readDecimal (l : List UInt8) (w : World) (hl : l.length ≤ 4294967280) (ht : LaidW w) :
    Calls Tryd.prog 35 #[.string ⟨l.toArray⟩] w fun e w' => e = .returned (twoB (readDec l)) ∧ Below w.heap.size w w' := by
  have hsz : (⟨l.toArray⟩ : ByteArray).size = l.length := List.size_toArray
  have hdl : (⟨l.toArray⟩ : ByteArray).data.toList = l := rfl
  rcases atoi_cases l with ⟨v, hp⟩ | hp | hp
  ·
    have hR : readDec l = (v, decide (Lib.itoa v = l)) := by unfold readDec; rw [hp]
    have hB := Lib.parseIntB_64 l
    rw [hp] at hB
    have hbd := Lib.parseIntB_bounds hB
    have HR := Lib.hid hR
    have HT := Lib.hid ht
    have hC := Any.strconv_ParseInt_10_at64_ok Tryd.laysC174 ⟨l.toArray⟩ (by omega) v hB w
    have HC := Lib.hid (hC.mono (R' := fun e w' => e = .returned (.tuple #[.int .i64 v, .nilIface]) ∧ Below w.heap.size w w') (by
      rintro e w' ⟨rfl, h | ⟨t, h⟩⟩
      · exact ⟨rfl, h ▸ Below.refl _ _⟩
      · exact ⟨rfl, h ▸ Lib.bytesWorld_below w _ t⟩))
    have hv1 : -9223372036854775808 ≤ v := by have := hbd.1; simpa using this
    have hv2 : v ≤ 9223372036854775807 := by have := hbd.2; simp at this; omega
    clear hR hC hB hbd ht hp
    go_enter Tryd.func35, Tryd.ntmps35
    go_wp2_with fail
    refine HC.out.mono ?_
    rintro e w1 ⟨rfl, hb1⟩
    go_wp2_with fail
    refine (c_decimal v _ hv1 hv2 (HT.out.keep hb1).1).mono ?_
    rintro e w2 ⟨rfl, hb2⟩
    unfold tv
    go_wp2_with fail
    go_ret2
    exact ⟨ret_twoB (by rw [HR.out, beq_list]), hb1.trans (hb2.mono hb1.size)⟩
  · have hR : readDec l = (0, false) := by unfold readDec; rw [hp]
    have hB := Lib.parseIntB_64 l
    rw [hp] at hB
    have HR := Lib.hid hR
    obtain ⟨_, ⟨t, p, hc⟩, _⟩ := ht
    have HC := Lib.hid (Any.strconv_ParseInt_10_at64_syntax Tryd.laysC174 ⟨l.toArray⟩ (by omega) hB (.iface t p) w hc (.inr ⟨_, _, rfl⟩))
    clear hR hB hp hc
    go_enter Tryd.func35, Tryd.ntmps35
    go_wp2_with fail
    refine HC.out.mono ?_
    rintro e w1 ⟨n, rfl, _, _, hb1⟩
    go_wp2_with fail
    go_ret2
    exact ⟨ret_twoB (by rw [HR.out]), hb1⟩
  · have hR : readDec l = (Lib.atoiSat l, false) := by unfold readDec; rw [hp]
    have hB := Lib.parseIntB_64 l
    rw [hp] at hB
    have HR := Lib.hid hR
    have hS := Lib.intSat_64 l
    obtain ⟨_, _, ⟨t, p, hc⟩, _⟩ := ht
    have hC := Any.strconv_ParseInt_10_at64_range Tryd.laysC174 ⟨l.toArray⟩ (by omega) hB (.iface t p) w hc (.inr ⟨_, _, rfl⟩)
    rw [show Lib.intSat 64 (⟨l.toArray⟩ : ByteArray).data.toList = Lib.atoiSat l from hS] at hC
    have HC := Lib.hid hC
    clear hR hB hp hc hS hC
    generalize Lib.atoiSat l = z at *
    go_enter Tryd.func35, Tryd.ntmps35
    go_wp2_with fail
    refine HC.out.mono ?_
    rintro e w1 ⟨n, rfl, _, _, hb1⟩
    go_wp2_with fail
    go_ret2
    exact ⟨ret_twoB (by rw [HR.out]), hb1⟩
theorem cut_len (l : List UInt8) : (Lib.cut l [47]).1.length ≤ l.length ∧ (Lib.cut l [47]).2.1.length ≤ l.length := by
  unfold Lib.cut
  split
  · simp only [List.length_take, List.length_drop]; omega
  · simp
/-- the end of the reader -/
def fin1 (l : List UInt8) (p q : Int) : Int × Bool := ((fracN p q).1, decide ((fracN p q).2 = 0) && decide (txt (fracN p q).1 = l))
theorem fracN_cases (p q : Int) : fracN p q = ((fracN p q).1, 0) ∨ (fracN p q = (0, (fracN p q).2) ∧ (fracN p q).2 ≠ 0) := by
  unfold fracN
  split
  · split
    · right; simp
    · left; rfl
  · right; simp
set_option maxHeartbeats 4000000 in
theorem c_parseNumber (l : List UInt8) (w : World) (hl : l.length ≤ 4294967280) (ht : LaidW w) :
    Calls Tryd.prog 21 #[.string ⟨l.toArray⟩] w fun e w' => e = .returned (twoB (parseI l)) ∧ Below w.heap.size w w' := by
  have hcl := cut_len l
  have HT := Lib.hid ht
  obtain ⟨_, _, _, m, hm⟩ := ht
  have hC := Any.strings_Cut Tryd.lays145 ⟨l.toArray⟩ ⟨#[47]⟩ m w (by show l.toArray.size < _; simp; omega) hm
  rw [show Lib.cut (⟨l.toArray⟩ : ByteArray).data.toList (⟨#[47]⟩ : ByteArray).data.toList = Lib.cut l [47] from rfl] at hC
  have hF : parseI l = if (readDec (Lib.cut l [47]).1).2 = true ∧ ((Lib.cut l [47]).2.2 = true → (readDec (Lib.cut l [47]).2.1).2 = true) then fin1 l (readDec (Lib.cut l [47]).1).1 (if (Lib.cut l [47]).2.2 = true then (readDec (Lib.cut l [47]).2.1).1 else 1) else (0, false) := rfl
  generalize Lib.cut l [47] = c at *
  obtain ⟨t, b, f⟩ := c
  dsimp only at hC hF hcl
  have HR1 := Lib.hid (fun w1 h => c_readDecimal t w1 (by omega) h)
  have HR2 := Lib.hid (fun w1 h => c_readDecimal b w1 (by omega) h)
  generalize readDec t = rp at *
  generalize readDec b = rq at *
  obtain ⟨p, one⟩ := rp
  obtain ⟨q, two'⟩ := rq
  dsimp only at hF
  have HC := Lib.hid hC
  have HF := Lib.hid hF
  clear hC hF hcl hm
  cases one
  · have HE : Hid (parseI l = (0, false)) := Lib.hid (by rw [HF.out]; simp)
    cases f
    all_goals
      go_enter Tryd.func21, Tryd.ntmps21
      go_wp2_with fail
      refine HC.out.mono ?_
      rintro e w1 ⟨rfl, k, rfl⟩
      go_wp2_with fail
      refine (HR1.out _ (HT.out.drewN k)).mono ?_
      rintro e w2 ⟨rfl, hb2⟩
      unfold twoB
      go_wp2_with fail
      refine (HR2.out _ ((HT.out.drewN k).keep hb2)).mono ?_
      rintro e w3 ⟨rfl, hb3⟩
      unfold twoB
      have HB := Lib.hid (((below_toDrewN k w.heap.size w).trans hb2).trans (hb3.mono (by have := hb2.size; simpa using this)))
      clear hb2 hb3
      go_wp2_with fail
      go_ret2
      exact ⟨ret_twoB (by rw [HE.out]), HB.out⟩
  · cases f
    · have HG : Hid (parseI l = fin1 l p 1) := Lib.hid (by rw [HF.out]; simp)
      clear HF
      rcases fracN_cases p 1 with hfr | ⟨hfr, hne⟩
      · have hbd := fracN_bd p 1
        have hE : parseI l = ((fracN p 1).1, decide (txt (fracN p 1).1 = l)) := by
          rw [HG.out]; unfold fin1; rw [hfr]; simp
        have HE := Lib.hid hE
        have HFR := Lib.hid hfr
        clear hE hfr
        generalize (fracN p 1).1 = a at *
        go_enter Tryd.func21, Tryd.ntmps21
        go_wp2_with fail
        refine HC.out.mono ?_
        rintro e w1 ⟨rfl, k, rfl⟩
        go_wp2_with fail
        refine (HR1.out _ (HT.out.drewN k)).mono ?_
        rintro e w2 ⟨rfl, hb2⟩
        unfold twoB
        go_wp2_with fail
        refine (HR2.out _ ((HT.out.drewN k).keep hb2)).mono ?_
        rintro e w3 ⟨rfl, hb3⟩
        unfold twoB
        have HB := Lib.hid (((below_toDrewN k w.heap.size w).trans hb2).trans (hb3.mono (by have := hb2.size; simpa using this)))
        clear hb2 hb3
        go_wp2_with fail
        refine (c_FractionNumber p 1 _).mono ?_
        rw [HFR.out]
        rintro e w4 ⟨rfl, rfl⟩
        unfold two
        go_wp2_with fail
        refine (c_numberText a _ hbd.1 hbd.2 (HT.out.keep HB.out).1).mono ?_
        rintro e w5 ⟨rfl, hb5⟩
        unfold tv
        go_wp2_with fail
        go_ret2
        exact ⟨ret_twoB (by rw [HE.out, beq_list]), HB.out.trans (hb5.mono HB.out.size)⟩
      · have hE : parseI l = (0, false) := by
          rw [HG.out]; unfold fin1
          rw [hfr]
          simp [hne]
        have HE := Lib.hid hE
        have HFR := Lib.hid hfr
        clear hE hfr
        generalize (fracN p 1).2 = cd at *
        go_enter Tryd.func21, Tryd.ntmps21
        go_wp2_with fail
        refine HC.out.mono ?_
        rintro e w1 ⟨rfl, k, rfl⟩
        go_wp2_with fail
        refine (HR1.out _ (HT.out.drewN k)).mono ?_
        rintro e w2 ⟨rfl, hb2⟩
        unfold twoB
        go_wp2_with fail
        refine (HR2.out _ ((HT.out.drewN k).keep hb2)).mono ?_
        rintro e w3 ⟨rfl, hb3⟩
        unfold twoB
        have HB := Lib.hid (((below_toDrewN k w.heap.size w).trans hb2).trans (hb3.mono (by have := hb2.size; simpa using this)))
        clear hb2 hb3
        go_wp2_with fail
        refine (c_FractionNumber p 1 _).mono ?_
        rw [HFR.out]
        rintro e w4 ⟨rfl, rfl⟩
        unfold two
        go_wp2_with fail
        go_ret2
        exact ⟨ret_twoB (by rw [HE.out]), HB.out⟩
    · cases two'
      · have HE : Hid (parseI l = (0, false)) := Lib.hid (by rw [HF.out]; simp)
        go_enter Tryd.func21, Tryd.ntmps21
        go_wp2_with fail
        refine HC.out.mono ?_
        rintro e w1 ⟨rfl, k, rfl⟩
        go_wp2_with fail
        refine (HR1.out _ (HT.out.drewN k)).mono ?_
        rintro e w2 ⟨rfl, hb2⟩
        unfold twoB
        go_wp2_with fail
        refine (HR2.out _ ((HT.out.drewN k).keep hb2)).mono ?_
        rintro e w3 ⟨rfl, hb3⟩
        unfold twoB
        have HB := Lib.hid (((below_toDrewN k w.heap.size w).trans hb2).trans (hb3.mono (by have := hb2.size; simpa using this)))
        clear hb2 hb3
        go_wp2_with fail
        go_ret2
        exact ⟨ret_twoB (by rw [HE.out]), HB.out⟩
      · have HG : Hid (parseI l = fin1 l p q) := Lib.hid (by rw [HF.out]; simp)
        clear HF
        rcases fracN_cases p q with hfr | ⟨hfr, hne⟩
        · have hbd := fracN_bd p q
          have hE : parseI l = ((fracN p q).1, decide (txt (fracN p q).1 = l)) := by
            rw [HG.out]; unfold fin1; rw [hfr]; simp
          have HE := Lib.hid hE
          have HFR := Lib.hid hfr
          clear hE hfr
          generalize (fracN p q).1 = a at *
          go_enter Tryd.func21, Tryd.ntmps21
          go_wp2_with fail
          refine HC.out.mono ?_
          rintro e w1 ⟨rfl, k, rfl⟩
          go_wp2_with fail
          refine (HR1.out _ (HT.out.drewN k)).mono ?_
          rintro e w2 ⟨rfl, hb2⟩
          unfold twoB
          go_wp2_with fail
          refine (HR2.out _ ((HT.out.drewN k).keep hb2)).mono ?_
          rintro e w3 ⟨rfl, hb3⟩
          unfold twoB
          have HB := Lib.hid (((below_toDrewN k w.heap.size w).trans hb2).trans (hb3.mono (by have := hb2.size; simpa using this)))
          clear hb2 hb3
          go_wp2_with fail
          refine (c_FractionNumber p q _).mono ?_
          rw [HFR.out]
          rintro e w4 ⟨rfl, rfl⟩
          unfold two
          go_wp2_with fail
          refine (c_numberText a _ hbd.1 hbd.2 (HT.out.keep HB.out).1).mono ?_
          rintro e w5 ⟨rfl, hb5⟩
          unfold tv
          go_wp2_with fail
          go_ret2
          exact ⟨ret_twoB (by rw [HE.out, beq_list]), HB.out.trans (hb5.mono HB.out.size)⟩
        · have hE : parseI l = (0, false) := by
            rw [HG.out]; unfold fin1
            rw [hfr]
            simp [hne]
          have HE := Lib.hid hE
          have HFR := Lib.hid hfr
          clear hE hfr
          generalize (fracN p q).2 = cd at *
          go_enter Tryd.func21, Tryd.ntmps21
          go_wp2_with fail
          refine HC.out.mono ?_
          rintro e w1 ⟨rfl, k, rfl⟩
          go_wp2_with fail
          refine (HR1.out _ (HT.out.drewN k)).mono ?_
          rintro e w2 ⟨rfl, hb2⟩
          unfold twoB
          go_wp2_with fail
          refine (HR2.out _ ((HT.out.drewN k).keep hb2)).mono ?_
          rintro e w3 ⟨rfl, hb3⟩
          unfold twoB
          have HB := Lib.hid (((below_toDrewN k w.heap.size w).trans hb2).trans (hb3.mono (by have := hb2.size; simpa using this)))
          clear hb2 hb3
          go_wp2_with fail
          refine (c_FractionNumber p q _).mono ?_
          rw [HFR.out]
          rintro e w4 ⟨rfl, rfl⟩
          unfold two
          go_wp2_with fail
          go_ret2
          exact ⟨ret_twoB (by rw [HE.out]), HB.out⟩
set_option maxHeartbeats 2000000 in
theorem c_ParseNumber (l : List UInt8) (w : World) (hl : l.length ≤ 4294967280) (ht : LaidW w) :
    Calls Tryd.prog 7 #[.string ⟨l.toArray⟩] w fun e w' => e = .returned (two (parseN l)) ∧ Below w.heap.size w w' := by
  have hN : parseN l = if (parseI l).2 = true then ((parseI l).1, 0) else (0, 6) := rfl
  have HC := Lib.hid (c_parseNumber l w hl ht)
  generalize parseI l = r at *
  obtain ⟨a, b⟩ := r
  have HN := Lib.hid hN
  clear hN
  cases b
  · go_enter Tryd.func7, Tryd.ntmps7
    go_wp2_with fail
    refine HC.out.mono ?_
    rintro e w1 ⟨rfl, hb⟩
    unfold twoB
    go_wp2_with fail
    go_ret2
    exact ⟨ret_two (by rw [HN.out]; rfl), hb⟩
  · go_enter Tryd.func7, Tryd.ntmps7
    go_wp2_with fail
    refine HC.out.mono ?_
    rintro e w1 ⟨rfl, hb⟩
    unfold twoB
    go_wp2_with fail
    go_ret2
    exact ⟨ret_two (by rw [HN.out]; rfl), hb⟩
end Go.Proofs.YtcgmbpkichfalaaDoor
