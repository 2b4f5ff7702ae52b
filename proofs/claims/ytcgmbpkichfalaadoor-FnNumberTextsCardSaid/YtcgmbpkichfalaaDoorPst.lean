/- Texts of numbers: the reference's reader, and the law of ParseNumber. -/
import Derived.Test.YtcgmbpkichfalaaDoorPsv
namespace Go.Proofs.YtcgmbpkichfalaaDoor
open Go.RowKit Txt
theorem split_len (b : UInt8) : ∀ (l : List UInt8), ∀ x ∈ splitL b l, x.length ≤ l.length
  | [], x, h => by simp [splitL] at h; subst h; simp
  | c :: r, x, h => by
    unfold splitL at h
    split at h
    · rcases List.mem_cons.1 h with h | h
      · subst h; simp
      · have := split_len b r x h
        rw [List.length_cons]; omega
    · cases hs : splitL b r with
      | nil => exact absurd hs (splitL_ne b r)
      | cons a t =>
        rw [hs] at h
        rcases List.mem_cons.1 h with h | h
        · subst h
          have := split_len b r a (by rw [hs]; simp)
          rw [List.length_cons, List.length_cons]; omega
        · have := split_len b r x (by rw [hs]; simp [h])
          rw [List.length_cons]; omega
theorem body_len (l : List UInt8) : (bodyL l).length ≤ l.length := by
  unfold bodyL
  split
  · rw [List.length_tail]; omega
  · exact Nat.le_refl _
theorem neg1 (x : Int) : -1 * x = -x := by omega
theorem parseS_nil : parseS [] = (0, 6) := by
  unfold parseS
  rw [if_pos (.inr (.inl (by decide)))]
set_option maxHeartbeats 2000000 in
theorem c_SParse_nil (w : World) :
    Calls Tryd.prog 6 #[.string ⟨#[]⟩] w fun e w' => e = .returned (two (parseS [])) ∧ Below w.heap.size w w' := by
  have HS : Hid (∀ w1, Calls Tryd.prog 16 #[.string ⟨#[]⟩, .int .u8 47] w1 fun e w' => ∃ v, e = .returned v ∧ Own w' 9 w1.heap.size v ([[]].map tv) ∧ Below w1.heap.size w1 w') := Lib.hid (fun w1 => c_l01Split [] 47 w1 (by simp))
  have hV0 : Hid (∀ w1, Calls Tryd.prog 17 #[.string ⟨#[]⟩] w1 fun e w' => e = .returned (.int .i64 (-1)) ∧ w1 = w') := Lib.hid (fun w1 => c_l01Value [] w1 (by simp))
  rw [parseS_nil]
  go_enter Tryd.func6, Tryd.ntmps6
  go_wp2_with fail
  refine (HS.out _).mono ?_
  rintro e w1 ⟨v, rfl, ho, hb⟩
  obtain ⟨g, cap, rfl⟩ : ∃ g cap, v = .slice (some ⟨g, 0, none⟩) 1 cap := by
    rcases ho.shape with ⟨_, h⟩ | ⟨g, cap, h, _⟩
    · simp at h
    · exact ⟨g, cap, h⟩
  have hcl : w1.cell? ⟨g, 0, none⟩ = some (.string ⟨#[]⟩) := ho.cell (i := 0) (u := tv []) (by simp)
  clear ho
  go_wp2_with fail
  refine (hV0.out _).mono ?_
  rintro e w2 ⟨rfl, rfl⟩
  go_wp2_with fail
  go_ret2
  exact ⟨rfl, hb⟩
set_option maxHeartbeats 8000000 in
theorem c_SParseNumber (l : List UInt8) (w : World) (hl : l.length ≤ 4294967280) :
    Calls Tryd.prog 6 #[.string ⟨l.toArray⟩] w fun e w' => e = .returned (two (parseS l)) ∧ Below w.heap.size w w' := by
  by_cases hnil : l = []
  · subst hnil; exact c_SParse_nil w
  have hsz : (⟨l.toArray⟩ : ByteArray).size = l.length := List.size_toArray
  have hbl := body_len l
  have hP : parseS l = if 2 < (splitL 47 (bodyL l)).length ∨ pS l < 0 ∨ qS l < 1 ∨ qS l % 55441 = 0 then (0, 6) else if txt (aS l) = l then (aS l, 0) else (0, 6) := rfl
  have hp : pS l = valueS ((splitL 47 (bodyL l)).headD []) := rfl
  have hq : qS l = if (splitL 47 (bodyL l)).length = 2 then valueS ((splitL 47 (bodyL l)).getD 1 []) else 1 := rfl
  have ha : aS l = (signL l * (pS l % 55441)) % 55441 * iinv (qS l % 55441) % 55441 := rfl
  have hBODY : bodyL l = if l.head? = some 45 then l.tail else l := rfl
  have hSIGN : signL l = if l.head? = some 45 then -1 else 1 := rfl
  have hab := aS_bd l
  have hne := splitL_ne 47 (bodyL l)
  have hlen := split_len 47 (bodyL l)
  have hS : ∀ w1, Calls Tryd.prog 16 #[.string ⟨(bodyL l).toArray⟩, .int .u8 47] w1 fun e w' => ∃ v, e = .returned v ∧ Own w' 9 w1.heap.size v ((splitL 47 (bodyL l)).map tv) ∧ Below w1.heap.size w1 w' := fun w1 => c_l01Split (bodyL l) 47 w1 (by omega)
  generalize splitL 47 (bodyL l) = ps at *
  generalize bodyL l = B at *
  generalize signL l = sg at *
  generalize parseS l = r at *
  generalize qS l = q at *
  generalize pS l = p at *
  have hT := fun w1 => c_l01Text (aS l) w1 hab.1 hab.2
  generalize aS l = a at *
  obtain ⟨x0, r0, rfl⟩ : ∃ x r, ps = x :: r := by
    cases ps with
    | nil => exact absurd rfl hne
    | cons a t => exact ⟨a, t, rfl⟩
  rw [List.headD_cons] at hp
  have hx0 : x0.length ≤ 4294967280 := by have := hlen x0 (by simp); omega
  have hb0 := valueS_bd x0
  have hV0 := Lib.hid (fun w1 => c_l01Value x0 w1 hx0)
  rw [← hp] at hb0 hV0
  have HP := Lib.hid hP
  have HA := Lib.hid ha
  have HT := Lib.hid hT
  clear hP ha hp hne hT
  by_cases hh : l.head? = some 45
  · rw [if_pos hh] at hBODY hSIGN
    subst hSIGN
    have hext : Value.string ((⟨l.toArray⟩ : ByteArray).extract 1 l.length) = .string ⟨B.toArray⟩ := by
      have h := extractL l 1 l.length
      rw [h, hBODY]
      unfold tv
      congr 3
      rw [List.drop_one, List.take_of_length_le (by rw [List.length_tail]; omega)]
    obtain ⟨l1, hl1⟩ : ∃ l1, l = 45 :: l1 := by
      cases l with
      | nil => simp at hh
      | cons a t => simp at hh; exact ⟨t, by rw [hh]⟩
    have hix := fun w => indexL (l := l) (j := 0) (b := 45) (by rw [hl1]; rfl) w
    rw [show ((0 : Nat) : Int) = 0 from rfl, show (((45 : UInt8).toNat : Nat) : Int) = 45 from rfl] at hix
    have hlp : (0 : Int) < (l.length : Int) := by rw [hl1, List.length_cons]; omega
    have hlp1 : 1 ≤ l.length := by omega
    have HS := Lib.hid hS
    clear hh hl1 hBODY hS hnil
    go_enter Tryd.func6, Tryd.ntmps6
    go_wp2_with fail
    refine (HS.out _).mono ?_
    rintro e w1 ⟨v, rfl, ho, hb⟩
    have HB := Lib.hid hb
    have hcc0 : ∀ g n cap, v = .slice (some ⟨g, 0, none⟩) n cap → w1.cell? ⟨g, 0, none⟩ = some (.string ⟨x0.toArray⟩) := fun g n cap h => by subst h; exact ho.cell (i := 0) (u := tv x0) (by simp)
    clear hix hext hb
    rcases r0 with _ | ⟨x1, _ | ⟨x2, r2⟩⟩
    · obtain ⟨g, cap, rfl⟩ : ∃ g cap, v = .slice (some ⟨g, 0, none⟩) (1) cap := by
        rcases ho.shape with ⟨_, h⟩ | ⟨g, cap, h, _⟩
        · simp at h
        · exact ⟨g, cap, by rw [h]; simp⟩
      have hcl := hcc0 _ _ _ rfl
      have hq1 : q = 1 := by rw [hq]; rfl
      subst hq1
      clear ho hcc0 hq
      go_wp2_with fail
      refine (hV0.out _).mono ?_
      rintro e w2 ⟨rfl, rfl⟩
      by_cases hp0 : p < 0
      · have hd : decide (p < 0) = true := by simpa using hp0
        go_wp2_with fail
        go_ret2
        exact ⟨ret_two (by rw [HP.out, if_pos (.inr (.inl hp0))]), HB.out⟩
      · have hd : decide (p < 0) = false := by simpa using hp0
        have hp1 : 0 ≤ p := by omega
        obtain ⟨y, hy⟩ : ∃ y : Int, y = (-1 * (p % 55441)) % 55441 := ⟨_, rfl⟩
        obtain ⟨qm, hqm⟩ : ∃ qm : Int, qm = (1 : Int) % 55441 := ⟨_, rfl⟩
        have hqb : 0 ≤ qm ∧ qm < 55441 := by omega
        have hI : ∀ (X : Int) (w : World), X = qm → Calls Tryd.prog 19 #[.int .i64 X] w fun e w' => e = .returned (.int .i64 (iinv qm)) ∧ w = w' := fun X w h => by subst h; exact c_l01Inv _ w hqb.1 hqb.2
        have hM : ∀ (X : Int) (w : World), X % 55441 = y → Calls Tryd.prog 18 #[.int .i64 X] w fun e w' => e = .returned (.int .i64 y) ∧ w = w' := fun X w h => by rw [← h]; exact c_l01Mod X w
        have hzb := iinv_bd qm
        have hyb : 0 ≤ y ∧ y < 55441 := by omega
        have hAA := HA.out
        rw [← hy, ← hqm] at hAA
        clear HA
        have HY := Lib.hid hy
        have HQM := Lib.hid hqm
        clear hy hqm
        generalize iinv qm = z at *
        have hpr := prod_bd hyb.1 hyb.2 hzb.1 hzb.2
        have hw1 : IntKind.i64.wrap (y * z) = y * z := IntWalk.i64_in _ (by omega)
        have hw2 : (y * z).tmod 55441 = a := by rw [hAA]; exact Int.tmod_eq_emod_of_nonneg hpr.1
        have hw3 : IntKind.i64.wrap a = a := IntWalk.i64_in _ (by omega)
        have hw4 : IntKind.i64.wrap (p % 55441) = p % 55441 := IntWalk.i64_in _ (by omega)
        have hw5 : IntKind.i64.wrap (-(p % 55441)) = -(p % 55441) := IntWalk.i64_in _ (by omega)
        have hw6 : IntKind.i64.wrap (-1 * (p % 55441)) = -1 * (p % 55441) := IntWalk.i64_in _ (by omega)
        have hw7 : y * z % 55441 = a := hAA.symm
        clear hAA
        go_wp2_with fail
        refine (c_l01Mod 1 _).mono ?_
        rintro e w3 ⟨rfl, rfl⟩
        go_wp2_with fail
        refine (hM _ _ (by have := HY.out; omega)).mono ?_
        rintro e w4 ⟨rfl, rfl⟩
        go_wp2_with fail
        refine (c_l01Mod 1 _).mono ?_
        rintro e w5 ⟨rfl, rfl⟩
        go_wp2_with fail
        refine (hI _ _ (by first | rfl | (have := HQM.out; omega))).mono ?_
        rintro e w6 ⟨rfl, rfl⟩
        go_wp2_with fail
        refine (HT.out _).mono ?_
        rintro e w7 ⟨rfl, hb7⟩
        unfold tv
        have HBB := Lib.hid (HB.out.trans (hb7.mono HB.out.size))
        clear hb7
        by_cases htx : txt a = l
        · have hcmp : (txt a == l) = true := by rw [beq_iff_eq]; exact htx
          have HE : Hid (r = (a, 0)) := Lib.hid (by rw [HP.out, if_neg (by simp; omega), if_pos htx])
          clear htx
          go_wp2_with fail
          go_ret2
          exact ⟨ret_two (by rw [HE.out]), HBB.out⟩
        · have hcmp : (txt a == l) = false := by rw [beq_eq_false_iff_ne]; exact htx
          have HE : Hid (r = (0, 6)) := Lib.hid (by rw [HP.out, if_neg (by simp; omega), if_neg htx])
          clear htx
          go_wp2_with fail
          go_ret2
          exact ⟨ret_two (by rw [HE.out]), HBB.out⟩
    · obtain ⟨g, cap, rfl⟩ : ∃ g cap, v = .slice (some ⟨g, 0, none⟩) (2) cap := by
        rcases ho.shape with ⟨_, h⟩ | ⟨g, cap, h, _⟩
        · simp at h
        · exact ⟨g, cap, by rw [h]; simp⟩
      have hcl := hcc0 _ _ _ rfl
      have hcl1 : w1.cell? ⟨g, 1, none⟩ = some (.string ⟨x1.toArray⟩) := ho.cell (i := 1) (u := tv x1) (by simp)
      have hq1 : q = valueS x1 := by rw [hq]; rfl
      have hx1 : x1.length ≤ 4294967280 := by have := hlen x1 (by simp); omega
      have hb1 := valueS_bd x1
      have hV1 := Lib.hid (fun w1 => c_l01Value x1 w1 hx1)
      rw [← hq1] at hb1 hV1
      clear ho hcc0 hq hq1
      go_wp2_with fail
      refine (hV0.out _).mono ?_
      rintro e w2 ⟨rfl, rfl⟩
      go_wp2_with fail
      refine (hV1.out _).mono ?_
      rintro e w3 ⟨rfl, rfl⟩
      by_cases hp0 : p < 0
      · have hd : decide (p < 0) = true := by simpa using hp0
        go_wp2_with fail
        go_ret2
        exact ⟨ret_two (by rw [HP.out, if_pos (.inr (.inl hp0))]), HB.out⟩
      · have hd : decide (p < 0) = false := by simpa using hp0
        have hp1 : 0 ≤ p := by omega
        by_cases hq0 : q < 1
        · have hd2 : decide (q < 1) = true := by simpa using hq0
          go_wp2_with fail
          go_ret2
          exact ⟨ret_two (by rw [HP.out, if_pos (.inr (.inr (.inl hq0)))]), HB.out⟩
        · have hd2 : decide (q < 1) = false := by simpa using hq0
          by_cases hqz : q % 55441 = 0
          · have hM0 : ∀ w, Calls Tryd.prog 18 #[.int .i64 q] w fun e w' => e = .returned (.int .i64 0) ∧ w = w' := fun w => by rw [← hqz]; exact c_l01Mod q w
            have HQZ := Lib.hid hqz
            clear hqz
            go_wp2_with fail
            refine (hM0 _).mono ?_
            rintro e w4 ⟨rfl, rfl⟩
            go_wp2_with fail
            go_ret2
            exact ⟨ret_two (by rw [HP.out, if_pos (.inr (.inr (.inr HQZ.out)))]), HB.out⟩
          · have hqz2 : ((q % 55441) == 0) = false := by simpa using hqz
            have HQZ := Lib.hid hqz
            clear hqz
            obtain ⟨y, hy⟩ : ∃ y : Int, y = (-1 * (p % 55441)) % 55441 := ⟨_, rfl⟩
            obtain ⟨qm, hqm⟩ : ∃ qm : Int, qm = (q : Int) % 55441 := ⟨_, rfl⟩
            have hqb : 0 ≤ qm ∧ qm < 55441 := by omega
            have hI : ∀ (X : Int) (w : World), X = qm → Calls Tryd.prog 19 #[.int .i64 X] w fun e w' => e = .returned (.int .i64 (iinv qm)) ∧ w = w' := fun X w h => by subst h; exact c_l01Inv _ w hqb.1 hqb.2
            have hM : ∀ (X : Int) (w : World), X % 55441 = y → Calls Tryd.prog 18 #[.int .i64 X] w fun e w' => e = .returned (.int .i64 y) ∧ w = w' := fun X w h => by rw [← h]; exact c_l01Mod X w
            have hzb := iinv_bd qm
            have hyb : 0 ≤ y ∧ y < 55441 := by omega
            have hAA := HA.out
            rw [← hy, ← hqm] at hAA
            clear HA
            have HY := Lib.hid hy
            have HQM := Lib.hid hqm
            clear hy hqm
            generalize iinv qm = z at *
            have hpr := prod_bd hyb.1 hyb.2 hzb.1 hzb.2
            have hw1 : IntKind.i64.wrap (y * z) = y * z := IntWalk.i64_in _ (by omega)
            have hw2 : (y * z).tmod 55441 = a := by rw [hAA]; exact Int.tmod_eq_emod_of_nonneg hpr.1
            have hw3 : IntKind.i64.wrap a = a := IntWalk.i64_in _ (by omega)
            have hw4 : IntKind.i64.wrap (p % 55441) = p % 55441 := IntWalk.i64_in _ (by omega)
            have hw5 : IntKind.i64.wrap (-(p % 55441)) = -(p % 55441) := IntWalk.i64_in _ (by omega)
            have hw6 : IntKind.i64.wrap (-1 * (p % 55441)) = -1 * (p % 55441) := IntWalk.i64_in _ (by omega)
            have hw7 : y * z % 55441 = a := hAA.symm
            clear hAA
            go_wp2_with fail
            refine (c_l01Mod q _).mono ?_
            rintro e w4 ⟨rfl, rfl⟩
            go_wp2_with fail
            refine (hM _ _ (by have := HY.out; omega)).mono ?_
            rintro e w4 ⟨rfl, rfl⟩
            go_wp2_with fail
            refine (c_l01Mod q _).mono ?_
            rintro e w5 ⟨rfl, rfl⟩
            go_wp2_with fail
            refine (hI _ _ (by first | rfl | (have := HQM.out; omega))).mono ?_
            rintro e w6 ⟨rfl, rfl⟩
            go_wp2_with fail
            refine (HT.out _).mono ?_
            rintro e w7 ⟨rfl, hb7⟩
            unfold tv
            have HBB := Lib.hid (HB.out.trans (hb7.mono HB.out.size))
            clear hb7
            by_cases htx : txt a = l
            · have hcmp : (txt a == l) = true := by rw [beq_iff_eq]; exact htx
              have HE : Hid (r = (a, 0)) := Lib.hid (by rw [HP.out, if_neg (by have := HQZ.out; simp; omega), if_pos htx])
              clear htx
              go_wp2_with fail
              go_ret2
              exact ⟨ret_two (by rw [HE.out]), HBB.out⟩
            · have hcmp : (txt a == l) = false := by rw [beq_eq_false_iff_ne]; exact htx
              have HE : Hid (r = (0, 6)) := Lib.hid (by rw [HP.out, if_neg (by have := HQZ.out; simp; omega), if_neg htx])
              clear htx
              go_wp2_with fail
              go_ret2
              exact ⟨ret_two (by rw [HE.out]), HBB.out⟩
    · obtain ⟨g, cap, rfl⟩ : ∃ g cap, v = .slice (some ⟨g, 0, none⟩) (r2.length + 3) cap := by
        rcases ho.shape with ⟨_, h⟩ | ⟨g, cap, h, _⟩
        · simp at h
        · exact ⟨g, cap, by rw [h]; simp⟩
      have hcl := hcc0 _ _ _ rfl
      clear ho hcc0 hq
      go_wp2_with fail
      refine (hV0.out _).mono ?_
      rintro e w2 ⟨rfl, rfl⟩
      have hn2 : (((r2.length : Int) + 3) == 2) = false := by simp; omega
      have hn3 : decide ((2 : Int) < (r2.length : Int) + 3) = true := by simp; omega
      go_wp2_with fail
      go_ret2
      exact ⟨ret_two (by rw [HP.out, if_pos (.inl (by simp))]), HB.out⟩
  · rw [if_neg hh] at hBODY hSIGN
    subst hSIGN
    subst hBODY
    obtain ⟨c0, l1, hl1⟩ : ∃ c0 l1, B = c0 :: l1 := by
      cases B with
      | nil => exact absurd rfl hnil
      | cons a t => exact ⟨a, t, rfl⟩
    have hc0 : ¬ (c0.toNat : Int) = 45 := fun e => hh (by rw [hl1, List.head?_cons]; congr 1; exact UInt8.toNat_inj.1 (by show c0.toNat = 45; omega))
    have hc02 : ((c0.toNat : Int) == 45) = false := by simpa using hc0
    have hix := fun w => indexL (l := B) (j := 0) (b := c0) (by rw [hl1]; rfl) w
    rw [show ((0 : Nat) : Int) = 0 from rfl] at hix
    have hlp : (0 : Int) < (B.length : Int) := by rw [hl1, List.length_cons]; omega
    have HS := Lib.hid hS
    clear hh hl1 hS hnil
    go_enter Tryd.func6, Tryd.ntmps6
    go_wp2_with fail
    refine (HS.out _).mono ?_
    rintro e w1 ⟨v, rfl, ho, hb⟩
    have HB := Lib.hid hb
    have hcc0 : ∀ g n cap, v = .slice (some ⟨g, 0, none⟩) n cap → w1.cell? ⟨g, 0, none⟩ = some (.string ⟨x0.toArray⟩) := fun g n cap h => by subst h; exact ho.cell (i := 0) (u := tv x0) (by simp)
    clear hix hc0 hc02 hb
    rcases r0 with _ | ⟨x1, _ | ⟨x2, r2⟩⟩
    · obtain ⟨g, cap, rfl⟩ : ∃ g cap, v = .slice (some ⟨g, 0, none⟩) (1) cap := by
        rcases ho.shape with ⟨_, h⟩ | ⟨g, cap, h, _⟩
        · simp at h
        · exact ⟨g, cap, by rw [h]; simp⟩
      have hcl := hcc0 _ _ _ rfl
      have hq1 : q = 1 := by rw [hq]; rfl
      subst hq1
      clear ho hcc0 hq
      go_wp2_with fail
      refine (hV0.out _).mono ?_
      rintro e w2 ⟨rfl, rfl⟩
      by_cases hp0 : p < 0
      · have hd : decide (p < 0) = true := by simpa using hp0
        go_wp2_with fail
        go_ret2
        exact ⟨ret_two (by rw [HP.out, if_pos (.inr (.inl hp0))]), HB.out⟩
      · have hd : decide (p < 0) = false := by simpa using hp0
        have hp1 : 0 ≤ p := by omega
        obtain ⟨y, hy⟩ : ∃ y : Int, y = (1 * (p % 55441)) % 55441 := ⟨_, rfl⟩
        obtain ⟨qm, hqm⟩ : ∃ qm : Int, qm = (1 : Int) % 55441 := ⟨_, rfl⟩
        have hqb : 0 ≤ qm ∧ qm < 55441 := by omega
        have hI : ∀ (X : Int) (w : World), X = qm → Calls Tryd.prog 19 #[.int .i64 X] w fun e w' => e = .returned (.int .i64 (iinv qm)) ∧ w = w' := fun X w h => by subst h; exact c_l01Inv _ w hqb.1 hqb.2
        have hM : ∀ (X : Int) (w : World), X % 55441 = y → Calls Tryd.prog 18 #[.int .i64 X] w fun e w' => e = .returned (.int .i64 y) ∧ w = w' := fun X w h => by rw [← h]; exact c_l01Mod X w
        have hzb := iinv_bd qm
        have hyb : 0 ≤ y ∧ y < 55441 := by omega
        have hAA := HA.out
        rw [← hy, ← hqm] at hAA
        clear HA
        have HY := Lib.hid hy
        have HQM := Lib.hid hqm
        clear hy hqm
        generalize iinv qm = z at *
        have hpr := prod_bd hyb.1 hyb.2 hzb.1 hzb.2
        have hw1 : IntKind.i64.wrap (y * z) = y * z := IntWalk.i64_in _ (by omega)
        have hw2 : (y * z).tmod 55441 = a := by rw [hAA]; exact Int.tmod_eq_emod_of_nonneg hpr.1
        have hw3 : IntKind.i64.wrap a = a := IntWalk.i64_in _ (by omega)
        have hw4 : IntKind.i64.wrap (p % 55441) = p % 55441 := IntWalk.i64_in _ (by omega)
        have hw5 : IntKind.i64.wrap (-(p % 55441)) = -(p % 55441) := IntWalk.i64_in _ (by omega)
        have hw6 : IntKind.i64.wrap (-1 * (p % 55441)) = -1 * (p % 55441) := IntWalk.i64_in _ (by omega)
        have hw7 : y * z % 55441 = a := hAA.symm
        clear hAA
        go_wp2_with fail
        refine (c_l01Mod 1 _).mono ?_
        rintro e w3 ⟨rfl, rfl⟩
        go_wp2_with fail
        refine (hM _ _ (by have := HY.out; omega)).mono ?_
        rintro e w4 ⟨rfl, rfl⟩
        go_wp2_with fail
        refine (c_l01Mod 1 _).mono ?_
        rintro e w5 ⟨rfl, rfl⟩
        go_wp2_with fail
        refine (hI _ _ (by first | rfl | (have := HQM.out; omega))).mono ?_
        rintro e w6 ⟨rfl, rfl⟩
        go_wp2_with fail
        refine (HT.out _).mono ?_
        rintro e w7 ⟨rfl, hb7⟩
        unfold tv
        have HBB := Lib.hid (HB.out.trans (hb7.mono HB.out.size))
        clear hb7
        by_cases htx : txt a = B
        · have hcmp : (txt a == B) = true := by rw [beq_iff_eq]; exact htx
          have HE : Hid (r = (a, 0)) := Lib.hid (by rw [HP.out, if_neg (by simp; omega), if_pos htx])
          clear htx
          go_wp2_with fail
          go_ret2
          exact ⟨ret_two (by rw [HE.out]), HBB.out⟩
        · have hcmp : (txt a == B) = false := by rw [beq_eq_false_iff_ne]; exact htx
          have HE : Hid (r = (0, 6)) := Lib.hid (by rw [HP.out, if_neg (by simp; omega), if_neg htx])
          clear htx
          go_wp2_with fail
          go_ret2
          exact ⟨ret_two (by rw [HE.out]), HBB.out⟩
    · obtain ⟨g, cap, rfl⟩ : ∃ g cap, v = .slice (some ⟨g, 0, none⟩) (2) cap := by
        rcases ho.shape with ⟨_, h⟩ | ⟨g, cap, h, _⟩
        · simp at h
        · exact ⟨g, cap, by rw [h]; simp⟩
      have hcl := hcc0 _ _ _ rfl
      have hcl1 : w1.cell? ⟨g, 1, none⟩ = some (.string ⟨x1.toArray⟩) := ho.cell (i := 1) (u := tv x1) (by simp)
      have hq1 : q = valueS x1 := by rw [hq]; rfl
      have hx1 : x1.length ≤ 4294967280 := by have := hlen x1 (by simp); omega
      have hb1 := valueS_bd x1
      have hV1 := Lib.hid (fun w1 => c_l01Value x1 w1 hx1)
      rw [← hq1] at hb1 hV1
      clear ho hcc0 hq hq1
      go_wp2_with fail
      refine (hV0.out _).mono ?_
      rintro e w2 ⟨rfl, rfl⟩
      go_wp2_with fail
      refine (hV1.out _).mono ?_
      rintro e w3 ⟨rfl, rfl⟩
      by_cases hp0 : p < 0
      · have hd : decide (p < 0) = true := by simpa using hp0
        go_wp2_with fail
        go_ret2
        exact ⟨ret_two (by rw [HP.out, if_pos (.inr (.inl hp0))]), HB.out⟩
      · have hd : decide (p < 0) = false := by simpa using hp0
        have hp1 : 0 ≤ p := by omega
        by_cases hq0 : q < 1
        · have hd2 : decide (q < 1) = true := by simpa using hq0
          go_wp2_with fail
          go_ret2
          exact ⟨ret_two (by rw [HP.out, if_pos (.inr (.inr (.inl hq0)))]), HB.out⟩
        · have hd2 : decide (q < 1) = false := by simpa using hq0
          by_cases hqz : q % 55441 = 0
          · have hM0 : ∀ w, Calls Tryd.prog 18 #[.int .i64 q] w fun e w' => e = .returned (.int .i64 0) ∧ w = w' := fun w => by rw [← hqz]; exact c_l01Mod q w
            have HQZ := Lib.hid hqz
            clear hqz
            go_wp2_with fail
            refine (hM0 _).mono ?_
            rintro e w4 ⟨rfl, rfl⟩
            go_wp2_with fail
            go_ret2
            exact ⟨ret_two (by rw [HP.out, if_pos (.inr (.inr (.inr HQZ.out)))]), HB.out⟩
          · have hqz2 : ((q % 55441) == 0) = false := by simpa using hqz
            have HQZ := Lib.hid hqz
            clear hqz
            obtain ⟨y, hy⟩ : ∃ y : Int, y = (1 * (p % 55441)) % 55441 := ⟨_, rfl⟩
            obtain ⟨qm, hqm⟩ : ∃ qm : Int, qm = (q : Int) % 55441 := ⟨_, rfl⟩
            have hqb : 0 ≤ qm ∧ qm < 55441 := by omega
            have hI : ∀ (X : Int) (w : World), X = qm → Calls Tryd.prog 19 #[.int .i64 X] w fun e w' => e = .returned (.int .i64 (iinv qm)) ∧ w = w' := fun X w h => by subst h; exact c_l01Inv _ w hqb.1 hqb.2
            have hM : ∀ (X : Int) (w : World), X % 55441 = y → Calls Tryd.prog 18 #[.int .i64 X] w fun e w' => e = .returned (.int .i64 y) ∧ w = w' := fun X w h => by rw [← h]; exact c_l01Mod X w
            have hzb := iinv_bd qm
            have hyb : 0 ≤ y ∧ y < 55441 := by omega
            have hAA := HA.out
            rw [← hy, ← hqm] at hAA
            clear HA
            have HY := Lib.hid hy
            have HQM := Lib.hid hqm
            clear hy hqm
            generalize iinv qm = z at *
            have hpr := prod_bd hyb.1 hyb.2 hzb.1 hzb.2
            have hw1 : IntKind.i64.wrap (y * z) = y * z := IntWalk.i64_in _ (by omega)
            have hw2 : (y * z).tmod 55441 = a := by rw [hAA]; exact Int.tmod_eq_emod_of_nonneg hpr.1
            have hw3 : IntKind.i64.wrap a = a := IntWalk.i64_in _ (by omega)
            have hw4 : IntKind.i64.wrap (p % 55441) = p % 55441 := IntWalk.i64_in _ (by omega)
            have hw5 : IntKind.i64.wrap (-(p % 55441)) = -(p % 55441) := IntWalk.i64_in _ (by omega)
            have hw6 : IntKind.i64.wrap (-1 * (p % 55441)) = -1 * (p % 55441) := IntWalk.i64_in _ (by omega)
            have hw7 : y * z % 55441 = a := hAA.symm
            clear hAA
            go_wp2_with fail
            refine (c_l01Mod q _).mono ?_
            rintro e w4 ⟨rfl, rfl⟩
            go_wp2_with fail
            refine (hM _ _ (by have := HY.out; omega)).mono ?_
            rintro e w4 ⟨rfl, rfl⟩
            go_wp2_with fail
            refine (c_l01Mod q _).mono ?_
            rintro e w5 ⟨rfl, rfl⟩
            go_wp2_with fail
            refine (hI _ _ (by first | rfl | (have := HQM.out; omega))).mono ?_
            rintro e w6 ⟨rfl, rfl⟩
            go_wp2_with fail
            refine (HT.out _).mono ?_
            rintro e w7 ⟨rfl, hb7⟩
            unfold tv
            have HBB := Lib.hid (HB.out.trans (hb7.mono HB.out.size))
            clear hb7
            by_cases htx : txt a = B
            · have hcmp : (txt a == B) = true := by rw [beq_iff_eq]; exact htx
              have HE : Hid (r = (a, 0)) := Lib.hid (by rw [HP.out, if_neg (by have := HQZ.out; simp; omega), if_pos htx])
              clear htx
              go_wp2_with fail
              go_ret2
              exact ⟨ret_two (by rw [HE.out]), HBB.out⟩
            · have hcmp : (txt a == B) = false := by rw [beq_eq_false_iff_ne]; exact htx
              have HE : Hid (r = (0, 6)) := Lib.hid (by rw [HP.out, if_neg (by have := HQZ.out; simp; omega), if_neg htx])
              clear htx
              go_wp2_with fail
              go_ret2
              exact ⟨ret_two (by rw [HE.out]), HBB.out⟩
    · obtain ⟨g, cap, rfl⟩ : ∃ g cap, v = .slice (some ⟨g, 0, none⟩) (r2.length + 3) cap := by
        rcases ho.shape with ⟨_, h⟩ | ⟨g, cap, h, _⟩
        · simp at h
        · exact ⟨g, cap, by rw [h]; simp⟩
      have hcl := hcc0 _ _ _ rfl
      clear ho hcc0 hq
      go_wp2_with fail
      refine (hV0.out _).mono ?_
      rintro e w2 ⟨rfl, rfl⟩
      have hn2 : (((r2.length : Int) + 3) == 2) = false := by simp; omega
      have hn3 : decide ((2 : Int) < (r2.length : Int) + 3) = true := by simp; omega
      go_wp2_with fail
      go_ret2
      exact ⟨ret_two (by rw [HP.out, if_pos (.inl (by simp))]), HB.out⟩
set_option maxHeartbeats 2000000 in
theorem w_FnExactParseNumber (s : ByteArray) (w : World) (hs : s.size ≤ maxLen) (ht : LaidW w) :
    Calls Tryd.prog 3 #[.string s] w fun e w' => e = .returned (.bool true) ∧ Below w.heap.size w w' := by
  have hs' : s.size ≤ 9223372036854775807 := by unfold maxLen at hs; omega
  clear hs
  have HT := Lib.hid ht
  clear ht
  by_cases h : s.size ≤ 1048576
  · have hl : s.data.toList.length ≤ 4294967280 := by rw [Array.length_toList]; exact Nat.le_trans h (by decide)
    have h1 := Lib.hid (fun w1 => c_SParseNumber s.data.toList w1 hl)
    have h2 := Lib.hid (fun w1 hw => c_ParseNumber s.data.toList w1 hl hw)
    rw [parse_same] at h1
    generalize parseN s.data.toList = r at *
    obtain ⟨a, c⟩ := r
    go_enter Tryd.func3, Tryd.ntmps3
    go_wp2_with fail
    refine (h1.out _).mono ?_
    rintro e w1 ⟨rfl, hb1⟩
    unfold two
    go_wp2_with fail
    refine (h2.out _ (HT.out.keep hb1)).mono ?_
    rintro e w2 ⟨rfl, hb2⟩
    unfold two
    go_wp2_with fail
    go_ret
    exact ⟨rfl, hb1.trans (hb2.mono hb1.size)⟩
  · go_enter Tryd.func3, Tryd.ntmps3
    go_wp2_with fail
    go_ret
    exact ⟨rfl, Below.refl _ _⟩
end Go.Proofs.YtcgmbpkichfalaaDoor
