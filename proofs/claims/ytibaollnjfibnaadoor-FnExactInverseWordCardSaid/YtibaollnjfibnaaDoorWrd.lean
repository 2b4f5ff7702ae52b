/- Words: the walks of program and reference. -/
import Derived.Test.YtibaollnjfibnaaDoorWpl
import Derived.Test.YtibaollnjfibnaaDoorByt
import Derived.Test.YtibaollnjfibnaaDoorShf
import Derived.Deep.RegionWith
import Derived.Deep.RegionLaw
import Derived.BigRegion
namespace Go.Proofs.YtibaollnjfibnaaDoor
open Go.RowKit Wrd

theorem cutset_ascii : ∀ (j : Nat) b, (⟨#[115, 116, 83, 84]⟩ : ByteArray).data.toList[j]? = some b → b.toNat < 128 := ascii_of_all (by decide)
theorem c_Trim (s : ByteArray) (w : World) (hs : s.size ≤ 9223372036854775807) :
    Calls Tryd.prog 13 #[.string s, .string ⟨#[115, 116, 83, 84]⟩] w fun e w' => e = .returned (.string ⟨(Lib.trimS s.data.toList [115, 116, 83, 84]).toArray⟩) ∧ Below w.heap.size w w' :=
  Any.strings_Trim_laid Tryd.lays160 (by kernel_rfl) s ⟨#[115, 116, 83, 84]⟩ w hs (by decide) cutset_ascii
theorem trim_isEmpty (s : ByteArray) : (Lib.trimS s.data.toList [115, 116, 83, 84]).isEmpty = s.data.toList.all isL := by
  rw [Bool.eq_iff_iff, List.isEmpty_iff]
  exact trim_word s
set_option maxHeartbeats 1000000 in
theorem c_IsWord (s : ByteArray) (w : World) (hs : s.size ≤ maxLen) :
    Calls Tryd.prog 7 #[.string s] w fun e w' => e = .returned (.bool (wordB s)) ∧ Below w.heap.size w w' := by
  have hT := c_Trim s w (by unfold maxLen at hs; omega)
  by_cases h60 : s.size ≤ 60
  · go_enter Tryd.func7, Tryd.ntmps7
    go_wp2_with fail
    refine hT.mono ?_
    rintro e w1 ⟨rfl, hb⟩
    go_wp2_with fail
    go_ret
    exact ⟨ret_bool (by rw [trim_isEmpty]; unfold wordB; simp [h60]), hb⟩
  · go_enter Tryd.func7, Tryd.ntmps7
    go_wp2_with fail
    go_ret
    exact ⟨ret_bool (by unfold wordB; simp [h60]), Below.refl _ _⟩
theorem isL_int {b : UInt8} : isL b = true ↔ ((b.toNat : Int) = 115 ∨ (b.toNat : Int) = 116 ∨ (b.toNat : Int) = 83 ∨ (b.toNat : Int) = 84) := by
  constructor
  · intro h
    rcases isL_cases h with rfl | rfl | rfl | rfl <;> decide
  · intro h
    have e : ∀ n : Nat, (b.toNat : Int) = n → n < 256 → b = UInt8.ofNat n := fun n h1 h2 => by
      apply UInt8.toNat_inj.1
      rw [UInt8.toNat_ofNat']
      omega
    rcases h with h | h | h | h
    · rw [e 115 h (by omega)]; decide
    · rw [e 116 h (by omega)]; decide
    · rw [e 83 h (by omega)]; decide
    · rw [e 84 h (by omega)]; decide
theorem bytes_len (s : ByteArray) : s.data.toList.length = s.size := Array.length_toList
/-- s[i] -/
theorem index_at {s : ByteArray} {j : Nat} {b : UInt8} (h : s.data.toList[j]? = some b) (w : World) : (Instr.index 9 (.string s) (.int .i64 (j : Int))).run Tryd.prog w = .ok (.int .u8 (b.toNat : Int)) w := by
  obtain ⟨hi, hb⟩ := List.getElem?_eq_some_iff.1 h
  have hj : j < s.size := bytes_len s ▸ hi
  rw [run_index_string _ _ _ _ _ Tryd.underlying9, dif_pos ⟨by omega, by omega⟩]
  have e2 : s.data[j]'hj = b := by rw [← hb, Array.getElem_toList]
  congr 3
  show (s.data[j]'hj).toNat = b.toNat
  rw [e2]
set_option maxHeartbeats 2000000 in
theorem c_l16Is (s : ByteArray) (w : World) (hs : s.size ≤ maxLen) :
    Calls Tryd.prog 12 #[.string s] w fun e w' => e = .returned (.bool (wordB s)) ∧ w = w' := by
  unfold maxLen at hs
  have HL := Lib.hid (bytes_len s)
  go_enter Tryd.func12, Tryd.ntmps12
  go_wp2_with fail
  go_loopw [3] (fun i wr => ∃ j : Nat, j ≤ s.size ∧ i = .int .i64 j ∧ Hid (∀ (k : Nat) b, k < j → s.data.toList[k]? = some b → isL b = true) ∧ w = wr) (fun i _ => s.size - (intOf i).toNat)
  case atStart => exact ⟨0, Nat.zero_le _, rfl, Lib.hid (fun k b h => absurd h (Nat.not_lt_zero _)), rfl⟩
  case round =>
    obtain ⟨j, hj, rfl, H, rfl⟩ := hrel
    by_cases hlt : j < s.size
    · obtain ⟨b, hb⟩ : ∃ b, s.data.toList[j]? = some b := ⟨s.data.toList[j]'(by rw [HL.out]; exact hlt), by simp⟩
      have hx := index_at hb
      have HB := Lib.hid hb
      have HN := Lib.hid (isL_int (b := b))
      clear hb
      generalize hxx : (b.toNat : Int) = x at *
      by_cases h1 : x = 115 ∨ x = 116 ∨ x = 83 ∨ x = 84
      · have HS : Hid (∀ (k : Nat) b, k < j + 1 → s.data.toList[k]? = some b → isL b = true) := Lib.hid (fun k b' hk hb' => by
          by_cases e : k = j
          · subst e; rw [HB.out] at hb'; cases hb'; exact HN.out.2 h1
          · exact H.out k b' (by omega) hb')
        clear hxx HN HB
        rcases h1 with rfl | rfl | rfl | rfl
        all_goals
          go_wp2_with fail
          go_roundw
          case rel => exact ⟨j + 1, by omega, by go_num, HS, trivial⟩
          case measure => simp [intOf]; omega
      · have HW : Hid (wordB s = false) := Lib.hid (by
          unfold wordB
          rw [Bool.and_eq_false_iff]
          right
          rw [Bool.eq_false_iff]
          intro h
          exact h1 (HN.out.1 (List.all_eq_true.1 h b (List.mem_of_getElem? HB.out))))
        have h2 : ¬ x = 115 := fun e => h1 (.inl e)
        have h3 : ¬ x = 116 := fun e => h1 (.inr (.inl e))
        have h4 : ¬ x = 83 := fun e => h1 (.inr (.inr (.inl e)))
        have h5 : ¬ x = 84 := fun e => h1 (.inr (.inr (.inr e)))
        clear hxx HN HB h1
        go_wp2_with fail
        go_ret
        exact ⟨ret_bool HW.out.symm, rfl⟩
    · have HW : Hid (wordB s = decide ((s.size : Int) ≤ 60)) := Lib.hid (by
        have ha : s.data.toList.all isL = true := List.all_eq_true.2 (fun b hb => by
          obtain ⟨k, hk⟩ := List.getElem?_of_mem hb
          have := (List.getElem?_eq_some_iff.1 hk).1
          rw [HL.out] at this
          exact H.out k b (by omega) hk)
        unfold wordB
        rw [ha, Bool.and_true]
        congr 1
        simp only [eq_iff_iff]
        omega)
      go_wp2_with fail
      go_ret
      exact ⟨ret_bool (by rw [HW.out]), rfl⟩
theorem c_SIsWord (s : ByteArray) (w : World) (hs : s.size ≤ maxLen) :
    Calls Tryd.prog 6 #[.string s] w fun e w' => e = .returned (.bool (wordB s)) ∧ w = w' := by
  go_enter Tryd.func6, Tryd.ntmps6
  go_wp2_with fail
  refine (c_l16Is s _ hs).mono ?_
  rintro e w1 ⟨rfl, rfl⟩
  go_wp2_with fail
  go_ret
  exact ⟨rfl, rfl⟩
theorem c_inverseLetter (b : UInt8) (w : World) (hb : isL b = true) :
    Calls Tryd.prog 15 #[.int .u8 (b.toNat : Int)] w fun e w' => e = .returned (.int .u8 ((oth b).toNat : Int)) ∧ w' = w := by
  have key : ∀ (c : Int) (k : Int) (d : Int), Lib.indexByte [115, 116, 83, 84] c.toNat.toUInt8 = k → 0 ≤ k → k < 4 → ((Instr.index 9 (.string ⟨#[83, 84, 115, 116]⟩) (.int .i64 k)).run Tryd.prog w = .ok (.int .u8 d) w) →
      Calls Tryd.prog 15 #[.int .u8 c] w fun e w' => e = .returned (.int .u8 d) ∧ w' = w := by
    intro c k d hk h1 h2 hi
    go_enter Tryd.func15, Tryd.ntmps15
    go_wp2_with fail
    refine (Any.strings_IndexByte Tryd.lays137 ⟨#[115, 116, 83, 84]⟩ c _).mono ?_
    rintro e w1 ⟨rfl, rfl⟩
    rw [show Lib.indexByte (⟨#[115, 116, 83, 84]⟩ : ByteArray).data.toList c.toNat.toUInt8 = k from hk]
    go_wp2_with fail
    go_ret
    exact ⟨rfl, rfl⟩
  rcases isL_cases hb with rfl | rfl | rfl | rfl
  · exact key 115 0 83 (by decide) (by omega) (by omega) (index_at (j := 0) (b := 83) rfl w)
  · exact key 116 1 84 (by decide) (by omega) (by omega) (index_at (j := 1) (b := 84) rfl w)
  · exact key 83 2 115 (by decide) (by omega) (by omega) (index_at (j := 2) (b := 115) rfl w)
  · exact key 84 3 116 (by decide) (by omega) (by omega) (index_at (j := 3) (b := 116) rfl w)
theorem c_l16Other (b : UInt8) (w : World) (hb : isL b = true) :
    Calls Tryd.prog 14 #[.int .u8 (b.toNat : Int)] w fun e w' => e = .returned (.int .u8 ((oth b).toNat : Int)) ∧ w' = w := by
  rcases isL_cases hb with rfl | rfl | rfl | rfl
  all_goals
    go_enter Tryd.func14, Tryd.ntmps14
    go_wp2_with fail
    go_ret
    exact ⟨rfl, rfl⟩
/-- a text and an error code -/
def twoT (r : List UInt8 × Int) : Value := .tuple #[.string ⟨r.1.toArray⟩, .int .i64 r.2]
def redW (s : ByteArray) : List UInt8 × Int := if wordB s = true then (redL s.data.toList, 0) else ([], 6)
def invW (s : ByteArray) : List UInt8 × Int := if wordB s = true then (invL s.data.toList, 0) else ([], 6)
theorem word_len {s : ByteArray} (h : wordB s = true) : s.size ≤ 60 ∧ ∀ (j : Nat) b, s.data.toList[j]? = some b → isL b = true := by
  unfold wordB at h
  simp only [Bool.and_eq_true, decide_eq_true_iff] at h
  exact ⟨h.1, fun j b hb => List.all_eq_true.1 h.2 b (List.mem_of_getElem? hb)⟩
theorem two_empty : (⟨#[]⟩ : ByteArray) = ⟨([] : List UInt8).toArray⟩ := rfl
theorem isL_red {l : List UInt8} {k : Nat} (h : ∀ (j : Nat) b, l[j]? = some b → isL b = true) : ∀ b ∈ (l.take k).foldl redStep [], isL b = true := by
  have key : ∀ (xs out : List UInt8), (∀ b ∈ xs, isL b = true) → (∀ b ∈ out, isL b = true) → ∀ b ∈ xs.foldl redStep out, isL b = true := by
    intro xs
    induction xs with
    | nil => intro out _ h; exact h
    | cons a xs ih => intro out h1 h2; exact ih _ (fun b hb => h1 b (by simp [hb])) (redStep_mem h2 (h1 a (by simp)))
  refine key _ _ (fun b hb => ?_) (by simp)
  obtain ⟨j, hj⟩ := List.getElem?_of_mem (List.mem_of_mem_take hb)
  exact h j b hj
theorem info_u8s : True := trivial
set_option maxHeartbeats 4000000 in
set_option maxRecDepth 100000 in
theorem c_SReduceWord (s : ByteArray) (w : World) (hs : s.size ≤ maxLen) :
    Calls Tryd.prog 8 #[.string s] w fun e w' => e = .returned (twoT (redW s)) ∧ Below w.heap.size w w' := by
  cases hw : wordB s
  · go_enter Tryd.func8, Tryd.ntmps8
    go_wp2_with fail
    refine (c_l16Is s _ hs).mono ?_
    rw [hw]
    rintro e w1 ⟨rfl, rfl⟩
    go_wp2_with fail
    go_ret2
    exact ⟨by unfold redW; rw [hw]; rfl, Below.refl _ _⟩
  · obtain ⟨h60, hL⟩ := word_len hw
    have HL := Lib.hid hL
    have HW := Lib.hid hw
    have HZ := Lib.hid (bytes_len s)
    clear hL hw
    go_enter Tryd.func8, Tryd.ntmps8
    go_wp2_with fail
    refine (c_l16Is s _ hs).mono ?_
    rw [HW.out]
    rintro e w1 ⟨rfl, rfl⟩
    go_wp2_with fail
    have hown0 : OwnB (w.alloc (.cells #[] 5)) w.heap.size (.slice (some ⟨w.heap.size, 0, none⟩) 0 0) (((s.data.toList.take 0).foldl redStep [])) := by
      have h := Own.lit (B := w.heap.size) w 5 [] (Nat.le_refl _) (by simp)
      exact h
    go_loopw [4, 5] (fun o i wr => ∃ j : Nat, j ≤ s.size ∧ i = .int .i64 j ∧ OwnB wr w.heap.size o ((s.data.toList.take j).foldl redStep []) ∧ Below w.heap.size w wr) (fun o i _ => s.size - (intOf i).toNat)
    case atStart => exact ⟨0, Nat.zero_le _, rfl, hown0, below_alloc _ _⟩
    case round =>
      obtain ⟨j, hj, rfl, hown, hbel⟩ := hrel
      by_cases hlt : j < s.size
      · obtain ⟨b, hb⟩ : ∃ b, s.data.toList[j]? = some b := ⟨s.data.toList[j]'(by rw [HZ.out]; exact hlt), by simp⟩
        have hx := index_at hb
        have hbL := HL.out j b hb
        have HST := Lib.hid (foldl_take_succ s.data.toList j b hb)
        obtain ⟨l, hl⟩ : ∃ l, l = (s.data.toList.take j).foldl redStep [] := ⟨_, rfl⟩
        have hll : l.length ≤ 60 := by
          have := fold_len (s.data.toList.take j) []
          rw [← hl, List.length_take] at this
          simp at this
          omega
        rw [← hl] at hown HST
        have HO : Hid (∀ w1, Calls Tryd.prog 14 #[.int .u8 (b.toNat : Int)] w1 fun e w' => e = .returned (.int .u8 ((oth b).toNat : Int)) ∧ w' = w1) := Lib.hid (fun w1 => c_l16Other b w1 hbL)
        have HOW := Lib.hid hown
        have HB := Lib.hid hbel
        clear hb hl
        cases hlast : l.getLast? with
        | none =>
          have hl0 : l = [] := List.getLast?_eq_none_iff.1 hlast
          subst hl0
          obtain ⟨p, n, c, rfl⟩ := hown.slice
          have hn : n = 0 := by
            rcases hown.shape with ⟨h1, _⟩ | ⟨g, cap, h1, _⟩
            · cases h1; rfl
            · cases h1; rfl
          subst hn
          have HS : Hid (redStep [] b = [] ++ [b]) := Lib.hid (by unfold redStep; simp)
          clear hown hbel hlast
          go_wp2_with fail
          go_quiet (fail)
          refine gen_worldB (fun wz hwz => ?_)
          have HOz : Hid (OwnB wz w.heap.size (.slice p 0 c) []) := Lib.hid (by rw [hwz]; exact HOW.out.drewN _)
          have HBz : Hid (Below w.heap.size w wz) := Lib.hid (by rw [hwz]; exact below_drewN HB.out _)
          have hsz : w.heap.size ≤ wz.heap.size := HBz.out.size
          clear hwz
          go_wp2_with (at_builtin; refine wp_pushB (gx := wz.heap.size) (y := b) HOz.out rfl (.tmp 37) (.tmp 41) rfl rfl rfl rfl hsz (by simp) ?_; intro v' w4 ho4 hb4 _; obtain ⟨p4, n4, c4, rfl⟩ := ho4.slice)
          have HO4 := Lib.hid ho4
          have HB4 := Lib.hid (HBz.out.trans hb4)
          clear ho4 hb4
          go_roundw
          case rel => exact ⟨j + 1, by omega, by go_num, by rw [HST.out, HS.out]; exact HO4.out, HB4.out⟩
          case measure => simp [intOf]; omega
        | some x =>
          obtain ⟨m, hm⟩ : ∃ m, l.length = m + 1 := ⟨l.length - 1, by
            have : l ≠ [] := fun e => by subst e; simp at hlast
            have := List.length_pos_iff.2 this
            omega⟩
          obtain ⟨g, cap, hov, hg, hglt, hcap⟩ : ∃ g cap, _ = Value.slice (some ⟨g, 0, none⟩) (m + 1) cap ∧ w.heap.size ≤ g ∧ g < wr.heap.size ∧ m + 1 ≤ cap := by
            rcases hown.shape with ⟨_, h1⟩ | ⟨g, cap, h1, h2, h3, h4⟩
            · simp at h1
              subst h1
              simp at hm
            · rw [List.length_map, hm] at h1 h4
              exact ⟨g, cap, h1, h2, h3, h4⟩
          subst hov
          have hxm : l[m]? = some x := by
            rw [List.getLast?_eq_getElem?, hm] at hlast
            simpa using hlast
          have hcell := hown.cell (i := m) (u := vb x) (by rw [List.getElem?_map, hxm]; rfl)
          have HM := Lib.hid hm
          clear hown hbel hxm hm
          by_cases hxo : x = oth b
          · have HS : Hid (redStep l b = l.take m) := Lib.hid (by unfold redStep; rw [if_pos (by rw [hlast, hxo]), List.dropLast_eq_take, HM.out]; rfl)
            subst hxo
            clear hlast
            have hm60 : m < 60 := by have := HM.out; omega
            have hA : IntKind.i64.wrap (m : Int) = m := IntWalk.i64_in _ (by omega)
            have hA2 : IntKind.i64.wrap ((m : Int) + 1 - 1) = m := by rw [show (m : Int) + 1 - 1 = m from by omega]; exact hA
            go_wp2_with fail
            go_quiet ((go_at_call 14; exact Calls.quiet_of_same (HO.out _)))
            refine gen_worldB (fun wz hwz => ?_)
            have HOz : Hid (OwnB wz w.heap.size (.slice (some ⟨g, 0, none⟩) m cap) (l.take m)) := Lib.hid (by
              rw [hwz]
              have h := Own.first (m := m) HOW.out (by rw [List.length_map, HM.out]; omega)
              rw [← List.map_take] at h
              exact Own.drewN h _)
            have HBz : Hid (Below w.heap.size w wz) := Lib.hid (by rw [hwz]; exact below_drewN HB.out _)
            clear hwz
            go_wp2_with fail
            go_roundw
            case rel => exact ⟨j + 1, by omega, by go_num, by rw [HST.out, HS.out]; exact HOz.out, HBz.out⟩
            case measure => simp [intOf]; omega
          · have HS : Hid (redStep l b = l ++ [b]) := Lib.hid (by unfold redStep; rw [if_neg (by rw [hlast]; simpa using hxo)])
            clear hlast
            have hm60 : m < 60 := by have := HM.out; omega
            have hA : IntKind.i64.wrap (m : Int) = m := IntWalk.i64_in _ (by omega)
            have hA2 : IntKind.i64.wrap ((m : Int) + 1 - 1) = m := by rw [show (m : Int) + 1 - 1 = m from by omega]; exact hA
            have hne : ¬ (x.toNat : Int) = ((oth b).toNat : Int) := fun e => hxo (UInt8.toNat_inj.1 (by omega))
            have hne2 : ((x.toNat : Int) == ((oth b).toNat : Int)) = false := by simpa using hne
            clear hxo
            generalize ((oth b).toNat : Int) = y at *
            go_wp2_with fail
            go_quiet ((go_at_call 14; exact Calls.quiet_of_same (HO.out _)))
            refine gen_worldB (fun wz hwz => ?_)
            have HOz : Hid (OwnB wz w.heap.size (.slice (some ⟨g, 0, none⟩) (m + 1) cap) l) := Lib.hid (by rw [hwz]; exact HOW.out.drewN _)
            have HBz : Hid (Below w.heap.size w wz) := Lib.hid (by rw [hwz]; exact below_drewN HB.out _)
            have hsz : w.heap.size ≤ wz.heap.size := HBz.out.size
            clear hwz
            go_wp2_with (at_builtin; refine wp_pushB (gx := wz.heap.size) (y := b) HOz.out rfl (.tmp 37) (.tmp 41) rfl rfl rfl rfl hsz (by rw [HM.out]; omega) ?_; intro v' w4 ho4 hb4 _; obtain ⟨p4, n4, c4, rfl⟩ := ho4.slice)
            have HO4 := Lib.hid ho4
            have HB4 := Lib.hid (HBz.out.trans hb4)
            clear ho4 hb4
            go_roundw
            case rel => exact ⟨j + 1, by omega, by go_num, by rw [HST.out, HS.out]; exact HO4.out, HB4.out⟩
            case measure => simp [intOf]; omega
      · obtain rfl : j = s.size := by omega
        have hfull : s.data.toList.take s.size = s.data.toList := by rw [← HZ.out, List.take_length]
        have htx := hown.text
        have HB := Lib.hid hbel
        have HF : Hid (redW s = ((s.data.toList.take s.size).foldl redStep [], 0)) := Lib.hid (by unfold redW redL; rw [HW.out, hfull]; rfl)
        clear hown hbel hfull
        go_wp2_with fail
        go_ret2
        exact ⟨by rw [HF.out]; rfl, HB.out⟩
set_option maxHeartbeats 4000000 in
set_option maxRecDepth 100000 in
theorem c_SInverseWord (s : ByteArray) (w : World) (hs : s.size ≤ maxLen) :
    Calls Tryd.prog 10 #[.string s] w fun e w' => e = .returned (twoT (invW s)) ∧ Below w.heap.size w w' := by
  cases hw : wordB s
  · go_enter Tryd.func10, Tryd.ntmps10
    go_wp2_with fail
    refine (c_l16Is s _ hs).mono ?_
    rw [hw]
    rintro e w1 ⟨rfl, rfl⟩
    go_wp2_with fail
    go_ret2
    exact ⟨by unfold invW; rw [hw]; rfl, Below.refl _ _⟩
  · obtain ⟨h60, hL⟩ := word_len hw
    have HL := Lib.hid hL
    have HW := Lib.hid hw
    have HZ := Lib.hid (bytes_len s)
    have hA0 : IntKind.i64.wrap ((s.size : Int) - 1) = (s.size : Int) - 1 := IntWalk.i64_in _ (by omega)
    clear hL hw
    go_enter Tryd.func10, Tryd.ntmps10
    go_wp2_with fail
    refine (c_l16Is s _ hs).mono ?_
    rw [HW.out]
    rintro e w1 ⟨rfl, rfl⟩
    go_wp2_with fail
    have hown0 : OwnB (w.alloc (.cells #[] 5)) w.heap.size (.slice (some ⟨w.heap.size, 0, none⟩) 0 0) ((s.data.toList.drop s.size).reverse.map oth) := by
      have h := Own.lit (B := w.heap.size) w 5 [] (Nat.le_refl _) (by simp)
      rw [List.drop_eq_nil_of_le (by rw [HZ.out]; exact Nat.le_refl _)]
      exact h
    clear hA0
    go_loopw [4, 5] (fun o i wr => ∃ m : Nat, m ≤ s.size ∧ i = .int .i64 ((m : Int) - 1) ∧ OwnB wr w.heap.size o ((s.data.toList.drop m).reverse.map oth) ∧ Below w.heap.size w wr) (fun o i _ => (intOf i + 1).toNat)
    case atStart => exact ⟨s.size, Nat.le_refl _, rfl, hown0, below_alloc _ _⟩
    case round =>
      obtain ⟨m, hm, rfl, hown, hbel⟩ := hrel
      cases m with
      | zero =>
        have htx := hown.text
        have HB := Lib.hid hbel
        have HF : Hid (invW s = ((s.data.toList.map oth).reverse, 0)) := Lib.hid (by unfold invW invL; rw [HW.out, List.map_reverse]; rfl)
        clear hown hbel
        rw [show ((0 : Nat) : Int) - 1 = -1 from rfl]
        go_wp2_with fail
        go_ret2
        exact ⟨by rw [HF.out]; rfl, HB.out⟩
      | succ m =>
        have e1 : (((m + 1 : Nat) : Int) - 1) = (m : Int) := by omega
        rw [e1]
        obtain ⟨b, hb⟩ : ∃ b, s.data.toList[m]? = some b := ⟨s.data.toList[m]'(by rw [HZ.out]; omega), by simp⟩
        have hx := index_at hb
        have hbL := HL.out m b hb
        have HS : Hid ((s.data.toList.drop m).reverse.map oth = (s.data.toList.drop (m + 1)).reverse.map oth ++ [oth b]) := Lib.hid (by
          have hd : s.data.toList.drop m = b :: s.data.toList.drop (m + 1) := by
            obtain ⟨h1, h2⟩ := List.getElem?_eq_some_iff.1 hb
            rw [← h2]; exact List.drop_eq_getElem_cons h1
          rw [hd]; simp)
        have hll : ((s.data.toList.drop (m + 1)).reverse.map oth).length ≤ 60 := by rw [List.length_map, List.length_reverse, List.length_drop, HZ.out]; omega
        have hA : IntKind.i64.wrap ((m : Int) - 1) = (m : Int) - 1 := IntWalk.i64_in _ (by omega)
        have HO := Lib.hid hown
        have HB := Lib.hid hbel
        have HLL := Lib.hid hll
        have HM := Lib.hid hm
        have hml : m < s.size := by omega
        obtain ⟨p, n, c, rfl⟩ := hown.slice
        clear hown hbel hb hll hm e1
        go_wp2_with fail
        refine (c_l16Other b _ hbL).mono ?_
        rintro e w1 ⟨rfl, rfl⟩
        have hsz : w.heap.size ≤ w1.heap.size := HB.out.size
        go_wp2_with (at_builtin; refine wp_pushB (gx := w1.heap.size) (y := oth b) HO.out rfl (.tmp 17) (.tmp 22) rfl rfl rfl rfl hsz (Nat.le_trans HLL.out (by omega)) ?_; intro v' w4 ho4 hb4 _; obtain ⟨p4, n4, c4, rfl⟩ := ho4.slice)
        have HO4 := Lib.hid ho4
        have HB4 := Lib.hid (HB.out.trans hb4)
        clear ho4 hb4
        go_roundw
        case rel => exact ⟨m, by omega, rfl, by rw [HS.out]; exact HO4.out, HB4.out⟩
        case measure => simp [intOf]
end Go.Proofs.YtibaollnjfibnaaDoor
