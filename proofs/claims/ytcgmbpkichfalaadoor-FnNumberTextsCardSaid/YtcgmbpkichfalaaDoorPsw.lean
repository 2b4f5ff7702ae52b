/- Texts of numbers: the reference's reader. -/
import Derived.Test.YtcgmbpkichfalaaDoorPnw
namespace Go.Proofs.YtcgmbpkichfalaaDoor
open Go.RowKit Txt
theorem indexL {l : List UInt8} {j : Nat} {b : UInt8} (h : l[j]? = some b) (w : World) : (Instr.index 9 (.string ⟨l.toArray⟩) (.int .i64 (j : Int))).run Tryd.prog w = .ok (.int .u8 (b.toNat : Int)) w := by
  obtain ⟨hi, hb⟩ := List.getElem?_eq_some_iff.1 h
  have hj : j < (⟨l.toArray⟩ : ByteArray).size := by show j < l.toArray.size; simpa using hi
  rw [run_index_string _ _ _ _ _ Tryd.underlying9, dif_pos ⟨by omega, by omega⟩]
  have e2 : l.toArray[j]'hj = b := by simpa using hb
  congr 3
  show (l.toArray[j]'hj).toNat = b.toNat
  rw [e2]
theorem valD_lt (l : List UInt8) : ∀ acc, (∀ b ∈ l, 48 ≤ b.toNat ∧ b.toNat ≤ 57) → valD acc l < (acc + 1) * 10 ^ l.length := by
  induction l with
  | nil => intro acc _; simp [valD]
  | cons c l ih =>
    intro acc h
    have hc := h c (by simp)
    have h1 := ih (acc * 10 + (c.toNat - 48)) (fun b hb => h b (by simp [hb]))
    have h2 : (acc * 10 + (c.toNat - 48) + 1) * 10 ^ l.length ≤ (acc * 10 + 10) * 10 ^ l.length := Nat.mul_le_mul_right _ (by omega)
    have h3 : (acc + 1) * 10 ^ (c :: l).length = (acc * 10 + 10) * 10 ^ l.length := by
      rw [List.length_cons, Nat.pow_succ]
      have : (acc * 10 + 10) = (acc + 1) * 10 := by omega
      rw [this, Nat.mul_assoc, Nat.mul_comm 10]
    have h4 : valD acc (c :: l) = valD (acc * 10 + (c.toNat - 48)) l := rfl
    omega
theorem valD_small (l : List UInt8) (h : ∀ b ∈ l, 48 ≤ b.toNat ∧ b.toNat ≤ 57) (hl : l.length ≤ 8) : valD 0 l < 100000000 := by
  have h1 := valD_lt l 0 h
  have h2 : 10 ^ l.length ≤ 10 ^ 8 := Nat.pow_le_pow_right (by omega) hl
  omega
theorem valueS_bd (l : List UInt8) : -1 ≤ valueS l ∧ valueS l < 1000000000 := by
  unfold valueS
  split
  · omega
  · rename_i h
    split
    · rename_i h2
      have h3 : ∀ b ∈ l, 48 ≤ b.toNat ∧ b.toNat ≤ 57 := fun b hb => by
        have := List.all_eq_true.1 h2 b hb
        simpa using this
      have h1 := valD_lt l 0 h3
      have h4 : l.length ≤ 9 := by
        by_cases hx : 9 < l.length
        · exact absurd (.inr (.inl hx)) h
        · omega
      have h5 : 10 ^ l.length ≤ 10 ^ 9 := Nat.pow_le_pow_right (by omega) h4
      omega
    · omega
set_option maxHeartbeats 4000000 in
theorem c_l01Value (l : List UInt8) (w : World) (hl : l.length ≤ 4294967280) :
    Calls Tryd.prog 17 #[.string ⟨l.toArray⟩] w fun e w' => e = .returned (.int .i64 (valueS l)) ∧ w = w' := by
  have hsz : (⟨l.toArray⟩ : ByteArray).size = l.length := List.size_toArray
  by_cases h0 : l = []
  · have HV : Hid (valueS l = -1) := Lib.hid (by unfold valueS; rw [if_pos (.inl h0)])
    subst h0
    go_enter Tryd.func17, Tryd.ntmps17
    go_wp2_with fail
    go_ret
    exact ⟨ret_int HV.out.symm, rfl⟩
  by_cases h9 : 9 < l.length
  · have HV : Hid (valueS l = -1) := Lib.hid (by unfold valueS; rw [if_pos (.inr (.inl h9))])
    have hn : ¬ (l.length : Int) = 0 := by omega
    go_enter Tryd.func17, Tryd.ntmps17
    go_wp2_with fail
    go_ret
    exact ⟨ret_int HV.out.symm, rfl⟩
  obtain ⟨c0, hc0⟩ : ∃ c, l[0]? = some c := ⟨l[0]'(List.length_pos_iff.2 h0), by simp⟩
  have hx0 : ∀ w, (Instr.index 9 (.string ⟨l.toArray⟩) (.int .i64 0)).run Tryd.prog w = .ok (.int .u8 (c0.toNat : Int)) w := fun w => indexL (j := 0) hc0 w
  have hpos : 0 < l.length := List.length_pos_iff.2 h0
  have hnz : ((l.length : Int) == 0) = false := by simp; omega
  have hn9 : decide (9 < (l.length : Int)) = false := by simp; omega
  have HX0 := Lib.hid hc0
  by_cases hlead : 1 < l.length ∧ c0 = 48
  · have HV : Hid (valueS l = -1) := Lib.hid (by
      unfold valueS
      rw [if_pos (.inr (.inr ⟨hlead.1, by rw [List.head?_eq_getElem?, hc0, hlead.2]⟩))])
    obtain ⟨h1, rfl⟩ := hlead
    rw [show (((48 : UInt8).toNat : Nat) : Int) = 48 from rfl] at hx0
    clear hc0 h0
    go_enter Tryd.func17, Tryd.ntmps17
    go_wp2_with fail
    go_ret
    exact ⟨ret_int HV.out.symm, rfl⟩
  have HV : Hid (valueS l = if l.all (fun b => decide (48 ≤ b.toNat) && decide (b.toNat ≤ 57)) = true then ((valD 0 l : Nat) : Int) else -1) := Lib.hid (by
    unfold valueS
    rw [if_neg]
    rintro (h | h | ⟨h1, h2⟩)
    · exact h0 h
    · exact h9 h
    · rw [List.head?_eq_getElem?, hc0] at h2
      exact hlead ⟨h1, by simpa using h2⟩)
  have hl9 : l.length ≤ 9 := by omega
  have key : ∀ K : Prop, (1 < l.length → (c0.toNat : Int) ≠ 48) ∧ True := fun _ => ⟨fun h e => hlead ⟨h, UInt8.toNat_inj.1 (by show c0.toNat = 48; omega)⟩, trivial⟩
  have hlead2 := (key True).1
  clear key hlead hc0 h9 h0
  generalize (c0.toNat : Int) = x0 at *
  have hLoop : ∀ (P : Prop), True := fun _ => trivial
  have hall : ∀ k : Nat, k ≤ l.length → (∀ (j : Nat) b, j < k → l[j]? = some b → 48 ≤ b.toNat ∧ b.toNat ≤ 57) → (k < l.length → valD 0 (l.take k) < 100000000) := by
    intro k hk h hk2
    refine valD_small _ (fun b hb => ?_) (by rw [List.length_take]; omega)
    obtain ⟨j, hj⟩ := List.getElem?_of_mem hb
    have hjk : j < k := by have := (List.getElem?_eq_some_iff.1 hj).1; rw [List.length_take] at this; omega
    rw [List.getElem?_take, if_pos hjk] at hj
    exact h j b hjk hj
  have HA := Lib.hid hall
  clear hall hLoop
  by_cases h1 : 1 < l.length
  · have hne := hlead2 h1
    have hne2 : (x0 == 48) = false := by simpa using hne
    clear hlead2
    go_enter Tryd.func17, Tryd.ntmps17
    go_wp2_with fail
    go_loopw [3, 4] (fun n i wr => ∃ k : Nat, k ≤ l.length ∧ i = .int .i64 k ∧ n = .int .i64 (valD 0 (l.take k) : Nat) ∧ Hid (∀ (j : Nat) b, j < k → l[j]? = some b → 48 ≤ b.toNat ∧ b.toNat ≤ 57) ∧ w = wr) (fun n i _ => l.length - (intOf i).toNat)
    case atStart => exact ⟨0, Nat.zero_le _, rfl, rfl, Lib.hid (fun j b h => absurd h (Nat.not_lt_zero _)), rfl⟩
    case round =>
      clear hx0 hnz hn9
      obtain ⟨k, hk, rfl, rfl, H, rfl⟩ := hrel
      by_cases hlt : k < l.length
      · obtain ⟨b, hb⟩ : ∃ b, l[k]? = some b := ⟨l[k], by simp [hlt]⟩
        have hx := indexL hb
        have hv := HA.out k hk H.out hlt
        have HB := Lib.hid hb
        have HS : Hid (valD 0 (l.take (k + 1)) = valD 0 (l.take k) * 10 + (b.toNat - 48)) := Lib.hid (by
          rw [List.take_add_one, hb]; exact valD_snoc _ _ _)
        obtain ⟨x, hxe⟩ : ∃ x, x = b.toNat := ⟨_, rfl⟩
        rw [← hxe] at hx HS
        have HE := Lib.hid hxe
        clear hb hxe
        generalize valD 0 (l.take k) = v at *
        by_cases hd : 48 ≤ x ∧ x ≤ 57
        · obtain ⟨hd1, hd2⟩ := hd
          have hw0 : ¬ (x : Int) < 48 := by omega
          have hw00 : ¬ (57 : Int) < (x : Int) := by omega
          have hw01 : decide ((x : Int) < 48) = false := by simp; omega
          have hw02 : decide ((57 : Int) < (x : Int)) = false := by simp; omega
          have hw1 : IntKind.u8.wrap ((x : Int) - 48) = (x : Int) - 48 := IntWalk.u8_in _ (by omega)
          have hw2 : IntKind.i64.wrap ((x : Int) - 48) = (x : Int) - 48 := IntWalk.i64_in _ (by omega)
          have hw3 : IntKind.i64.wrap ((v : Int) * 10) = (v : Int) * 10 := IntWalk.i64_in _ (by omega)
          have hw4 : IntKind.i64.wrap ((v : Int) * 10 + ((x : Int) - 48)) = (v : Int) * 10 + ((x : Int) - 48) := IntWalk.i64_in _ (by omega)
          have HN : Hid (∀ (j : Nat) b, j < k + 1 → l[j]? = some b → 48 ≤ b.toNat ∧ b.toNat ≤ 57) := Lib.hid (fun j b' hj hb' => by
            by_cases e : j = k
            · subst e; rw [HB.out] at hb'; cases hb'; rw [← HE.out]; exact ⟨hd1, hd2⟩
            · exact H.out j b' (by omega) hb')
          have HC : Hid ((v : Int) * 10 + ((x : Int) - 48) = (valD 0 (l.take (k + 1)) : Nat)) := Lib.hid (by rw [HS.out]; omega)
          go_wp2_with fail
          go_roundw
          case rel => exact ⟨k + 1, by omega, by go_num, by rw [← HC.out], HN, trivial⟩
          case measure => simp [intOf]; omega
        · have HW : Hid (valueS l = -1) := Lib.hid (by
            rw [HV.out, if_neg]
            intro h
            have := List.all_eq_true.1 h b (List.mem_of_getElem? HB.out)
            rw [HE.out] at hd
            exact hd (by simpa using this))
          by_cases hd1 : x < 48
          · have hw0 : (x : Int) < 48 := by omega
            have hw01 : decide ((x : Int) < 48) = true := by simp; omega
            go_wp2_with fail
            go_ret
            exact ⟨ret_int HW.out.symm, rfl⟩
          · have hw0 : ¬ (x : Int) < 48 := by omega
            have hw00 : (57 : Int) < (x : Int) := by omega
            have hw01 : decide ((x : Int) < 48) = false := by simp; omega
            have hw02 : decide ((57 : Int) < (x : Int)) = true := by simp; omega
            go_wp2_with fail
            go_ret
            exact ⟨ret_int HW.out.symm, rfl⟩
      · obtain rfl : k = l.length := by omega
        have HW : Hid (valueS l = (valD 0 (l.take l.length) : Nat)) := Lib.hid (by
          rw [HV.out, if_pos, List.take_length]
          rw [List.all_eq_true]
          intro b hb
          obtain ⟨j, hj⟩ := List.getElem?_of_mem hb
          have := H.out j b (List.getElem?_eq_some_iff.1 hj).1 hj
          simp [this.1, this.2])
        generalize valD 0 (l.take l.length) = v at *
        go_wp2_with fail
        go_ret
        exact ⟨ret_int HW.out.symm, rfl⟩
  · clear hlead2
    go_enter Tryd.func17, Tryd.ntmps17
    go_wp2_with fail
    go_loopw [3, 4] (fun n i wr => ∃ k : Nat, k ≤ l.length ∧ i = .int .i64 k ∧ n = .int .i64 (valD 0 (l.take k) : Nat) ∧ Hid (∀ (j : Nat) b, j < k → l[j]? = some b → 48 ≤ b.toNat ∧ b.toNat ≤ 57) ∧ w = wr) (fun n i _ => l.length - (intOf i).toNat)
    case atStart => exact ⟨0, Nat.zero_le _, rfl, rfl, Lib.hid (fun j b h => absurd h (Nat.not_lt_zero _)), rfl⟩
    case round =>
      clear hx0 hnz hn9
      obtain ⟨k, hk, rfl, rfl, H, rfl⟩ := hrel
      by_cases hlt : k < l.length
      · obtain ⟨b, hb⟩ : ∃ b, l[k]? = some b := ⟨l[k], by simp [hlt]⟩
        have hx := indexL hb
        have hv := HA.out k hk H.out hlt
        have HB := Lib.hid hb
        have HS : Hid (valD 0 (l.take (k + 1)) = valD 0 (l.take k) * 10 + (b.toNat - 48)) := Lib.hid (by
          rw [List.take_add_one, hb]; exact valD_snoc _ _ _)
        obtain ⟨x, hxe⟩ : ∃ x, x = b.toNat := ⟨_, rfl⟩
        rw [← hxe] at hx HS
        have HE := Lib.hid hxe
        clear hb hxe
        generalize valD 0 (l.take k) = v at *
        by_cases hd : 48 ≤ x ∧ x ≤ 57
        · obtain ⟨hd1, hd2⟩ := hd
          have hw0 : ¬ (x : Int) < 48 := by omega
          have hw00 : ¬ (57 : Int) < (x : Int) := by omega
          have hw01 : decide ((x : Int) < 48) = false := by simp; omega
          have hw02 : decide ((57 : Int) < (x : Int)) = false := by simp; omega
          have hw1 : IntKind.u8.wrap ((x : Int) - 48) = (x : Int) - 48 := IntWalk.u8_in _ (by omega)
          have hw2 : IntKind.i64.wrap ((x : Int) - 48) = (x : Int) - 48 := IntWalk.i64_in _ (by omega)
          have hw3 : IntKind.i64.wrap ((v : Int) * 10) = (v : Int) * 10 := IntWalk.i64_in _ (by omega)
          have hw4 : IntKind.i64.wrap ((v : Int) * 10 + ((x : Int) - 48)) = (v : Int) * 10 + ((x : Int) - 48) := IntWalk.i64_in _ (by omega)
          have HN : Hid (∀ (j : Nat) b, j < k + 1 → l[j]? = some b → 48 ≤ b.toNat ∧ b.toNat ≤ 57) := Lib.hid (fun j b' hj hb' => by
            by_cases e : j = k
            · subst e; rw [HB.out] at hb'; cases hb'; rw [← HE.out]; exact ⟨hd1, hd2⟩
            · exact H.out j b' (by omega) hb')
          have HC : Hid ((v : Int) * 10 + ((x : Int) - 48) = (valD 0 (l.take (k + 1)) : Nat)) := Lib.hid (by rw [HS.out]; omega)
          go_wp2_with fail
          go_roundw
          case rel => exact ⟨k + 1, by omega, by go_num, by rw [← HC.out], HN, trivial⟩
          case measure => simp [intOf]; omega
        · have HW : Hid (valueS l = -1) := Lib.hid (by
            rw [HV.out, if_neg]
            intro h
            have := List.all_eq_true.1 h b (List.mem_of_getElem? HB.out)
            rw [HE.out] at hd
            exact hd (by simpa using this))
          by_cases hd1 : x < 48
          · have hw0 : (x : Int) < 48 := by omega
            have hw01 : decide ((x : Int) < 48) = true := by simp; omega
            go_wp2_with fail
            go_ret
            exact ⟨ret_int HW.out.symm, rfl⟩
          · have hw0 : ¬ (x : Int) < 48 := by omega
            have hw00 : (57 : Int) < (x : Int) := by omega
            have hw01 : decide ((x : Int) < 48) = false := by simp; omega
            have hw02 : decide ((57 : Int) < (x : Int)) = true := by simp; omega
            go_wp2_with fail
            go_ret
            exact ⟨ret_int HW.out.symm, rfl⟩
      · obtain rfl : k = l.length := by omega
        have HW : Hid (valueS l = (valD 0 (l.take l.length) : Nat)) := Lib.hid (by
          rw [HV.out, if_pos, List.take_length]
          rw [List.all_eq_true]
          intro b hb
          obtain ⟨j, hj⟩ := List.getElem?_of_mem hb
          have := H.out j b (List.getElem?_eq_some_iff.1 hj).1 hj
          simp [this.1, this.2])
        generalize valD 0 (l.take l.length) = v at *
        go_wp2_with fail
        go_ret
        exact ⟨ret_int HW.out.symm, rfl⟩
end Go.Proofs.YtcgmbpkichfalaaDoor
