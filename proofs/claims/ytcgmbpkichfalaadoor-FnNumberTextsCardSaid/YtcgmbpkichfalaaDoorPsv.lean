/- Texts of numbers: the reference's parts, its reader, and the law of ParseNumber. -/
import Derived.Test.YtcgmbpkichfalaaDoorPsw
namespace Go.Proofs.YtcgmbpkichfalaaDoor
open Go.RowKit Txt
/-- a text ahead of the first part -/
def glue (pre : List UInt8) : List (List UInt8) → List (List UInt8)
  | h :: t => (pre ++ h) :: t
  | [] => [pre]
theorem glue_nil {X : List (List UInt8)} (h : X ≠ []) : glue [] X = X := by
  cases X with
  | nil => exact absurd rfl h
  | cons a t => rfl
theorem split_hit (b : UInt8) (pre r : List UInt8) : glue pre (splitL b (b :: r)) = pre :: splitL b r := by
  rw [splitL, if_pos rfl]
  show (pre ++ []) :: _ = _
  rw [List.append_nil]
theorem split_miss {b c : UInt8} (h : c ≠ b) (pre r : List UInt8) : glue pre (splitL b (c :: r)) = glue (pre ++ [c]) (splitL b r) := by
  rw [splitL, if_neg h]
  cases hs : splitL b r with
  | nil => exact absurd hs (splitL_ne b r)
  | cons a t =>
    show (pre ++ c :: a) :: t = (pre ++ [c] ++ a) :: t
    simp
/-- the walk stands at i, the part begins at a, these are done -/
def AtS (b : UInt8) (l : List UInt8) (done : List (List UInt8)) (a i : Nat) : Prop := a ≤ i ∧ i ≤ l.length ∧ done.length ≤ i ∧ splitL b l = done ++ glue ((l.drop a).take (i - a)) (splitL b (l.drop i))
theorem atS_start (b : UInt8) (l : List UInt8) : AtS b l [] 0 0 := ⟨Nat.le_refl _, Nat.zero_le _, Nat.le_refl _, by simp [glue_nil (splitL_ne b l)]⟩
theorem atS_hit {b : UInt8} {l : List UInt8} {done : List (List UInt8)} {a i : Nat} (h : AtS b l done a i) (hb : l[i]? = some b) : AtS b l (done ++ [(l.drop a).take (i - a)]) (i + 1) (i + 1) := by
  obtain ⟨h1, h2, h3, h4⟩ := h
  obtain ⟨hi, hv⟩ := List.getElem?_eq_some_iff.1 hb
  refine ⟨Nat.le_refl _, by omega, by rw [List.length_append, List.length_singleton]; omega, ?_⟩
  rw [h4, List.drop_eq_getElem_cons hi, hv, split_hit, Nat.sub_self, List.take_zero, glue_nil (splitL_ne _ _)]
  simp
theorem atS_miss {b c : UInt8} {l : List UInt8} {done : List (List UInt8)} {a i : Nat} (h : AtS b l done a i) (hb : l[i]? = some c) (hc : c ≠ b) : AtS b l done a (i + 1) := by
  obtain ⟨h1, h2, h3, h4⟩ := h
  obtain ⟨hi, hv⟩ := List.getElem?_eq_some_iff.1 hb
  refine ⟨by omega, by omega, by omega, ?_⟩
  rw [h4, List.drop_eq_getElem_cons hi, hv, split_miss hc]
  have e : (l.drop a).take (i + 1 - a) = (l.drop a).take (i - a) ++ [c] := by
    rw [show i + 1 - a = (i - a) + 1 from by omega, List.take_add_one, List.getElem?_drop, show a + (i - a) = i from by omega, hb]
    rfl
  rw [e]
theorem atS_end {b : UInt8} {l : List UInt8} {done : List (List UInt8)} {a : Nat} (h : AtS b l done a l.length) : splitL b l = done ++ [(l.drop a).take (l.length - a)] := by
  obtain ⟨h1, h2, h3, h4⟩ := h
  rw [h4, List.drop_length]
  show done ++ [(l.drop a).take (l.length - a) ++ []] = _
  rw [List.append_nil]
/-- s[a:i] -/
theorem extractL (l : List UInt8) (a i : Nat) : Value.string ((⟨l.toArray⟩ : ByteArray).extract a i) = tv ((l.drop a).take (i - a)) := by
  unfold tv
  congr 1
  apply ByteArray.ext
  apply Array.toList_inj.1
  rw [ByteArray.data_extract]
  simp
theorem info_str : (Tryd.prog.info? 9).map (fun i => (i.zero, i.size, i.bytes)) = some (some (.string ByteArray.empty), 1, 16) := by kernel_rfl
attribute [irreducible] AtS
set_option maxHeartbeats 4000000 in
theorem c_l01Split (l : List UInt8) (b : UInt8) (w : World) (hl : l.length ≤ 4294967280) :
    Calls Tryd.prog 16 #[.string ⟨l.toArray⟩, .int .u8 (b.toNat : Int)] w fun e w' => ∃ v, e = .returned v ∧ Own w' 9 w.heap.size v ((splitL b l).map tv) ∧ Below w.heap.size w w' := by
  have hsz : (⟨l.toArray⟩ : ByteArray).size = l.length := List.size_toArray
  have hown0 : Own (w.alloc (.cells #[] 9)) 9 w.heap.size (.slice (some ⟨w.heap.size, 0, none⟩) 0 0) (([] : List (List UInt8)).map tv) := Own.lit (B := w.heap.size) w 9 [] (Nat.le_refl _) (by simp)
  obtain ⟨y, hy⟩ : ∃ y : Int, y = (b.toNat : Int) := ⟨_, rfl⟩
  rw [← hy]
  have HY := Lib.hid hy
  clear hy
  go_enter Tryd.func16, Tryd.ntmps16
  go_wp2_with fail
  go_loopw [5, 6, 7] (fun o a i wr => ∃ (done : List (List UInt8)) (a' i' : Nat), a' ≤ i' ∧ i' ≤ l.length ∧ done.length ≤ i' ∧ a = .int .i64 a' ∧ i = .int .i64 i' ∧ Hid (AtS b l done a' i') ∧ Own wr 9 w.heap.size o (done.map tv) ∧ Below w.heap.size w wr) (fun o a i _ => l.length - (intOf i).toNat)
  case atStart => exact ⟨[], 0, 0, Nat.le_refl _, Nat.zero_le _, Nat.le_refl _, rfl, rfl, Lib.hid (atS_start b l), hown0, below_alloc _ _⟩
  case round =>
    clear hown0
    obtain ⟨done, a, i, hai, hil, hdl, rfl, rfl, HAT, hown, hbel⟩ := hrel
    have HOW := Lib.hid hown
    have HB := Lib.hid hbel
    obtain ⟨p, n, c, rfl⟩ := hown.slice
    clear hown hbel
    by_cases hlt : i < l.length
    · obtain ⟨x, hx⟩ : ∃ x, l[i]? = some x := ⟨l[i], by simp [hlt]⟩
      have hix := indexL hx
      have HX := Lib.hid hx
      clear hx
      by_cases hxb : x = b
      · subst hxb
        rw [← HY.out] at hix
        have hext := extractL l a i
        unfold tv at hext
        have hA := Lib.hid (atS_hit HAT.out HX.out)
        have hsz' : w.heap.size ≤ wr.heap.size := HB.out.size
        have hlen : (done.map tv).length ≤ 5000000000 := by rw [List.length_map]; omega
        have HLN := Lib.hid hlen
        clear hlen
        go_wp2_with (at_builtin; refine wp_push1 (gx := wr.heap.size) wr rfl (.tmp 20) (.tmp 25) 35 rfl 9 (.string ByteArray.empty) 16 Tryd.underlying35 info_str rfl w.heap.size _ _ (done.map tv) rfl HOW.out rfl rfl rfl hsz' HLN.out (by omega) ?_; intro v' w4 ho4 hb4 _; obtain ⟨p4, n4, c4, rfl⟩ := ho4.slice)
        have HO4 : Hid (Own w4 9 w.heap.size (.slice p4 n4 c4) ((done ++ [(l.drop a).take (i - a)]).map tv)) := Lib.hid (by rw [List.map_append]; exact ho4)
        have HB4 := Lib.hid (HB.out.trans hb4)
        clear ho4 hb4
        go_roundw
        case rel => exact ⟨_, i + 1, i + 1, Nat.le_refl _, by omega, by rw [List.length_append, List.length_singleton]; omega, by go_num, by go_num, hA, HO4.out, HB4.out⟩
        case measure => simp [intOf]; omega
      · have hne : ¬ (x.toNat : Int) = y := fun e => hxb (UInt8.toNat_inj.1 (by rw [HY.out] at e; omega))
        have hne2 : ((x.toNat : Int) == y) = false := by simpa using hne
        have hA := Lib.hid (atS_miss HAT.out HX.out hxb)
        go_wp2_with fail
        go_roundw
        case rel => exact ⟨done, a, i + 1, by omega, by omega, by omega, rfl, by go_num, hA, HOW.out, HB.out⟩
        case measure => simp [intOf]; omega
    · obtain rfl : i = l.length := by omega
      have hext := extractL l a l.length
      unfold tv at hext
      have hA := Lib.hid (atS_end HAT.out)
      have hsz' : w.heap.size ≤ wr.heap.size := HB.out.size
      have hlen : (done.map tv).length ≤ 5000000000 := by rw [List.length_map]; omega
      have HLN := Lib.hid hlen
      clear hlen
      go_wp2_with (at_builtin; refine wp_push1 (gx := wr.heap.size) wr rfl (.tmp 29) (.tmp 33) 35 rfl 9 (.string ByteArray.empty) 16 Tryd.underlying35 info_str rfl w.heap.size _ _ (done.map tv) rfl HOW.out rfl rfl rfl hsz' HLN.out (by omega) ?_; intro v' w4 ho4 hb4 _; obtain ⟨p4, n4, c4, rfl⟩ := ho4.slice)
      have HO4 : Hid (Own w4 9 w.heap.size (.slice p4 n4 c4) ((splitL b l).map tv)) := Lib.hid (by rw [hA.out, List.map_append]; exact ho4)
      have HB4 := Lib.hid (HB.out.trans hb4)
      clear ho4 hb4
      go_ret
      exact ⟨_, rfl, HO4.out, HB4.out⟩
end Go.Proofs.YtcgmbpkichfalaaDoor
