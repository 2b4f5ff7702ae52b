/- Words: the program's reduced words and inverses. -/
import Derived.Test.YtibaollnjfibnaaDoorWrd
namespace Go.Proofs.YtibaollnjfibnaaDoor
open Go.RowKit Wrd
set_option maxHeartbeats 4000000 in
set_option maxRecDepth 100000 in
theorem c_ReduceWord (s : ByteArray) (w : World) (hs : s.size ≤ maxLen) :
    Calls Tryd.prog 9 #[.string s] w fun e w' => e = .returned (twoT (redW s)) ∧ Below w.heap.size w w' := by
  cases hw : wordB s
  · go_enter Tryd.func9, Tryd.ntmps9
    go_wp2_with fail
    refine (c_IsWord s _ hs).mono ?_
    rw [hw]
    rintro e w1 ⟨rfl, hb⟩
    go_wp2_with fail
    go_ret2
    exact ⟨by unfold redW; rw [hw]; rfl, hb⟩
  · obtain ⟨h60, hL⟩ := word_len hw
    have HL := Lib.hid hL
    have HW := Lib.hid hw
    have HZ := Lib.hid (bytes_len s)
    clear hL hw
    have hconv := fun w => run_bytes_of_string (P := Tryd.prog) w 9 26 5 s Tryd.underlying9 Tryd.underlying26 Tryd.underlying5
    go_enter Tryd.func9, Tryd.ntmps9
    go_wp2_with fail
    refine (c_IsWord s _ hs).mono ?_
    rw [HW.out]
    rintro e w1 ⟨rfl, hb1⟩
    go_wp2_with fail
    refine gen_worldB (fun W0 hW0 => ?_)
    have hg2 : w1.heap.size + 1 < W0.heap.size := by rw [hW0]; simp
    have hrow : Hid (∀ (j : Nat) b, s.data.toList[j]? = some b → W0.cell? ⟨w1.heap.size + 1, j, none⟩ = some (vb b)) := Lib.hid (fun j b hb => by
      rw [hW0]
      exact bytes_cell (w := w1.alloc (.cells #[] 5)) (by simp) hb)
    have hown0 : OwnB W0 w.heap.size (.slice (some ⟨w1.heap.size, 0, none⟩) 0 0) ((s.data.toList.take 0).foldl redStep []) := by
      have h := Own.lit (B := w.heap.size) w1 5 [] hb1.size (by simp)
      rw [hW0]
      exact (h.alloc _).drewN 1
    have hbel0 : Below w.heap.size w W0 := by
      rw [hW0]
      exact below_drewN ((hb1.alloc hb1.size _).alloc (by simp; have := hb1.size; omega) _) 1
    have hob0 : (Value.slice (some ⟨w1.heap.size, 0, none⟩) 0 0).ownBlock ≠ some (w1.heap.size + 1) := by simp [Value.ownBlock]
    clear hW0 hconv
    generalize hg1 : w1.heap.size + 1 = g1 at *
    clear hg1
    go_loopw [4, 15] (fun o i wr => ∃ j : Nat, j ≤ s.size ∧ i = .int .i64 j ∧ OwnB wr w.heap.size o ((s.data.toList.take j).foldl redStep []) ∧ Below w.heap.size w wr ∧ Hid (∀ (j : Nat) b, s.data.toList[j]? = some b → wr.cell? ⟨g1, j, none⟩ = some (vb b)) ∧ g1 < wr.heap.size ∧ Hid (o.ownBlock ≠ some g1)) (fun o i _ => s.size - (intOf i).toNat)
    case atStart => exact ⟨0, Nat.zero_le _, rfl, hown0, hbel0, hrow, hg2, Lib.hid hob0⟩
    case round =>
      obtain ⟨j, hj, rfl, hown, hbel, HR, hg1, HOB⟩ := hrel
      clear hown0 hbel0 hrow hg2 hob0
      by_cases hlt : j < s.size
      · obtain ⟨b, hb⟩ : ∃ b, s.data.toList[j]? = some b := ⟨s.data.toList[j]'(by rw [HZ.out]; exact hlt), by simp⟩
        have hx := HR.out j b hb
        have hbL := HL.out j b hb
        have HST := Lib.hid (foldl_take_succ s.data.toList j b hb)
        obtain ⟨l, hl⟩ : ∃ l, l = (s.data.toList.take j).foldl redStep [] := ⟨_, rfl⟩
        have hll : l.length ≤ 60 := by
          have := fold_len (s.data.toList.take j) []
          rw [← hl, List.length_take] at this
          simp at this
          omega
        rw [← hl] at hown HST
        have HO : Hid (∀ w1, Calls Tryd.prog 15 #[.int .u8 (b.toNat : Int)] w1 fun e w' => e = .returned (.int .u8 ((oth b).toNat : Int)) ∧ w' = w1) := Lib.hid (fun w1 => c_inverseLetter b w1 hbL)
        have HOW := Lib.hid hown
        have HB := Lib.hid hbel
        clear hb hl
        cases hlast : l.getLast? with
        | none =>
          have hl0 : l = [] := List.getLast?_eq_none_iff.1 hlast
          subst hl0
          obtain ⟨p, n, c, rfl⟩ := hown.slice
          have hn : n = 0 := by
            rcases hown.shape with ⟨h1, _⟩ | ⟨g, cap, h1, _⟩
            · cases h1; rfl
            · cases h1; rfl
          subst hn
          have HS : Hid (redStep [] b = [] ++ [b]) := Lib.hid (by unfold redStep; simp)
          clear hown hbel hlast
          go_wp2_with fail
          go_quiet (fail)
          refine gen_worldB (fun wz hwz => ?_)
          have HOz : Hid (OwnB wz w.heap.size (.slice p 0 c) []) := Lib.hid (by rw [hwz]; exact HOW.out.drewN _)
          have HBz : Hid (Below w.heap.size w wz) := Lib.hid (by rw [hwz]; exact below_drewN HB.out _)
          have HRz : Hid (∀ (j : Nat) b, s.data.toList[j]? = some b → wz.cell? ⟨g1, j, none⟩ = some (vb b)) := Lib.hid (fun j b h => by rw [hwz]; exact HR.out j b h)
          have hgz : g1 < wz.heap.size := by rw [hwz]; exact hg1
          have hsz : w.heap.size ≤ wz.heap.size := HBz.out.size
          clear hwz hx
          go_wp2_with (at_builtin; refine wp_pushB (gx := wz.heap.size) (y := b) HOz.out rfl (.tmp 36) (.tmp 38) rfl rfl rfl rfl hsz (by simp) ?_; intro v' w4 ho4 hb4 hk4; obtain ⟨p4, n4, c4, rfl⟩ := ho4.slice)
          have HO4 := Lib.hid ho4
          have HR4 : Hid (∀ (j : Nat) b, s.data.toList[j]? = some b → w4.cell? ⟨g1, j, none⟩ = some (vb b)) := Lib.hid (fun j b h => by
            have := HRz.out j b h
            unfold World.cell? at this ⊢
            rw [(hk4 g1 hgz HOB.out).1]; exact this)
          have HOB4 := Lib.hid (hk4 g1 hgz HOB.out).2
          have hg4 : g1 < w4.heap.size := Nat.lt_of_lt_of_le hgz hb4.size
          have HB4 := Lib.hid (HBz.out.trans hb4)
          clear ho4 hb4 hk4
          go_roundw
          case rel => exact ⟨j + 1, by omega, by go_num, by rw [HST.out, HS.out]; exact HO4.out, HB4.out, HR4, hg4, HOB4⟩
          case measure => simp [intOf]; omega
        | some x =>
          obtain ⟨m, hm⟩ : ∃ m, l.length = m + 1 := ⟨l.length - 1, by
            have : l ≠ [] := fun e => by subst e; simp at hlast
            have := List.length_pos_iff.2 this
            omega⟩
          obtain ⟨g, cap, hov, hg, hglt, hcap⟩ : ∃ g cap, _ = Value.slice (some ⟨g, 0, none⟩) (m + 1) cap ∧ w.heap.size ≤ g ∧ g < wr.heap.size ∧ m + 1 ≤ cap := by
            rcases hown.shape with ⟨_, h1⟩ | ⟨g, cap, h1, h2, h3, h4⟩
            · simp at h1
              subst h1
              simp at hm
            · rw [List.length_map, hm] at h1 h4
              exact ⟨g, cap, h1, h2, h3, h4⟩
          subst hov
          have hxm : l[m]? = some x := by
            rw [List.getLast?_eq_getElem?, hm] at hlast
            simpa using hlast
          have hcell := hown.cell (i := m) (u := vb x) (by rw [List.getElem?_map, hxm]; rfl)
          have HM := Lib.hid hm
          clear hown hbel hxm hm
          have hm60 : m < 60 := by have := HM.out; omega
          have hA : IntKind.i64.wrap (m : Int) = m := IntWalk.i64_in _ (by omega)
          have hA2 : IntKind.i64.wrap ((m : Int) + 1 - 1) = m := by rw [show (m : Int) + 1 - 1 = m from by omega]; exact hA
          have hgx : ∀ c, (Value.slice (some ⟨g, 0, none⟩) c cap).ownBlock ≠ some g1 := fun c => HOB.out
          have HGX := Lib.hid hgx
          clear hgx
          by_cases hxo : x = oth b
          · have HS : Hid (redStep l b = l.take m) := Lib.hid (by unfold redStep; rw [if_pos (by rw [hlast, hxo]), List.dropLast_eq_take, HM.out]; rfl)
            subst hxo
            clear hlast
            go_wp2_with fail
            go_quiet ((go_at_call 15; exact Calls.quiet_of_same (HO.out _)))
            refine gen_worldB (fun wz hwz => ?_)
            have HOz : Hid (OwnB wz w.heap.size (.slice (some ⟨g, 0, none⟩) m cap) (l.take m)) := Lib.hid (by
              rw [hwz]
              have h := Own.first (m := m) HOW.out (by rw [List.length_map, HM.out]; omega)
              rw [← List.map_take] at h
              exact Own.drewN h _)
            have HBz : Hid (Below w.heap.size w wz) := Lib.hid (by rw [hwz]; exact below_drewN HB.out _)
            have HRz : Hid (∀ (j : Nat) b, s.data.toList[j]? = some b → wz.cell? ⟨g1, j, none⟩ = some (vb b)) := Lib.hid (fun j b h => by rw [hwz]; exact HR.out j b h)
            have hgz : g1 < wz.heap.size := by rw [hwz]; exact hg1
            clear hwz hx
            go_wp2_with fail
            go_roundw
            case rel => exact ⟨j + 1, by omega, by go_num, by rw [HST.out, HS.out]; exact HOz.out, HBz.out, HRz, hgz, Lib.hid (HGX.out _)⟩
            case measure => simp [intOf]; omega
          · have HS : Hid (redStep l b = l ++ [b]) := Lib.hid (by unfold redStep; rw [if_neg (by rw [hlast]; simpa using hxo)])
            clear hlast
            have hne : ¬ (x.toNat : Int) = ((oth b).toNat : Int) := fun e => hxo (UInt8.toNat_inj.1 (by omega))
            have hne2 : ((x.toNat : Int) == ((oth b).toNat : Int)) = false := by simpa using hne
            clear hxo
            generalize ((oth b).toNat : Int) = y at *
            go_wp2_with fail
            go_quiet ((go_at_call 15; exact Calls.quiet_of_same (HO.out _)))
            refine gen_worldB (fun wz hwz => ?_)
            have HOz : Hid (OwnB wz w.heap.size (.slice (some ⟨g, 0, none⟩) (m + 1) cap) l) := Lib.hid (by rw [hwz]; exact HOW.out.drewN _)
            have HBz : Hid (Below w.heap.size w wz) := Lib.hid (by rw [hwz]; exact below_drewN HB.out _)
            have HRz : Hid (∀ (j : Nat) b, s.data.toList[j]? = some b → wz.cell? ⟨g1, j, none⟩ = some (vb b)) := Lib.hid (fun j b h => by rw [hwz]; exact HR.out j b h)
            have hgz : g1 < wz.heap.size := by rw [hwz]; exact hg1
            have hsz : w.heap.size ≤ wz.heap.size := HBz.out.size
            clear hwz hx
            go_wp2_with (at_builtin; refine wp_pushB (gx := wz.heap.size) (y := b) HOz.out rfl (.tmp 36) (.tmp 38) rfl rfl rfl rfl hsz (by rw [HM.out]; omega) ?_; intro v' w4 ho4 hb4 hk4; obtain ⟨p4, n4, c4, rfl⟩ := ho4.slice)
            have HO4 := Lib.hid ho4
            have HR4 : Hid (∀ (j : Nat) b, s.data.toList[j]? = some b → w4.cell? ⟨g1, j, none⟩ = some (vb b)) := Lib.hid (fun j b h => by
              have := HRz.out j b h
              unfold World.cell? at this ⊢
              rw [(hk4 g1 hgz (HGX.out _)).1]; exact this)
            have HOB4 := Lib.hid (hk4 g1 hgz (HGX.out _)).2
            have hg4 : g1 < w4.heap.size := Nat.lt_of_lt_of_le hgz hb4.size
            have HB4 := Lib.hid (HBz.out.trans hb4)
            clear ho4 hb4 hk4
            go_roundw
            case rel => exact ⟨j + 1, by omega, by go_num, by rw [HST.out, HS.out]; exact HO4.out, HB4.out, HR4, hg4, HOB4⟩
            case measure => simp [intOf]; omega
      · obtain rfl : j = s.size := by omega
        have hfull : s.data.toList.take s.size = s.data.toList := by rw [← HZ.out, List.take_length]
        have htx := hown.text
        have HB := Lib.hid hbel
        have HF : Hid (redW s = ((s.data.toList.take s.size).foldl redStep [], 0)) := Lib.hid (by unfold redW redL; rw [HW.out, hfull]; rfl)
        clear hown hbel hfull
        go_wp2_with fail
        go_ret2
        exact ⟨by rw [HF.out]; rfl, HB.out⟩
end Go.Proofs.YtibaollnjfibnaaDoor
