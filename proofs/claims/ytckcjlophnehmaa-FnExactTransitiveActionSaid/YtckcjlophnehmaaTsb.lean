/- Transitive actions: the reference's walk. -/
import Derived.Test.YtckcjlophnehmaaTcv
namespace Go.Proofs.Ytckcjlophnehmaa
open Go.RowKit
/-- post of the reference: a ring and an action that can be read -/
def RetXA (r : (List (List (List Int)) × List (List (List Int))) × Int) (w : World) (e : Ending) (w' : World) : Prop :=
  ∃ p n c p' n' c', e = .returned (.tuple #[.agg #[.slice p n c], .agg #[.slice p' n' c'], .int .i64 r.2]) ∧ IntCubes w' (.slice p n c) r.1.1 ∧ IntCubes w' (.slice p' n' c') r.1.2 ∧ Below w.heap.size w w'
theorem retXA_nil {r : (List (List (List Int)) × List (List (List Int))) × Int} {c : Int} {w w' : World} (hr : r = (([], []), c)) (hb : Below w.heap.size w w') : RetXA r w (.returned (.tuple #[.agg #[.slice none 0 0], .agg #[.slice none 0 0], .int .i64 c])) w' := by
  subst hr
  exact ⟨none, 0, 0, none, 0, 0, rfl, (OwnCB.nil w' 0 0).cubes (by simp) (by simp), (OwnCB.nil w' 0 0).cubes (by simp) (by simp), hb⟩
/-- the least of the first l sums and x -/
def lstk (g : Nat → Nat → Nat) (H : List Nat) (x l : Nat) : Nat := ((H.take l).map (g x)).foldl min x
theorem lstk_next {g : Nat → Nat → Nat} {H : List Nat} {x l y : Nat} (hy : H[l]? = some y) : lstk g H x (l + 1) = min (lstk g H x l) (g x y) := by
  unfold lstk
  have e : H.take (l + 1) = H.take l ++ [y] := by rw [List.take_add_one, hy]; rfl
  rw [e, List.map_append, List.foldl_append]
  rfl
theorem lstk_end (g : Nat → Nat → Nat) (H : List Nat) (x : Nat) : lstk g H x H.length = lst g H x := by unfold lstk lst; rw [List.take_length]
set_option maxHeartbeats 1600000 in
set_option maxRecDepth 100000 in
theorem c_STransitiveAction (v u : Value) (xs hs : List Int) (w : World) (hv : Ints w v xs) (hu : Ints w u hs) :
    Calls Try.prog 13 #[v, u] w (RetXA (traN xs hs) w) := by
  have HV := Lib.hid hv
  have HU := Lib.hid hu
  clear hv
  cases hg : gOk xs
  · have H : Hid (traN xs hs = (([], []), 2)) := Lib.hid (by unfold traN; rw [hg]; rfl)
    have HG := Lib.hid hg
    clear hg hu
    go_enter Try.func13, Try.ntmps13
    go_wp2_with fail
    obtain ⟨w1, hw1⟩ : ∃ w1 : World, w1 = (w.alloc (.cells #[.slice none 0 0] 32)).alloc (.cells #[.slice none 0 0] 34) := ⟨_, rfl⟩
    rw [← hw1]
    have hb0 : Below w.heap.size w w1 := by rw [hw1]; exact (below_alloc w _).alloc (by simp) _
    have hlt1 : w.heap.size < w1.heap.size := by rw [hw1]; simp; omega
    have hlt2 : w.heap.size + 1 < w1.heap.size := by rw [hw1]; simp
    have hc0 : w1.cell? ⟨w.heap.size, 0, none⟩ = some (.slice none 0 0) := by rw [hw1]; simp
    have hc1 : w1.cell? ⟨w.heap.size + 1, 0, none⟩ = some (.slice none 0 0) := by rw [hw1]; simp
    have hf0 : w1.frozen? ⟨w.heap.size, 0, none⟩ = false := by rw [hw1]; simp
    have hf1 : w1.frozen? ⟨w.heap.size + 1, 0, none⟩ = false := by rw [hw1]; simp
    have HB1 := Lib.hid hb0
    clear hb0 hw1
    refine (c_l09Orders _ xs _ (HV.out.keep HB1.out)).mono ?_
    rintro e w2 ⟨rfl, rfl⟩
    rw [HG.out]
    go_wp2_with fail
    (try simp only [Exit.inBlock, Exit.then])
    refine bodyPost_ret (v := .tuple #[.agg #[.slice none 0 0], .agg #[.slice none 0 0], .int .i64 2]) (by rw [results_cct rfl]; go_simp) rfl ?_
    exact retXA_nil H.out (below_set (below_set (HB1.out) (by simp)) (by simp))
  · obtain ⟨_, hg1, hg2, hg3⟩ := gOk_true hg
    have HG := Lib.hid hg
    obtain ⟨n, hn⟩ : ∃ n, n = ordN xs := ⟨_, rfl⟩
    rw [← hn] at hg2 hg3
    have HN := Lib.hid hn
    obtain ⟨ua, uc, rfl, hul, huc⟩ := hu
    clear hg hg1 huc hn
    go_enter Try.func13, Try.ntmps13
    go_wp2_with fail
    obtain ⟨w1, hw1⟩ : ∃ w1 : World, w1 = (w.alloc (.cells #[.slice none 0 0] 32)).alloc (.cells #[.slice none 0 0] 34) := ⟨_, rfl⟩
    rw [← hw1]
    have hb0 : Below w.heap.size w w1 := by rw [hw1]; exact (below_alloc w _).alloc (by simp) _
    have hlt1 : w.heap.size < w1.heap.size := by rw [hw1]; simp; omega
    have hlt2 : w.heap.size + 1 < w1.heap.size := by rw [hw1]; simp
    have hc0 : w1.cell? ⟨w.heap.size, 0, none⟩ = some (.slice none 0 0) := by rw [hw1]; simp
    have hc1 : w1.cell? ⟨w.heap.size + 1, 0, none⟩ = some (.slice none 0 0) := by rw [hw1]; simp
    have hf0 : w1.frozen? ⟨w.heap.size, 0, none⟩ = false := by rw [hw1]; simp
    have hf1 : w1.frozen? ⟨w.heap.size + 1, 0, none⟩ = false := by rw [hw1]; simp
    have HB1 := Lib.hid hb0
    clear hb0 hw1
    refine (c_l09Orders _ xs _ (HV.out.keep HB1.out)).mono ?_
    rintro e w2 ⟨rfl, rfl⟩
    rw [HG.out]
    go_wp2_with fail
    refine (c_l09Group _ xs _ (HV.out.keep HB1.out) HG.out).mono ?_
    rintro e w2 ⟨rfl, rfl⟩
    rw [← HN.out]
    go_wp2_with fail
    have HCS := Lib.hid (And.intro hc0 (And.intro hc1 (And.intro hf0 (And.intro hf1 (And.intro hlt1 hlt2)))))
    go_loopw [8] (fun i wr => ∃ k : Nat, k ≤ hs.length ∧ i = .int .i64 k ∧ Hid (okS n hs k) ∧ Hid (Drew w1 wr)) (fun i _ => hs.length - (intOf i).toNat)
    case atStart => exact ⟨0, Nat.zero_le _, rfl, Lib.hid (okS_zero _ _), Lib.hid (Drew.refl _)⟩
    case round =>
      obtain ⟨k, hk, rfl, HK, HD⟩ := hrel
      have hbw := HD.out.below w1.heap.size
      have HBW := Lib.hid (HB1.out.trans (hbw.mono HB1.out.size))
      have hf0 := bfrozen hbw hc0 hf0
      have hf1 := bfrozen hbw hc1 hf1
      have hc0 := bcell hbw hc0
      have hc1 := bcell hbw hc1
      have hlt1 := Nat.lt_of_lt_of_le hlt1 hbw.size
      have hlt2 := Nat.lt_of_lt_of_le hlt2 hbw.size
      clear hbw
      by_cases hlt : k < hs.length
      · obtain ⟨x, hx⟩ : ∃ x, hs[k]? = some x := ⟨hs[k], by simp [hlt]⟩
        obtain ⟨_, _, e1, _, hcu⟩ := HU.out.keep HBW.out
        cases e1
        obtain ⟨b, off, rfl, hcell⟩ := hcu k x hx
        have HX := Lib.hid hx
        have HCU := Lib.hid hcu
        clear hcu hx
        have hnw : IntKind.i64.wrap ((n : Int) - 1) = (n : Int) - 1 := IntWalk.i64_in _ (by omega)
        cases hr : inR 0 ((n : Int) - 1) x
        · have H : Hid (traN xs hs = (([], []), 2)) := Lib.hid (by
            unfold traN
            rw [if_pos HG.out, if_neg]
            intro h
            have h1 := h k x hlt HX.out
            rw [← HN.out] at h1
            exact inR_false hr ⟨h1.1, by omega⟩)
          have HQ : Hid (∀ w1 : World, Calls Try.prog 34 #[.int .i64 x, .int .i64 0, .int .i64 ((n : Int) - 1)] w1 fun e w' => e = .returned (.bool false) ∧ w' = w1) := Lib.hid (fun w1 => (c_l01In x 0 ((n : Int) - 1) w1).mono fun e w' h => ⟨by rw [h.1, hr], h.2.symm⟩)
          clear hr
          go_wp2_with fail
          go_quiet ((go_at_call 34; exact Calls.quiet_of_same (HQ.out _)))
          go_wp2_with fail
          (try simp only [Exit.inBlock, Exit.then])
          refine bodyPost_ret (v := .tuple #[.agg #[.slice none 0 0], .agg #[.slice none 0 0], .int .i64 2]) (by rw [results_cct rfl]; go_simp) rfl ?_
          exact retXA_nil H.out (below_set (below_set (HBW.out.trans ((below_toDrewN _ _ wr).mono HBW.out.size)) (by simp)) (by simp))
        · obtain ⟨hr1, hr2⟩ := inR_true hr
          have HQ : Hid (∀ w1 : World, Calls Try.prog 34 #[.int .i64 x, .int .i64 0, .int .i64 ((n : Int) - 1)] w1 fun e w' => e = .returned (.bool true) ∧ w' = w1) := Lib.hid (fun w1 => (c_l01In x 0 ((n : Int) - 1) w1).mono fun e w' h => ⟨by rw [h.1, hr], h.2.symm⟩)
          clear hr
          cases k with
          | zero =>
            simp only [Nat.add_zero] at hcell
            have HK2 : Hid (okS n hs 1) := Lib.hid (okS_next HK.out HX.out hr1 (by omega) (fun y h => absurd h (by omega)))
            go_wp2_with fail
            go_quiet ((go_at_call 34; exact Calls.quiet_of_same (HQ.out _)))
            go_wp2_with fail
            go_roundw
            case rel => exact ⟨1, by omega, by go_num, HK2, Lib.hid (HD.out.more _)⟩
            case measure => simp [intOf]; omega
          | succ k =>
            obtain ⟨y, hy⟩ : ∃ y, hs[k]? = some y := ⟨hs[k], by simp⟩
            obtain ⟨_, _, e2, hcell2⟩ := HCU.out k y hy
            cases e2
            have HY := Lib.hid hy
            have hk1 : ((k + 1 : Nat) : Int) - 1 = (k : Int) := by omega
            have hk2 : (k : Int) + 1 - 1 = (k : Int) := by omega
            have hk3 : IntKind.i64.wrap (k : Int) = (k : Int) := IntWalk.i64_in _ (by omega)
            clear hy
            by_cases hxy : y < x
            · have hxy2 : ¬ x ≤ y := by omega
              have HK2 : Hid (okS n hs (k + 1 + 1)) := Lib.hid (okS_next HK.out HX.out hr1 (by omega) (fun z _ h2 => by
                rw [Nat.add_sub_cancel, HY.out] at h2
                cases h2; exact hxy))
              go_wp2_with fail
              go_quiet ((go_at_call 34; exact Calls.quiet_of_same (HQ.out _)))
              go_wp2_with fail
              go_roundw
              case rel => exact ⟨k + 1 + 1, by omega, by go_num, HK2, Lib.hid (HD.out.more _)⟩
              case measure => simp [intOf]; omega
            · have hxy2 : x ≤ y := by omega
              have H : Hid (traN xs hs = (([], []), 2)) := Lib.hid (by
                unfold traN
                rw [if_pos HG.out, if_neg]
                intro h
                exact hxy ((h (k + 1) x hlt HX.out).2.2 y (by omega) (by rw [Nat.add_sub_cancel]; exact HY.out)))
              go_wp2_with fail
              go_quiet ((go_at_call 34; exact Calls.quiet_of_same (HQ.out _)))
              go_wp2_with fail
              (try simp only [Exit.inBlock, Exit.then])
              refine bodyPost_ret (v := .tuple #[.agg #[.slice none 0 0], .agg #[.slice none 0 0], .int .i64 2]) (by rw [results_cct rfl]; go_simp) rfl ?_
              exact retXA_nil H.out (below_set (below_set (HBW.out.trans ((below_toDrewN _ _ wr).mono HBW.out.size)) (by simp)) (by simp))
      · obtain rfl : k = hs.length := by omega
        have HOK : Hid (okS (ordN xs) hs hs.length) := Lib.hid (by rw [← HN.out]; exact HK.out)
        have HZN := Lib.hid (zi_zn HOK.out)
        have HH := Lib.hid (zn_lt HOK.out)
        obtain ⟨Hn, hHn⟩ : ∃ Hn, Hn = zn hs := ⟨_, rfl⟩
        have HHN := Lib.hid hHn
        have HHL : Hid (Hn.length = hs.length) := Lib.hid (by rw [HHN.out, zn_length])
        have HAT : Hid (∀ k, k < hs.length → ∃ x : Nat, hs[k]? = some (x : Int) ∧ Hn[k]? = some x ∧ x ∈ Hn ∧ x < n) := Lib.hid (fun k hk => by
          obtain ⟨x, h1, h2, h3⟩ := zi_at (H := Hn) (k := k) (by rw [zi_length, HHL.out]; exact hk)
          rw [HHN.out, HZN.out] at h1
          exact ⟨x, h1, h2, h3, by rw [HN.out]; exact HH.out x (by rw [← HHN.out]; exact h3)⟩)
        have HANY : Hid (∀ z : Nat, hs.any (fun x => x == (z : Int)) = Hn.contains z) := Lib.hid (fun z => by
          have h := zi_any' Hn z
          rw [HHN.out, HZN.out] at h
          rw [HHN.out]
          exact h)
        clear hHn HK hc0 hc1 hf0 hf1 hlt1 hlt2
        go_wp2_with fail
        obtain ⟨wa, rfl⟩ : ∃ wa : World, wa = wr := ⟨_, rfl⟩
        go_loopw [9] (fun i wr => ∃ k : Nat, k ≤ hs.length ∧ i = .int .i64 k ∧ Hid (sgK (grpT xs) Hn k) ∧ Hid (Drew w1 wr)) (fun i _ => hs.length - (intOf i).toNat)
        case atStart => exact ⟨0, Nat.zero_le _, rfl, Lib.hid (fun j x h => absurd h (Nat.not_lt_zero _)), HD⟩
        case round =>
          clear HD
          obtain ⟨k, hk, rfl, HK, HD⟩ := hrel
          by_cases hlt : k < hs.length
          · obtain ⟨x, hx, hxH, hxm, hxn⟩ := HAT.out k hlt
            have HX := Lib.hid hx
            have HXH := Lib.hid hxH
            have HXM := Lib.hid hxm
            clear hx hxH hxm
            go_wp2_with fail
            obtain ⟨wb, rfl⟩ : ∃ wb : World, wb = wr := ⟨_, rfl⟩
            go_loopw [10] (fun i wr => ∃ l : Nat, l ≤ hs.length ∧ i = .int .i64 l ∧ Hid (sgL (grpT xs) Hn x l) ∧ Hid (Drew w1 wr)) (fun i _ => hs.length - (intOf i).toNat)
            case atStart => exact ⟨0, Nat.zero_le _, rfl, Lib.hid (fun j x h => absurd h (Nat.not_lt_zero _)), HD⟩
            case round =>
              clear HD
              obtain ⟨l, hl, rfl, HL, HD⟩ := hrel
              by_cases hlt2 : l < hs.length
              · obtain ⟨y, hy, hyH, hym, hyn⟩ := HAT.out l hlt2
                have hbw := HD.out.below w1.heap.size
                have HBW := Lib.hid (HB1.out.trans (hbw.mono HB1.out.size))
                have hcu := HU.out.keep HBW.out
                obtain ⟨_, _, e1, _, hcu⟩ := hcu
                cases e1
                obtain ⟨b, off, e2, hcx⟩ := hcu k _ HX.out
                cases e2
                obtain ⟨_, _, e2, hcy⟩ := hcu l _ hy
                cases e2
                have HA : Hid (∀ m, Calls Try.prog 35 #[v, .int .i64 x, .int .i64 y] (wr.drewN m) fun e w' => e = .returned (.int .i64 (grpT xs x y)) ∧ ∃ q, w' = (wr.drewN m).drewN q) := Lib.hid (fun m => q_l09Add v xs x y (wr.drewN m) ((HV.out.keep HBW.out).keep (below_toDrewN m _ wr)) (gOk_true HG.out).2.1 (gOk_true HG.out).2.2.2 (by omega) (by omega))
                have HC : Hid (∀ m, Calls Try.prog 27 #[.slice (some ⟨b, off, none⟩) hs.length uc, .int .i64 (grpT xs x y)] (wr.drewN m) fun e w' => e = .returned (.bool (Hn.contains (grpT xs x y))) ∧ w' = wr.drewN m) := Lib.hid (fun m => (c_l01Has _ hs (grpT xs x y) (wr.drewN m) ((HU.out.keep HBW.out).keep (below_toDrewN m _ wr))).mono fun e w' h => ⟨by rw [h.1, HANY.out], h.2.symm⟩)
                cases hcz : Hn.contains (grpT xs x y)
                · have HNO := Lib.hid (sgB_no (g := grpT xs) HXM.out hym hcz)
                  have H : Hid (traN xs hs = (([], []), 5)) := Lib.hid (by
                    unfold traN
                    rw [if_pos HG.out, if_pos HOK.out, ← HHN.out, HNO.out]
                    rfl)
                  rw [hcz] at HC
                  have hf0 := bfrozen hbw HCS.out.1 HCS.out.2.2.1
                  have hf1 := bfrozen hbw HCS.out.2.1 HCS.out.2.2.2.1
                  have hc0 := bcell hbw HCS.out.1
                  have hc1 := bcell hbw HCS.out.2.1
                  have hlt1 := Nat.lt_of_lt_of_le HCS.out.2.2.2.2.1 hbw.size
                  have hlt2 := Nat.lt_of_lt_of_le HCS.out.2.2.2.2.2 hbw.size
                  generalize grpT xs x y = z at *
                  clear hcz hcu hy hyH hym hbw
                  go_wp2_with fail
                  go_quiet ((first | (go_at_call 35; exact Calls.quiet_of (HA.out _)) | (go_at_call 27; exact Calls.quiet_of_same (HC.out _))))
                  go_wp2_with fail
                  (try simp only [Exit.inBlock, Exit.then])
                  refine bodyPost_ret (v := .tuple #[.agg #[.slice none 0 0], .agg #[.slice none 0 0], .int .i64 5]) (by rw [results_cct rfl]; go_simp) rfl ?_
                  exact retXA_nil H.out (below_set (below_set (HBW.out.trans ((below_toDrewN _ _ wr).mono HBW.out.size)) (by simp)) (by simp))
                · have HNX := Lib.hid (sgL_next (g := grpT xs) HL.out hyH hcz)
                  rw [hcz] at HC
                  generalize grpT xs x y = z at *
                  clear hcz hcu hy hyH hym hbw
                  go_wp2_with fail
                  go_quiet ((first | (go_at_call 35; exact Calls.quiet_of (HA.out _)) | (go_at_call 27; exact Calls.quiet_of_same (HC.out _))))
                  go_wp2_with fail
                  go_roundw
                  case rel => exact ⟨l + 1, by omega, by go_num, HNX, Lib.hid (HD.out.more _)⟩
                  case measure => simp [intOf]; omega
              · obtain rfl : l = hs.length := by omega
                have HKN := Lib.hid (sgK_next HK.out HXH.out (by rw [HHL.out]; exact HL.out))
                go_wp2_with fail
                go_roundw
                case rel => exact ⟨k + 1, by omega, by go_num, HKN, HD⟩
                case measure => simp [intOf]; omega
          · obtain rfl : k = hs.length := by omega
            have HSB := Lib.hid (sgK_end (by rw [HHL.out]; exact HK.out))
            have hbw := HD.out.below w1.heap.size
            have HBW := Lib.hid (HB1.out.trans (hbw.mono HB1.out.size))
            have hf0 := bfrozen hbw HCS.out.1 HCS.out.2.2.1
            have hf1 := bfrozen hbw HCS.out.2.1 HCS.out.2.2.2.1
            have hc0 := bcell hbw HCS.out.1
            have hc1 := bcell hbw HCS.out.2.1
            have hlt1 := Nat.lt_of_lt_of_le HCS.out.2.2.2.2.1 hbw.size
            have hlt2 := Nat.lt_of_lt_of_le HCS.out.2.2.2.2.2 hbw.size
            clear hbw
            by_cases h0 : hs.length = 0
            · have H : Hid (traN xs hs = (([], []), 5)) := Lib.hid (by
                unfold traN
                rw [if_pos HG.out, if_pos HOK.out, sg_zero HG.out HOK.out, h0]
                simp)
              have h0i : (hs.length : Int) = 0 := by omega
              go_wp2_with fail
              (try simp only [Exit.inBlock, Exit.then])
              refine bodyPost_ret (v := .tuple #[.agg #[.slice none 0 0], .agg #[.slice none 0 0], .int .i64 5]) (by rw [results_cct rfl]; go_simp) rfl ?_
              exact retXA_nil H.out (below_set (below_set (HBW.out) (by simp)) (by simp))
            · have h0i : ¬ (hs.length : Int) = 0 := by omega
              have h0b : ((hs.length : Int) == 0) = false := by simpa using h0i
              have hsg : Sg n (grpT xs) Hn := by
                have h := sg_of HG.out HOK.out (by rw [← HHN.out]; exact HSB.out) (by
                  rw [← HHN.out]
                  intro e
                  rw [e] at HHL
                  exact h0 HHL.out.symm)
                rw [← HHN.out, ← HN.out] at h
                exact h
              have HSG := Lib.hid hsg
              clear hsg
              go_wp2_with fail
              obtain ⟨wc, rfl⟩ : ∃ wc : World, wc = wr := ⟨_, rfl⟩
              have hst : Hid (OwnI (wc.alloc (.cells #[] 2)) wc.heap.size (.slice (some ⟨wc.heap.size, 0, none⟩) 0 0) (vec 0 fun z => (pnt (grpT xs) Hn z : Int))) := Lib.hid (Own.lit (B := wc.heap.size) wc 2 [] (Nat.le_refl _) (by simp))
              go_loopw [11, 12, 13] (fun pv cv xv wr => ∃ X : Nat, X ≤ n ∧ xv = .int .i64 X ∧ cv = .int .i64 (cnt (grpT xs) Hn X) ∧ Hid (OwnI wr wc.heap.size pv (vec X fun z => (pnt (grpT xs) Hn z : Int))) ∧ Hid (Below wc.heap.size wc wr)) (fun _ _ xv _ => n - (intOf xv).toNat)
              case atStart => exact ⟨0, Nat.zero_le _, rfl, rfl, hst, Lib.hid (below_alloc _ _)⟩
              case round =>
                clear hst
                obtain ⟨X, hXn, rfl, rfl, HP, HBL⟩ := hrel
                by_cases hX : X < n
                · have hcn := cnt_le (grpT xs) Hn X
                  have HLE := Lib.hid (lstk_end (grpT xs) Hn X)
                  have HCS1 := Lib.hid (cnt_succ (grpT xs) Hn X)
                  have HLL := Lib.hid (HSG.out.lst_le X)
                  have HLM := Lib.hid (HSG.out.pnt_lst hX)
                  have HPF : Hid (lst (grpT xs) Hn X = X → pnt (grpT xs) Hn X = cnt (grpT xs) Hn X) := Lib.hid pnt_first
                  have HVS : Hid ((vec (X + 1) fun z => (pnt (grpT xs) Hn z : Int)) = (vec X fun z => (pnt (grpT xs) Hn z : Int)) ++ [(pnt (grpT xs) Hn X : Int)]) := Lib.hid (vec_snoc _ _)
                  obtain ⟨pp, pn, pc, rfl⟩ := Own.slice HP.out
                  generalize cnt (grpT xs) Hn X = cX at *
                  go_wp2_with fail
                  obtain ⟨wd, rfl⟩ : ∃ wd : World, wd = wr := ⟨_, rfl⟩
                  go_loopw [14, 15] (fun mv lv wr => ∃ l m : Nat, l ≤ hs.length ∧ lv = .int .i64 l ∧ mv = .int .i64 m ∧ m ≤ X ∧ Hid (m = lstk (grpT xs) Hn X l) ∧ Hid (Drew wd wr)) (fun _ lv _ => hs.length - (intOf lv).toNat)
                  case atStart => exact ⟨0, X, Nat.zero_le _, rfl, rfl, Nat.le_refl _, Lib.hid rfl, Lib.hid (Drew.refl _)⟩
                  case round =>
                    obtain ⟨l, m, hl, rfl, rfl, hmX, HM, HDD⟩ := hrel
                    have HBZ : Hid (Below w.heap.size w wr) := Lib.hid (HBW.out.trans ((HBL.out.mono HBW.out.size).trans ((HDD.out.below wd.heap.size).mono (Nat.le_trans HBW.out.size HBL.out.size))))
                    by_cases hlt : l < hs.length
                    · obtain ⟨y, hy, hyH, hym, hyn⟩ := HAT.out l hlt
                      obtain ⟨_, _, e1, _, hcu⟩ := HU.out.keep HBZ.out
                      cases e1
                      obtain ⟨b, off, e2, hcy⟩ := hcu l _ hy
                      cases e2
                      have HNX := Lib.hid (lstk_next (g := grpT xs) (x := X) hyH)
                      have HA := Lib.hid (q_l09Add v xs X y wr (HV.out.keep HBZ.out) (gOk_true HG.out).2.1 (gOk_true HG.out).2.2.2 (by omega) (by omega))
                      rw [← HM.out] at HNX
                      generalize grpT xs X y = z at *
                      clear hcu hy hyH hym
                      go_wp2_with fail
                      refine HA.out.mono ?_
                      rintro e w5 ⟨rfl, hd5⟩
                      have HD5 : Hid (Drew wd w5) := Lib.hid (by obtain ⟨q, rfl⟩ := hd5; exact HDD.out.more q)
                      clear hd5 hcy
                      by_cases hzm : z < m
                      · have HN2 : Hid (z = lstk (grpT xs) Hn X (l + 1)) := Lib.hid (by rw [HNX.out]; omega)
                        go_wp2_with fail
                        all_goals
                          go_roundw
                          case rel => exact ⟨l + 1, z, by omega, by go_num, rfl, by omega, HN2, HD5⟩
                          case measure => simp [intOf]; omega
                      · have HN2 : Hid (m = lstk (grpT xs) Hn X (l + 1)) := Lib.hid (by rw [HNX.out]; omega)
                        go_wp2_with fail
                        all_goals
                          go_roundw
                          case rel => exact ⟨l + 1, m, by omega, by go_num, rfl, by omega, HN2, HD5⟩
                          case measure => simp [intOf]; omega
                    · obtain rfl : l = hs.length := by omega
                      have hml : m = lst (grpT xs) Hn X := by rw [HM.out, ← HHL.out]; exact HLE.out
                      have HML := Lib.hid hml
                      have HPd : Hid (OwnI wr wc.heap.size (.slice pp pn pc) (vec X fun z => (pnt (grpT xs) Hn z : Int))) := Lib.hid (by obtain ⟨q, rfl⟩ := HDD.out; exact Own.drewN HP.out q)
                      have HBd : Hid (Below wc.heap.size wc wr) := Lib.hid (HBL.out.trans (HDD.out.below _))
                      have hBs := HBd.out.size
                      have hlen : (vec X fun z => (pnt (grpT xs) Hn z : Int)).length ≤ 1000000 := by rw [vec_length]; omega
                      clear hml
                      by_cases hf : m = X
                      · subst hf
                        have HPM := Lib.hid (HPF.out HML.out.symm)
                        have hcs : cnt (grpT xs) Hn (m + 1) = cX + 1 := by rw [HCS1.out, if_pos HML.out.symm]
                        have HCC := Lib.hid hcs
                        clear hcs
                        go_wp2_with (at_builtin; refine wp_pushI (gx := wr.heap.size) (y := (cX : Int)) HPd.out rfl (.tmp 122) (.tmp 124) rfl rfl rfl rfl hBs hlen ?_; intro v' w6 ho6 hg6 hb6; obtain ⟨p6, n6, c6, rfl⟩ := ho6.slice)
                        have HN6 : Hid (OwnI w6 wc.heap.size (.slice p6 n6 c6) (vec (m + 1) fun z => (pnt (grpT xs) Hn z : Int))) := Lib.hid (by rw [HVS.out, HPM.out]; exact ho6)
                        have HB6 := Lib.hid (HBd.out.trans hb6)
                        clear ho6 hg6 hb6
                        go_roundw
                        case rel => exact ⟨m + 1, by omega, by go_num, by rw [HCC.out]; go_num, HN6, HB6⟩
                        case measure => simp [intOf]; omega
                      · have hmi : ((m : Int) == (X : Int)) = false := by simp; omega
                        have hmi2 : ¬ (m : Int) = (X : Int) := by omega
                        have hmlt : m < X := by omega
                        have hne : ¬ lst (grpT xs) Hn X = X := by rw [← HML.out]; exact hf
                        have HCC : Hid (cnt (grpT xs) Hn (X + 1) = cX) := Lib.hid (by rw [HCS1.out, if_neg hne])
                        have HPM : Hid (pnt (grpT xs) Hn m = pnt (grpT xs) Hn X) := Lib.hid (by rw [HML.out]; exact HLM.out)
                        have hpn : pn = X := by
                          rcases Own.shape HPd.out with ⟨e1, e⟩ | ⟨g, cap, e1, _⟩
                          · have e := congrArg List.length e
                            rw [List.length_map, vec_length] at e
                            simp at e
                            omega
                          · cases e1
                            rw [List.length_map, vec_length]
                        obtain ⟨pg, hpg⟩ : ∃ pg, pp = some ⟨pg, 0, none⟩ := by
                          rcases Own.shape HPd.out with ⟨e1, e⟩ | ⟨g, cap, e1, _⟩
                          · have e := congrArg List.length e
                            rw [List.length_map, vec_length] at e
                            simp at e
                            omega
                          · cases e1
                            exact ⟨g, rfl⟩
                        subst hpg
                        have hcm : wr.cell? ⟨pg, m, none⟩ = some (.int .i64 (pnt (grpT xs) Hn m)) := Own.cell HPd.out (by rw [List.getElem?_map, vec_at _ hmlt]; rfl)
                        rw [HPM.out] at hcm
                        subst hpn
                        generalize pnt (grpT xs) Hn pn = pX at *
                        clear hne
                        go_wp2_with (at_builtin; refine wp_pushI (gx := wr.heap.size) (y := (pX : Int)) HPd.out rfl (.tmp 128) (.tmp 133) rfl rfl rfl rfl hBs hlen ?_; intro v' w6 ho6 hg6 hb6; obtain ⟨p6, n6, c6, rfl⟩ := ho6.slice)
                        have HN6 : Hid (OwnI w6 wc.heap.size (.slice p6 n6 c6) (vec (pn + 1) fun z => (pnt (grpT xs) Hn z : Int))) := Lib.hid (by rw [HVS.out]; exact ho6)
                        have HB6 := Lib.hid (HBd.out.trans hb6)
                        clear ho6 hg6 hb6
                        go_roundw
                        case rel => exact ⟨pn + 1, by omega, by go_num, by rw [HCC.out], HN6, HB6⟩
                        case measure => simp [intOf]; omega
                · obtain rfl : X = n := by omega
                  have hmk := run_make_row' (P := Try.prog) 29 2 (.int .i64 0) 8 Try.underlying29 info_int rfl .i64 .i64 X (by omega) (by omega)
                  have hcn := cnt_le (grpT xs) Hn X
                  have HPL := Lib.hid (fun (z : Nat) (hz : z < X) => HSG.out.pnt_lt hz)
                  obtain ⟨gp, cp, rfl⟩ : ∃ gp cp, u11 = .slice (some ⟨gp, 0, none⟩) X cp := by
                    rcases Own.shape HP.out with ⟨_, e⟩ | ⟨g, cap, e1, _⟩
                    · have e := congrArg List.length e
                      rw [List.length_map, vec_length] at e
                      simp at e
                      omega
                    · exact ⟨g, cap, by rw [e1, List.length_map, vec_length]⟩
                  obtain ⟨cN, hcN⟩ : ∃ cN, cN = cnt (grpT xs) Hn X := ⟨_, rfl⟩
                  have HCN := Lib.hid hcN
                  rw [← hcN] at hcn HPL ⊢
                  clear hcN
                  have hcP : 0 < cN := Nat.lt_of_le_of_lt (Nat.zero_le _) (HPL.out 0 (by omega))
                  have hmk2 := run_make_row' (P := Try.prog) 29 2 (.int .i64 0) 8 Try.underlying29 info_int rfl .i64 .i64 cN (by omega) (by omega)
                  have HBA : Hid (Below w.heap.size w wr) := Lib.hid (HBW.out.trans (HBL.out.mono HBW.out.size))
                  have HCW : Hid (wr.cell? ⟨w.heap.size, 0, none⟩ = some (.slice none 0 0) ∧ wr.cell? ⟨w.heap.size + 1, 0, none⟩ = some (.slice none 0 0) ∧ wr.frozen? ⟨w.heap.size, 0, none⟩ = false ∧ wr.frozen? ⟨w.heap.size + 1, 0, none⟩ = false ∧ w.heap.size < wr.heap.size ∧ w.heap.size + 1 < wr.heap.size) := Lib.hid ⟨bcell HBL.out hc0, bcell HBL.out hc1, bfrozen HBL.out hc0 hf0, bfrozen HBL.out hc1 hf1, Nat.lt_of_lt_of_le hlt1 HBL.out.size, Nat.lt_of_lt_of_le hlt2 HBL.out.size⟩
                  clear hc0 hc1 hf0 hf1 hlt1 hlt2
                  go_wp2_with fail
                  obtain ⟨wq, rfl⟩ : ∃ wq : World, wq = wr := ⟨_, rfl⟩
                  go_loopw [18] (fun i wr => ∃ (k : Nat) (pr : Option Addr) (nr cr : Nat) (pa : Option Addr) (na ca : Nat) (D1 D2 : Nat → Prop), k ≤ X ∧ i = .int .i64 k ∧ wr.cell? ⟨wq.heap.size, 0, none⟩ = some (.slice pr nr cr) ∧ wr.frozen? ⟨wq.heap.size, 0, none⟩ = false ∧ wr.cell? ⟨wq.heap.size + 1, 0, none⟩ = some (.slice pa na ca) ∧ wr.frozen? ⟨wq.heap.size + 1, 0, none⟩ = false ∧ wq.heap.size + 2 ≤ wr.heap.size ∧ Hid (TwoC wr (wq.heap.size + 2) D1 D2 (.slice pr nr cr) (.slice pa na ca) (vec k fun a => tab X X (tabE X (grpT xs) a)) (actT X (grpT xs) Hn k)) ∧ Hid (Below wq.heap.size wq wr)) (fun i _ => X - (intOf i).toNat)
                  case atStart => exact ⟨0, none, 0, 0, none, 0, 0, fun _ => False, fun _ => False, Nat.zero_le _, rfl, by simp, by simp, by simp, by simp, by simp, Lib.hid ⟨CubOn.nil _ _, CubOn.nil _ _, fun _ _ h => h, fun _ _ h => h, fun g h => by simp [Value.ownBlock] at h⟩, Lib.hid ((below_alloc wq _).alloc (by simp) _)⟩
                  case round =>
                    obtain ⟨x, pr, nr, cr, pa, na, ca, D1, D2, hx, rfl, hr1, hr2, ha1, ha2, hsz, HTW, HBQ⟩ := hrel
                    have HBO : Hid (Below w.heap.size w wr) := Lib.hid (HBA.out.trans (HBQ.out.mono HBA.out.size))
                    by_cases hxX : x < X
                    · have HR := Lib.hid (And.intro hr1 (And.intro hr2 (And.intro ha1 ha2)))
                      clear hr1 hr2 ha1 ha2
                      go_wp2_with fail
                      obtain ⟨wo, rfl⟩ : ∃ wo : World, wo = wr := ⟨_, rfl⟩
                      have hst : Hid (MatR ((wo.alloc (.cells #[] 29)).alloc (.cells #[] 29)) wo.heap.size (fun g => g = wo.heap.size + 1) (.slice (some ⟨wo.heap.size, 0, none⟩) 0 0) (tab 0 X (tabE X (grpT xs) x))) := Lib.hid (MatR.empty (Own.alloc (own_empty wo 29 wo.heap.size (Nat.le_refl _)) _) (by omega))
                      have hst2 : Hid (Own ((wo.alloc (.cells #[] 29)).alloc (.cells #[] 29)) 29 wo.heap.size (.slice (some ⟨wo.heap.size + 1, 0, none⟩) 0 0) []) := Lib.hid (by
                        have h := own_empty (wo.alloc (.cells #[] 29)) 29 wo.heap.size (by simp)
                        simpa using h)
                      have hst3 : Hid (Below wo.heap.size wo ((wo.alloc (.cells #[] 29)).alloc (.cells #[] 29))) := Lib.hid ((below_alloc wo _).alloc (by simp) _)
                      go_loopw [19, 21] (fun s j wr => ∃ y : Nat, y ≤ X ∧ j = .int .i64 y ∧ Hid (MatR wr wo.heap.size (fun g => g = wo.heap.size + 1) s (tab y X (tabE X (grpT xs) x))) ∧ Hid (Own wr 29 wo.heap.size (.slice (some ⟨wo.heap.size + 1, 0, none⟩) 0 0) []) ∧ Hid (Below wo.heap.size wo wr)) (fun _ j _ => X - (intOf j).toNat)
                      case atStart => exact ⟨0, Nat.zero_le _, rfl, hst, hst2, hst3⟩
                      case round =>
                        clear hst hst2 hst3
                        obtain ⟨y, hy, rfl, HM, HE, HBI⟩ := hrel
                        have hszi := HBI.out.size
                        by_cases hyX : y < X
                        · have HBV : Hid (Below w.heap.size w wr) := Lib.hid (HBO.out.trans (HBI.out.mono HBO.out.size))
                          have hTX : grpT xs x y < X := HSG.out.gp.lt x y
                          obtain ⟨wm, hwm⟩ : ∃ wm, wm = wr.alloc (.cells (madeCells #[.int .i64 0] X) 2) := ⟨_, rfl⟩
                          have HA : Hid (Below wr.heap.size wr wm) := Lib.hid (by rw [hwm]; exact below_alloc wr _)
                          have HZ : Hid (OwnI wm wr.heap.size (.slice (some ⟨wr.heap.size, 0, none⟩) X X) (vec X fun _ => 0)) := Lib.hid (by rw [hwm]; exact own_zeros wr X (by omega))
                          have HADD := Lib.hid (q_l09Add v xs x y wm (HV.out.keep (HBV.out.trans (HA.out.mono HBV.out.size))) (gOk_true HG.out).2.1 (gOk_true HG.out).2.2.2 (by omega) (by omega))
                          have HRO : Hid ((vec X fun _ => (0 : Int)).set (grpT xs x y) 1 = vec X (tabE X (grpT xs) x y)) := Lib.hid (row_one hxX hyX rfl)
                          have HRS : Hid (tab (y + 1) X (tabE X (grpT xs) x) = tab y X (tabE X (grpT xs) x) ++ [vec X (tabE X (grpT xs) x y)]) := Lib.hid (by rw [tab, vec_snoc]; rfl)
                          have HWM := Lib.hid hwm
                          generalize grpT xs x y = T at *
                          clear hwm
                          go_wp2_with fail
                          rw [← HWM.out]
                          refine HADD.out.mono ?_
                          rintro e w5 ⟨rfl, hd5⟩
                          have HB5 : Hid (Below wr.heap.size wr w5) := Lib.hid (HA.out.trans (hd5.below _))
                          have HZ5 : Hid (OwnI w5 wr.heap.size (.slice (some ⟨wr.heap.size, 0, none⟩) X X) (vec X fun _ => 0)) := Lib.hid (by obtain ⟨q, rfl⟩ := hd5; exact Own.drewN HZ.out q)
                          have hc5 : w5.cell? ⟨wr.heap.size, T, none⟩ = some (.int .i64 0) := Own.cell HZ5.out (by rw [List.getElem?_map, vec_at _ hTX]; rfl)
                          have hf5 : w5.frozen? ⟨wr.heap.size, T, none⟩ = false := Own.frozen HZ5.out T
                          have HZ6 : Hid (OwnI (w5.setCell ⟨wr.heap.size, T, none⟩ (.int .i64 1)) wr.heap.size (.slice (some ⟨wr.heap.size, 0, none⟩) X X) (vec X (tabE X (grpT xs) x y))) := Lib.hid (by
                            have h := Own.store HZ5.out T (vi 1)
                            rw [← List.map_set, HRO.out] at h
                            exact h)
                          have HB6 : Hid (Below wr.heap.size wr (w5.setCell ⟨wr.heap.size, T, none⟩ (.int .i64 1))) := Lib.hid (below_set HB5.out (Nat.le_refl _))
                          have HEL : Hid (∀ g, g = wo.heap.size + 1 → g < wr.heap.size) := Lib.hid (fun g hg => by subst hg; exact (Own.lt HE.out rfl).2)
                          have hlen : (tab y X (tabE X (grpT xs) x)).length ≤ 1000000 := by rw [tab_length]; omega
                          clear hd5 HADD
                          go_wp2_with (at_builtin; refine wp_pushR (w0 := wr) HM.out HEL.out HB6.out HZ6.out rfl (.tmp 157) (.tmp 159) rfl rfl rfl (by first | with_reducible rfl | simp) hszi hlen ?_; intro v' w7 ho7 hb7 hk7)
                          have HM7 : Hid (MatR w7 wo.heap.size (fun g => g = wo.heap.size + 1) v' (tab (y + 1) X (tabE X (grpT xs) x))) := Lib.hid (by rw [HRS.out]; exact ho7)
                          have HE7 : Hid (Own w7 29 wo.heap.size (.slice (some ⟨wo.heap.size + 1, 0, none⟩) 0 0) []) := Lib.hid (HE.out.of_block fun g hg => by
                            have e : g = wo.heap.size + 1 := by cases hg; rfl
                            exact (hk7 g e).trans (HB6.out.block g (HEL.out g e)))
                          have HB7 : Hid (Below wo.heap.size wo w7) := Lib.hid ((HBI.out.trans (HB6.out.mono hszi)).trans hb7)
                          clear ho7 hb7 hk7
                          go_roundw
                          case rel => exact ⟨y + 1, by omega, by go_num, HM7, HE7, HB7⟩
                          case measure => simp [intOf]; omega
                        · obtain rfl : X = y := by omega
                          obtain ⟨wS, rfl⟩ : ∃ wS : World, wS = wr := ⟨_, rfl⟩
                          have hsE : wo.heap.size + 1 < wS.heap.size := (Own.lt HE.out rfl).2
                          obtain ⟨E1, hE1⟩ : ∃ E1 : Nat → Prop, E1 = fun g => wo.heap.size ≤ g ∧ g < wS.heap.size ∧ ¬ g = wo.heap.size + 1 := ⟨_, rfl⟩
                          have HTR : Hid (TabOn wS E1 u19 (tab X X (tabE X (grpT xs) x))) := Lib.hid (by
                            rw [hE1]
                            exact HM.out.on (by rw [tab_length]; omega) fun ys hys => by
                              obtain ⟨i, _, rfl⟩ := vec_mem hys
                              rw [vec_length]; omega)
                          obtain ⟨ps, ns, cs, rfl⟩ := HM.out.own.sliceM
                          have HEB : Hid (∀ g, E1 g → wo.heap.size ≤ g ∧ g < wS.heap.size) := Lib.hid (fun g hg => by rw [hE1] at hg; exact ⟨hg.1, hg.2.1⟩)
                          have hst : Hid (MatR wS wo.heap.size E1 (.slice (some ⟨wo.heap.size + 1, 0, none⟩) 0 0) (tab 0 cN fun _ _ => 0)) := Lib.hid (MatR.empty HE.out (by rw [hE1]; exact fun h => h.2.2 rfl))
                          clear hE1 HM HE
                          go_wp2_with fail
                          go_loopw [20, 23] (fun s j wr => ∃ k : Nat, k ≤ cN ∧ j = .int .i64 k ∧ Hid (MatR wr wo.heap.size E1 s (tab k cN fun _ _ => 0)) ∧ Hid (∀ g, E1 g → wr.heap[g]? = wS.heap[g]?) ∧ wS.heap.size ≤ wr.heap.size ∧ Hid (Below wo.heap.size wo wr)) (fun _ j _ => cN - (intOf j).toNat)
                          case atStart => exact ⟨0, Nat.zero_le _, rfl, hst, Lib.hid (fun _ _ => rfl), Nat.le_refl _, HBI⟩
                          case round =>
                            clear hst HBI
                            obtain ⟨k, hk, rfl, HM, HK, hsS, HBJ⟩ := hrel
                            have hszj := HBJ.out.size
                            by_cases hkc : k < cN
                            · have HA := Lib.hid (below_alloc wr (.cells (madeCells #[.int .i64 0] cN) 2))
                              have HZ := Lib.hid (own_zeros wr cN (by omega))
                              have HEL : Hid (∀ g, E1 g → g < wr.heap.size) := Lib.hid (fun g hg => by have := (HEB.out g hg).2; omega)
                              have hlen : (tab k cN fun _ _ => 0).length ≤ 1000000 := by rw [tab_length]; omega
                              go_wp2_with (at_builtin; refine wp_pushR (w0 := wr) HM.out HEL.out HA.out HZ.out rfl (.tmp 166) (.tmp 169) rfl rfl rfl (by first | with_reducible rfl | simp) hszj hlen ?_; intro v' w7 ho7 hb7 hk7)
                              have HM7 : Hid (MatR w7 wo.heap.size E1 v' (tab (k + 1) cN fun _ _ => 0)) := Lib.hid (by rw [tab, vec_snoc]; exact ho7)
                              have HK7 : Hid (∀ g, E1 g → w7.heap[g]? = wS.heap[g]?) := Lib.hid (fun g hg => (hk7 g hg).trans ((HA.out.block g (HEL.out g hg)).trans (HK.out g hg)))
                              have HB7 : Hid (Below wo.heap.size wo w7) := Lib.hid ((HBJ.out.trans (HA.out.mono hszj)).trans hb7)
                              have hsS7 : wS.heap.size ≤ w7.heap.size := by have := hb7.size; simp at this; omega
                              clear ho7 hb7 hk7
                              go_roundw
                              case rel => exact ⟨k + 1, by omega, by go_num, HM7, HK7, hsS7, HB7⟩
                              case measure => simp [intOf]; omega
                            · obtain rfl : cN = k := by omega
                              obtain ⟨gm, cm, rfl⟩ : ∃ gm cm, u20 = .slice (some ⟨gm, 0, none⟩) cN cm := by
                                obtain ⟨g, c, e, _⟩ := HM.out.own.shape' (by rw [tab_length]; exact hcP)
                                exact ⟨g, c, by rw [e, tab_length]⟩
                              have hst : Hid (MatR wr wo.heap.size E1 (.slice (some ⟨gm, 0, none⟩) cN cm) (mk X (grpT xs) Hn x 0)) := Lib.hid (by rw [← mk_zero, ← HCN.out]; exact HM.out)
                              clear HM
                              go_wp2_with fail
                              obtain ⟨wT, rfl⟩ : ∃ wT : World, wT = wr := ⟨_, rfl⟩
                              go_loopw [24] (fun j wr => ∃ y : Nat, y ≤ X ∧ j = .int .i64 y ∧ Hid (MatR wr wo.heap.size E1 (.slice (some ⟨gm, 0, none⟩) cN cm) (mk X (grpT xs) Hn x y)) ∧ Hid (∀ g, E1 g → wr.heap[g]? = wS.heap[g]?) ∧ wS.heap.size ≤ wr.heap.size ∧ Hid (Below wo.heap.size wo wr)) (fun j _ => X - (intOf j).toNat)
                              case atStart => exact ⟨0, Nat.zero_le _, rfl, hst, HK, hsS, HBJ⟩
                              case round =>
                                clear hst HK HBJ hszj hsS
                                obtain ⟨y, hy, rfl, HM, HK, hsS, HBJ⟩ := hrel
                                have hszj := HBJ.out.size
                                have HBV : Hid (Below w.heap.size w wr) := Lib.hid (HBO.out.trans (HBJ.out.mono HBO.out.size))
                                have HBX : Hid (Below wq.heap.size wq wr) := Lib.hid (HBQ.out.trans (HBJ.out.mono HBQ.out.size))
                                by_cases hyX : y < X
                                · have hTX : grpT xs x y < X := HSG.out.gp.lt x y
                                  have hPT := HPL.out _ hTX
                                  have hPY := HPL.out y hyX
                                  have HADD := Lib.hid (q_l09Add v xs x y wr (HV.out.keep HBV.out) (gOk_true HG.out).2.1 (gOk_true HG.out).2.2.2 (by omega) (by omega))
                                  have HNX := Lib.hid (mk_next X (grpT xs) Hn x y)
                                  have HPP : Hid (OwnI wr wc.heap.size (.slice (some ⟨gp, 0, none⟩) X cp) (vec X fun z => (pnt (grpT xs) Hn z : Int))) := Lib.hid (Own.keep HP.out HBX.out)
                                  obtain ⟨T, hT⟩ : ∃ T, T = grpT xs x y := ⟨_, rfl⟩
                                  rw [← hT] at hTX hPT HADD HNX
                                  have HTT := Lib.hid hT
                                  clear hT
                                  have HcT : Hid (wr.cell? ⟨gp, T, none⟩ = some (.int .i64 (pnt (grpT xs) Hn T))) := Lib.hid (Own.cell HPP.out (by rw [List.getElem?_map, vec_at _ hTX]; rfl))
                                  have HcY : Hid (wr.cell? ⟨gp, y, none⟩ = some (.int .i64 (pnt (grpT xs) Hn y))) := Lib.hid (Own.cell HPP.out (by rw [List.getElem?_map, vec_at _ hyX]; rfl))
                                  obtain ⟨f, hf⟩ : ∃ f, f = mkE (grpT xs) Hn x y := ⟨_, rfl⟩
                                  have HMX : Hid (MatR wr wo.heap.size E1 (.slice (some ⟨gm, 0, none⟩) cN cm) (tab cN cN f)) := Lib.hid (by
                                    have h := HM.out
                                    unfold mk at h
                                    rw [← HCN.out] at h
                                    rw [hf]
                                    exact h)
                                  have HNX2 : Hid ((tab cN cN f).set (pnt (grpT xs) Hn T) ((vec cN (f (pnt (grpT xs) Hn T))).set (pnt (grpT xs) Hn y) 1) = mk X (grpT xs) Hn x (y + 1)) := Lib.hid (by rw [hf, HCN.out]; exact HNX.out)
                                  clear hf HNX HM HPP
                                  generalize pnt (grpT xs) Hn T = r at *
                                  generalize pnt (grpT xs) Hn y = c at *
                                  go_wp2_with fail
                                  refine HADD.out.mono ?_
                                  rintro e w5 ⟨rfl, hd5⟩
                                  have HB5 : Hid (Below wr.heap.size wr w5) := Lib.hid (hd5.below _)
                                  have hcT : w5.cell? ⟨gp, T, none⟩ = some (.int .i64 r) := hd5.cell HcT.out
                                  have hcY : w5.cell? ⟨gp, y, none⟩ = some (.int .i64 c) := hd5.cell HcY.out
                                  obtain ⟨gk, ck, k1, k2, k3, k4, k5, k6⟩ := (HMX.out.keep HB5.out).entry (k := r) (i := c) (tab_row f hPT) (vec_at _ hPY)
                                  rw [vec_length] at k1
                                  have HK6 := Lib.hid k6
                                  have HK5 := Lib.hid k5
                                  clear hd5 HADD k6 k5
                                  go_wp2_with fail
                                  go_roundw
                                  case rel => exact ⟨y + 1, by omega, by go_num, Lib.hid (by rw [← HNX2.out]; exact HK6.out 1), Lib.hid (fun g hg => (Below.heap_setCell _ _ _ _ (fun e => HK5.out (by have e' : g = gk := e; rw [← e']; exact hg))).trans ((HB5.out.block g (by have := (HEB.out g hg).2; omega)).trans (HK.out g hg))), by have := HB5.out.size; simp; omega, Lib.hid (below_set (HBJ.out.trans (HB5.out.mono hszj)) k4)⟩
                                  case measure => simp [intOf]; omega
                                · obtain rfl : X = y := by omega
                                  have HTM : Hid (TabOn wr (fun g => wo.heap.size ≤ g ∧ g < wr.heap.size ∧ ¬ E1 g) (.slice (some ⟨gm, 0, none⟩) cN cm) (tab (cnt (grpT xs) Hn X) (cnt (grpT xs) Hn X) (actE X (grpT xs) Hn x))) := Lib.hid (by
                                    have h := HM.out
                                    rw [mk_end HSG.out] at h
                                    refine h.on (by rw [tab_length, ← HCN.out]; omega) fun ys hys => ?_
                                    obtain ⟨i, _, rfl⟩ := vec_mem hys
                                    rw [vec_length, ← HCN.out]; omega)
                                  have HTR2 : Hid (TabOn wr E1 (.slice ps ns cs) (tab X X (tabE X (grpT xs) x))) := Lib.hid (HTR.out.mono (fun _ h => h) HK.out)
                                  have HT := HTW.out.keep (fun g _ hg => HBJ.out.block g hg) HBJ.out.size
                                  have hr1 := cellOf3 HBJ.out (show wq.heap.size < wo.heap.size by omega) HR.out.1
                                  have hr2 := frozenOf3 HBJ.out (show wq.heap.size < wo.heap.size by omega) HR.out.2.1
                                  have ha1 := cellOf3 HBJ.out (show wq.heap.size + 1 < wo.heap.size by omega) HR.out.2.2.1
                                  have ha2 := frozenOf3 HBJ.out (show wq.heap.size + 1 < wo.heap.size by omega) HR.out.2.2.2
                                  obtain ⟨p6, n6, c6, w6, hrun6, hcu6, hb6, hs6, hk6, hat6⟩ := run_cub HT.a HTR2.out (fun g hg => ⟨by have := (HEB.out g hg).1; omega, by have := (HEB.out g hg).2; omega⟩) (fun g e hg => by
                                    have h1 := (HTW.out.a.vlt e).2
                                    have h2 := (HEB.out g hg).1
                                    omega) (by omega) (by rw [vec_length]; omega)
                                  have HT6 := HT.push hcu6 hs6 hk6 hat6 (fun g e hg => by
                                    have h1 := (HTW.out.b.vlt e).2
                                    have h2 := (HEB.out g hg).1
                                    omega)
                                  have hr6 := cellOf3 hb6 (show wq.heap.size < wq.heap.size + 2 by omega) hr1
                                  have hq6 := frozenOf3 hb6 (show wq.heap.size < wq.heap.size + 2 by omega) hr2
                                  have ha6 := cellOf3 hb6 (show wq.heap.size + 1 < wq.heap.size + 2 by omega) ha1
                                  have hz6 := frozenOf3 hb6 (show wq.heap.size + 1 < wq.heap.size + 2 by omega) ha2
                                  obtain ⟨w7, hw7⟩ : ∃ w7, w7 = w6.setCell ⟨wq.heap.size, 0, none⟩ (.slice p6 n6 c6) := ⟨_, rfl⟩
                                  have hs7 : w7.heap.size = w6.heap.size := by rw [hw7]; simp
                                  have hsm7 : ∀ g, g ≠ wq.heap.size → w7.heap[g]? = w6.heap[g]? := fun g hg => by rw [hw7]; exact Below.heap_setCell _ _ _ _ hg
                                  have HT7 := HT6.keep (fun g h1 _ => hsm7 g (by omega)) (Nat.le_of_eq hs7.symm)
                                  have HTM7 : TabOn w7 (fun g => wo.heap.size ≤ g ∧ g < wr.heap.size ∧ ¬ E1 g) _ _ := HTM.out.mono (fun _ h => h) fun g hg => (hsm7 g (by omega)).trans (hk6 g hg.2.1 fun e => by
                                    have := (HTW.out.a.vlt e).2
                                    omega)
                                  have ha7 : w7.cell? ⟨wq.heap.size + 1, 0, none⟩ = some (.slice pa na ca) := by rw [hw7]; exact (World.cell?_setCell_other _ _ _ _ (fun h => by simp at h)).trans ha6
                                  have hz7 : w7.frozen? ⟨wq.heap.size + 1, 0, none⟩ = false := by rw [hw7]; simp [hz6]
                                  have hr7 : w7.cell? ⟨wq.heap.size, 0, none⟩ = some (.slice p6 n6 c6) := by rw [hw7]; exact World.cell?_setCell_same _ _ _ hr6
                                  have hq7 : w7.frozen? ⟨wq.heap.size, 0, none⟩ = false := by rw [hw7]; simp [hq6]
                                  obtain ⟨p8, n8, c8, w8, hrun8, hcu8, hb8, hs8, hk8, hat8⟩ := run_cub HT7.b HTM7 (fun g hg => ⟨by omega, by omega⟩) (fun g e hg => by
                                    have h1 := (HTW.out.b.vlt e).2
                                    omega) (by omega) (by unfold actT; rw [vec_length]; omega)
                                  have HT8 := (HT7.swap.push hcu8 hs8 hk8 hat8 (fun g e hg => by
                                    rcases hat6 g e with h | h
                                    · have h1 := (HTW.out.a.vlt h).2
                                      omega
                                    · omega)).swap
                                  have hr8 := cellOf3 hb8 (show wq.heap.size < wq.heap.size + 2 by omega) hr7
                                  have hq8 := frozenOf3 hb8 (show wq.heap.size < wq.heap.size + 2 by omega) hq7
                                  have ha8 := cellOf3 hb8 (show wq.heap.size + 1 < wq.heap.size + 2 by omega) ha7
                                  have hz8 := frozenOf3 hb8 (show wq.heap.size + 1 < wq.heap.size + 2 by omega) hz7
                                  have HT9 : Hid (TwoC (w8.setCell ⟨wq.heap.size + 1, 0, none⟩ (.slice p8 n8 c8)) (wq.heap.size + 2) _ _ (.slice p6 n6 c6) (.slice p8 n8 c8) (vec (x + 1) fun a => tab X X (tabE X (grpT xs) a)) (actT X (grpT xs) Hn (x + 1))) := Lib.hid (by
                                    have h := HT8.keep (w' := w8.setCell ⟨wq.heap.size + 1, 0, none⟩ (.slice p8 n8 c8)) (fun g h1 _ => Below.heap_setCell _ _ _ _ (fun e => by simp at e; omega)) (by simp)
                                    rw [vec_snoc, show actT X (grpT xs) Hn (x + 1) = actT X (grpT xs) Hn x ++ [_] from vec_snoc _ _]
                                    exact h)
                                  have HB9 : Hid (Below wq.heap.size wq (w8.setCell ⟨wq.heap.size + 1, 0, none⟩ (.slice p8 n8 c8))) := Lib.hid (by
                                    have h1 : Below wq.heap.size wr w6 := hb6.mono (by omega)
                                    have h2 : Below wq.heap.size wr w7 := by rw [hw7]; exact below_set h1 (Nat.le_refl _)
                                    have h3 : Below wq.heap.size wr w8 := h2.trans (hb8.mono (by omega))
                                    exact below_set (HBX.out.trans h3) (by omega))
                                  have hs9 : wq.heap.size + 2 ≤ w8.heap.size := by omega
                                  have hw6 : wq.heap.size < w6.heap.size := by omega
                                  have hw8 : wq.heap.size + 1 < w8.heap.size := by omega
                                  have HW7 := Lib.hid hw7
                                  clear hcu6 hcu8 hb6 hb8 hat6 hat8 HT6 HT7 HT8 HTM7 hk6 hk8 hsm7 HT hw7
                                  rw [hs7, HW7.out] at hrun8
                                  have HRUN6 := Lib.hid hrun6
                                  have HRUN8 := Lib.hid hrun8
                                  clear hrun6 hrun8
                                  go_wp2_with (at_builtin; first | (refine wp_appendRun (t := 30) (v := .slice pr nr cr) (u := .slice (some ⟨wr.heap.size, 0, none⟩) 1 1) (v' := .slice p6 n6 c6) (w' := w6) ?_ (.tmp 193) (.tmp 195) ?_ ?_ ?_ ?_ ?_; rfl; rfl; rfl; rfl; with_reducible exact HRUN6.out) | (refine wp_appendRun (t := 30) (v := .slice pa na ca) (u := .slice (some ⟨w6.heap.size, 0, none⟩) 1 1) (v' := .slice p8 n8 c8) (w' := w8) ?_ (.tmp 199) (.tmp 201) ?_ ?_ ?_ ?_ ?_; rfl; rfl; rfl; rfl; with_reducible exact HRUN8.out))
                                  go_roundw
                                  case rel => exact ⟨x + 1, p6, n6, c6, p8, n8, c8, _, _, by omega, by go_num, (World.cell?_setCell_other _ _ _ _ (fun h => by simp at h)).trans hr8, by simp [hq8], World.cell?_setCell_same _ _ _ ha8, by simp [hz8], by simpa using hs9, HT9, HB9⟩
                                  case measure => simp [intOf]; omega
                    · obtain rfl : X = x := by omega
                      have hlt1 : wq.heap.size < wr.heap.size := by omega
                      have hlt2 : wq.heap.size + 1 < wr.heap.size := by omega
                      have hc0 := cellOf3 HBQ.out HCW.out.2.2.2.2.1 HCW.out.1
                      have hc1 := cellOf3 HBQ.out HCW.out.2.2.2.2.2 HCW.out.2.1
                      have hf0 := frozenOf3 HBQ.out HCW.out.2.2.2.2.1 HCW.out.2.2.1
                      have hf1 := frozenOf3 HBQ.out HCW.out.2.2.2.2.2 HCW.out.2.2.2.1
                      have hlt3 := HCW.out.2.2.2.2.1
                      have hlt4 := HCW.out.2.2.2.2.2
                      go_wp2_with fail
                      have H : Hid (traN xs hs = ((vec X fun a => tab X X (tabE X (grpT xs) a), actT X (grpT xs) Hn X), 0)) := Lib.hid (by
                        unfold traN
                        rw [if_pos HG.out, if_pos HOK.out, ← HHN.out, HSB.out, if_pos (by rw [Bool.true_and]; simpa using HSG.out.zero), ← HN.out]
                        rfl)
                      have hwX : (vec X fun a => tab X X (tabE X (grpT xs) a)).length ≤ 100000 := by rw [vec_length]; omega
                      have haX : (actT X (grpT xs) Hn X).length ≤ 100000 := by unfold actT; rw [vec_length]; omega
                      have HF := Lib.hid (HTW.out.keep (w' := ((wr.setCell ⟨w.heap.size, 0, none⟩ (.slice pr nr cr)).setCell ⟨w.heap.size + 1, 0, none⟩ (.slice pa na ca)).drew) (fun g h1 _ => (Below.heap_setCell _ _ _ _ (fun e => by simp at e; omega)).trans (Below.heap_setCell _ _ _ _ (fun e => by simp at e; omega))) (by simp))
                      go_region
                      go_wp2_with fail
                      (try simp only [Exit.inBlock, Exit.then])
                      refine bodyPost_ret (v := .tuple #[.agg #[.slice pr nr cr], .agg #[.slice pa na ca], .int .i64 0]) (by rw [results_cct rfl]; go_simp) rfl ?_
                      exact ⟨pr, nr, cr, pa, na, ca, by rw [H.out], by rw [H.out]; exact HF.out.a.cubes hwX, by rw [H.out]; exact HF.out.b.cubes haX, (below_set (below_set HBO.out (by simp)) (by simp)).drew⟩
end Go.Proofs.Ytckcjlophnehmaa
