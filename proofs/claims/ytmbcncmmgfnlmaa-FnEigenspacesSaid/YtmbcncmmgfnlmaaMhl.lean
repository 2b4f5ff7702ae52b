/- Walks: helpers of the laws on matrices. -/
import Derived.Test.YtmbcncmmgfnlmaaMdr
import Derived.Test.YtmbcncmmgfnlmaaGpw
import Derived.Deep.RegionHeld3
namespace Go.Proofs.Ytmbcncmmgfnlmaa
open Go.RowKit
open Fus (F Mx toI ofI toI_bd toI_of toI_ofI ofI_toI ofI_add ofI_mul setR one)
/-- equal lists -/
theorem q_likeInts (u v : Value) (xs : List Int) (w : World) (hu : Ints w u xs) (hv : Ints w v xs) :
    Calls Try.prog 29 #[u, v] w fun e w' => e = .returned (.bool true) ∧ Drew w w' := by
  obtain ⟨a, cap, rfl, hl, hc⟩ := hu
  obtain ⟨a', cap', rfl, hl', hc'⟩ := hv
  have HC := Lib.hid hc
  have HC' := Lib.hid hc'
  clear hc hc'
  go_enter Try.func29, Try.ntmps29
  go_wp2_with fail
  go_loopw [5] (fun i wr => ∃ k : Nat, k ≤ xs.length ∧ i = .int .i64 k ∧ ∃ n, wr = w.drewN n) (fun i _ => xs.length - (intOf i).toNat)
  case atStart => exact ⟨0, Nat.zero_le _, rfl, 0, rfl⟩
  case round =>
    obtain ⟨k, hk, rfl, n, rfl⟩ := hrel
    by_cases hlt : k < xs.length
    · obtain ⟨x, hx⟩ : ∃ x, xs[k]? = some x := ⟨xs[k], by simp [hlt]⟩
      obtain ⟨b, off, rfl, hcell⟩ := HC.out k x hx
      obtain ⟨b', off', rfl, hcell'⟩ := HC'.out k x hx
      clear hx
      have heB : (x != x) = false := by simp
      go_wp2_with fail
      go_quiet (fail)
      go_wp2_with fail
      go_roundw
      case rel => exact ⟨k + 1, by omega, by go_num, _, rfl⟩
      case measure => simp [intOf]; omega
    · go_wp2_with fail
      go_ret
      exact ⟨rfl, _, rfl⟩
theorem q_likeRows5 (u v : Value) (xss : List (List Int)) (w : World) (hu : IntRows w u xss) (hv : IntRows w v xss) :
    Calls Try.prog 10 #[u, v] w fun e w' => e = .returned (.bool true) ∧ Drew w w' := by
  obtain ⟨a, cap, rfl, hl, hc⟩ := hu
  obtain ⟨a', cap', rfl, hl', hc'⟩ := hv
  have HC := Lib.hid hc
  have HC' := Lib.hid hc'
  clear hc hc'
  go_enter Try.func10, Try.ntmps10
  go_wp2_with fail
  go_loopw [5] (fun i wr => ∃ k : Nat, k ≤ xss.length ∧ i = .int .i64 k ∧ Hid (Drew w wr)) (fun i _ => xss.length - (intOf i).toNat)
  case atStart => exact ⟨0, Nat.zero_le _, rfl, Lib.hid (Drew.refl _)⟩
  case round =>
    obtain ⟨k, hk, rfl, HD⟩ := hrel
    by_cases hlt : k < xss.length
    · obtain ⟨x, hx⟩ : ∃ x, xss[k]? = some x := ⟨xss[k], by simp [hlt]⟩
      obtain ⟨b, off, y, rfl, hcell, hI⟩ := HC.out k x hx
      obtain ⟨b', off', y', rfl, hcell', hI'⟩ := HC'.out k x hx
      have HQ : Hid (∀ m, Calls Try.prog 29 #[y, y'] (wr.drewN m) fun e w' => e = .returned (.bool true) ∧ ∃ q, w' = (wr.drewN m).drewN q) := Lib.hid (fun m => q_likeInts y y' x (wr.drewN m) ((hI.keep (HD.out.below _)).keep (below_toDrewN m _ wr)) ((hI'.keep (HD.out.below _)).keep (below_toDrewN m _ wr)))
      have g1 := HD.out.cell hcell
      have g2 := HD.out.cell hcell'
      clear hx hI hI' hcell hcell'
      go_wp2_with fail
      go_quiet ((go_at_call 29; exact Calls.quiet_of (HQ.out _)))
      go_wp2_with fail
      go_roundw
      case rel => exact ⟨k + 1, by omega, by go_num, Lib.hid (HD.out.more _)⟩
      case measure => simp [intOf]; omega
    · go_wp2_with fail
      go_ret
      exact ⟨rfl, HD.out⟩
theorem c_zero5 (u : Value) (n : Nat) (w : World) (hu : Ints w u (zl n fun _ => 0)) :
    Calls Try.prog 23 #[u] w fun e w' => e = .returned (.bool true) ∧ w = w' := by
  obtain ⟨a, cap, rfl, hl, hc⟩ := hu
  rw [zl_length] at hl ⊢
  have HC := Lib.hid hc
  clear hc
  go_enter Try.func23, Try.ntmps23
  go_wp2_with fail
  go_loopw [3] (fun i wr => ∃ k : Nat, k ≤ n ∧ i = .int .i64 k ∧ w = wr) (fun i _ => n - (intOf i).toNat)
  case atStart => exact ⟨0, Nat.zero_le _, rfl, rfl⟩
  case round =>
    obtain ⟨k, hk, rfl, rfl⟩ := hrel
    by_cases hlt : k < n
    · obtain ⟨b, off, rfl, hcell⟩ := HC.out k _ (zl_at _ hlt)
      rw [Fus.toI_zero] at hcell
      go_wp2_with fail
      go_roundw
      case rel => exact ⟨k + 1, by omega, by go_num, trivial⟩
      case measure => simp [intOf]; omega
    · go_wp2_with fail
      go_ret
      exact ⟨rfl, rfl⟩
theorem c_hasInt (u : Value) (xs : List Int) (x : Int) (w : World) (hu : Ints w u xs) :
    Calls Try.prog 41 #[u, .int .i64 x] w fun e w' => e = .returned (.bool (decide (x ∈ xs))) ∧ w = w' := by
  obtain ⟨a, cap, rfl, hl, hc⟩ := hu
  have HC := Lib.hid hc
  clear hc
  go_enter Try.func41, Try.ntmps41
  go_wp2_with fail
  go_loopw [5] (fun i wr => ∃ k : Nat, k ≤ xs.length ∧ i = .int .i64 k ∧ Hid (∀ (j : Nat), j < k → xs[j]? ≠ some x) ∧ w = wr) (fun i _ => xs.length - (intOf i).toNat)
  case atStart => exact ⟨0, Nat.zero_le _, rfl, Lib.hid (fun j h => absurd h (Nat.not_lt_zero _)), rfl⟩
  case round =>
    obtain ⟨k, hk, rfl, H, rfl⟩ := hrel
    by_cases hlt : k < xs.length
    · obtain ⟨y, hy⟩ : ∃ x, xs[k]? = some x := ⟨xs[k], by simp [hlt]⟩
      obtain ⟨b, off, rfl, hcell⟩ := HC.out k y hy
      have HY := Lib.hid hy
      clear hy
      by_cases he : y = x
      · have heB : (y == x) = true := by simp [he]
        have HD : Hid (decide (x ∈ xs) = true) := Lib.hid (decide_eq_true (by rw [← he]; exact List.mem_of_getElem? HY.out))
        clear he
        go_wp2_with fail
        go_ret
        exact ⟨by rw [HD.out]; rfl, rfl⟩
      · have heB : (y == x) = false := by simp [he]
        have HN : Hid (∀ (j : Nat), j < k + 1 → xs[j]? ≠ some x) := Lib.hid (fun j hj e => by
          by_cases h : j = k
          · subst h; rw [HY.out] at e; cases e; exact he rfl
          · exact H.out j (by omega) e)
        clear he
        go_wp2_with fail
        go_roundw
        case rel => exact ⟨k + 1, by omega, by go_num, HN, trivial⟩
        case measure => simp [intOf]; omega
    · have HD : Hid (decide (x ∈ xs) = false) := Lib.hid (decide_eq_false (fun h => by
        obtain ⟨j, hj⟩ := List.getElem?_of_mem h
        exact H.out j (by have := (List.getElem?_eq_some_iff.1 hj).1; omega) hj))
      go_wp2_with fail
      go_ret
      exact ⟨by rw [HD.out]; rfl, rfl⟩
theorem c_mod5 (a : Int) (w : World) :
    Calls Try.prog 32 #[.int .i64 a] w fun e w' => e = .returned (.int .i64 (a % 55441)) ∧ w = w' := by
  have hb := tmod_bd a
  go_enter Try.func32, Try.ntmps32
  go_wp2
  go_ret
  exact ⟨ret_int (tmod_mod a), rfl⟩
theorem c_big (u : Value) (bs : List Int) (w : World) (hu : Bytes w u bs) :
    Calls Try.prog 6 #[u] w fun e w' => e = .returned (.bool (decide (4096 < (bs.length : Int)))) ∧ w = w' := by
  obtain ⟨a, cap, rfl, _, hc⟩ := hu
  clear hc
  go_enter Try.func6, Try.ntmps6
  go_wp2_with fail
  go_ret
  exact ⟨rfl, rfl⟩
set_option maxHeartbeats 1000000 in
theorem k_list5 (v : Value) (n : Nat) (w : World) (B g : Nat) (hs : SrcG w B g v) (hn : n ≤ 1000) :
    Calls Try.prog 55 #[v, .int .i64 n] w fun e w' => ∃ (u : Value) (xs : List Int), e = .returned u ∧ OwnI w' w.heap.size u xs ∧ xs.length = n ∧ xs.all isNum = true ∧ SrcG w' B g v ∧ Kept g w w' := by
  have HS := Lib.hid hs
  have hgl := hs.lo.2
  clear hs
  go_enter Try.func55, Try.ntmps55
  go_wp2_with fail
  go_loopw [1, 5] (fun nn out wr => ∃ (k : Nat) (xs : List Int), k ≤ n ∧ nn = .int .i64 ((n - k : Nat) : Int) ∧ OwnI wr w.heap.size out xs ∧ Hid (xs.length = k ∧ xs.all isNum = true) ∧ SrcG wr B g v ∧ Kept g w wr) (fun nn _ _ => (intOf nn).toNat)
  case atStart => exact ⟨0, [], Nat.zero_le _, by simp, own_empty _ _ _ (Nat.le_refl _), ⟨rfl, rfl⟩, HS.out.keep (below_alloc _ _), Kept.ofBelow (below_alloc _ _)⟩
  case round =>
    obtain ⟨k, xs, hk, rfl, hown, HX, hs, hbel⟩ := hrel
    clear HS
    have hsz := hbel.size
    by_cases hlt : k < n
    · obtain ⟨j, hj⟩ : ∃ j, n - k = j + 1 := ⟨n - k - 1, by omega⟩
      rw [hj]
      have hjb : j < 1000 := by omega
      have HJ := Lib.hid hj
      have HS := Lib.hid hs
      have HO := Lib.hid hown
      have HB := Lib.hid hbel
      clear hs hown hbel hj
      go_wp2_with fail
      refine (k_dice v 55441 _ B g HS.out (by omega) (by omega)).mono ?_
      rintro e w2 ⟨x, rfl, hx1, hx2, hs2, hb2⟩
      have HO2 := Lib.hid (HO.out.kept hb2 hgl)
      have HS2 := Lib.hid hs2
      have HB2 := Lib.hid (HB.out.trans hb2)
      have hz2 := hb2.size
      have HXN : Hid ((xs ++ [x]).length = k + 1 ∧ (xs ++ [x]).all isNum = true) := Lib.hid ⟨by rw [List.length_append, HX.out.1]; rfl, nums_snoc HX.out.2 hx1 hx2⟩
      have hxl : xs.length ≤ 1000 := by rw [HX.out.1]; omega
      have hlo := HS2.out.lo
      clear hs2 hb2 hx1 hx2
      go_wp2_with (at_builtin; refine wp_pushI HO2.out rfl _ _ rfl rfl rfl (by first | with_reducible rfl | simp) (by omega) (by omega) ?_; intro v3 w3 ho3 hg3 hb3)
      have HB3 := Lib.hid (HB2.out.then hb3)
      have HS3 := Lib.hid (HS2.out.keepC hb3 hgl)
      clear hg3
      go_roundw
      case rel => exact ⟨k + 1, _, by omega, by have := HJ.out; rw [show n - (k + 1) = j from by omega], ho3, HXN.out, HS3.out, HB3.out⟩
      case measure => simp [intOf]
    · have hj : n - k = 0 := by omega
      rw [hj]
      have HS := Lib.hid hs
      have HO := Lib.hid hown
      have HB := Lib.hid hbel
      clear hs hown hbel
      go_wp2_with fail
      go_ret
      exact ⟨_, xs, rfl, HO.out, by rw [HX.out.1]; omega, HX.out.2, HS.out, HB.out⟩
set_option maxHeartbeats 1000000 in
theorem k_matrix5 (v : Value) (r c : Nat) (w : World) (B g : Nat) (hs : SrcG w B g v) (hr : r ≤ 1000) (hc : c ≤ 1000) :
    Calls Try.prog 14 #[v, .int .i64 r, .int .i64 c] w fun e w' => ∃ (u : Value) (f : Mx), e = .returned u ∧ OwnM w' w.heap.size u (tabF r c f) ∧ SrcG w' B g v ∧ Kept g w w' := by
  have HS := Lib.hid hs
  have hgl := hs.lo.2
  clear hs
  go_enter Try.func14, Try.ntmps14
  go_wp2_with fail
  go_loopw [1, 7] (fun nn out wr => ∃ (k : Nat) (f : Mx), k ≤ r ∧ nn = .int .i64 ((r - k : Nat) : Int) ∧ OwnM wr w.heap.size out (tabF k c f) ∧ SrcG wr B g v ∧ Kept g w wr) (fun nn _ _ => (intOf nn).toNat)
  case atStart => exact ⟨0, fun _ _ => 0, Nat.zero_le _, by simp, ownM_empty _ _ (Nat.le_refl _), HS.out.keep (below_alloc _ _), Kept.ofBelow (below_alloc _ _)⟩
  case round =>
    obtain ⟨k, f, hk, rfl, hown, hs, hbel⟩ := hrel
    clear HS
    have hsz := hbel.size
    by_cases hlt : k < r
    · obtain ⟨j, hj⟩ : ∃ j, r - k = j + 1 := ⟨r - k - 1, by omega⟩
      rw [hj]
      have hjb : j < 1000 := by omega
      have HJ := Lib.hid hj
      have HS := Lib.hid hs
      have HO := Lib.hid hown
      have HB := Lib.hid hbel
      clear hs hown hbel hj
      go_wp2_with fail
      refine (k_list5 v c _ B g HS.out hc).mono ?_
      rintro e w2 ⟨row, xs, rfl, ho2, hxl, hxn, hs2, hb2⟩
      obtain ⟨h0, rfl⟩ := zl_some hxl hxn
      obtain ⟨pr, nr, cr, rfl⟩ := ho2.slice
      have HM2 : Hid (OwnB w2 w.heap.size wr.heap.size _ (tabF k c f)) := Lib.hid ((HO.out.bound).kept hb2 hgl (Nat.le_refl _))
      have HR2 := Lib.hid ho2
      have HS2 := Lib.hid hs2
      have HB2 := Lib.hid (HB.out.trans hb2)
      have hz2 := hb2.size
      have hlen : (tabF k c f).length ≤ 1000000 := by rw [tabF_length]; omega
      clear hs2 hb2 ho2 hxl hxn
      go_wp2_with (at_builtin; refine wp_pushB HM2.out hsz HR2.out rfl _ _ rfl rfl rfl (by first | with_reducible rfl | simp) (by omega) hlen ?_; intro v3 w3 ho3 hb3)
      rw [tabF_add] at ho3
      have HB3 := Lib.hid (HB2.out.then hb3)
      have HS3 := Lib.hid (HS2.out.keepC hb3 hgl)
      have HO3 := Lib.hid ho3
      clear ho3 hb3
      go_roundw
      case rel => exact ⟨k + 1, _, by omega, by have := HJ.out; rw [show r - (k + 1) = j from by omega], HO3.out, HS3.out, HB3.out⟩
      case measure => simp [intOf]
    · have hj : r - k = 0 := by omega
      obtain rfl : r = k := by omega
      rw [hj]
      have HS := Lib.hid hs
      have HO := Lib.hid hown
      have HB := Lib.hid hbel
      clear hs hown hbel
      go_wp2_with fail
      go_ret
      exact ⟨_, f, rfl, HO.out, HS.out, HB.out⟩
set_option maxRecDepth 100000 in
set_option maxHeartbeats 1600000 in
theorem c_plus5 (u v : Value) (n : Nat) (f g : Nat → F) (t : F) (w : World) (hu : Ints w u (zl n f)) (hv : Ints w v (zl n g)) (hl : n ≤ 100000) :
    Calls Try.prog 34 #[u, v, .int .i64 (toI t)] w (RetI (zl n fun j => f j + t * g j) w) := by
  obtain ⟨a, cap, hueq, _, hc⟩ := hu
  obtain ⟨a', cap', hveq, _, hc'⟩ := hv
  rw [zl_length] at hueq hveq
  subst hueq hveq
  have HC := Lib.hid hc
  have HC' := Lib.hid hc'
  clear hc hc'
  have hb := toI_bd t
  obtain ⟨hc1, hc2⟩ := hb
  go_enter Try.func34, Try.ntmps34
  go_wp2_with fail
  go_loopw [7, 8] (fun s i wr => ∃ (k : Nat), k ≤ n ∧ i = .int .i64 k ∧ OwnI wr w.heap.size s (zl k fun j => f j + t * g j) ∧ Below w.heap.size w wr) (fun _ i _ => n - (intOf i).toNat)
  case atStart => exact ⟨0, Nat.zero_le _, rfl, own_empty _ _ _ (Nat.le_refl _), below_alloc _ _⟩
  case round =>
    obtain ⟨k, hk, rfl, hown, hbel⟩ := hrel
    by_cases hlt : k < n
    · obtain ⟨b, off, rfl, hcell⟩ := HC.out k _ (zl_at f hlt)
      obtain ⟨b', off', rfl, hcell'⟩ := HC'.out k _ (zl_at g hlt)
      have hlb := Ints.lt hcell
      have hlb' := Ints.lt hcell'
      have g1 := bcell hbel hcell
      have g2 := bcell hbel hcell'
      have hx := toI_bd (f k)
      obtain ⟨hx1, hx2⟩ := hx
      have hy := toI_bd (g k)
      obtain ⟨hy1, hy2⟩ := hy
      have HV : Hid ((toI (f k) + toI t * toI (g k)) % 55441 = toI (f k + t * g k)) := Lib.hid (toI_of (by rw [ofI_add, ofI_mul, ofI_toI, ofI_toI, ofI_toI])).symm
      generalize toI (f k) = x at *
      generalize toI (g k) = y at *
      have hpr := prod_bd hc1 hc2 hy1 hy2
      obtain ⟨hpr1, hpr2⟩ := hpr
      have HOW := Lib.hid hown
      have HB := Lib.hid hbel
      have hsz := hbel.size
      clear hcell hcell' hown hbel
      have hk0 : (0 : Int) ≤ (k : Int) := Int.natCast_nonneg _
      have hk1 : (k : Int) < (n : Int) := by omega
      have hw1 : IntKind.i64.wrap (toI t * y) = toI t * y := IntWalk.i64_in _ (by omega)
      have hw3 : IntKind.i64.wrap (x + toI t * y) = x + toI t * y := IntWalk.i64_in _ (by omega)
      go_wp2_with fail
      go_region_held3 (fun w' => w'.cell? ⟨b, off + k, none⟩ = some (.int .i64 x) ∧ w'.cell? ⟨b', off' + k, none⟩ = some (.int .i64 y))
        (first | go_keep | (refine ⟨bkeep hb2 hlb ?_, bkeep hb2 hlb' ?_⟩ <;> go_keep))
        ((first | (go_at_call 32; refine (c_mod5 _ _).mono ?_; rintro e w6 ⟨rfl, rfl⟩) | (refine step_pushI (gx := wr.heap.size) (y := (x + toI t * y) % 55441) ((HOW.out.alloc _).drewN 1) (by simp) (by rfl) _ _ (by rfl) (by rfl) (by rfl) (by simp; omega) (by rw [zl_length]; omega) ?_; intro v' w2 ho2 hb2)))
      go_wp2_with fail
      go_roundw
      case rel => exact ⟨k + 1, by omega, by go_num, by rw [zl_snoc, ← HV.out]; exact ho2, below_more HB.out hsz hb2⟩
      case measure => simp [intOf]; omega
    · obtain rfl : k = n := by omega
      have HOW := Lib.hid hown
      have HB := Lib.hid hbel
      clear hown hbel
      go_wp2_with fail
      go_ret
      exact ⟨_, rfl, HOW.out, HB.out⟩
set_option maxRecDepth 100000 in
theorem c_unit5 (n : Nat) (w : World) (hn : n ≤ 1000) :
    Calls Try.prog 35 #[.int .i64 n] w (RetM (tabF n n one) w) := by
  have hmk := run_make_row' (P := Try.prog) 35 2 (.int .i64 0) 8 Try.underlying35 info_int rfl .i64 .i64 n (by omega) (by omega)
  go_enter Try.func35, Try.ntmps35
  go_wp2_with fail
  go_loopw [3, 4] (fun s i wr => ∃ (k : Nat), k ≤ n ∧ i = .int .i64 k ∧ OwnM wr w.heap.size s (tabF k n one) ∧ Below w.heap.size w wr) (fun _ i _ => n - (intOf i).toNat)
  case atStart => exact ⟨0, Nat.zero_le _, rfl, ownM_empty _ _ (Nat.le_refl _), below_alloc _ _⟩
  case round =>
    obtain ⟨k, hk, rfl, hown, hbel⟩ := hrel
    by_cases hlt : k < n
    · have HOW := Lib.hid hown
      have HB := Lib.hid hbel
      have hsz := hbel.size
      have hz0 := own_zeros wr n (by omega)
      have hold := Own.cell hz0 (i := k) (u := vi 0) (by rw [List.getElem?_map, vec_at _ hlt]; rfl)
      have hfr := Own.frozen hz0 k
      have hset := World.setCell_alloc_new (w := wr) (madeCells #[.int .i64 0] n) 2 k (.int .i64 1)
      have HO : Hid (OwnI (wr.alloc (.cells ((madeCells #[.int .i64 0] n).setIfInBounds k (.int .i64 1)) 2)) wr.heap.size (.slice (some ⟨wr.heap.size, 0, none⟩) n n) (zl n (one k))) := Lib.hid (by
        rw [← hset]
        have := Own.store hz0 k (vi 1)
        rw [← List.map_set, unit_row] at this
        exact this)
      have HA : Hid (Below wr.heap.size wr (wr.alloc (.cells ((madeCells #[.int .i64 0] n).setIfInBounds k (.int .i64 1)) 2))) := Lib.hid (below_alloc _ _)
      clear hset
      clear hown hbel hz0
      go_wp2_with (at_builtin; refine wp_pushM HOW.out HA.out HO.out rfl _ _ rfl rfl rfl (by first | with_reducible rfl | simp) (by omega) (by rw [tabF_length]; omega) ?_; intro v' w2 ho2 hb2)
      go_roundw
      case rel => exact ⟨k + 1, by omega, by go_num, by rw [tabF_snoc]; exact ho2, (HB.out.trans (HA.out.mono hsz)).trans hb2⟩
      case measure => simp [intOf]; omega
    · obtain rfl : n = k := by omega
      have HOW := Lib.hid hown
      have HB := Lib.hid hbel
      clear hown hbel
      go_wp2_with fail
      go_ret
      exact ⟨_, rfl, HOW.out, HB.out⟩
end Go.Proofs.Ytmbcncmmgfnlmaa
