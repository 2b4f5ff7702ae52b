/- Spin rings: the tables that both sides write entry by entry. -/
import Derived.Test.YtnhdnogcglmjdaaRng
import Derived.Test.YtnhdnogcglmjdaaFld
namespace Go.Proofs.Ytnhdnogcglmjdaa
open Go.RowKit

/-- an entry of a spin ring with a step -/
def spV (L s i j k : Nat) : Int := if s * i ≤ s * k + s * j ∧ s * j ≤ s * k + s * i ∧ s * k ≤ s * i + s * j ∧ s * k + s * i + s * j ≤ 2 * L ∧ (s * k + s * i + s * j) % 2 = 0 then 1 else 0
/-- entries told before the pair i, j -/
def spG (L s i j : Nat) (a b k : Nat) : Int := if a < i ∨ (a = i ∧ b < j) then spV L s a b k else 0
/-- .. and of this pair those below c -/
def spC (L s i j c : Nat) (a b k : Nat) : Int := if a = i ∧ b = j then (if s * k < c then spV L s i j k else 0) else spG L s i j a b k
def spin (L s : Nat) : List (List (List Int)) := cub (L / s + 1) (spV L s)
/-- where the walk stands: two boxes, and the cube in a range of blocks below the second one -/
structure InBox (w : World) (b0 b1 lo : Nat) (v : Value) (c : List (List (List Int))) (wr : World) : Prop where
  c0 : wr.cell? ⟨b0, 0, none⟩ = some (.slice none 0 0)
  f0 : wr.frozen? ⟨b0, 0, none⟩ = false
  c1 : wr.cell? ⟨b1, 0, none⟩ = some v
  size : b1 < wr.heap.size
  own : OwnCB wr lo b1 v c
  below : Below w.heap.size w wr
theorem InBox.set {w wr : World} {b0 b1 lo g2 k : Nat} {v : Value} {c c' : List (List (List Int))} {x : Int} (h : InBox w b0 b1 lo v c wr) (h0 : b0 < lo) (hw : w.heap.size ≤ lo) (h1 : lo ≤ g2) (h2 : g2 < b1) (ho : OwnCB (wr.setCell ⟨g2, k, none⟩ (vi x)) lo b1 v c') :
    InBox w b0 b1 lo v c' (wr.setCell ⟨g2, k, none⟩ (vi x)) :=
  ⟨(World.cell?_setCell_other _ _ _ _ (fun e => absurd (congrArg Addr.block e) (by simp; omega))).trans h.c0, by simp [h.f0], (World.cell?_setCell_other _ _ _ _ (fun e => absurd (congrArg Addr.block e) (by simp; omega))).trans h.c1, by simpa using h.size, ho, below_set h.below (by omega)⟩
/-- .. without boxes -/
structure InOne (w : World) (hi : Nat) (v : Value) (c : List (List (List Int))) (wr : World) : Prop where
  size : hi ≤ wr.heap.size
  own : OwnCB wr w.heap.size hi v c
  below : Below w.heap.size w wr
theorem InOne.set {w wr : World} {hi g2 k : Nat} {v : Value} {c c' : List (List (List Int))} {x : Int} (h : InOne w hi v c wr) (h1 : w.heap.size ≤ g2) (ho : OwnCB (wr.setCell ⟨g2, k, none⟩ (vi x)) w.heap.size hi v c') :
    InOne w hi v c' (wr.setCell ⟨g2, k, none⟩ (vi x)) :=
  ⟨Nat.le_trans h.size (by simp), ho, below_set h.below h1⟩
theorem InOne.drew {w wr : World} {hi : Nat} {v : Value} {c : List (List (List Int))} (h : InOne w hi v c wr) : InOne w hi v c wr.drew :=
  ⟨h.size, h.own, h.below.drew⟩
theorem InBox.drew {w wr : World} {b0 b1 lo : Nat} {v : Value} {c : List (List (List Int))} (h : InBox w b0 b1 lo v c wr) : InBox w b0 b1 lo v c wr.drew :=
  ⟨h.c0, h.f0, h.c1, h.size, h.own, h.below.drew⟩

theorem sp0_1 (L i j : Nat) : cub (L / 1 + 1) (spC L 1 i j ((1 * i - 1 * j) + (1 * j - 1 * i))) = cub (L / 1 + 1) (spG L 1 i j) := by
  refine cub_congr fun a b k _ _ _ => ?_
  unfold spC spG spV
  split <;> (repeat' split) <;> first | rfl | omega
theorem spn_1 (L i j c : Nat) (h1 : 1 * i ≤ c + 1 * j) (h2 : 1 * j ≤ c + 1 * i) (h3 : c ≤ 1 * i + 1 * j) (h4 : c + 1 * i + 1 * j ≤ 2 * L) (h5 : (c + 1 * i + 1 * j) % 2 = 0) :
    cub (L / 1 + 1) (upd3 (spC L 1 i j c) i j (c) 1) = cub (L / 1 + 1) (spC L 1 i j (c + 2)) := by
  refine cub_congr fun a b k _ _ _ => ?_
  unfold upd3 spC spV
  (repeat' split) <;> first | rfl | omega
theorem spe_1 (L i j c : Nat) (h : 1 * i + 1 * j < c ∨ 2 * L < c + 1 * i + 1 * j) : cub (L / 1 + 1) (spC L 1 i j c) = cub (L / 1 + 1) (spG L 1 i (j + 1)) := by
  refine cub_congr fun a b k _ _ _ => ?_
  unfold spC spG spV
  (repeat' split) <;> first | rfl | omega
theorem spr_1 (L i : Nat) : cub (L / 1 + 1) (spG L 1 i (L / 1 + 1)) = cub (L / 1 + 1) (spG L 1 (i + 1) 0) := by
  refine cub_congr fun a b k _ hb _ => ?_
  unfold spG
  (repeat' split) <;> first | rfl | omega
theorem spd_1 (L : Nat) : cub (L / 1 + 1) (spG L 1 (L / 1 + 1) 0) = spin L 1 := by
  refine cub_congr fun a b k ha _ _ => ?_
  unfold spG
  (repeat' split) <;> first | rfl | omega
theorem spb_1 (L : Nat) : cub (L / 1 + 1) (spG L 1 0 0) = cub (L / 1 + 1) fun _ _ _ => 0 := by
  refine cub_congr fun a b k _ _ _ => ?_
  unfold spG
  (repeat' split) <;> first | rfl | omega
set_option maxRecDepth 100000 in
set_option maxHeartbeats 2000000 in
theorem c_spinRing_1 (L : Nat) (w : World) (hL : L ≤ 100) :
    Calls Try.prog 55 #[.int .i64 L, .int .i64 1] w (RetR1 (spin L 1) w) := by
  obtain ⟨n, hn⟩ : ∃ n, n = L / 1 + 1 := ⟨_, rfl⟩
  have HNE : Hid (((L : Int) + 1) = (n : Int)) := Lib.hid (by omega)
  have hnb : n ≤ 101 := by omega
  have hnp : 0 < n := by omega
  have HN := Lib.hid hn
  clear hn
  go_enter Try.func55, Try.ntmps55
  go_wp2_with fail
  rw [HNE.out]
  refine (c_emptyCube n _ (by omega)).mono ?_
  rintro e w1 ⟨v1, rfl, ho1, hb1⟩
  obtain ⟨g, cap, rfl, hg1, hg2⟩ := ho1.shape' (by rw [cub_length]; omega)
  rw [cub_length] at ho1 ⊢
  have hsz1 : w.heap.size + 1 ≤ w1.heap.size := by have := hb1.size; simpa using this
  have hlt1 : w.heap.size < w1.heap.size := by omega
  have HIN : Hid (InBox w w.heap.size w1.heap.size (w.heap.size + 1) (.slice (some ⟨g, 0, none⟩) n cap) (cub n (spG L 1 0 0)) (w1.alloc (.cells #[.slice (some ⟨g, 0, none⟩) n cap] 31))) := Lib.hid
    ⟨bcell (below_alloc _ _) (bcell hb1 (v := .slice none 0 0) (by simp)), bfrozen (below_alloc _ _) (bcell hb1 (v := .slice none 0 0) (by simp)) (bfrozen hb1 (v := .slice none 0 0) (by simp) (by simp)), by simp, by simp, by rw [HN.out, spb_1, ← HN.out]; exact (ho1.mono (by simp) (Nat.le_refl _)).alloc (Nat.le_refl _) _, below_after (hb1.alloc hb1.size _)⟩
  clear ho1 hb1
  go_wp2_with fail
  go_loopw [19] (fun i wr => ∃ k : Nat, k ≤ n ∧ i = .int .i64 k ∧ Hid (InBox w w.heap.size w1.heap.size (w.heap.size + 1) (.slice (some ⟨g, 0, none⟩) n cap) (cub n (spG L 1 k 0)) wr)) (fun i _ => n - (intOf i).toNat)
  case atStart => exact ⟨0, Nat.zero_le _, rfl, HIN⟩
  case round =>
    obtain ⟨i, hi, rfl, hin⟩ := hrel
    have hc0 := hin.out.c0
    have hf0 := hin.out.f0
    have hc1 := hin.out.c1
    have hsz := hin.out.size
    by_cases hlt : i < n
    · go_wp2_with fail
      go_loopw [25] (fun j wr => ∃ k : Nat, k ≤ n ∧ j = .int .i64 k ∧ Hid (InBox w w.heap.size w1.heap.size (w.heap.size + 1) (.slice (some ⟨g, 0, none⟩) n cap) (cub n (spG L 1 i k)) wr)) (fun j _ => n - (intOf j).toNat)
      case atStart => exact ⟨0, Nat.zero_le _, rfl, hin⟩
      case round =>
        clear hin hc0 hf0 hc1 hsz
        obtain ⟨j, hj, rfl, hin⟩ := hrel
        have hc0 := hin.out.c0
        have hf0 := hin.out.f0
        have hc1 := hin.out.c1
        have hsz := hin.out.size
        by_cases hlt2 : j < n
        · have hin0 : Hid (InBox w w.heap.size w1.heap.size (w.heap.size + 1) (.slice (some ⟨g, 0, none⟩) n cap) (cub n (spC L 1 i j ((1 * i - 1 * j) + (1 * j - 1 * i)))) wr) := Lib.hid (by rw [HN.out, sp0_1, ← HN.out]; exact hin.out)
          clear hin
          go_wp2_with fail
          all_goals
            go_loopw [10] (fun cv wr => ∃ c : Nat, cv = .int .i64 c ∧ 1 * i ≤ c + 1 * j ∧ 1 * j ≤ c + 1 * i ∧ (c + 1 * i + 1 * j) % 2 = 0 ∧ c ≤ 900 ∧ Hid (InBox w w.heap.size w1.heap.size (w.heap.size + 1) (.slice (some ⟨g, 0, none⟩) n cap) (cub n (spC L 1 i j c)) wr)) (fun cv _ => 1000 - (intOf cv).toNat)
            case atStart => exact ⟨_, by go_num, by omega, by omega, by omega, by omega, hin0⟩
            case round =>
              clear hin0 hc0 hf0 hc1 hsz
              obtain ⟨c, rfl, k1, k2, k3, k4, hin⟩ := hrel
              have hc0 := hin.out.c0
              have hf0 := hin.out.f0
              have hc1 := hin.out.c1
              have hsz := hin.out.size
              by_cases hgo : c ≤ 1 * i + 1 * j ∧ c + 1 * i + 1 * j ≤ 2 * L
              · obtain ⟨l1, l2⟩ := hgo
                have hq : c < n := by have := HN.out; omega
                obtain ⟨g1, c1, g2, c2, e1, e2, e3, e4, e5, e6, e7, e8, e9⟩ := hin.out.own.at hlt hlt2 hq
                have HE : Hid (OwnCB (wr.drew.setCell ⟨g2, c, none⟩ (vi 1)) (w.heap.size + 1) w1.heap.size (.slice (some ⟨g, 0, none⟩) n cap) (cub n (upd3 (spC L 1 i j c) i j (c) 1))) := Lib.hid ((e9 1).same fun _ _ _ => rfl)
                clear e9
                go_wp2_with fail
                all_goals
                  go_region
                  go_wp2_with fail
                  go_roundw
                  case rel => exact ⟨c + 2, by go_num, by omega, by omega, by omega, by omega, Lib.hid (by rw [HN.out, ← spn_1 L i j c k1 k2 l1 l2 k3, ← HN.out]; exact hin.out.drew.set (by omega) (by omega) e5 e6 HE.out)⟩
                  case measure => simp [intOf]; omega
              · go_wp2_with fail
                all_goals exact ⟨⟨j + 1, by omega, by go_num, Lib.hid (by rw [HN.out, ← spe_1 L i j c (by omega), ← HN.out]; exact hin.out)⟩, by simp [intOf]; omega⟩
        · obtain rfl : n = j := by omega
          go_wp2_with fail
          go_roundw
          case rel => exact ⟨i + 1, by omega, by go_num, Lib.hid (by rw [HN.out, ← spr_1, ← HN.out]; exact hin.out)⟩
          case measure => simp [intOf]; omega
    · obtain rfl : n = i := by omega
      go_wp2_with fail
      (try simp only [Exit.inBlock, Exit.then])
      refine bodyPost_ret (v := .agg #[.slice (some ⟨g, 0, none⟩) n cap]) (by rw [results_cell1 rfl]; go_simp) rfl ?_
      refine ⟨_, rfl, ?_, below_set hin.out.below (Nat.le_refl _)⟩
      have h := hin.out.own
      rw [HN.out, spd_1, ← HN.out] at h
      have h2 : OwnCB (wr.setCell ⟨w.heap.size, 0, none⟩ (.slice (some ⟨g, 0, none⟩) n cap)) (w.heap.size + 1) w1.heap.size (.slice (some ⟨g, 0, none⟩) n cap) (spin L 1) := h.same fun x h1 h2 => Below.heap_setCell wr ⟨w.heap.size, 0, none⟩ _ _ (fun e => by have e' : x = w.heap.size := e; omega)
      exact h2.mono (by omega) (Nat.le_trans (Nat.le_of_lt hsz) (by simp))
set_option maxRecDepth 100000 in
set_option maxHeartbeats 2000000 in
theorem c_l06Spin_1 (L : Nat) (w : World) (hL : L ≤ 100) :
    Calls Try.prog 54 #[.int .i64 L, .int .i64 1] w (RetC (spin L 1) w) := by
  obtain ⟨n, hn⟩ : ∃ n, n = L / 1 + 1 := ⟨_, rfl⟩
  have HNE : Hid (((L : Int) + 1) = (n : Int)) := Lib.hid (by omega)
  have hnb : n ≤ 101 := by omega
  have hnp : 0 < n := by omega
  have HN := Lib.hid hn
  clear hn
  go_enter Try.func54, Try.ntmps54
  go_wp2_with fail
  rw [HNE.out]
  refine (c_l06Empty n _ (by omega)).mono ?_
  rintro e w1 ⟨v1, rfl, ho1, hb1⟩
  obtain ⟨g, cap, rfl, hg1, hg2⟩ := ho1.shape' (by rw [cub_length]; omega)
  rw [cub_length] at ho1 ⊢
  have HIN : Hid (InOne w w1.heap.size (.slice (some ⟨g, 0, none⟩) n cap) (cub n (spG L 1 0 0)) w1) := Lib.hid ⟨Nat.le_refl _, by rw [HN.out, spb_1, ← HN.out]; exact ho1, hb1⟩
  clear ho1 hb1
  go_wp2_with fail
  go_loopw [7] (fun i wr => ∃ k : Nat, k ≤ n ∧ i = .int .i64 k ∧ Hid (InOne w w1.heap.size (.slice (some ⟨g, 0, none⟩) n cap) (cub n (spG L 1 k 0)) wr)) (fun i _ => n - (intOf i).toNat)
  case atStart => exact ⟨0, Nat.zero_le _, rfl, HIN⟩
  case round =>
    obtain ⟨i, hi, rfl, hin⟩ := hrel
    by_cases hlt : i < n
    · go_wp2_with fail
      go_loopw [8] (fun j wr => ∃ k : Nat, k ≤ n ∧ j = .int .i64 k ∧ Hid (InOne w w1.heap.size (.slice (some ⟨g, 0, none⟩) n cap) (cub n (spG L 1 i k)) wr)) (fun j _ => n - (intOf j).toNat)
      case atStart => exact ⟨0, Nat.zero_le _, rfl, hin⟩
      case round =>
        clear hin
        obtain ⟨j, hj, rfl, hin⟩ := hrel
        by_cases hlt2 : j < n
        · have hin0 : Hid (InOne w w1.heap.size (.slice (some ⟨g, 0, none⟩) n cap) (cub n (spC L 1 i j ((1 * i - 1 * j) + (1 * j - 1 * i)))) wr) := Lib.hid (by rw [HN.out, sp0_1, ← HN.out]; exact hin.out)
          clear hin
          go_wp2_with fail
          all_goals
            go_loopw [11] (fun cv wr => ∃ c : Nat, cv = .int .i64 c ∧ 1 * i ≤ c + 1 * j ∧ 1 * j ≤ c + 1 * i ∧ (c + 1 * i + 1 * j) % 2 = 0 ∧ c ≤ 900 ∧ Hid (InOne w w1.heap.size (.slice (some ⟨g, 0, none⟩) n cap) (cub n (spC L 1 i j c)) wr)) (fun cv _ => 1000 - (intOf cv).toNat)
            case atStart => exact ⟨_, by go_num, by omega, by omega, by omega, by omega, hin0⟩
            case round =>
              clear hin0
              obtain ⟨c, rfl, k1, k2, k3, k4, hin⟩ := hrel
              by_cases hgo : c ≤ 1 * i + 1 * j ∧ c + 1 * i + 1 * j ≤ 2 * L
              · obtain ⟨l1, l2⟩ := hgo
                have hq : c < n := by have := HN.out; omega
                obtain ⟨g1, c1, g2, c2, e1, e2, e3, e4, e5, e6, e7, e8, e9⟩ := hin.out.own.at hlt hlt2 hq
                have HE : Hid (OwnCB (wr.drew.setCell ⟨g2, c, none⟩ (vi 1)) w.heap.size w1.heap.size (.slice (some ⟨g, 0, none⟩) n cap) (cub n (upd3 (spC L 1 i j c) i j (c) 1))) := Lib.hid ((e9 1).same fun _ _ _ => rfl)
                clear e9
                go_wp2_with fail
                all_goals
                  go_region
                  go_wp2_with fail
                  go_roundw
                  case rel => exact ⟨c + 2, by go_num, by omega, by omega, by omega, by omega, Lib.hid (by rw [HN.out, ← spn_1 L i j c k1 k2 l1 l2 k3, ← HN.out]; exact hin.out.drew.set e5 HE.out)⟩
                  case measure => simp [intOf]; omega
              · go_wp2_with fail
                all_goals exact ⟨⟨j + 1, by omega, by go_num, Lib.hid (by rw [HN.out, ← spe_1 L i j c (by omega), ← HN.out]; exact hin.out)⟩, by simp [intOf]; omega⟩
        · obtain rfl : n = j := by omega
          go_wp2_with fail
          go_roundw
          case rel => exact ⟨i + 1, by omega, by go_num, Lib.hid (by rw [HN.out, ← spr_1, ← HN.out]; exact hin.out)⟩
          case measure => simp [intOf]; omega
    · obtain rfl : n = i := by omega
      go_wp2_with fail
      go_ret
      refine ⟨_, rfl, ?_, hin.out.below⟩
      have h := hin.out.own
      rw [HN.out, spd_1, ← HN.out] at h
      exact h.mono (Nat.le_refl _) hin.out.size

theorem sp0_2 (L i j : Nat) : cub (L / 2 + 1) (spC L 2 i j ((2 * i - 2 * j) + (2 * j - 2 * i))) = cub (L / 2 + 1) (spG L 2 i j) := by
  refine cub_congr fun a b k _ _ _ => ?_
  unfold spC spG spV
  split <;> (repeat' split) <;> first | rfl | omega
theorem spn_2 (L i j c : Nat) (h1 : 2 * i ≤ c + 2 * j) (h2 : 2 * j ≤ c + 2 * i) (h3 : c ≤ 2 * i + 2 * j) (h4 : c + 2 * i + 2 * j ≤ 2 * L) (h5 : (c + 2 * i + 2 * j) % 2 = 0) :
    cub (L / 2 + 1) (upd3 (spC L 2 i j c) i j (c / 2) 1) = cub (L / 2 + 1) (spC L 2 i j (c + 2)) := by
  refine cub_congr fun a b k _ _ _ => ?_
  unfold upd3 spC spV
  (repeat' split) <;> first | rfl | omega
theorem spe_2 (L i j c : Nat) (h : 2 * i + 2 * j < c ∨ 2 * L < c + 2 * i + 2 * j) : cub (L / 2 + 1) (spC L 2 i j c) = cub (L / 2 + 1) (spG L 2 i (j + 1)) := by
  refine cub_congr fun a b k _ _ _ => ?_
  unfold spC spG spV
  (repeat' split) <;> first | rfl | omega
theorem spr_2 (L i : Nat) : cub (L / 2 + 1) (spG L 2 i (L / 2 + 1)) = cub (L / 2 + 1) (spG L 2 (i + 1) 0) := by
  refine cub_congr fun a b k _ hb _ => ?_
  unfold spG
  (repeat' split) <;> first | rfl | omega
theorem spd_2 (L : Nat) : cub (L / 2 + 1) (spG L 2 (L / 2 + 1) 0) = spin L 2 := by
  refine cub_congr fun a b k ha _ _ => ?_
  unfold spG
  (repeat' split) <;> first | rfl | omega
theorem spb_2 (L : Nat) : cub (L / 2 + 1) (spG L 2 0 0) = cub (L / 2 + 1) fun _ _ _ => 0 := by
  refine cub_congr fun a b k _ _ _ => ?_
  unfold spG
  (repeat' split) <;> first | rfl | omega
set_option maxRecDepth 100000 in
set_option maxHeartbeats 2000000 in
theorem c_spinRing_2 (L : Nat) (w : World) (hL : L ≤ 100) :
    Calls Try.prog 55 #[.int .i64 L, .int .i64 2] w (RetR1 (spin L 2) w) := by
  obtain ⟨n, hn⟩ : ∃ n, n = L / 2 + 1 := ⟨_, rfl⟩
  have HNE : Hid (((L : Int) / 2 + 1) = (n : Int)) := Lib.hid (by omega)
  have hnb : n ≤ 101 := by omega
  have hnp : 0 < n := by omega
  have HN := Lib.hid hn
  clear hn
  go_enter Try.func55, Try.ntmps55
  go_wp2_with fail
  rw [HNE.out]
  refine (c_emptyCube n _ (by omega)).mono ?_
  rintro e w1 ⟨v1, rfl, ho1, hb1⟩
  obtain ⟨g, cap, rfl, hg1, hg2⟩ := ho1.shape' (by rw [cub_length]; omega)
  rw [cub_length] at ho1 ⊢
  have hsz1 : w.heap.size + 1 ≤ w1.heap.size := by have := hb1.size; simpa using this
  have hlt1 : w.heap.size < w1.heap.size := by omega
  have HIN : Hid (InBox w w.heap.size w1.heap.size (w.heap.size + 1) (.slice (some ⟨g, 0, none⟩) n cap) (cub n (spG L 2 0 0)) (w1.alloc (.cells #[.slice (some ⟨g, 0, none⟩) n cap] 31))) := Lib.hid
    ⟨bcell (below_alloc _ _) (bcell hb1 (v := .slice none 0 0) (by simp)), bfrozen (below_alloc _ _) (bcell hb1 (v := .slice none 0 0) (by simp)) (bfrozen hb1 (v := .slice none 0 0) (by simp) (by simp)), by simp, by simp, by rw [HN.out, spb_2, ← HN.out]; exact (ho1.mono (by simp) (Nat.le_refl _)).alloc (Nat.le_refl _) _, below_after (hb1.alloc hb1.size _)⟩
  clear ho1 hb1
  go_wp2_with fail
  go_loopw [19] (fun i wr => ∃ k : Nat, k ≤ n ∧ i = .int .i64 k ∧ Hid (InBox w w.heap.size w1.heap.size (w.heap.size + 1) (.slice (some ⟨g, 0, none⟩) n cap) (cub n (spG L 2 k 0)) wr)) (fun i _ => n - (intOf i).toNat)
  case atStart => exact ⟨0, Nat.zero_le _, rfl, HIN⟩
  case round =>
    obtain ⟨i, hi, rfl, hin⟩ := hrel
    have hc0 := hin.out.c0
    have hf0 := hin.out.f0
    have hc1 := hin.out.c1
    have hsz := hin.out.size
    by_cases hlt : i < n
    · go_wp2_with fail
      go_loopw [25] (fun j wr => ∃ k : Nat, k ≤ n ∧ j = .int .i64 k ∧ Hid (InBox w w.heap.size w1.heap.size (w.heap.size + 1) (.slice (some ⟨g, 0, none⟩) n cap) (cub n (spG L 2 i k)) wr)) (fun j _ => n - (intOf j).toNat)
      case atStart => exact ⟨0, Nat.zero_le _, rfl, hin⟩
      case round =>
        clear hin hc0 hf0 hc1 hsz
        obtain ⟨j, hj, rfl, hin⟩ := hrel
        have hc0 := hin.out.c0
        have hf0 := hin.out.f0
        have hc1 := hin.out.c1
        have hsz := hin.out.size
        by_cases hlt2 : j < n
        · have hin0 : Hid (InBox w w.heap.size w1.heap.size (w.heap.size + 1) (.slice (some ⟨g, 0, none⟩) n cap) (cub n (spC L 2 i j ((2 * i - 2 * j) + (2 * j - 2 * i)))) wr) := Lib.hid (by rw [HN.out, sp0_2, ← HN.out]; exact hin.out)
          clear hin
          go_wp2_with fail
          all_goals
            go_loopw [10] (fun cv wr => ∃ c : Nat, cv = .int .i64 c ∧ 2 * i ≤ c + 2 * j ∧ 2 * j ≤ c + 2 * i ∧ (c + 2 * i + 2 * j) % 2 = 0 ∧ c ≤ 900 ∧ Hid (InBox w w.heap.size w1.heap.size (w.heap.size + 1) (.slice (some ⟨g, 0, none⟩) n cap) (cub n (spC L 2 i j c)) wr)) (fun cv _ => 1000 - (intOf cv).toNat)
            case atStart => exact ⟨_, by go_num, by omega, by omega, by omega, by omega, hin0⟩
            case round =>
              clear hin0 hc0 hf0 hc1 hsz
              obtain ⟨c, rfl, k1, k2, k3, k4, hin⟩ := hrel
              have hc0 := hin.out.c0
              have hf0 := hin.out.f0
              have hc1 := hin.out.c1
              have hsz := hin.out.size
              by_cases hgo : c ≤ 2 * i + 2 * j ∧ c + 2 * i + 2 * j ≤ 2 * L
              · obtain ⟨l1, l2⟩ := hgo
                have hq : c / 2 < n := by have := HN.out; omega
                obtain ⟨g1, c1, g2, c2, e1, e2, e3, e4, e5, e6, e7, e8, e9⟩ := hin.out.own.at hlt hlt2 hq
                have HE : Hid (OwnCB (wr.drew.setCell ⟨g2, c / 2, none⟩ (vi 1)) (w.heap.size + 1) w1.heap.size (.slice (some ⟨g, 0, none⟩) n cap) (cub n (upd3 (spC L 2 i j c) i j (c / 2) 1))) := Lib.hid ((e9 1).same fun _ _ _ => rfl)
                clear e9
                go_wp2_with fail
                all_goals
                  go_region
                  go_wp2_with fail
                  go_roundw
                  case rel => exact ⟨c + 2, by go_num, by omega, by omega, by omega, by omega, Lib.hid (by rw [HN.out, ← spn_2 L i j c k1 k2 l1 l2 k3, ← HN.out]; exact hin.out.drew.set (by omega) (by omega) e5 e6 HE.out)⟩
                  case measure => simp [intOf]; omega
              · go_wp2_with fail
                all_goals exact ⟨⟨j + 1, by omega, by go_num, Lib.hid (by rw [HN.out, ← spe_2 L i j c (by omega), ← HN.out]; exact hin.out)⟩, by simp [intOf]; omega⟩
        · obtain rfl : n = j := by omega
          go_wp2_with fail
          go_roundw
          case rel => exact ⟨i + 1, by omega, by go_num, Lib.hid (by rw [HN.out, ← spr_2, ← HN.out]; exact hin.out)⟩
          case measure => simp [intOf]; omega
    · obtain rfl : n = i := by omega
      go_wp2_with fail
      (try simp only [Exit.inBlock, Exit.then])
      refine bodyPost_ret (v := .agg #[.slice (some ⟨g, 0, none⟩) n cap]) (by rw [results_cell1 rfl]; go_simp) rfl ?_
      refine ⟨_, rfl, ?_, below_set hin.out.below (Nat.le_refl _)⟩
      have h := hin.out.own
      rw [HN.out, spd_2, ← HN.out] at h
      have h2 : OwnCB (wr.setCell ⟨w.heap.size, 0, none⟩ (.slice (some ⟨g, 0, none⟩) n cap)) (w.heap.size + 1) w1.heap.size (.slice (some ⟨g, 0, none⟩) n cap) (spin L 2) := h.same fun x h1 h2 => Below.heap_setCell wr ⟨w.heap.size, 0, none⟩ _ _ (fun e => by have e' : x = w.heap.size := e; omega)
      exact h2.mono (by omega) (Nat.le_trans (Nat.le_of_lt hsz) (by simp))
set_option maxRecDepth 100000 in
set_option maxHeartbeats 2000000 in
theorem c_l06Spin_2 (L : Nat) (w : World) (hL : L ≤ 100) :
    Calls Try.prog 54 #[.int .i64 L, .int .i64 2] w (RetC (spin L 2) w) := by
  obtain ⟨n, hn⟩ : ∃ n, n = L / 2 + 1 := ⟨_, rfl⟩
  have HNE : Hid (((L : Int) / 2 + 1) = (n : Int)) := Lib.hid (by omega)
  have hnb : n ≤ 101 := by omega
  have hnp : 0 < n := by omega
  have HN := Lib.hid hn
  clear hn
  go_enter Try.func54, Try.ntmps54
  go_wp2_with fail
  rw [HNE.out]
  refine (c_l06Empty n _ (by omega)).mono ?_
  rintro e w1 ⟨v1, rfl, ho1, hb1⟩
  obtain ⟨g, cap, rfl, hg1, hg2⟩ := ho1.shape' (by rw [cub_length]; omega)
  rw [cub_length] at ho1 ⊢
  have HIN : Hid (InOne w w1.heap.size (.slice (some ⟨g, 0, none⟩) n cap) (cub n (spG L 2 0 0)) w1) := Lib.hid ⟨Nat.le_refl _, by rw [HN.out, spb_2, ← HN.out]; exact ho1, hb1⟩
  clear ho1 hb1
  go_wp2_with fail
  go_loopw [7] (fun i wr => ∃ k : Nat, k ≤ n ∧ i = .int .i64 k ∧ Hid (InOne w w1.heap.size (.slice (some ⟨g, 0, none⟩) n cap) (cub n (spG L 2 k 0)) wr)) (fun i _ => n - (intOf i).toNat)
  case atStart => exact ⟨0, Nat.zero_le _, rfl, HIN⟩
  case round =>
    obtain ⟨i, hi, rfl, hin⟩ := hrel
    by_cases hlt : i < n
    · go_wp2_with fail
      go_loopw [8] (fun j wr => ∃ k : Nat, k ≤ n ∧ j = .int .i64 k ∧ Hid (InOne w w1.heap.size (.slice (some ⟨g, 0, none⟩) n cap) (cub n (spG L 2 i k)) wr)) (fun j _ => n - (intOf j).toNat)
      case atStart => exact ⟨0, Nat.zero_le _, rfl, hin⟩
      case round =>
        clear hin
        obtain ⟨j, hj, rfl, hin⟩ := hrel
        by_cases hlt2 : j < n
        · have hin0 : Hid (InOne w w1.heap.size (.slice (some ⟨g, 0, none⟩) n cap) (cub n (spC L 2 i j ((2 * i - 2 * j) + (2 * j - 2 * i)))) wr) := Lib.hid (by rw [HN.out, sp0_2, ← HN.out]; exact hin.out)
          clear hin
          go_wp2_with fail
          all_goals
            go_loopw [11] (fun cv wr => ∃ c : Nat, cv = .int .i64 c ∧ 2 * i ≤ c + 2 * j ∧ 2 * j ≤ c + 2 * i ∧ (c + 2 * i + 2 * j) % 2 = 0 ∧ c ≤ 900 ∧ Hid (InOne w w1.heap.size (.slice (some ⟨g, 0, none⟩) n cap) (cub n (spC L 2 i j c)) wr)) (fun cv _ => 1000 - (intOf cv).toNat)
            case atStart => exact ⟨_, by go_num, by omega, by omega, by omega, by omega, hin0⟩
            case round =>
              clear hin0
              obtain ⟨c, rfl, k1, k2, k3, k4, hin⟩ := hrel
              by_cases hgo : c ≤ 2 * i + 2 * j ∧ c + 2 * i + 2 * j ≤ 2 * L
              · obtain ⟨l1, l2⟩ := hgo
                have hq : c / 2 < n := by have := HN.out; omega
                obtain ⟨g1, c1, g2, c2, e1, e2, e3, e4, e5, e6, e7, e8, e9⟩ := hin.out.own.at hlt hlt2 hq
                have HE : Hid (OwnCB (wr.drew.setCell ⟨g2, c / 2, none⟩ (vi 1)) w.heap.size w1.heap.size (.slice (some ⟨g, 0, none⟩) n cap) (cub n (upd3 (spC L 2 i j c) i j (c / 2) 1))) := Lib.hid ((e9 1).same fun _ _ _ => rfl)
                clear e9
                go_wp2_with fail
                all_goals
                  go_region
                  go_wp2_with fail
                  go_roundw
                  case rel => exact ⟨c + 2, by go_num, by omega, by omega, by omega, by omega, Lib.hid (by rw [HN.out, ← spn_2 L i j c k1 k2 l1 l2 k3, ← HN.out]; exact hin.out.drew.set e5 HE.out)⟩
                  case measure => simp [intOf]; omega
              · go_wp2_with fail
                all_goals exact ⟨⟨j + 1, by omega, by go_num, Lib.hid (by rw [HN.out, ← spe_2 L i j c (by omega), ← HN.out]; exact hin.out)⟩, by simp [intOf]; omega⟩
        · obtain rfl : n = j := by omega
          go_wp2_with fail
          go_roundw
          case rel => exact ⟨i + 1, by omega, by go_num, Lib.hid (by rw [HN.out, ← spr_2, ← HN.out]; exact hin.out)⟩
          case measure => simp [intOf]; omega
    · obtain rfl : n = i := by omega
      go_wp2_with fail
      go_ret
      refine ⟨_, rfl, ?_, hin.out.below⟩
      have h := hin.out.own
      rw [HN.out, spd_2, ← HN.out] at h
      exact h.mono (Nat.le_refl _) hin.out.size

/-- what the calls answer -/
def spinN (s : Nat) (m k : Int) : List (List (List Int)) × Int := if inR 0 m k = true then (spin k.toNat s, 0) else ([], 2)
theorem c_SpinRing (k : Int) (w : World) : Calls Try.prog 26 #[.int .i64 k] w (RetR (spinN 1 15 k) w) := by
  cases h : inR 0 15 k
  · have H : Hid (spinN 1 15 k = ([], 2)) := Lib.hid (if_neg (by rw [h]; decide))
    go_enter Try.func26, Try.ntmps26
    go_wp2_with fail
    refine (c_within _ _ _ _).mono ?_
    rintro e w1 ⟨rfl, rfl⟩
    rw [h]
    go_wp2_with fail
    (try simp only [Exit.inBlock, Exit.then])
    refine bodyPost_ret (v := .tuple #[.agg #[.slice none 0 0], .int .i64 2]) (by rw [results_cell_tmp rfl]; go_simp) rfl ?_
    exact ⟨_, by rw [H.out], by rw [H.out]; exact OwnCB.nil _ _ _, below_alloc w _⟩
  · obtain ⟨hk1, hk2⟩ := inR_true h
    obtain ⟨L, rfl⟩ : ∃ L : Nat, k = L := ⟨k.toNat, by omega⟩
    have H : Hid (spinN 1 15 L = (spin L 1, 0)) := Lib.hid (if_pos h)
    go_enter Try.func26, Try.ntmps26
    go_wp2_with fail
    refine (c_within _ _ _ _).mono ?_
    rintro e w1 ⟨rfl, rfl⟩
    rw [h]
    clear h
    go_wp2_with fail
    refine (c_spinRing_1 L _ (by omega)).mono ?_
    rintro e w2 ⟨v2, rfl, ho2, hb2⟩
    obtain ⟨p, n, cc, rfl⟩ := ho2.slice
    have hlt : w.heap.size < w2.heap.size := by have := hb2.size; simp at this; omega
    have hc0 : w2.cell? ⟨w.heap.size, 0, none⟩ = some (.slice none 0 0) := bcell hb2 (by simp)
    have hf0 : w2.frozen? ⟨w.heap.size, 0, none⟩ = false := bfrozen hb2 (v := .slice none 0 0) (by simp) (by simp)
    have HO : Hid (OwnCB (w2.setCell ⟨w.heap.size, 0, none⟩ (.slice p n cc)) (w.heap.size + 1) w2.heap.size (.slice p n cc) (spin L 1)) := Lib.hid ((ho2.mono (by simp) (Nat.le_refl _)).same fun x h1 h2 => Below.heap_setCell w2 ⟨w.heap.size, 0, none⟩ _ _ (fun e => by have e' : x = w.heap.size := e; omega))
    have HB : Hid (Below w.heap.size w (w2.setCell ⟨w.heap.size, 0, none⟩ (.slice p n cc))) := Lib.hid (below_set (below_after hb2) (Nat.le_refl _))
    clear ho2 hb2
    go_wp2_with fail
    (try simp only [Exit.inBlock, Exit.then])
    refine bodyPost_ret (v := .tuple #[.agg #[.slice p n cc], .int .i64 0]) (by rw [results_cell_tmp rfl]; go_simp) rfl ?_
    exact ⟨_, by rw [H.out], by rw [H.out]; exact HO.out.mono (by omega) (by simp), HB.out⟩
theorem c_SSpinRing (k : Int) (w : World) : Calls Try.prog 25 #[.int .i64 k] w (RetR (spinN 1 15 k) w) := by
  cases h : inR 0 15 k
  · have H : Hid (spinN 1 15 k = ([], 2)) := Lib.hid (if_neg (by rw [h]; decide))
    go_enter Try.func25, Try.ntmps25
    go_wp2_with fail
    refine (c_l01In _ _ _ _).mono ?_
    rintro e w1 ⟨rfl, rfl⟩
    rw [h]
    go_wp2_with fail
    (try simp only [Exit.inBlock, Exit.then])
    refine bodyPost_ret (v := .tuple #[.agg #[.slice none 0 0], .int .i64 2]) (by rw [results_cell_tmp rfl]; go_simp) rfl ?_
    exact ⟨_, by rw [H.out], by rw [H.out]; exact OwnCB.nil _ _ _, below_alloc w _⟩
  · obtain ⟨hk1, hk2⟩ := inR_true h
    obtain ⟨L, rfl⟩ : ∃ L : Nat, k = L := ⟨k.toNat, by omega⟩
    have H : Hid (spinN 1 15 L = (spin L 1, 0)) := Lib.hid (if_pos h)
    go_enter Try.func25, Try.ntmps25
    go_wp2_with fail
    refine (c_l01In _ _ _ _).mono ?_
    rintro e w1 ⟨rfl, rfl⟩
    rw [h]
    clear h
    go_wp2_with fail
    refine (c_l06Spin_1 L _ (by omega)).mono ?_
    rintro e w2 ⟨v2, rfl, ho2, hb2⟩
    obtain ⟨p, n, cc, rfl⟩ := ho2.slice
    have hlt : w.heap.size < w2.heap.size := by have := hb2.size; simp at this; omega
    have hc0 : w2.cell? ⟨w.heap.size, 0, none⟩ = some (.slice none 0 0) := bcell hb2 (by simp)
    have hf0 : w2.frozen? ⟨w.heap.size, 0, none⟩ = false := bfrozen hb2 (v := .slice none 0 0) (by simp) (by simp)
    have HO : Hid (OwnCB (w2.setCell ⟨w.heap.size, 0, none⟩ (.slice p n cc)) (w.heap.size + 1) w2.heap.size (.slice p n cc) (spin L 1)) := Lib.hid ((ho2.mono (by simp) (Nat.le_refl _)).same fun x h1 h2 => Below.heap_setCell w2 ⟨w.heap.size, 0, none⟩ _ _ (fun e => by have e' : x = w.heap.size := e; omega))
    have HB : Hid (Below w.heap.size w (w2.setCell ⟨w.heap.size, 0, none⟩ (.slice p n cc))) := Lib.hid (below_set (below_after hb2) (Nat.le_refl _))
    clear ho2 hb2
    go_wp2_with fail
    (try simp only [Exit.inBlock, Exit.then])
    refine bodyPost_ret (v := .tuple #[.agg #[.slice p n cc], .int .i64 0]) (by rw [results_cell_tmp rfl]; go_simp) rfl ?_
    exact ⟨_, by rw [H.out], by rw [H.out]; exact HO.out.mono (by omega) (by simp), HB.out⟩
theorem c_EvenSpinRing (k : Int) (w : World) : Calls Try.prog 21 #[.int .i64 k] w (RetR (spinN 2 31 k) w) := by
  cases h : inR 0 31 k
  · have H : Hid (spinN 2 31 k = ([], 2)) := Lib.hid (if_neg (by rw [h]; decide))
    go_enter Try.func21, Try.ntmps21
    go_wp2_with fail
    refine (c_within _ _ _ _).mono ?_
    rintro e w1 ⟨rfl, rfl⟩
    rw [h]
    go_wp2_with fail
    (try simp only [Exit.inBlock, Exit.then])
    refine bodyPost_ret (v := .tuple #[.agg #[.slice none 0 0], .int .i64 2]) (by rw [results_cell_tmp rfl]; go_simp) rfl ?_
    exact ⟨_, by rw [H.out], by rw [H.out]; exact OwnCB.nil _ _ _, below_alloc w _⟩
  · obtain ⟨hk1, hk2⟩ := inR_true h
    obtain ⟨L, rfl⟩ : ∃ L : Nat, k = L := ⟨k.toNat, by omega⟩
    have H : Hid (spinN 2 31 L = (spin L 2, 0)) := Lib.hid (if_pos h)
    go_enter Try.func21, Try.ntmps21
    go_wp2_with fail
    refine (c_within _ _ _ _).mono ?_
    rintro e w1 ⟨rfl, rfl⟩
    rw [h]
    clear h
    go_wp2_with fail
    refine (c_spinRing_2 L _ (by omega)).mono ?_
    rintro e w2 ⟨v2, rfl, ho2, hb2⟩
    obtain ⟨p, n, cc, rfl⟩ := ho2.slice
    have hlt : w.heap.size < w2.heap.size := by have := hb2.size; simp at this; omega
    have hc0 : w2.cell? ⟨w.heap.size, 0, none⟩ = some (.slice none 0 0) := bcell hb2 (by simp)
    have hf0 : w2.frozen? ⟨w.heap.size, 0, none⟩ = false := bfrozen hb2 (v := .slice none 0 0) (by simp) (by simp)
    have HO : Hid (OwnCB (w2.setCell ⟨w.heap.size, 0, none⟩ (.slice p n cc)) (w.heap.size + 1) w2.heap.size (.slice p n cc) (spin L 2)) := Lib.hid ((ho2.mono (by simp) (Nat.le_refl _)).same fun x h1 h2 => Below.heap_setCell w2 ⟨w.heap.size, 0, none⟩ _ _ (fun e => by have e' : x = w.heap.size := e; omega))
    have HB : Hid (Below w.heap.size w (w2.setCell ⟨w.heap.size, 0, none⟩ (.slice p n cc))) := Lib.hid (below_set (below_after hb2) (Nat.le_refl _))
    clear ho2 hb2
    go_wp2_with fail
    (try simp only [Exit.inBlock, Exit.then])
    refine bodyPost_ret (v := .tuple #[.agg #[.slice p n cc], .int .i64 0]) (by rw [results_cell_tmp rfl]; go_simp) rfl ?_
    exact ⟨_, by rw [H.out], by rw [H.out]; exact HO.out.mono (by omega) (by simp), HB.out⟩
theorem c_SEvenSpinRing (k : Int) (w : World) : Calls Try.prog 20 #[.int .i64 k] w (RetR (spinN 2 31 k) w) := by
  cases h : inR 0 31 k
  · have H : Hid (spinN 2 31 k = ([], 2)) := Lib.hid (if_neg (by rw [h]; decide))
    go_enter Try.func20, Try.ntmps20
    go_wp2_with fail
    refine (c_l01In _ _ _ _).mono ?_
    rintro e w1 ⟨rfl, rfl⟩
    rw [h]
    go_wp2_with fail
    (try simp only [Exit.inBlock, Exit.then])
    refine bodyPost_ret (v := .tuple #[.agg #[.slice none 0 0], .int .i64 2]) (by rw [results_cell_tmp rfl]; go_simp) rfl ?_
    exact ⟨_, by rw [H.out], by rw [H.out]; exact OwnCB.nil _ _ _, below_alloc w _⟩
  · obtain ⟨hk1, hk2⟩ := inR_true h
    obtain ⟨L, rfl⟩ : ∃ L : Nat, k = L := ⟨k.toNat, by omega⟩
    have H : Hid (spinN 2 31 L = (spin L 2, 0)) := Lib.hid (if_pos h)
    go_enter Try.func20, Try.ntmps20
    go_wp2_with fail
    refine (c_l01In _ _ _ _).mono ?_
    rintro e w1 ⟨rfl, rfl⟩
    rw [h]
    clear h
    go_wp2_with fail
    refine (c_l06Spin_2 L _ (by omega)).mono ?_
    rintro e w2 ⟨v2, rfl, ho2, hb2⟩
    obtain ⟨p, n, cc, rfl⟩ := ho2.slice
    have hlt : w.heap.size < w2.heap.size := by have := hb2.size; simp at this; omega
    have hc0 : w2.cell? ⟨w.heap.size, 0, none⟩ = some (.slice none 0 0) := bcell hb2 (by simp)
    have hf0 : w2.frozen? ⟨w.heap.size, 0, none⟩ = false := bfrozen hb2 (v := .slice none 0 0) (by simp) (by simp)
    have HO : Hid (OwnCB (w2.setCell ⟨w.heap.size, 0, none⟩ (.slice p n cc)) (w.heap.size + 1) w2.heap.size (.slice p n cc) (spin L 2)) := Lib.hid ((ho2.mono (by simp) (Nat.le_refl _)).same fun x h1 h2 => Below.heap_setCell w2 ⟨w.heap.size, 0, none⟩ _ _ (fun e => by have e' : x = w.heap.size := e; omega))
    have HB : Hid (Below w.heap.size w (w2.setCell ⟨w.heap.size, 0, none⟩ (.slice p n cc))) := Lib.hid (below_set (below_after hb2) (Nat.le_refl _))
    clear ho2 hb2
    go_wp2_with fail
    (try simp only [Exit.inBlock, Exit.then])
    refine bodyPost_ret (v := .tuple #[.agg #[.slice p n cc], .int .i64 0]) (by rw [results_cell_tmp rfl]; go_simp) rfl ?_
    exact ⟨_, by rw [H.out], by rw [H.out]; exact HO.out.mono (by omega) (by simp), HB.out⟩
end Go.Proofs.Ytnhdnogcglmjdaa
