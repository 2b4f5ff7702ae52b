/- slices.Repeat of a list of one integer. -/
import Derived.Test.YtckcjlophnehmaaTas
import Derived.Laws.IdiomCopy
namespace Go.Proofs.Ytckcjlophnehmaa
open Go.RowKit
set_option maxHeartbeats 1000000 in
theorem c_Mul64 (n : Int) (w : World) (h : 2 ≤ n) (h' : n ≤ 16) : Calls Try.prog 59 #[.int .u64 1, .int .u64 n] w fun e w' => e = .returned (.tuple #[.int .u64 0, .int .u64 n]) ∧ w = w' := by
  rcases (by omega : n = 2 ∨ n = 3 ∨ n = 4 ∨ n = 5 ∨ n = 6 ∨ n = 7 ∨ n = 8 ∨ n = 9 ∨ n = 10 ∨ n = 11 ∨ n = 12 ∨ n = 13 ∨ n = 14 ∨ n = 15 ∨ n = 16) with rfl | rfl | rfl | rfl | rfl | rfl | rfl | rfl | rfl | rfl | rfl | rfl | rfl | rfl | rfl
  all_goals
    clear h h'
    go_enter Try.func59, Try.ntmps59
    go_wp2_with fail
    go_ret2
    exact ⟨rfl, rfl⟩
theorem c_bitsMul (n : Int) (w : World) (h : 2 ≤ n) (h' : n ≤ 16) : Calls Try.prog 51 #[.int .u64 1, .int .u64 n] w fun e w' => e = .returned (.tuple #[.int .u64 0, .int .u64 n]) ∧ w = w' := by
  have hM := Lib.hid (fun w => c_Mul64 n w h h')
  go_enter Try.func51, Try.ntmps51
  go_wp2_with fail
  refine (hM.out _).mono ?_
  rintro e w1 ⟨rfl, rfl⟩
  go_wp2_with fail
  go_ret2
  exact ⟨rfl, rfl⟩
theorem tc_size (b : Nat) : ∀ (vs : List Value) (o : Nat) (w : World), (w.setCells b o vs).heap.size = w.heap.size
  | [], _, _ => rfl
  | v :: r, o, w => by rw [World.setCells, tc_size b r (o + 1)]; simp
theorem below_tc {w0 : World} {B b : Nat} (hb : B ≤ b) : ∀ (vs : List Value) (o : Nat) (w : World), Below B w0 w → Below B w0 (w.setCells b o vs)
  | [], _, _, h => h
  | v :: r, o, w, h => by rw [World.setCells]; exact below_tc hb r (o + 1) _ (below_set h hb)
/-- the first k are x -/
def repL (n : Nat) (x : Int) (k : Nat) : List Int := vec n fun i => if i < k then x else 0
theorem repL_length (n : Nat) (x : Int) (k : Nat) : (repL n x k).length = n := vec_length _ _
theorem repL_at {n k j : Nat} (x : Int) (h : j < k) (hk : k ≤ n) : (repL n x k)[j]? = some x := by
  unfold repL; rw [vec_at _ (by omega), if_pos h]
theorem repL_zero (n : Nat) (x : Int) : (vec n fun _ => (0 : Int)) = repL n x 0 := vec_congr fun i _ => by rw [if_neg (by omega)]
theorem repL_full (n : Nat) (x : Int) : repL n x n = List.replicate n x := by
  unfold repL
  rw [vec_congr (g := fun _ => x) (fun i hi => by rw [if_pos hi])]
  simp [vec, List.map_const']
theorem own_run {g n B : Nat} (x : Int) : ∀ (m k : Nat) (w : World), k + m ≤ n → OwnI w B (.slice (some ⟨g, 0, none⟩) n n) (repL n x k) → OwnI (w.setCells g k (List.replicate m (vi x))) B (.slice (some ⟨g, 0, none⟩) n n) (repL n x (k + m))
  | 0, _, _, _, h => h
  | m + 1, k, w, hk, h => by
    rw [List.replicate_succ, World.setCells]
    have h1 := Own.store h k (vi x)
    have e : ((repL n x k).map vi).set k (vi x) = (repL n x (k + 1)).map vi := by
      rw [← List.map_set]
      unfold repL
      rw [vec_set]
      congr 1
      exact vec_congr fun i hi => by (by_cases e : i = k <;> by_cases e2 : i < k <;> simp [e, e2] <;> (try omega))
    rw [e] at h1
    rw [show k + (m + 1) = (k + 1) + m by omega]
    exact own_run x m (k + 1) _ (by omega) h1
theorem own_src {w : World} {B g n k : Nat} {x : Int} (h : OwnI w B (.slice (some ⟨g, 0, none⟩) n n) (repL n x k)) (hk : k ≤ n) {j : Nat} (hj : j < k) : w.cell? ⟨g, j, none⟩ = some (vi x) :=
  Own.cell h (by rw [List.getElem?_map, repL_at x hj hk]; rfl)
theorem own_dst {w : World} {B g n k : Nat} {x : Int} (h : OwnI w B (.slice (some ⟨g, 0, none⟩) n n) (repL n x k)) {j : Nat} (hj : j < n) : (w.cell? ⟨g, j, none⟩).isSome = true ∧ w.frozen? ⟨g, j, none⟩ = false := by
  refine ⟨?_, Own.frozen h j⟩
  have hl : j < ((repL n x k).map vi).length := by rw [List.length_map, repL_length]; exact hj
  rw [Own.cell h (List.getElem?_eq_getElem hl)]; rfl
/-- the first cells copied on -/
theorem run_rep {w : World} {B g n k : Nat} {x : Int} (h : OwnI w B (.slice (some ⟨g, 0, none⟩) n n) (repL n x k)) (hk : k ≤ n) (ty : TypeId) :
    (Builtin.copy_ #[29, 29] ty #[.slice (some ⟨g, k, none⟩) (n - k) (n - k), .slice (some ⟨g, 0, none⟩) k n]).run Try.prog w = .ok (goInt ((min k (n - k) : Nat) : Int)) (w.setCells g k (List.replicate (min k (n - k)) (vi x))) := by
  have hr := run_copy_cells (P := Try.prog) w 29 29 ty 2 g k (n - k) (n - k) ⟨g, 0, none⟩ k n (List.replicate (min k (n - k)) (vi x)) Try.underlying29 (by kernel_rfl) (by rw [List.length_replicate])
    (fun j u hu => by
      rw [List.getElem?_replicate] at hu
      split at hu
      · cases hu
        have h3 := own_src h hk (j := j) (by omega)
        unfold Addr.add
        split
        · rename_i e; subst e; exact h3
        · simpa using h3
      · cases hu)
    (fun j hj => by rw [List.length_replicate] at hj; exact (own_dst h (by omega)).1) (fun j hj => by rw [List.length_replicate] at hj; exact (own_dst h (by omega)).2) (fun u hu => by rw [(List.mem_replicate.1 hu).2]; rfl)
  rw [List.length_replicate] at hr
  exact hr
set_option maxHeartbeats 1000000 in
theorem c_Repeat (v : Value) (x : Int) (n : Nat) (w : World) (hv : Ints w v [x]) (h2 : 2 ≤ n) (h16 : n ≤ 16) :
    Calls Try.prog 39 #[v, .int .i64 n] w (RetI (List.replicate n x) w) := by
  obtain ⟨a, cap, rfl, hl, hc⟩ := hv
  obtain ⟨b, off, rfl, hcell⟩ := hc 0 x rfl
  have hmk := run_make_row' (P := Try.prog) 29 2 (.int .i64 0) 8 Try.underlying29 info_int rfl .i64 .i64 n (by omega) (by omega)
  have hB := Lib.hid (fun w => c_bitsMul n w (by omega) (by omega))
  have HO0 := Lib.hid (own_zeros w n (by omega))
  have hcp : ∀ ty, (Builtin.copy_ #[29, 29] ty #[.slice (some ⟨w.heap.size, 0, none⟩) n n, .slice (some ⟨b, off, none⟩) 1 cap]).run Try.prog (w.alloc (.cells (madeCells #[.int .i64 0] n) 2)) = .ok (goInt 1) ((w.alloc (.cells (madeCells #[.int .i64 0] n) 2)).setCells w.heap.size 0 [vi x]) := fun ty => by
    rw [repL_zero n x] at HO0
    exact run_copy_cells (P := Try.prog) _ 29 29 ty 2 w.heap.size 0 n n ⟨b, off, none⟩ 1 cap [vi x] Try.underlying29 (by kernel_rfl) (by show 1 = min 1 n; omega)
      (fun j u hu => by
        cases j with
        | zero => simp at hu; subst hu; exact bcell (below_alloc _ _) (by simpa [Addr.add] using hcell)
        | succ j => simp at hu)
      (fun j hj => by rw [Nat.zero_add]; exact (own_dst HO0.out (by simp at hj; omega)).1) (fun j hj => by rw [Nat.zero_add]; exact (own_dst HO0.out (by simp at hj; omega)).2) (fun u hu => by simp at hu; subst hu; rfl)
  go_enter Try.func39, Try.ntmps39
  go_wp2_with fail
  refine (hB.out _).mono ?_
  rintro e w1 ⟨rfl, rfl⟩
  go_wp2_with fail
  have H1 : Hid (OwnI ((w.alloc (.cells (madeCells #[.int .i64 0] n) 2)).setCell ⟨w.heap.size, 0, none⟩ (vi x)) w.heap.size (.slice (some ⟨w.heap.size, 0, none⟩) n n) (repL n x 1)) := Lib.hid (by
    have h := HO0.out
    rw [repL_zero n x] at h
    exact own_run x 1 0 _ (by omega) h)
  have HB1 : Hid (Below w.heap.size w ((w.alloc (.cells (madeCells #[.int .i64 0] n) 2)).setCell ⟨w.heap.size, 0, none⟩ (vi x))) := Lib.hid (below_set (below_alloc w _) (Nat.le_refl _))
  clear hcp hmk HO0
  go_loopw [8] (fun iv wr => ∃ k : Nat, iv = .int .i64 k ∧ 1 ≤ k ∧ k ≤ n ∧ Hid (OwnI wr w.heap.size (.slice (some ⟨w.heap.size, 0, none⟩) n n) (repL n x k)) ∧ Hid (Below w.heap.size w wr)) (fun iv _ => n - (intOf iv).toNat)
  case atStart => exact ⟨1, rfl, by omega, by omega, H1, HB1⟩
  case round =>
    clear H1 HB1
    obtain ⟨k, rfl, hk1, hkn, HO, HB⟩ := hrel
    by_cases hlt : k < n
    · have hcp : ∀ ty, (Builtin.copy_ #[29, 29] ty #[.slice (some ⟨w.heap.size, k, none⟩) (n - k) (n - k), .slice (some ⟨w.heap.size, 0, none⟩) k n]).run Try.prog wr.drew = .ok (goInt ((min k (n - k) : Nat) : Int)) (wr.drew.setCells w.heap.size k (List.replicate (min k (n - k)) (vi x))) := fun ty => run_rep (Own.drewN HO.out 1) hkn ty
      have hnx := Lib.hid (own_run x (min k (n - k)) k wr.drew (by omega) (Own.drewN HO.out 1))
      have hbx := Lib.hid (below_tc (Nat.le_refl _) (List.replicate (min k (n - k)) (vi x)) k wr.drew HB.out.drew)
      obtain ⟨m, hm⟩ : ∃ m, m = min k (n - k) := ⟨_, rfl⟩
      rw [← hm] at hcp hnx hbx
      have hmb : 1 ≤ m ∧ k + m ≤ n := by omega
      clear hm
      go_wp2_with fail
      go_region
      all_goals
        go_wp2_with fail
        go_roundw
        case rel => exact ⟨k + m, by go_num, by omega, by omega, hnx, hbx⟩
        case measure => simp [intOf]; omega
    · obtain rfl : k = n := by omega
      go_wp2_with fail
      go_ret
      exact ⟨_, rfl, by rw [← repL_full]; exact HO.out, HB.out⟩
end Go.Proofs.Ytckcjlophnehmaa
