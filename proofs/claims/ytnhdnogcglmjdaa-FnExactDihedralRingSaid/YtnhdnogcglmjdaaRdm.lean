/- Dihedral rings: the reference's table. -/
import Derived.Test.YtnhdnogcglmjdaaRdk
namespace Go.Proofs.Ytnhdnogcglmjdaa
open Go.RowKit

/-- append of a list of integers -/
theorem wp_appendI {ops : Array Oper} {rest : List Oper} {o : Oper} {a : Act} {Q : Exit → Act → World → Prop} {w : World} {B : Nat} {v : Value} {xs ys : List Int} {b c m : Nat} (hown : OwnI w B v xs)
    (hc : ∀ i y, ys[i]? = some y → w.cell? ⟨b, i, none⟩ = some (vi y)) (hgd : o.guard = none) (s x : Operand)
    (ho : o.op = .call { callee := .builtin .append, args := #[s, x], argTypes := #[37, 37] })
    (hs : a.eval s = v) (hx : a.eval x = .slice (some ⟨b, 0, none⟩) m c) (hm : m = ys.length)
    (hB : B ≤ w.heap.size) (hlen : xs.length ≤ 1000000) (hlen' : ys.length ≤ 1000000)
    (h : ∀ v' w', OwnI w' B v' (xs ++ ys) → Below B w w' → wpList Try.prog ops Q rest (a.put o.dst v') w') :
    wpList Try.prog ops Q (o :: rest) a w := by
  subst hm
  obtain ⟨i, hi, hz0, hz1', hz2⟩ := info_parts info_int
  refine wpList_append_own_at _ hgd s x _ ho B 2 i (.int .i64 0) 1 8 Try.underlying37 hi hz0 hz1' hz2 rfl (by omega) v (xs.map vi).length (xs.map vi) hs hown ⟨b, 0, none⟩ ys.length c (ys.map vi) hx (by simp) ?_ ?_ ?_ ?_ hB ?_
  · intro j u hj
    rw [List.getElem?_map] at hj
    cases hy : ys[j]? with
    | none => rw [hy] at hj; cases hj
    | some y =>
      rw [hy] at hj
      cases hj
      have := hc j y hy
      unfold Addr.add
      split
      · rename_i e; subst e; exact this
      · simpa using this
  · intro u hu
    obtain ⟨y, _, rfl⟩ := List.mem_map.1 hu
    rfl
  · rw [List.length_map]; unfold maxLen; omega
  · rw [List.length_map]; omega
  · intro v' w' h1 h2 _ _
    refine h v' w' ?_ ⟨h2.os, h2.tape, h2.output, h2.size, fun k hk => h2.block k (by omega) (fun e => by have := (Own.lt hown e.symm).1; omega)⟩
    have e : (xs.map vi ++ ys.map vi).length = (xs.map vi).length + ys.length := by simp
    unfold OwnI Own
    rw [List.map_append, e]
    exact h1
theorem ofN_len (xs : List Nat) : (ofN xs).length = xs.length := by simp [ofN]
theorem ofN_app (xs ys : List Nat) : ofN xs ++ ofN ys = ofN (xs ++ ys) := by simp [ofN]
theorem ofN_shape {w : World} {B : Nat} {v : Value} {xs : List Nat} (h : OwnI w B v (ofN xs)) (hp : 0 < xs.length) : ∃ g cap, v = .slice (some ⟨g, 0, none⟩) xs.length cap ∧ B ≤ g ∧ g < w.heap.size := by
  rcases h.shape with ⟨_, hx⟩ | ⟨g, cap, rfl, h1, h2, _⟩
  · have : (ofN xs).length = 0 := by rw [List.map_eq_nil_iff] at hx; rw [hx]; rfl
    rw [ofN_len] at this
    omega
  · exact ⟨g, cap, by rw [List.length_map, ofN_len], h1, h2⟩
theorem ofN_cell {w : World} {B g n cap : Nat} {xs : List Nat} (h : OwnI w B (.slice (some ⟨g, 0, none⟩) n cap) (ofN xs)) {i x : Nat} (hx : xs[i]? = some x) : w.cell? ⟨g, i, none⟩ = some (.int .i64 (x : Int)) :=
  Own.cell h (by rw [List.getElem?_map]; unfold ofN; rw [List.getElem?_map, hx]; rfl)
theorem turn_pos (n h : Nat) : 0 < (turnN n h).length := by
  unfold turnN
  (repeat' split) <;> simp
theorem ord2 : ordN [2] = 2 := by
  unfold ordN
  rw [if_pos ⟨by simp, fun j x hj hx => by
    match j, hx with
    | 0, hx => simp at hx; omega
    | j + 1, hx => simp at hx⟩]
  rfl
theorem ord22 : ordN [2, 2] = 4 := by
  unfold ordN
  rw [if_pos ⟨by simp, fun j x hj hx => by
    match j, hx with
    | 0, hx => simp at hx; omega
    | 1, hx => simp at hx; omega
    | j + 2, hx => simp at hx⟩]
  rfl
theorem grp2 : ∀ i, i < 2 → ∀ j, j < 2 → grpT [2] i j = i ^^^ j := by decide
theorem grp4 : ∀ i, i < 4 → ∀ j, j < 4 → grpT [2, 2] i j = i ^^^ j := by decide
theorem st_base (L n S : Nat) (T : Nat → Nat → Nat) (hT : ∀ i, i < S → ∀ j, j < S → T i j = i ^^^ j) : cub L (tabE S T) = cub L (stE S (dgF n S) S 0 S) := by
  refine cub_congr fun A B K _ _ _ => ?_
  unfold tabE stE
  by_cases h1 : A < S ∧ B < S
  · rw [if_pos h1]
    unfold dgF
    rw [if_pos h1, hT A h1.1 B h1.2]
    by_cases e : K = A ^^^ B
    · rw [if_pos ⟨h1.1, h1.2, e⟩, if_pos e]
    · rw [if_neg (fun h => e h.2.2), if_neg e]
  · rw [if_neg (fun h => h1 ⟨h.1, h.2.1⟩), if_neg h1]
    by_cases h2 : A < S
    · rw [if_pos h2, if_neg (by omega)]
    · rw [if_neg h2]
      by_cases h5 : B < S
      · rw [if_pos h5, if_neg (by omega)]
      · rw [if_neg h5, if_neg (by omega)]
set_option maxRecDepth 100000 in
set_option maxHeartbeats 16000000 in
theorem c_l06Dihedral_2 (n : Nat) (w : World) (hn1 : 1 ≤ n) (hn2 : n ≤ 18) (hpar : n % 2 = 1) :
    Calls Try.prog 66 #[.int .i64 n] w (RetC (cub (2 + (n - 1) / 2) (dgF n 2)) w) := by
  obtain ⟨t, ht⟩ : ∃ t, t = (n - 1) / 2 := ⟨_, rfl⟩
  obtain ⟨L, hL⟩ : ∃ L, L = 2 + (n - 1) / 2 := ⟨_, rfl⟩
  have hLL : Hid ((n % 2 = 1 ∧ L = 2 + (n - 1) / 2) ∨ (n % 2 = 0 ∧ L = 4 + (n - 1) / 2)) := Lib.hid (by omega)
  have hLt : L = 2 + t := by omega
  have ht2 : 2 * t ≤ n - 1 ∧ t ≤ 8 := by omega
  obtain ⟨ht3, ht4⟩ := ht2
  have HTE : Hid (((n : Int) - 1) / 2 = (t : Int)) := Lib.hid (by omega)
  rw [← hL]
  have HL := Lib.hid hL
  clear hL ht
  have hpB : (((n : Int) % 2) == 0) = false := by rw [beq_eq_false_iff_ne]; omega
  have HLt := Lib.hid hLt
  have hL1 : 2 ≤ L ∧ L ≤ 12 := by omega
  obtain ⟨hL1, hL2⟩ := hL1
  clear hLt
  go_enter Try.func66, Try.ntmps66
  go_wp2_with fail
  rw [HTE.out]
  refine (c_l06Group _ [2] t _ ?hv (by rw [ord2]; omega) (by rw [ord2]; omega) (by omega)).mono ?_
  case hv => exact ⟨some ⟨w.heap.size, 0, none⟩, 1, rfl, by simp, fun i x hx => ⟨_, 0, rfl, by match i, hx with | 0, hx => simp at hx; subst hx; simp | i + 1, hx => simp at hx⟩⟩
  rw [ord2, ← HLt.out]
  rintro e w1 ⟨v1, rfl, ho1, hb1⟩
  obtain ⟨g, cap, rfl, hg1, hg2⟩ := ho1.shape' (by rw [cub_length]; omega)
  rw [cub_length] at ho1 ⊢
  have HIN : Hid (InOne w w1.heap.size (.slice (some ⟨g, 0, none⟩) L cap) (cub L (stE 2 (dgF n 2) 2 0 2)) w1) := Lib.hid ⟨Nat.le_refl _, by rw [← st_base L n 2 (grpT [2]) grp2]; exact ho1.mono (by simp) (Nat.le_refl _), below_after hb1⟩
  have hw01 := HIN.out.below.size
  clear ho1 hb1
  go_wp2_with fail
  go_loopw [7] (fun hv wr => ∃ c : Nat, 1 ≤ c ∧ c ≤ t + 1 ∧ hv = .int .i64 c ∧ Hid (InOne w w1.heap.size (.slice (some ⟨g, 0, none⟩) L cap) (cub L (stE 2 (dgF n 2) (2 + c - 1) 0 2)) wr)) (fun hv _ => t + 1 - (intOf hv).toNat)
  case atStart => exact ⟨1, by omega, by omega, rfl, HIN⟩
  case round =>
    obtain ⟨c, hc1, hc2, rfl, hin⟩ := hrel
    by_cases hlt : c ≤ t
    · obtain ⟨v, hv⟩ : ∃ v, v = 2 + c - 1 := ⟨_, rfl⟩
      rw [← hv] at hin
      have hvI : (2 : Int) + (c : Int) - 1 = (v : Int) := by omega
      have hvL : v < L := by have := HLt.out; omega
      have hvS : 2 ≤ v := by omega
      have hvc : v + 1 = 2 + c := by omega
      clear hv
      go_wp2_with fail
      go_loopw [9] (fun av wr => ∃ a : Nat, a ≤ 2 ∧ av = .int .i64 a ∧ Hid (InOne w w1.heap.size (.slice (some ⟨g, 0, none⟩) L cap) (cub L (stE 2 (dgF n 2) v a 2)) wr)) (fun av _ => 2 - (intOf av).toNat)
      case atStart => exact ⟨0, Nat.zero_le _, rfl, hin⟩
      case round =>
        clear hin
        obtain ⟨a, ha, rfl, hcur⟩ := hrel
        by_cases haS : a < 2
        · have haL : a < L := by omega
          have hsz1 := hcur.out.size
          have ha2 : a < 2 := haS
          go_wp2_with fail
          refine (c_l06Turn n (c) _ _ (by omega) hn1 hn2 (by omega)).mono ?_
          rintro e w5 ⟨vw5, rfl, how5, hbw5⟩
          have hcur := Lib.hid (hcur.out.call hbw5)
          have OWL := Lib.hid how5
          have hzw5 := hbw5.size
          clear how5 hbw5
          obtain ⟨gl, cl, rfl, hgl1, hgl2⟩ := ofN_shape OWL.out (turn_pos _ _)
          have hglw : w1.heap.size ≤ gl := by omega
          have hlen2 : (turnN n c).length ≤ 2 := turn_len _ _
          obtain ⟨lab, hlab⟩ : ∃ lab, lab = turnN n c := ⟨_, rfl⟩
          have HLAB := Lib.hid hlab
          have HLT : Hid (∀ x, x ∈ lab → x < L) := Lib.hid (fun x hx => turn_lt hn1 hLL.out (by rw [← hlab]; exact hx))
          rw [← hlab] at OWL hlen2 ⊢
          clear hlab
          go_wp2_with fail
          go_loopw [11] (fun iv wr => ∃ i : Nat, i ≤ lab.length ∧ iv = .int .i64 i ∧ Hid (InOne w w1.heap.size (.slice (some ⟨g, 0, none⟩) L cap) (cub L (incs (incs (stE 2 (dgF n 2) v a 2) a v (lab.take i)) v a (lab.take i))) wr) ∧ Hid (OwnI wr w1.heap.size (.slice (some ⟨gl, 0, none⟩) lab.length cl) (ofN lab))) (fun iv _ => lab.length - (intOf iv).toNat)
          case atStart => exact ⟨0, Nat.zero_le _, rfl, Lib.hid (by rw [List.take_zero, incs_nil, incs_nil]; exact hcur.out), Lib.hid (Own.mono OWL.out (by omega))⟩
          case round =>
            clear hcur OWL
            obtain ⟨i, hi, rfl, hin, OWL⟩ := hrel
            by_cases hlti : i < lab.length
            · obtain ⟨x, hx⟩ : ∃ x, lab[i]? = some x := ⟨lab[i], by simp [hlti]⟩
              have hxL : x < L := HLT.out x (List.mem_of_getElem? hx)
              have htk : lab.take (i + 1) = lab.take i ++ [x] := by
                obtain ⟨h1, h2⟩ := List.getElem?_eq_some_iff.1 hx
                rw [List.take_succ_eq_append_getElem h1, h2]
              have hlc := ofN_cell OWL.out hx
              have hne : ¬ (a = v ∧ v = a) := by omega
              have hne2 : ¬ (v = a ∧ a = v) := by omega
              obtain ⟨g1, c1, g2, c2, e1, e2, e3, e4, e5, e6, e7, e8, e9⟩ := hin.out.own.at haL hvL hxL
              have hbd := incs_bd (a := v) (b := a) (A := a) (B := v) (K := x) (xs := lab.take i) (incs_bd (a := a) (b := v) (A := a) (B := v) (K := x) (xs := lab.take i) (stE_bd (S := 2) (n := n) (v := v) (a := a) (u := 2)) (by rw [List.length_take]; omega)) (by rw [List.length_take]; omega)
              obtain ⟨y, hy⟩ : ∃ y, y = incs (incs (stE 2 (dgF n 2) v a 2) a v (lab.take i)) v a (lab.take i) a v x := ⟨_, rfl⟩
              rw [← hy] at e3 hbd
              have hinA : Hid (InOne w w1.heap.size (.slice (some ⟨g, 0, none⟩) L cap) (cub L (incs (incs (stE 2 (dgF n 2) v a 2) a v (lab.take (i + 1))) v a (lab.take i))) (wr.setCell ⟨g2, x, none⟩ (vi (y + 1)))) := Lib.hid (by
                have h := hin.out.set e5 (e9 (y + 1))
                rw [hy, inc2 _ _ _ _ _ _ _ hne, inc1, ← htk, ← hy] at h
                exact h)
              clear e9 hy
              obtain ⟨g3, c3, g4, c4, a1, a2, a3, a4, a5, a6, a7, a8, a9⟩ := hinA.out.own.at hvL haL hxL
              have hbd2 := incs_bd (a := v) (b := a) (A := v) (B := a) (K := x) (xs := lab.take i) (incs_bd (a := a) (b := v) (A := v) (B := a) (K := x) (xs := lab.take (i + 1)) (stE_bd (S := 2) (n := n) (v := v) (a := a) (u := 2)) (by rw [List.length_take]; omega)) (by rw [List.length_take]; omega)
              obtain ⟨z, hz⟩ : ∃ z, z = incs (incs (stE 2 (dgF n 2) v a 2) a v (lab.take (i + 1))) v a (lab.take i) v a x := ⟨_, rfl⟩
              rw [← hz] at a3 hbd2
              have hinB : Hid (InOne w w1.heap.size (.slice (some ⟨g, 0, none⟩) L cap) (cub L (incs (incs (stE 2 (dgF n 2) v a 2) a v (lab.take (i + 1))) v a (lab.take (i + 1)))) (((wr.setCell ⟨g2, x, none⟩ (vi (y + 1))).setCell ⟨g4, x, none⟩ (vi (z + 1))).drew.drew)) := Lib.hid (by
                have h := hinA.out.set a5 (a9 (z + 1))
                rw [hz, inc1, ← htk, ← hz] at h
                exact h.drew.drew)
              clear a9 hz
              have nl1 : g2 ≠ gl := by omega
              have nl2 : g4 ≠ gl := by omega
              have OWL2 : Hid (OwnI (((wr.setCell ⟨g2, x, none⟩ (vi (y + 1))).setCell ⟨g4, x, none⟩ (vi (z + 1))).drew.drew) w1.heap.size (.slice (some ⟨gl, 0, none⟩) lab.length cl) (ofN lab)) := Lib.hid (by
                have h1 := Own.keepOther (a := ⟨g2, x, none⟩) OWL.out (fun e => nl1 (by cases e; rfl)) (vi (y + 1))
                have h2 := Own.keepOther (a := ⟨g4, x, none⟩) h1 (fun e => nl2 (by cases e; rfl)) (vi (z + 1))
                exact h2)
              clear hin hinA OWL htk hx
              go_wp2_with fail
              go_region
              go_wp2_with fail
              go_region
              go_wp2_with fail
              exact ⟨⟨i + 1, by omega, by go_num, hinB, OWL2⟩, by simp [intOf]; omega⟩
            · obtain rfl : i = lab.length := by omega
              have hnext : Hid (InOne w w1.heap.size (.slice (some ⟨g, 0, none⟩) L cap) (cub L (stE 2 (dgF n 2) v (a + 1) 2)) wr) := Lib.hid (by
                rw [← st_pair (L := L) (xs := lab) haS hvS (fun K => by rw [HLAB.out, turn_cnt]; unfold dgF; rw [if_neg (by omega), if_pos haS, if_pos ha2]; rw [show v + 1 - 2 = c by omega]) (fun K => by rw [HLAB.out, turn_cnt]; unfold dgF; rw [if_neg (by omega), if_neg (by omega), if_pos haS, if_pos ha2]; rw [show v + 1 - 2 = c by omega])]
                have h := hin.out
                rw [List.take_length] at h
                exact h)
              clear hin OWL
              go_wp2_with fail
              exact ⟨⟨a + 1, by omega, by go_num, hnext⟩, by simp [intOf]; omega⟩
        · have hin : Hid (InOne w w1.heap.size (.slice (some ⟨g, 0, none⟩) L cap) (cub L (stE 2 (dgF n 2) v 2 2)) wr) := Lib.hid (by
            have e : a = 2 := by omega
            have h := hcur.out
            rw [e] at h
            exact h)
          clear hcur
          go_wp2_with fail
          go_loopw [12] (fun kv wr => ∃ k : Nat, 1 ≤ k ∧ k ≤ t + 1 ∧ kv = .int .i64 k ∧ Hid (InOne w w1.heap.size (.slice (some ⟨g, 0, none⟩) L cap) (cub L (stE 2 (dgF n 2) v 2 (2 + k - 1))) wr)) (fun kv _ => t + 1 - (intOf kv).toNat)
          case atStart => exact ⟨1, by omega, by omega, rfl, hin⟩
          case round =>
            clear hin
            obtain ⟨k, hk1, hk2, rfl, hin⟩ := hrel
            by_cases hltk : k ≤ t
            · obtain ⟨u, hu⟩ : ∃ u, u = 2 + k - 1 := ⟨_, rfl⟩
              rw [← hu] at hin
              have huI : (2 : Int) + (k : Int) - 1 = (u : Int) := by omega
              have huL : u < L := by have := HLt.out; omega
              have huS : 2 ≤ u := by omega
              have huk : u + 1 = 2 + k := by omega
              clear hu
              have hsz1 := hin.out.size
              go_wp2_with fail
              refine (c_l06Turn n (c + k) _ _ (by omega) hn1 hn2 (by omega)).mono ?_
              rintro e w5 ⟨v5, rfl, ho5, hb5⟩
              have hcur := Lib.hid (hin.out.call hb5)
              obtain ⟨ga, ca, rfl, hga1, hga2⟩ := ofN_shape ho5 (turn_pos _ _)
              have OW1 := Lib.hid ho5
              have hz5 := hb5.size
              clear ho5 hb5
              go_wp2_with fail
              all_goals
                refine (c_l06Turn n (df c k) _ _ (by unfold df; omega) hn1 hn2 (by unfold df; omega)).mono ?_
                rintro e w6 ⟨v6, rfl, ho6, hb6⟩
                have hcur := Lib.hid (hcur.out.call hb6)
                obtain ⟨gb, cb, rfl, hgb1, hgb2⟩ := ofN_shape ho6 (turn_pos _ _)
                have OW1 := Lib.hid (Own.keep OW1.out hb6)
                have OW2 := Lib.hid ho6
                have hz6 := hb6.size
                clear ho6 hb6
                have hl1 := turn_len n (c + k)
                have hl2 := turn_len n (df c k)
                go_wp2_with (at_builtin; refine wp_appendI (xs := ofN (turnN n (c + k))) (ys := ofN (turnN n (df c k))) (b := gb) OW1.out (fun i y hy => Own.cell OW2.out (by rw [List.getElem?_map, hy]; rfl)) rfl _ _ rfl rfl rfl (ofN_len _).symm (Nat.le_trans hz5 hz6) (by rw [ofN_len]; omega) (by rw [ofN_len]; omega) ?_; intro v7 w7 ho7 hb7; rw [ofN_app] at ho7)
                obtain ⟨gl, cl, rfl, hgl1, hgl2⟩ := ofN_shape ho7 (by rw [List.length_append]; have := turn_pos n (c + k); omega)
                have hcur : Hid (InOne w w1.heap.size (.slice (some ⟨g, 0, none⟩) L cap) (cub L (stE 2 (dgF n 2) v 2 u)) w7) := Lib.hid ⟨Nat.le_trans (Nat.le_trans hsz1 (Nat.le_trans hz5 hz6)) hb7.size, hcur.out.own.keep hb7 hsz1, hcur.out.below.trans (hb7.mono (by omega))⟩
                have hglw : w1.heap.size ≤ gl := by omega
                obtain ⟨lab, hlab⟩ : ∃ lab, lab = turnN n (c + k) ++ turnN n (df c k) := ⟨_, rfl⟩
                have hlen2 : lab.length ≤ 4 := by rw [hlab, List.length_append]; omega
                have HLT : Hid (∀ x, x ∈ lab → x < L) := Lib.hid (fun x hx => by
                  rw [hlab] at hx
                  rcases List.mem_append.1 hx with h | h
                  · exact turn_lt hn1 hLL.out h
                  · exact turn_lt hn1 hLL.out h)
                have HCNT : Hid (∀ K, dgF n 2 v u K = ((lab.count K : Nat) : Int)) := Lib.hid (fun K => by
                  rw [hlab, List.count_append, Int.natCast_add, turn_cnt, turn_cnt]
                  unfold dgF
                  rw [if_neg (by omega), if_neg (by omega), if_neg (by omega), show v + 1 - 2 = c by omega, show u + 1 - 2 = k by omega])
                rw [← hlab] at ho7 ⊢
                have OWL := Lib.hid (Own.mono ho7 (show w1.heap.size ≤ _ by omega))
                clear hlab ho7 hb7 hin
                go_wp2_with fail
                go_loopw [14] (fun iv wr => ∃ i : Nat, i ≤ lab.length ∧ iv = .int .i64 i ∧ Hid (InOne w w1.heap.size (.slice (some ⟨g, 0, none⟩) L cap) (cub L (incs (stE 2 (dgF n 2) v 2 u) v u (lab.take i))) wr) ∧ Hid (OwnI wr w1.heap.size (.slice (some ⟨gl, 0, none⟩) lab.length cl) (ofN lab))) (fun iv _ => lab.length - (intOf iv).toNat)
                case atStart => exact ⟨0, Nat.zero_le _, rfl, Lib.hid (by rw [List.take_zero, incs_nil]; exact hcur.out), OWL⟩
                case round =>
                  clear hcur OWL
                  obtain ⟨i, hi, rfl, hin, OWL⟩ := hrel
                  by_cases hlti : i < lab.length
                  · obtain ⟨x, hx⟩ : ∃ x, lab[i]? = some x := ⟨lab[i], by simp [hlti]⟩
                    have hxL : x < L := HLT.out x (List.mem_of_getElem? hx)
                    have htk : lab.take (i + 1) = lab.take i ++ [x] := by
                      obtain ⟨h1, h2⟩ := List.getElem?_eq_some_iff.1 hx
                      rw [List.take_succ_eq_append_getElem h1, h2]
                    have hlc := ofN_cell OWL.out hx
                    obtain ⟨g1, c1, g2, c2, e1, e2, e3, e4, e5, e6, e7, e8, e9⟩ := hin.out.own.at hvL huL hxL
                    have hbd := incs_bd (a := v) (b := u) (A := v) (B := u) (K := x) (xs := lab.take i) (stE_bd (S := 2) (n := n) (v := v) (a := 2) (u := u)) (by rw [List.length_take]; omega)
                    obtain ⟨y, hy⟩ : ∃ y, y = incs (stE 2 (dgF n 2) v 2 u) v u (lab.take i) v u x := ⟨_, rfl⟩
                    rw [← hy] at e3 hbd
                    have hinA : Hid (InOne w w1.heap.size (.slice (some ⟨g, 0, none⟩) L cap) (cub L (incs (stE 2 (dgF n 2) v 2 u) v u (lab.take (i + 1)))) (wr.setCell ⟨g2, x, none⟩ (vi (y + 1))).drew) := Lib.hid (by
                      have h := hin.out.set e5 (e9 (y + 1))
                      rw [hy, inc1, ← htk, ← hy] at h
                      exact h.drew)
                    clear e9 hy
                    have nl1 : g2 ≠ gl := by omega
                    have OWL2 : Hid (OwnI ((wr.setCell ⟨g2, x, none⟩ (vi (y + 1))).drew) w1.heap.size (.slice (some ⟨gl, 0, none⟩) lab.length cl) (ofN lab)) := Lib.hid (Own.keepOther (a := ⟨g2, x, none⟩) OWL.out (fun e => nl1 (by cases e; rfl)) (vi (y + 1)))
                    clear hin OWL htk hx
                    go_wp2_with fail
                    go_region
                    go_wp2_with fail
                    exact ⟨⟨i + 1, by omega, by go_num, hinA, OWL2⟩, by simp [intOf]; omega⟩
                  · obtain rfl : i = lab.length := by omega
                    have hnext : Hid (InOne w w1.heap.size (.slice (some ⟨g, 0, none⟩) L cap) (cub L (stE 2 (dgF n 2) v 2 (u + 1))) wr) := Lib.hid (by
                      rw [← st_own (L := L) (xs := lab) (by omega) hvS HCNT.out]
                      have h := hin.out
                      rw [List.take_length] at h
                      exact h)
                    clear hin OWL
                    go_wp2_with fail
                    go_roundw
                    case rel => exact ⟨k + 1, by omega, by omega, by go_num, Lib.hid (by rw [show 2 + (k + 1) - 1 = u + 1 by omega]; exact hnext.out)⟩
                    case measure => simp [intOf]; omega
            · obtain rfl : k = t + 1 := by omega
              have hnext : Hid (InOne w w1.heap.size (.slice (some ⟨g, 0, none⟩) L cap) (cub L (stE 2 (dgF n 2) (2 + (c + 1) - 1) 0 2)) wr) := Lib.hid (by
                have h := hin.out
                rw [show 2 + (t + 1) - 1 = L by have := HLt.out; omega, st_turn] at h
                rw [show 2 + (c + 1) - 1 = v + 1 by omega]
                exact h)
              clear hin
              go_wp2_with fail
              exact ⟨⟨c + 1, by omega, by omega, by go_num, hnext⟩, by simp [intOf]; omega⟩
    · obtain rfl : c = t + 1 := by omega
      go_wp2_with fail
      go_ret
      refine ⟨_, rfl, ?_, hin.out.below⟩
      have h := hin.out.own
      rw [show 2 + (t + 1) - 1 = L by have := HLt.out; omega, st_done] at h
      exact h.mono (Nat.le_refl _) hin.out.size
end Go.Proofs.Ytnhdnogcglmjdaa
