/- Walks: the draw of a text that a parser is given: the source's states told, the damage, and the loop's end. -/
import Derived.Test.YtcgmbpkichfalaaDoorDrl
import Derived.Test.YtcgmbpkichfalaaDoorLcg
import Derived.Test.YtcgmbpkichfalaaDoorNtv
import Derived.Deep.LoopGhost
namespace Go.Proofs.YtcgmbpkichfalaaDoor
open Go.RowKit Txt
attribute [local irreducible] Lcg.nx Lcg.top
theorem nx_wrap (h : Int) : IntKind.u64.wrap (IntKind.u64.wrap (h * 6364136223846793005) + 1442695040888963407) = Lcg.nx h := by
  rw [IntKind.wrap_u64, IntKind.wrap_u64]
  unfold Lcg.nx
  omega
theorem top_and (q : Int) : wrap64 (bits .and .u64 (IntKind.u64.wrap q / 8589934592) 16777215) = Lcg.top (IntKind.u64.wrap q) := by
  have hq : 0 ≤ IntKind.u64.wrap q / 8589934592 ∧ IntKind.u64.wrap q / 8589934592 < 18446744073709551616 := by rw [IntKind.wrap_u64]; omega
  unfold Lcg.top
  obtain ⟨a, ha⟩ := Int.eq_ofNat_of_zero_le hq.1
  rw [ha] at hq ⊢
  have e := bits_and_u64_nat a 16777215 (by omega) (by omega)
  have l : a &&& 16777215 = a % 16777216 := Nat.and_two_pow_sub_one_eq_mod a 24
  rw [show (16777215 : Int) = ((16777215 : Nat) : Int) from rfl, e, l]
  unfold wrap64
  omega
theorem top_range (z : Int) : 0 ≤ Lcg.top z ∧ Lcg.top z ≤ 16777215 := by have := Lcg.top_bd z; omega
/-- what the next number of a source is, its states told -/
def NextP (g : Nat) (n : Int) (w : World) (B : Nat) (a : Option Addr) (m cap : Nat) (k h : Int) : Ending → World → Prop := fun e w' =>
  ∃ x k' : Int, e = .returned (.int .i64 x) ∧ 0 ≤ x ∧ x < n ∧ SrcAt w' B g a m cap k' (Lcg.nx h) ∧ Touch (· = g) w w' ∧ (k < m → k' = k + 1) ∧ (k = m → k' = k ∧ x = Lcg.top (Lcg.nx h) % n)
set_option maxHeartbeats 1000000 in
theorem p_l01Next (g : Nat) (n : Int) (w : World) (B : Nat) (a : Option Addr) (m cap : Nat) (k h : Int) (s : SrcAt w B g a m cap k h) (hn : 1 ≤ n) (hn' : n ≤ 1000000000000) :
    Calls Tryd.prog 30 #[.pointer (some ⟨g, 0, none⟩), .int .i64 n] w (NextP g n w B a m cap k h) := by
  have HS := Lib.hid s
  obtain ⟨lo, hi, hm, hk0, hk, h0, h1, h2, hf1, hf2, _⟩ := s
  go_enter Tryd.func30, Tryd.ntmps30
  go_wp2_with fail
  have hx := top_and (IntKind.u64.wrap (h * 6364136223846793005) + 1442695040888963407)
  rw [hx, nx_wrap]
  obtain ⟨z, hz⟩ : ∃ z, z = Lcg.nx h := ⟨_, rfl⟩
  rw [← hz]
  obtain ⟨hx1, hx2⟩ := top_range z
  obtain ⟨x, hxz⟩ : ∃ x, x = Lcg.top z := ⟨_, rfl⟩
  rw [← hxz] at hx1 hx2 ⊢
  have s1 := HS.out.hash z
  obtain ⟨w1, hw1⟩ : ∃ w1, w1 = w.setCell ⟨g, 2, none⟩ (.int .u64 z) := ⟨_, rfl⟩
  rw [← hw1] at s1 ⊢
  have HB1 : Hid (Touch (· = g) w w1) := Lib.hid (by rw [hw1]; exact (Touch.refl _ _).set rfl)
  have HS1 := Lib.hid s1
  have HXZ := Lib.hid hxz
  have HZ := Lib.hid hz
  clear hx hz hw1 HS h0 h1 h2 hf1 hf2 hxz
  obtain ⟨_, hi1, _, _, _, h0, h1, h2, hf1, hf2, hb⟩ := s1
  have hn0 : ¬ n = 0 := by omega
  have hE := Int.emod_nonneg (x) hn0
  by_cases hlt : k < m
  · obtain ⟨j, rfl⟩ := Int.eq_ofNat_of_zero_le hk0
    obtain ⟨b, off, y, rfl, hbB, hcell, hy0, hy1⟩ := hb j (by omega)
    have HST := Lib.hid (HS1.out.step hlt)
    have hmd1 := Int.emod_nonneg (x + y) hn0
    have hmd2 := Int.emod_lt_of_pos (x + y) (show 0 < n by omega)
    clear hb
    go_quiet (fail)
    go_wp2_with fail
    go_quiet (fail)
    go_wp2_with fail
    go_ret
    unfold NextP
    rw [← HZ.out]
    exact ⟨_, _, rfl, hmd1, hmd2, (HS1.out.drewN _).step hlt, (HB1.out.drewN _).set rfl, fun _ => rfl, fun e => absurd e (by omega)⟩
  · have hmd2 := Int.emod_lt_of_pos x (show 0 < n by omega)
    clear hb
    go_quiet (fail)
    go_wp2_with fail
    go_ret
    unfold NextP
    rw [← HZ.out]
    exact ⟨_, k, rfl, hE, hmd2, HS1.out.drewN _, HB1.out.drewN _, fun e => absurd e (by omega), fun _ => ⟨rfl, by rw [HXZ.out]⟩⟩
theorem SrcAt.n4096 {w : World} {B g : Nat} {a : Option Addr} {m cap : Nat} {k h : Int} (s : SrcAt w B g a m cap k h) : m ≤ 4096 ∧ 0 ≤ k ∧ k ≤ m := ⟨s.len, s.k0, s.kn⟩
theorem string_list (s : ByteArray) : Value.string s = tv s.data.toList := rfl
theorem cell_lit (w : World) (arr : Array Value) (T : TypeId) (x : Nat) {u : Value} (h : arr[x]? = some u) : (w.alloc (.cells arr T)).cell? ⟨w.heap.size, x, none⟩ = some u := by
  obtain ⟨h1, h2⟩ := Array.getElem?_eq_some_iff.1 h
  simp [h1, h2]
theorem twenty {P : Nat → Prop} (h : P 0 ∧ P 1 ∧ P 2 ∧ P 3 ∧ P 4 ∧ P 5 ∧ P 6 ∧ P 7 ∧ P 8 ∧ P 9 ∧ P 10 ∧ P 11 ∧ P 12 ∧ P 13 ∧ P 14 ∧ P 15 ∧ P 16 ∧ P 17 ∧ P 18 ∧ P 19) : ∀ x, x < 20 → P x := by
  intro x hx
  obtain ⟨h0, h1, h2, h3, h4, h5, h6, h7, h8, h9, h10, h11, h12, h13, h14, h15, h16, h17, h18, h19⟩ := h
  match x, hx with
  | 0, _ => exact h0
  | 1, _ => exact h1
  | 2, _ => exact h2
  | 3, _ => exact h3
  | 4, _ => exact h4
  | 5, _ => exact h5
  | 6, _ => exact h6
  | 7, _ => exact h7
  | 8, _ => exact h8
  | 9, _ => exact h9
  | 10, _ => exact h10
  | 11, _ => exact h11
  | 12, _ => exact h12
  | 13, _ => exact h13
  | 14, _ => exact h14
  | 15, _ => exact h15
  | 16, _ => exact h16
  | 17, _ => exact h17
  | 18, _ => exact h18
  | 19, _ => exact h19
  | n + 20, h => omega
theorem list_size (s : ByteArray) : s.data.toList.length = s.size := Array.length_toList
theorem kept_drewN (g : Nat) (w : World) (n : Nat) : Kept g w (w.drewN n) := ⟨rfl, rfl, rfl, Nat.le_refl _, fun _ _ _ => rfl⟩
def DamageP (g : Nat) (l : List UInt8) (w : World) (B : Nat) (a : Option Addr) (m cap : Nat) (k h : Int) : Ending → World → Prop := fun e w' => ∃ (l' : List UInt8) (k' h' : Int), e = .returned (tv l') ∧ SrcAt w' B g a m cap k' h' ∧ Kept g w w' ∧ k ≤ k' ∧
  ((h' = Lcg.it 3 h ∧ l'.length ≤ l.length + 1) ∨ (h' = Lcg.it 1 h ∧ l'.length ≤ 1))
def signs : List UInt8 := [48, 49, 50, 53, 57, 45, 43, 47, 124, 59, 58, 44, 32, 97, 115, 116, 83, 84, 120, 10]
set_option maxRecDepth 100000 in
set_option maxHeartbeats 2000000 in
theorem p_l01Damage (g : Nat) (l : List UInt8) (w : World) (B : Nat) (a : Option Addr) (m cap : Nat) (k h : Int) (s : SrcAt w B g a m cap k h) (hl : l.length ≤ 3000000000) :
    Calls Tryd.prog 31 #[.pointer (some ⟨g, 0, none⟩), .string ⟨l.toArray⟩] w (DamageP g l w B a m cap k h) := by
  have hsz : (⟨l.toArray⟩ : ByteArray).size = l.length := List.size_toArray
  have HS := Lib.hid s
  have hg := s.hi
  clear s
  go_enter Tryd.func31, Tryd.ntmps31
  go_wp2_with fail
  refine (p_l01Next g 20 _ B a m cap k h (HS.out.keep (below_alloc _ _)) (by omega) (by omega)).mono ?_
  rintro e w1 ⟨x, k1, rfl, hx1, hx2, hs1, ht1, hk1, hk1'⟩
  obtain ⟨x, rfl⟩ := Int.eq_ofNat_of_zero_le hx1
  have hkk1 : k ≤ k1 := by
    have := HS.out.kn
    by_cases e : k < m
    · have := hk1 e; omega
    · have := (hk1' (by omega)).1; omega
  have hcell : ∃ b : UInt8, w1.cell? ⟨w.heap.size, x, none⟩ = some (.string ⟨#[b]⟩) := by
    have hne : ¬ w.heap.size = g := by omega
    rw [World.cell?_of_block (ht1.block w.heap.size hne)]
    have hall : ∀ x, x < 20 → ∃ (b : UInt8), (signs.map fun b => Value.string ⟨#[b]⟩).toArray[x]? = some (.string ⟨#[b]⟩) := twenty (by refine ⟨?_, ?_, ?_, ?_, ?_, ?_, ?_, ?_, ?_, ?_, ?_, ?_, ?_, ?_, ?_, ?_, ?_, ?_, ?_, ?_⟩ <;> exact ⟨_, rfl⟩)
    obtain ⟨b, hb⟩ := hall x (by omega)
    exact ⟨b, cell_lit w _ _ x hb⟩
  obtain ⟨cb, hcell⟩ := hcell
  have HS1 := Lib.hid hs1
  have HK1 : Hid (Kept g w w1) := Lib.hid ((Kept.ofBelow (below_alloc _ _)).trans (Kept.ofTouch ht1))
  have h1sz : (⟨#[cb]⟩ : ByteArray).size = 1 := rfl
  obtain ⟨c, hc⟩ : ∃ c : ByteArray, c = ⟨#[cb]⟩ := ⟨_, rfl⟩
  rw [← hc] at hcell h1sz
  have HKK := Lib.hid hkk1
  clear hs1 ht1 hk1 hk1' HS hkk1 hc
  obtain ⟨t, ht⟩ : ∃ t : ByteArray, t = ⟨l.toArray⟩ := ⟨_, rfl⟩
  rw [← ht] at hsz ⊢
  clear ht
  by_cases hl0 : l.length = 0
  · have HL0 := Lib.hid hl0
    rw [hl0] at hsz
    clear hl0
    go_wp2_with fail
    go_ret
    exact ⟨c.data.toList, k1, _, rfl, HS1.out, HK1.out, HKK.out, .inr ⟨rfl, by rw [Array.length_toList]; exact Nat.le_of_eq h1sz⟩⟩
  have hl1 : 0 < l.length := by omega
  obtain ⟨N, hN⟩ : ∃ N, N = l.length := ⟨_, rfl⟩
  rw [← hN] at hsz hl hl1
  have HN := Lib.hid hN
  clear hl0 hN
  have hszI : ((t.size : Nat) : Int) = (N : Int) := by rw [hsz]
  have hNB : ((N : Int) == 0) = false := by rw [beq_eq_false_iff_ne]; omega
  go_wp2_with fail
  refine (p_l01Next g N _ B a m cap k1 _ HS1.out (by omega) (by omega)).mono ?_
  rintro e w2 ⟨j, k2, rfl, hj1, hj2, hs2, ht2, hk2, hk2'⟩
  obtain ⟨j, rfl⟩ := Int.eq_ofNat_of_zero_le hj1
  have hkk2 : k1 ≤ k2 := by
    have := HS1.out.kn
    by_cases e : k1 < m
    · have := hk2 e; omega
    · have := (hk2' (by omega)).1; omega
  have HS2 := Lib.hid hs2
  have HK2 := Lib.hid (HK1.out.trans (Kept.ofTouch ht2))
  have HKK := Lib.hid (Int.le_trans HKK.out hkk2)
  clear hs2 ht2 hk2 hk2' HS1 HK1 hkk2
  go_wp2_with fail
  refine (p_l01Next g 3 _ B a m cap k2 _ HS2.out (by omega) (by omega)).mono ?_
  rintro e w3 ⟨z, k3, rfl, hz1, hz2, hs3, ht3, hk3, hk3'⟩
  have hkk3 : k2 ≤ k3 := by
    have := HS2.out.kn
    by_cases e : k2 < m
    · have := hk3 e; omega
    · have := (hk3' (by omega)).1; omega
  have HS3 := Lib.hid hs3
  have HK3 := Lib.hid (HK2.out.trans (Kept.ofTouch ht3))
  have HKK := Lib.hid (Int.le_trans HKK.out hkk3)
  clear hs3 ht3 hk3 hk3' HS2 HK2 hkk3 hcell
  have hjN : j < N := by omega
  have hj1N : j + 1 ≤ N := by omega
  have hjI : (j : Int) < (N : Int) := by omega
  have hszN : t.size ≤ 3000000000 := by omega
  have e1 : (t.extract 0 j).size = j := by rw [ByteArray.size_extract, hsz]; omega
  have e2 : (t.extract (j + 1) N).size = N - (j + 1) := by rw [ByteArray.size_extract, hsz]; omega
  have e3 : (t.extract j N).size = N - j := by rw [ByteArray.size_extract, hsz]; omega
  clear hj2 hj1 hx1 hx2
  by_cases h0 : z = 0
  · subst h0
    go_wp2_with fail
    go_quiet (fail)
    go_wp2_with fail
    go_ret
    exact ⟨(t.extract 0 j ++ c ++ t.extract (j + 1) N).data.toList, k3, _, rfl, HS3.out.drewN _, HK3.out.trans (kept_drewN _ _ _), HKK.out, .inl ⟨rfl, by
      rw [list_size, ByteArray.size_append, ByteArray.size_append, e1, e2, h1sz, ← HN.out]; omega⟩⟩
  by_cases h1 : z = 1
  · subst h1
    go_wp2_with fail
    go_quiet (fail)
    go_wp2_with fail
    go_ret
    exact ⟨(t.extract 0 j ++ t.extract (j + 1) N).data.toList, k3, _, rfl, HS3.out.drewN _, HK3.out.trans (kept_drewN _ _ _), HKK.out, .inl ⟨rfl, by
      rw [list_size, ByteArray.size_append, e1, e2, ← HN.out]; omega⟩⟩
  have b0 : (z == 0) = false := by rw [beq_eq_false_iff_ne]; exact h0
  have b1 : (z == 1) = false := by rw [beq_eq_false_iff_ne]; exact h1
  clear h0 h1
  go_wp2_with fail
  go_quiet (fail)
  go_wp2_with fail
  go_ret
  exact ⟨(t.extract 0 j ++ c ++ t.extract j N).data.toList, k3, _, rfl, HS3.out.drewN _, HK3.out.trans (kept_drewN _ _ _), HKK.out, .inl ⟨rfl, by
    rw [list_size, ByteArray.size_append, ByteArray.size_append, e1, e3, h1sz, ← HN.out]; omega⟩⟩
theorem txt_len {a : Int} (h1 : 0 ≤ a) (h2 : a < 55441) : (txt a).length ≤ 100 := by
  have htx : txt a = if (Fus.shortF a).2 = 0 then Lib.itoa a else if (Fus.shortF a).2 = 1 then Lib.itoa (Fus.shortF a).1 else Lib.itoa (Fus.shortF a).1 ++ 47 :: Lib.itoa (Fus.shortF a).2 := rfl
  rw [htx]
  rcases Fus.shortF_cases a with e | ⟨q, hq1, hq2, e, hp1, hp2, _⟩
  · rw [e]
    have := Lib.itoa_length_le a (by omega) (by omega)
    rw [if_pos rfl]
    omega
  · rw [e]
    have l1 := Lib.itoa_length_le (Fus.cres a q) (by omega) (by omega)
    have l2 := Lib.itoa_length_le q (by omega) (by omega)
    dsimp only
    split
    · have := Lib.itoa_length_le a (by omega) (by omega)
      omega
    · split
      · omega
      · rw [List.length_append, List.length_cons]
        omega
set_option maxHeartbeats 2000000 in
theorem c_DrawParseNumber (q : Value) (bs : List Int) (w : World) (hq : Bytes w q bs) (hl : bs.length ≤ 4096) :
    Calls Tryd.prog 15 #[q] w fun e w' => ∃ l : List UInt8, e = .returned (tv l) ∧ l.length ≤ 2148540000 ∧ Below w.heap.size w w' := by
  go_enter Tryd.func15, Tryd.ntmps15
  go_wp2_with fail
  refine (c_l01From q bs _ hq hl).mono ?_
  rintro e w1 ⟨v, rfl, hs1, hb1⟩
  have hgl := hs1.lo.2
  have HS1 := Lib.hid hs1
  have HB1 := Lib.hid hb1
  clear hs1 hb1
  go_wp2_with fail
  refine (k_l01Draw v _ _ _ HS1.out).mono ?_
  rintro e w2 ⟨x, rfl, ⟨hx1, hx2⟩, hs2, hk2⟩
  have HS2 := Lib.hid hs2
  have HB2 := Lib.hid (HB1.out.trans (hk2.below (Nat.le_refl _) HB1.out.size))
  clear hs2 hk2 HS1 HB1
  go_wp2_with fail
  refine (c_l01Text x _ hx1 hx2).mono ?_
  rintro e w3 ⟨rfl, hb3⟩
  have hs3 := HS2.out.keep hb3
  have HB3 := Lib.hid (HB2.out.trans (hb3.mono HB2.out.size))
  have htl := txt_len hx1 hx2
  generalize txt x = l0 at *
  obtain ⟨a, m, cap, k, h, rfl, hs⟩ := hs3
  have hn := hs.n4096
  have HS3 := Lib.hid hs
  have HA3 := Lib.hid (Lcg.At.start (h := h) htl hn.1 hn.2.1 hn.2.2)
  clear hb3 HS2 HB2 hs hn htl
  obtain ⟨n0, hn0⟩ : ∃ n0, n0 = 9223372036854775808 + 4096 := ⟨_, rfl⟩
  rw [← hn0] at HA3
  clear hn0
  unfold tv
  go_wp2_with fail
  go_loopg [4] n0 (fun G t wr => ∃ (l : List UInt8) (k h : Int), t = .string ⟨l.toArray⟩ ∧ Hid (SrcAt wr w.heap.size w.heap.size a m cap k h) ∧ Hid (Lcg.At G l.length m k h) ∧ Hid (Below w.heap.size w wr))
  case atStart => exact ⟨l0, k, h, rfl, HS3, HA3, HB3⟩
  case round =>
    clear HS3 HA3 HB3
    obtain ⟨l, k, h, rfl, HS, HA, HB⟩ := hrel
    have hgs := HS.out.hi
    go_wp2_with fail
    refine (p_l01Next _ 3 _ _ a m cap k h HS.out (by omega) (by omega)).mono ?_
    rintro e w4 ⟨x, k1, rfl, hx1, hx2, hs4, ht4, hk1, hk1'⟩
    have HS4 := Lib.hid hs4
    have HB4 := Lib.hid (HB.out.trans ((Kept.ofTouch ht4).below (Nat.le_refl _) HB.out.size))
    have hll := HA.out.len
    have HK1 := Lib.hid hk1
    have HK2 := Lib.hid hk1'
    clear hs4 ht4 hk1 hk1' HS HB
    by_cases hx0 : x = 0
    · subst hx0
      go_wp2_with fail
      refine (p_l01Damage _ l _ _ a m cap k1 _ HS4.out (by omega)).mono ?_
      rintro e w5 ⟨l', k', h', rfl, hs5, hk5, hkk, hh⟩
      have hn5 := hs5.n4096
      obtain ⟨G', hG, hA'⟩ := HA.out.round HK1.out HK2.out rfl hkk hn5.2.2 (len' := l'.length) (h' := h') (by
        rcases hh with ⟨e, el⟩ | ⟨e, el⟩
        · exact .inl ⟨e, el⟩
        · exact .inr ⟨e, el⟩)
      have HB5 := Lib.hid (HB4.out.trans (hk5.below (Nat.le_refl _) HB4.out.size))
      have HS5 := Lib.hid hs5
      have HA5 := Lib.hid hA'
      clear hs5 hk5 hh hA' hn5 hkk
      unfold tv
      go_wp2_with fail
      go_roundg G'
      case measure => exact hG
      case rel => exact ⟨l', k', h', rfl, HS5, HA5, HB5⟩
    · have hxB : (x == 0) = false := by rw [beq_eq_false_iff_ne]; exact hx0
      go_wp2_with fail
      go_ret
      exact ⟨l, rfl, hll, HB4.out⟩
end Go.Proofs.YtcgmbpkichfalaaDoor
