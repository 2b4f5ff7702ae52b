/- Walks: numbers drawn from a code. -/
import Derived.Test.YtcgmbpkichfalaaDoorFlf
import Derived.Test.YtcgmbpkichfalaaDoorTch
import Derived.Laws.Bits64b
import Derived.StillTailTactics
namespace Go.Proofs.YtcgmbpkichfalaaDoor
open Go.RowKit

/-- bytes that can be read -/
def BytesIn (w : World) (a : Option Addr) (n B : Nat) : Prop := ∀ i, i < n → ∃ b off y, a = some ⟨b, off, none⟩ ∧ b < B ∧ w.cell? ⟨b, off + i, none⟩ = some (.int .u8 y) ∧ 0 ≤ y ∧ y ≤ 255
theorem BytesIn.keep {w w' : World} {a : Option Addr} {n B : Nat} (h : BytesIn w a n B) (hb : Below B w w') : BytesIn w' a n B := fun i hi => by
  obtain ⟨b, off, y, h1, h2, h3, h4⟩ := h i hi
  exact ⟨b, off, y, h1, h2, by rw [hb.cell h2]; exact h3, h4⟩
theorem BytesIn.mono {w : World} {a : Option Addr} {n B B' : Nat} (h : BytesIn w a n B) (hb : B ≤ B') : BytesIn w a n B' := fun i hi => by
  obtain ⟨b, off, y, h1, h2, h3, h4⟩ := h i hi
  exact ⟨b, off, y, h1, by omega, h3, h4⟩
/-- a source of numbers -/
structure SrcAt (w : World) (B g : Nat) (a : Option Addr) (n cap : Nat) (k h : Int) : Prop where
  lo : B ≤ g
  hi : g < w.heap.size
  len : n ≤ 4096
  k0 : 0 ≤ k
  kn : k ≤ n
  c0 : w.cell? ⟨g, 0, none⟩ = some (.slice a n cap)
  c1 : w.cell? ⟨g, 1, none⟩ = some (.int .i64 k)
  c2 : w.cell? ⟨g, 2, none⟩ = some (.int .u64 h)
  f1 : w.frozen? ⟨g, 1, none⟩ = false
  f2 : w.frozen? ⟨g, 2, none⟩ = false
  bs : BytesIn w a n B
theorem SrcAt.hash {w : World} {B g : Nat} {a : Option Addr} {n cap : Nat} {k h : Int} (s : SrcAt w B g a n cap k h) (z : Int) : SrcAt (w.setCell ⟨g, 2, none⟩ (.int .u64 z)) B g a n cap k z :=
  ⟨s.lo, by have := s.hi; simpa [World.setCell] using this, s.len, s.k0, s.kn, (World.cell?_setCell_other _ _ _ _ (by simp)).trans s.c0, (World.cell?_setCell_other _ _ _ _ (by simp)).trans s.c1, World.cell?_setCell_same _ _ _ s.c2, by simpa using s.f1, by simpa using s.f2, s.bs.keep ((Below.refl _ _).setCell s.lo _)⟩
theorem SrcAt.step {w : World} {B g : Nat} {a : Option Addr} {n cap : Nat} {k h : Int} (s : SrcAt w B g a n cap k h) (hk : k < n) : SrcAt (w.setCell ⟨g, 1, none⟩ (.int .i64 (k + 1))) B g a n cap (k + 1) h :=
  ⟨s.lo, by have := s.hi; simpa [World.setCell] using this, s.len, by have := s.k0; omega, by omega, (World.cell?_setCell_other _ _ _ _ (by simp)).trans s.c0, World.cell?_setCell_same _ _ _ s.c1, (World.cell?_setCell_other _ _ _ _ (by simp)).trans s.c2, by simpa using s.f1, by simpa using s.f2, s.bs.keep ((Below.refl _ _).setCell s.lo _)⟩
theorem SrcAt.drewN {w : World} {B g : Nat} {a : Option Addr} {n cap : Nat} {k h : Int} (s : SrcAt w B g a n cap k h) (q : Nat) : SrcAt (w.drewN q) B g a n cap k h := ⟨s.lo, s.hi, s.len, s.k0, s.kn, s.c0, s.c1, s.c2, s.f1, s.f2, s.bs⟩
theorem SrcAt.drew {w : World} {B g : Nat} {a : Option Addr} {n cap : Nat} {k h : Int} (s : SrcAt w B g a n cap k h) : SrcAt w.drew B g a n cap k h := ⟨s.lo, s.hi, s.len, s.k0, s.kn, s.c0, s.c1, s.c2, s.f1, s.f2, s.bs⟩
theorem SrcAt.keep {w w' : World} {B g : Nat} {a : Option Addr} {n cap : Nat} {k h : Int} (s : SrcAt w B g a n cap k h) (hb : Below w.heap.size w w') : SrcAt w' B g a n cap k h :=
  ⟨s.lo, Nat.lt_of_lt_of_le s.hi hb.size, s.len, s.k0, s.kn, by rw [hb.cell s.hi]; exact s.c0, by rw [hb.cell s.hi]; exact s.c1, by rw [hb.cell s.hi]; exact s.c2, by rw [hb.frozen s.hi]; exact s.f1, by rw [hb.frozen s.hi]; exact s.f2,
    fun i hi => by
      obtain ⟨b, off, y, h1, h2, h3, h4⟩ := s.bs i hi
      exact ⟨b, off, y, h1, h2, by rw [hb.cell (Ints.lt h3)]; exact h3, h4⟩⟩
def SrcG (w : World) (B g : Nat) (v : Value) : Prop := ∃ (a : Option Addr) (n cap : Nat) (k h : Int), v = .pointer (some ⟨g, 0, none⟩) ∧ SrcAt w B g a n cap k h
theorem SrcG.keep {w w' : World} {B g : Nat} {v : Value} (s : SrcG w B g v) (hb : Below w.heap.size w w') : SrcG w' B g v := by
  obtain ⟨a, n, cap, k, h, e, s⟩ := s
  exact ⟨a, n, cap, k, h, e, s.keep hb⟩
theorem SrcG.lo {w : World} {B g : Nat} {v : Value} (s : SrcG w B g v) : B ≤ g ∧ g < w.heap.size := by
  obtain ⟨a, n, cap, k, h, e, s⟩ := s
  exact ⟨s.lo, s.hi⟩
theorem Ints.touch {w w' : World} {a : Option Addr} {n cap g : Nat} {xs : List Int} (h : Ints w (.slice a n cap) xs) (ht : Touch (· = g) w w') (hn : ∀ b off, a = some ⟨b, off, none⟩ → b ≠ g) : Ints w' (.slice a n cap) xs := by
  obtain ⟨a', cap', e, hl, hc⟩ := h
  cases e
  refine ⟨_, _, rfl, hl, fun i x hx => ?_⟩
  obtain ⟨b, off, h1, h2⟩ := hc i x hx
  exact ⟨b, off, h1, by rw [World.cell?_of_block (w := w) (ht.block b (hn b off h1))]; exact h2⟩
theorem and24 (q : Int) : ∃ x : Int, wrap64 (bits .and .u64 (IntKind.u64.wrap q / 8589934592) 16777215) = x ∧ 0 ≤ x ∧ x ≤ 16777215 := by
  have hq : 0 ≤ IntKind.u64.wrap q / 8589934592 ∧ IntKind.u64.wrap q / 8589934592 < 18446744073709551616 := by rw [IntKind.wrap_u64]; omega
  obtain ⟨a, ha⟩ := Int.eq_ofNat_of_zero_le hq.1
  rw [ha] at hq ⊢
  have e := bits_and_u64_nat a 16777215 (by omega) (by omega)
  have l := Nat.and_le_right (n := a) (m := 16777215)
  refine ⟨((a &&& 16777215 : Nat) : Int), ?_, by omega, by omega⟩
  rw [show (16777215 : Int) = ((16777215 : Nat) : Int) from rfl, e]
  unfold wrap64
  omega

set_option maxHeartbeats 1000000 in
theorem c_l01Next (v : Value) (n : Int) (w : World) (B g : Nat) (hs : SrcG w B g v) (hn : 1 ≤ n) (hn' : n ≤ 1000000000000) :
    Calls Tryd.prog 30 #[v, .int .i64 n] w fun e w' => ∃ x : Int, e = .returned (.int .i64 x) ∧ 0 ≤ x ∧ x < n ∧ SrcG w' B g v ∧ Touch (· = g) w w' := by
  obtain ⟨a, m, cap, k, h, rfl, s⟩ := hs
  have HS := Lib.hid s
  obtain ⟨lo, hi, hm, hk0, hk, h0, h1, h2, hf1, hf2, _⟩ := s
  go_enter Tryd.func30, Tryd.ntmps30
  go_wp2_with fail
  obtain ⟨x, hx, hx1, hx2⟩ := and24 (IntKind.u64.wrap (h * 6364136223846793005) + 1442695040888963407)
  rw [hx]
  obtain ⟨z, hz⟩ : ∃ z, z = IntKind.u64.wrap (IntKind.u64.wrap (h * 6364136223846793005) + 1442695040888963407) := ⟨_, rfl⟩
  rw [← hz]
  have s1 := HS.out.hash z
  obtain ⟨w1, hw1⟩ : ∃ w1, w1 = w.setCell ⟨g, 2, none⟩ (.int .u64 z) := ⟨_, rfl⟩
  rw [← hw1] at s1 ⊢
  have HB1 : Hid (Touch (· = g) w w1) := Lib.hid (by rw [hw1]; exact (Touch.refl _ _).set rfl)
  have HS1 := Lib.hid s1
  clear hx hz hw1 HS h0 h1 h2 hf1 hf2
  obtain ⟨_, hi1, _, _, _, h0, h1, h2, hf1, hf2, hb⟩ := s1
  have hn0 : ¬ n = 0 := by omega
  have hE := Int.emod_nonneg (x) hn0
  by_cases hlt : k < m
  · obtain ⟨j, rfl⟩ := Int.eq_ofNat_of_zero_le hk0
    obtain ⟨b, off, y, rfl, hbB, hcell, hy0, hy1⟩ := hb j (by omega)
    have HST := Lib.hid (HS1.out.step hlt)
    have hmd1 := Int.emod_nonneg (x + y) hn0
    have hmd2 := Int.emod_lt_of_pos (x + y) (show 0 < n by omega)
    clear hb
    go_quiet (fail)
    go_wp2_with fail
    go_quiet (fail)
    go_wp2_with fail
    go_ret
    exact ⟨_, rfl, hmd1, hmd2, ⟨_, _, _, _, _, rfl, (HS1.out.drewN _).step hlt⟩, (HB1.out.drewN _).set rfl⟩
  · have hmd2 := Int.emod_lt_of_pos x (show 0 < n by omega)
    clear hb
    go_quiet (fail)
    go_wp2_with fail
    go_ret
    exact ⟨_, rfl, hE, hmd2, ⟨_, _, _, _, _, rfl, HS1.out.drewN _⟩, HB1.out.drewN _⟩
theorem c_l01Pick (v : Value) (a : Option Addr) (cap : Nat) (xs : List Int) (w : World) (B g : Nat) (hs : SrcG w B g v) (hx : Ints w (.slice a xs.length cap) xs) (hn : ∀ b off, a = some ⟨b, off, none⟩ → b ≠ g) (hp : 0 < xs.length) (hl : xs.length ≤ 1000) :
    Calls Tryd.prog 40 #[v, .slice a xs.length cap] w fun e w' => ∃ x : Int, e = .returned (.int .i64 x) ∧ x ∈ xs ∧ SrcG w' B g v ∧ Touch (· = g) w w' := by
  have HX := Lib.hid hx
  have HN := Lib.hid hn
  clear hx hn
  go_enter Tryd.func40, Tryd.ntmps40
  go_wp2_with fail
  refine (c_l01Next v xs.length _ B g hs (by omega) (by omega)).mono ?_
  rintro e w1 ⟨z, rfl, hz1, hz2, hs1, ht1⟩
  obtain ⟨_, _, e, _, hc⟩ := HX.out.touch ht1 HN.out
  cases e
  obtain ⟨k, rfl⟩ := Int.eq_ofNat_of_zero_le hz1
  obtain ⟨x, hx⟩ : ∃ x, xs[k]? = some x := ⟨xs[k]'(by omega), by simp⟩
  obtain ⟨b, off, rfl, hcell⟩ := hc k x hx
  have HM := Lib.hid (List.mem_of_getElem? hx)
  have HS := Lib.hid hs1
  have HT := Lib.hid ht1
  clear hc hx hs1 ht1
  go_wp2_with fail
  go_ret
  exact ⟨_, rfl, HM.out, HS.out, HT.out⟩
/-- a slice that reads as bytes -/
def Bytes (w : World) (v : Value) (bs : List Int) : Prop :=
  ∃ a cap, v = .slice a bs.length cap ∧ bs.length ≤ 140737488351232 ∧ ∀ i y, bs[i]? = some y → ∃ b off, a = some ⟨b, off, none⟩ ∧ w.cell? ⟨b, off + i, none⟩ = some (.int .u8 y) ∧ 0 ≤ y ∧ y ≤ 255
theorem Bytes.keep {w w' : World} {v : Value} {bs : List Int} (h : Bytes w v bs) (hb : Below w.heap.size w w') : Bytes w' v bs := by
  obtain ⟨a, cap, rfl, hl, hc⟩ := h
  refine ⟨a, cap, rfl, hl, fun i x hx => ?_⟩
  obtain ⟨b, off, rfl, hcell, hr⟩ := hc i x hx
  exact ⟨b, off, rfl, by rw [hb.cell (Ints.lt hcell)]; exact hcell, hr⟩
theorem Bytes.bin {w : World} {a : Option Addr} {n cap : Nat} {bs : List Int} (h : Bytes w (.slice a n cap) bs) : n = bs.length ∧ BytesIn w a n w.heap.size := by
  obtain ⟨a', cap', e, hl, hc⟩ := h
  cases e
  refine ⟨rfl, fun i hi => ?_⟩
  obtain ⟨b, off, h1, h2, h3⟩ := hc i bs[i] (by simp [hi])
  exact ⟨b, off, bs[i], h1, Ints.lt h2, h2, h3⟩
set_option maxRecDepth 100000 in
theorem c_l01From (q : Value) (bs : List Int) (w : World) (hq : Bytes w q bs) (hl : bs.length ≤ 4096) :
    Calls Tryd.prog 26 #[q] w fun e w' => ∃ v : Value, e = .returned v ∧ SrcG w' w.heap.size w.heap.size v ∧ Below w.heap.size w w' := by
  have HQ := Lib.hid hq
  obtain ⟨a, cap, rfl, _, hc⟩ := hq
  have HC := Lib.hid hc
  clear hc
  go_enter Tryd.func26, Tryd.ntmps26
  go_wp2_with fail
  go_loopw [4] (fun i wr => ∃ (k : Nat) (h : Int), k ≤ bs.length ∧ i = .int .i64 k ∧ SrcAt wr w.heap.size w.heap.size a bs.length cap 0 h ∧ Below w.heap.size w wr) (fun i _ => bs.length - (intOf i).toNat)
  case atStart =>
    have hbin := (HQ.out).bin.2
    refine ⟨0, 7219 + bs.length, Nat.zero_le _, rfl, ⟨Nat.le_refl _, by simp, by omega, by omega, by omega, by simp, by simp, by simp, by simp, by simp, ?_⟩, below_alloc _ _⟩
    exact hbin.keep (below_alloc _ _)
  case round =>
    obtain ⟨k, h, hk, rfl, s, hbel⟩ := hrel
    have HS := Lib.hid s
    have HB := Lib.hid hbel
    by_cases hlt : k < bs.length
    · obtain ⟨y, hy⟩ : ∃ x, bs[k]? = some x := ⟨bs[k], by simp [hlt]⟩
      obtain ⟨b, off, rfl, hcell, hy0, hy1⟩ := HC.out k y hy
      have hcw := bcell hbel hcell
      obtain ⟨_, hi1, _, _, _, h0, h1, h2, hf1, hf2, _⟩ := s
      have hbn : b ≠ w.heap.size := by have := Ints.lt hcell; omega
      clear hy hcell hbel
      go_wp2_with fail
      go_still_tail 15, (by kernel_rfl)
      change wpList _ _ _ _ _ wr.drew
      go_wp2_with fail
      go_roundw
      case rel => exact ⟨k + 1, _, by omega, by go_num, HS.out.drew.hash _, HB.out.drew.setCell (Nat.le_refl _) _⟩
      case measure => simp [intOf]; omega
    · obtain rfl : k = bs.length := by omega
      clear s hbel
      go_wp2_with fail
      go_ret
      exact ⟨_, rfl, ⟨_, _, _, _, _, rfl, HS.out⟩, HB.out⟩
end Go.Proofs.YtcgmbpkichfalaaDoor
