/- Walks: numbers drawn from a code. -/
import Derived.Test.YtmbcncmmgfnlmaaGfl
import Derived.Test.YtmbcncmmgfnlmaaMrk
import Derived.Laws.Bits64b
import Derived.StillTailTactics
import Derived.Test.YtmbcncmmgfnlmaaApp
namespace Go.Proofs.Ytmbcncmmgfnlmaa
open Go.RowKit

/-- bytes that can be read -/
def BytesIn (w : World) (a : Option Addr) (n B : Nat) : Prop := ∀ i, i < n → ∃ b off y, a = some ⟨b, off, none⟩ ∧ b < B ∧ w.cell? ⟨b, off + i, none⟩ = some (.int .u8 y) ∧ 0 ≤ y ∧ y ≤ 255
theorem BytesIn.keep {w w' : World} {a : Option Addr} {n B : Nat} (h : BytesIn w a n B) (hb : Below B w w') : BytesIn w' a n B := fun i hi => by
  obtain ⟨b, off, y, h1, h2, h3, h4⟩ := h i hi
  exact ⟨b, off, y, h1, h2, by rw [hb.cell h2]; exact h3, h4⟩
theorem BytesIn.mono {w : World} {a : Option Addr} {n B B' : Nat} (h : BytesIn w a n B) (hb : B ≤ B') : BytesIn w a n B' := fun i hi => by
  obtain ⟨b, off, y, h1, h2, h3, h4⟩ := h i hi
  exact ⟨b, off, y, h1, by omega, h3, h4⟩
/-- a source of numbers -/
structure SrcAt (w : World) (B g : Nat) (a : Option Addr) (n cap : Nat) (k h : Int) : Prop where
  lo : B ≤ g
  hi : g < w.heap.size
  len : n ≤ 17592186043904
  k0 : 0 ≤ k
  kn : k ≤ n
  c0 : w.cell? ⟨g, 0, none⟩ = some (.slice a n cap)
  c1 : w.cell? ⟨g, 1, none⟩ = some (.int .i64 k)
  c2 : w.cell? ⟨g, 2, none⟩ = some (.int .u64 h)
  f1 : w.frozen? ⟨g, 1, none⟩ = false
  f2 : w.frozen? ⟨g, 2, none⟩ = false
  bs : BytesIn w a n B
theorem SrcAt.hash {w : World} {B g : Nat} {a : Option Addr} {n cap : Nat} {k h : Int} (s : SrcAt w B g a n cap k h) (z : Int) : SrcAt (w.setCell ⟨g, 2, none⟩ (.int .u64 z)) B g a n cap k z :=
  ⟨s.lo, by have := s.hi; simpa [World.setCell] using this, s.len, s.k0, s.kn, (World.cell?_setCell_other _ _ _ _ (by simp)).trans s.c0, (World.cell?_setCell_other _ _ _ _ (by simp)).trans s.c1, World.cell?_setCell_same _ _ _ s.c2, by simpa using s.f1, by simpa using s.f2, s.bs.keep ((Below.refl _ _).setCell s.lo _)⟩
theorem SrcAt.step {w : World} {B g : Nat} {a : Option Addr} {n cap : Nat} {k h : Int} (s : SrcAt w B g a n cap k h) (hk : k < n) : SrcAt (w.setCell ⟨g, 1, none⟩ (.int .i64 (k + 1))) B g a n cap (k + 1) h :=
  ⟨s.lo, by have := s.hi; simpa [World.setCell] using this, s.len, by have := s.k0; omega, by omega, (World.cell?_setCell_other _ _ _ _ (by simp)).trans s.c0, World.cell?_setCell_same _ _ _ s.c1, (World.cell?_setCell_other _ _ _ _ (by simp)).trans s.c2, by simpa using s.f1, by simpa using s.f2, s.bs.keep ((Below.refl _ _).setCell s.lo _)⟩
theorem SrcAt.drewN {w : World} {B g : Nat} {a : Option Addr} {n cap : Nat} {k h : Int} (s : SrcAt w B g a n cap k h) (q : Nat) : SrcAt (w.drewN q) B g a n cap k h := ⟨s.lo, s.hi, s.len, s.k0, s.kn, s.c0, s.c1, s.c2, s.f1, s.f2, s.bs⟩
theorem SrcAt.drew {w : World} {B g : Nat} {a : Option Addr} {n cap : Nat} {k h : Int} (s : SrcAt w B g a n cap k h) : SrcAt w.drew B g a n cap k h := ⟨s.lo, s.hi, s.len, s.k0, s.kn, s.c0, s.c1, s.c2, s.f1, s.f2, s.bs⟩
theorem SrcAt.keep {w w' : World} {B g : Nat} {a : Option Addr} {n cap : Nat} {k h : Int} (s : SrcAt w B g a n cap k h) (hb : Below w.heap.size w w') : SrcAt w' B g a n cap k h :=
  ⟨s.lo, Nat.lt_of_lt_of_le s.hi hb.size, s.len, s.k0, s.kn, by rw [hb.cell s.hi]; exact s.c0, by rw [hb.cell s.hi]; exact s.c1, by rw [hb.cell s.hi]; exact s.c2, by rw [hb.frozen s.hi]; exact s.f1, by rw [hb.frozen s.hi]; exact s.f2,
    fun i hi => by
      obtain ⟨b, off, y, h1, h2, h3, h4⟩ := s.bs i hi
      exact ⟨b, off, y, h1, h2, by rw [hb.cell (Ints.lt h3)]; exact h3, h4⟩⟩
def SrcG (w : World) (B g : Nat) (v : Value) : Prop := ∃ (a : Option Addr) (n cap : Nat) (k h : Int), v = .pointer (some ⟨g, 0, none⟩) ∧ SrcAt w B g a n cap k h
theorem SrcG.keep {w w' : World} {B g : Nat} {v : Value} (s : SrcG w B g v) (hb : Below w.heap.size w w') : SrcG w' B g v := by
  obtain ⟨a, n, cap, k, h, e, s⟩ := s
  exact ⟨a, n, cap, k, h, e, s.keep hb⟩
theorem SrcG.lo {w : World} {B g : Nat} {v : Value} (s : SrcG w B g v) : B ≤ g ∧ g < w.heap.size := by
  obtain ⟨a, n, cap, k, h, e, s⟩ := s
  exact ⟨s.lo, s.hi⟩
theorem Ints.touch {w w' : World} {a : Option Addr} {n cap g : Nat} {xs : List Int} (h : Ints w (.slice a n cap) xs) (ht : Touch (· = g) w w') (hn : ∀ b off, a = some ⟨b, off, none⟩ → b ≠ g) : Ints w' (.slice a n cap) xs := by
  obtain ⟨a', cap', e, hl, hc⟩ := h
  cases e
  refine ⟨_, _, rfl, hl, fun i x hx => ?_⟩
  obtain ⟨b, off, h1, h2⟩ := hc i x hx
  exact ⟨b, off, h1, by rw [World.cell?_of_block (w := w) (ht.block b (hn b off h1))]; exact h2⟩
theorem and24 (q : Int) : ∃ x : Int, wrap64 (bits .and .u64 (IntKind.u64.wrap q / 8589934592) 16777215) = x ∧ 0 ≤ x ∧ x ≤ 16777215 := by
  have hq : 0 ≤ IntKind.u64.wrap q / 8589934592 ∧ IntKind.u64.wrap q / 8589934592 < 18446744073709551616 := by rw [IntKind.wrap_u64]; omega
  obtain ⟨a, ha⟩ := Int.eq_ofNat_of_zero_le hq.1
  rw [ha] at hq ⊢
  have e := bits_and_u64_nat a 16777215 (by omega) (by omega)
  have l := Nat.and_le_right (n := a) (m := 16777215)
  refine ⟨((a &&& 16777215 : Nat) : Int), ?_, by omega, by omega⟩
  rw [show (16777215 : Int) = ((16777215 : Nat) : Int) from rfl, e]
  unfold wrap64
  omega

set_option maxHeartbeats 1000000 in
theorem c_l01Next (v : Value) (n : Int) (w : World) (B g : Nat) (hs : SrcG w B g v) (hn : 1 ≤ n) (hn' : n ≤ 1000000000000) :
    Calls Try.prog 49 #[v, .int .i64 n] w fun e w' => ∃ x : Int, e = .returned (.int .i64 x) ∧ 0 ≤ x ∧ x < n ∧ SrcG w' B g v ∧ Touch (· = g) w w' := by
  obtain ⟨a, m, cap, k, h, rfl, s⟩ := hs
  have HS := Lib.hid s
  obtain ⟨lo, hi, hm, hk0, hk, h0, h1, h2, hf1, hf2, _⟩ := s
  go_enter Try.func49, Try.ntmps49
  go_wp2_with fail
  obtain ⟨x, hx, hx1, hx2⟩ := and24 (IntKind.u64.wrap (h * 6364136223846793005) + 1442695040888963407)
  rw [hx]
  obtain ⟨z, hz⟩ : ∃ z, z = IntKind.u64.wrap (IntKind.u64.wrap (h * 6364136223846793005) + 1442695040888963407) := ⟨_, rfl⟩
  rw [← hz]
  have s1 := HS.out.hash z
  obtain ⟨w1, hw1⟩ : ∃ w1, w1 = w.setCell ⟨g, 2, none⟩ (.int .u64 z) := ⟨_, rfl⟩
  rw [← hw1] at s1 ⊢
  have HB1 : Hid (Touch (· = g) w w1) := Lib.hid (by rw [hw1]; exact (Touch.refl _ _).set rfl)
  have HS1 := Lib.hid s1
  clear hx hz hw1 HS h0 h1 h2 hf1 hf2
  obtain ⟨_, hi1, _, _, _, h0, h1, h2, hf1, hf2, hb⟩ := s1
  have hn0 : ¬ n = 0 := by omega
  have hE := Int.emod_nonneg (x) hn0
  by_cases hlt : k < m
  · obtain ⟨j, rfl⟩ := Int.eq_ofNat_of_zero_le hk0
    obtain ⟨b, off, y, rfl, hbB, hcell, hy0, hy1⟩ := hb j (by omega)
    have HST := Lib.hid (HS1.out.step hlt)
    have hmd1 := Int.emod_nonneg (x + y) hn0
    have hmd2 := Int.emod_lt_of_pos (x + y) (show 0 < n by omega)
    clear hb
    go_quiet (fail)
    go_wp2_with fail
    go_quiet (fail)
    go_wp2_with fail
    go_ret
    exact ⟨_, rfl, hmd1, hmd2, ⟨_, _, _, _, _, rfl, (HS1.out.drewN _).step hlt⟩, (HB1.out.drewN _).set rfl⟩
  · have hmd2 := Int.emod_lt_of_pos x (show 0 < n by omega)
    clear hb
    go_quiet (fail)
    go_wp2_with fail
    go_ret
    exact ⟨_, rfl, hE, hmd2, ⟨_, _, _, _, _, rfl, HS1.out.drewN _⟩, HB1.out.drewN _⟩
set_option maxHeartbeats 1000000 in
theorem c_below (v : Value) (n : Int) (w : World) (B g : Nat) (hs : SrcG w B g v) (hn : 1 ≤ n) (hn' : n ≤ 1000000000000) :
    Calls Try.prog 15 #[v, .int .i64 n] w fun e w' => ∃ x : Int, e = .returned (.int .i64 x) ∧ 0 ≤ x ∧ x < n ∧ SrcG w' B g v ∧ Touch (· = g) w w' := by
  obtain ⟨a, m, cap, k, h, rfl, s⟩ := hs
  have HS := Lib.hid s
  obtain ⟨lo, hi, hm, hk0, hk, h0, h1, h2, hf1, hf2, _⟩ := s
  go_enter Try.func15, Try.ntmps15
  go_wp2_with fail
  obtain ⟨x, hx, hx1, hx2⟩ := and24 (IntKind.u64.wrap (h * 6364136223846793005) + 1442695040888963407)
  rw [hx]
  obtain ⟨z, hz⟩ : ∃ z, z = IntKind.u64.wrap (IntKind.u64.wrap (h * 6364136223846793005) + 1442695040888963407) := ⟨_, rfl⟩
  rw [← hz]
  have s1 := HS.out.hash z
  obtain ⟨w1, hw1⟩ : ∃ w1, w1 = w.setCell ⟨g, 2, none⟩ (.int .u64 z) := ⟨_, rfl⟩
  rw [← hw1] at s1 ⊢
  have HB1 : Hid (Touch (· = g) w w1) := Lib.hid (by rw [hw1]; exact (Touch.refl _ _).set rfl)
  have HS1 := Lib.hid s1
  clear hx hz hw1 HS h0 h1 h2 hf1 hf2
  obtain ⟨_, hi1, _, _, _, h0, h1, h2, hf1, hf2, hb⟩ := s1
  have hn0 : ¬ n = 0 := by omega
  have hE := Int.emod_nonneg (x) hn0
  by_cases hlt : k < m
  · obtain ⟨j, rfl⟩ := Int.eq_ofNat_of_zero_le hk0
    obtain ⟨b, off, y, rfl, hbB, hcell, hy0, hy1⟩ := hb j (by omega)
    have HST := Lib.hid (HS1.out.step hlt)
    have hmd1 := Int.emod_nonneg (x + y) hn0
    have hmd2 := Int.emod_lt_of_pos (x + y) (show 0 < n by omega)
    clear hb
    go_quiet (fail)
    go_wp2_with fail
    go_quiet (fail)
    go_wp2_with fail
    go_ret
    exact ⟨_, rfl, hmd1, hmd2, ⟨_, _, _, _, _, rfl, (HS1.out.drewN _).step hlt⟩, (HB1.out.drewN _).set rfl⟩
  · have hmd2 := Int.emod_lt_of_pos x (show 0 < n by omega)
    clear hb
    go_quiet (fail)
    go_wp2_with fail
    go_ret
    exact ⟨_, rfl, hE, hmd2, ⟨_, _, _, _, _, rfl, HS1.out.drewN _⟩, HB1.out.drewN _⟩
theorem c_l01Pick (v : Value) (a : Option Addr) (cap : Nat) (xs : List Int) (w : World) (B g : Nat) (hs : SrcG w B g v) (hx : Ints w (.slice a xs.length cap) xs) (hn : ∀ b off, a = some ⟨b, off, none⟩ → b ≠ g) (hp : 0 < xs.length) (hl : xs.length ≤ 1000) :
    Calls Try.prog 90 #[v, .slice a xs.length cap] w fun e w' => ∃ x : Int, e = .returned (.int .i64 x) ∧ x ∈ xs ∧ SrcG w' B g v ∧ Touch (· = g) w w' := by
  have HX := Lib.hid hx
  have HN := Lib.hid hn
  clear hx hn
  go_enter Try.func90, Try.ntmps90
  go_wp2_with fail
  refine (c_l01Next v xs.length _ B g hs (by omega) (by omega)).mono ?_
  rintro e w1 ⟨z, rfl, hz1, hz2, hs1, ht1⟩
  obtain ⟨_, _, e, _, hc⟩ := HX.out.touch ht1 HN.out
  cases e
  obtain ⟨k, rfl⟩ := Int.eq_ofNat_of_zero_le hz1
  obtain ⟨x, hx⟩ : ∃ x, xs[k]? = some x := ⟨xs[k]'(by omega), by simp⟩
  obtain ⟨b, off, rfl, hcell⟩ := hc k x hx
  have HM := Lib.hid (List.mem_of_getElem? hx)
  have HS := Lib.hid hs1
  have HT := Lib.hid ht1
  clear hc hx hs1 ht1
  go_wp2_with fail
  go_ret
  exact ⟨_, rfl, HM.out, HS.out, HT.out⟩
/-- a slice that reads as bytes -/
def Bytes (w : World) (v : Value) (bs : List Int) : Prop :=
  ∃ a cap, v = .slice a bs.length cap ∧ bs.length ≤ 140737488351232 ∧ ∀ i y, bs[i]? = some y → ∃ b off, a = some ⟨b, off, none⟩ ∧ w.cell? ⟨b, off + i, none⟩ = some (.int .u8 y) ∧ 0 ≤ y ∧ y ≤ 255
theorem Bytes.keep {w w' : World} {v : Value} {bs : List Int} (h : Bytes w v bs) (hb : Below w.heap.size w w') : Bytes w' v bs := by
  obtain ⟨a, cap, rfl, hl, hc⟩ := h
  refine ⟨a, cap, rfl, hl, fun i x hx => ?_⟩
  obtain ⟨b, off, rfl, hcell, hr⟩ := hc i x hx
  exact ⟨b, off, rfl, by rw [hb.cell (Ints.lt hcell)]; exact hcell, hr⟩
theorem Bytes.bin {w : World} {a : Option Addr} {n cap : Nat} {bs : List Int} (h : Bytes w (.slice a n cap) bs) : n = bs.length ∧ BytesIn w a n w.heap.size := by
  obtain ⟨a', cap', e, hl, hc⟩ := h
  cases e
  refine ⟨rfl, fun i hi => ?_⟩
  obtain ⟨b, off, h1, h2, h3⟩ := hc i bs[i] (by simp [hi])
  exact ⟨b, off, bs[i], h1, Ints.lt h2, h2, h3⟩
set_option maxRecDepth 100000 in
theorem c_l01From (q : Value) (bs : List Int) (w : World) (hq : Bytes w q bs) (hl : bs.length ≤ 4096) :
    Calls Try.prog 46 #[q] w fun e w' => ∃ v : Value, e = .returned v ∧ SrcG w' w.heap.size w.heap.size v ∧ Below w.heap.size w w' := by
  have HQ := Lib.hid hq
  obtain ⟨a, cap, rfl, _, hc⟩ := hq
  have HC := Lib.hid hc
  clear hc
  go_enter Try.func46, Try.ntmps46
  go_wp2_with fail
  go_loopw [4] (fun i wr => ∃ (k : Nat) (h : Int), k ≤ bs.length ∧ i = .int .i64 k ∧ SrcAt wr w.heap.size w.heap.size a bs.length cap 0 h ∧ Below w.heap.size w wr) (fun i _ => bs.length - (intOf i).toNat)
  case atStart =>
    have hbin := (HQ.out).bin.2
    refine ⟨0, 7219 + bs.length, Nat.zero_le _, rfl, ⟨Nat.le_refl _, by simp, by omega, by omega, by omega, by simp, by simp, by simp, by simp, by simp, ?_⟩, below_alloc _ _⟩
    exact hbin.keep (below_alloc _ _)
  case round =>
    obtain ⟨k, h, hk, rfl, s, hbel⟩ := hrel
    have HS := Lib.hid s
    have HB := Lib.hid hbel
    by_cases hlt : k < bs.length
    · obtain ⟨y, hy⟩ : ∃ x, bs[k]? = some x := ⟨bs[k], by simp [hlt]⟩
      obtain ⟨b, off, rfl, hcell, hy0, hy1⟩ := HC.out k y hy
      have hcw := bcell hbel hcell
      obtain ⟨_, hi1, _, _, _, h0, h1, h2, hf1, hf2, _⟩ := s
      have hbn : b ≠ w.heap.size := by have := Ints.lt hcell; omega
      clear hy hcell hbel
      go_wp2_with fail
      go_still_tail 15, (by kernel_rfl)
      change wpList _ _ _ _ _ wr.drew
      go_wp2_with fail
      go_roundw
      case rel => exact ⟨k + 1, _, by omega, by go_num, HS.out.drew.hash _, HB.out.drew.setCell (Nat.le_refl _) _⟩
      case measure => simp [intOf]; omega
    · obtain rfl : k = bs.length := by omega
      clear s hbel
      go_wp2_with fail
      go_ret
      exact ⟨_, rfl, ⟨_, _, _, _, _, rfl, HS.out⟩, HB.out⟩
set_option maxRecDepth 100000 in
theorem c_roll (q : Value) (bs : List Int) (w : World) (z0 : Int) (hq : Bytes w q bs) (hl : bs.length ≤ 4096) :
    Calls Try.prog 13 #[q, .int .u64 z0] w fun e w' => ∃ v : Value, e = .returned v ∧ SrcG w' w.heap.size w.heap.size v ∧ Below w.heap.size w w' := by
  have HQ := Lib.hid hq
  obtain ⟨a, cap, rfl, _, hc⟩ := hq
  have HC := Lib.hid hc
  clear hc
  go_enter Try.func13, Try.ntmps13
  go_wp2_with fail
  go_loopw [6] (fun i wr => ∃ (k : Nat) (h : Int), k ≤ bs.length ∧ i = .int .i64 k ∧ SrcAt wr w.heap.size w.heap.size a bs.length cap 0 h ∧ Below w.heap.size w wr) (fun i _ => bs.length - (intOf i).toNat)
  case atStart =>
    have hbin := (HQ.out).bin.2
    refine ⟨0, _, Nat.zero_le _, rfl, ⟨Nat.le_refl _, by simp, by omega, by omega, by omega, by simp, by simp, (by simp; rfl), by simp, by simp, ?_⟩, below_alloc _ _⟩
    exact hbin.keep (below_alloc _ _)
  case round =>
    obtain ⟨k, h, hk, rfl, s, hbel⟩ := hrel
    have HS := Lib.hid s
    have HB := Lib.hid hbel
    by_cases hlt : k < bs.length
    · obtain ⟨y, hy⟩ : ∃ x, bs[k]? = some x := ⟨bs[k], by simp [hlt]⟩
      obtain ⟨b, off, rfl, hcell, hy0, hy1⟩ := HC.out k y hy
      have hcw := bcell hbel hcell
      obtain ⟨_, hi1, _, _, _, h0, h1, h2, hf1, hf2, _⟩ := s
      have hbn : b ≠ w.heap.size := by have := Ints.lt hcell; omega
      clear hy hcell hbel
      go_wp2_with fail
      go_still_tail 15, (by kernel_rfl)
      change wpList _ _ _ _ _ wr.drew
      go_wp2_with fail
      go_roundw
      case rel => exact ⟨k + 1, _, by omega, by go_num, HS.out.drew.hash _, HB.out.drew.setCell (Nat.le_refl _) _⟩
      case measure => simp [intOf]; omega
    · obtain rfl : k = bs.length := by omega
      clear s hbel
      go_wp2_with fail
      go_ret
      exact ⟨_, rfl, ⟨_, _, _, _, _, rfl, HS.out⟩, HB.out⟩
end Go.Proofs.Ytmbcncmmgfnlmaa

/- Walks: draws of numbers: all blocks but the source's stay. -/
namespace Go.Proofs.Ytmbcncmmgfnlmaa
open Go.RowKit

/-- all blocks that were there stay, but for block g -/
structure Kept (g : Nat) (w w' : World) : Prop where
  os : w'.os = w.os
  tape : w'.tape = w.tape
  output : w'.output = w.output
  size : w.heap.size ≤ w'.heap.size
  block : ∀ k, k < w.heap.size → k ≠ g → w'.heap[k]? = w.heap[k]?
theorem Kept.refl (g : Nat) (w : World) : Kept g w w := ⟨rfl, rfl, rfl, Nat.le_refl _, fun _ _ _ => rfl⟩
theorem Kept.trans {g : Nat} {a b c : World} (h : Kept g a b) (h' : Kept g b c) : Kept g a c :=
  ⟨h'.os.trans h.os, h'.tape.trans h.tape, h'.output.trans h.output, Nat.le_trans h.size h'.size, fun k hk hg => (h'.block k (Nat.lt_of_lt_of_le hk h.size) hg).trans (h.block k hk hg)⟩
theorem Kept.ofTouch {g : Nat} {w w' : World} (h : Touch (· = g) w w') : Kept g w w' := ⟨h.os, h.tape, h.output, by rw [h.size]; exact Nat.le_refl _, fun k _ hg => h.block k hg⟩
theorem Kept.ofBelow {g : Nat} {w w' : World} (h : Below w.heap.size w w') : Kept g w w' := ⟨h.os, h.tape, h.output, h.size, fun k hk _ => h.block k hk⟩
theorem Kept.below {g B : Nat} {w w' : World} (h : Kept g w w') (hB : B ≤ g) (hw : B ≤ w.heap.size) : Below B w w' := ⟨h.os, h.tape, h.output, h.size, fun k hk => h.block k (by omega) (by omega)⟩

/-- what a draw answers: a number of the field, and the source goes on -/
def DrawnN (B g : Nat) (v : Value) (w : World) : Ending → World → Prop := fun e w' => ∃ x : Int, e = .returned (.int .i64 x) ∧ (0 ≤ x ∧ x < 55441) ∧ SrcG w' B g v ∧ Kept g w w'
/-- .. whatever number -/
def DrawnK (B g : Nat) (v : Value) (w : World) : Ending → World → Prop := fun e w' => ∃ x : Int, e = .returned (.int .i64 x) ∧ SrcG w' B g v ∧ Kept g w w'
theorem k_next (v : Value) (n : Int) (w : World) (B g : Nat) (hs : SrcG w B g v) (hn : 1 ≤ n) (hn' : n ≤ 1000000000000) :
    Calls Try.prog 49 #[v, .int .i64 n] w fun e w' => ∃ x : Int, e = .returned (.int .i64 x) ∧ 0 ≤ x ∧ x < n ∧ SrcG w' B g v ∧ Kept g w w' := by
  refine (c_l01Next v n w B g hs hn hn').mono ?_
  rintro e w' ⟨x, h1, h2, h3, h4, h5⟩
  exact ⟨x, h1, h2, h3, h4, Kept.ofTouch h5⟩
theorem k_dice (v : Value) (n : Int) (w : World) (B g : Nat) (hs : SrcG w B g v) (hn : 1 ≤ n) (hn' : n ≤ 1000000000000) :
    Calls Try.prog 15 #[v, .int .i64 n] w fun e w' => ∃ x : Int, e = .returned (.int .i64 x) ∧ 0 ≤ x ∧ x < n ∧ SrcG w' B g v ∧ Kept g w w' := by
  refine (c_below v n w B g hs hn hn').mono ?_
  rintro e w' ⟨x, h1, h2, h3, h4, h5⟩
  exact ⟨x, h1, h2, h3, h4, Kept.ofTouch h5⟩
theorem k_pick (v : Value) (T : TypeId) (xs : List Int) (w : World) (B g : Nat) (hs : SrcG w B g v) (hp : 0 < xs.length) (hl : xs.length ≤ 1000) :
    Calls Try.prog 90 #[v, .slice (some ⟨w.heap.size, 0, none⟩) xs.length xs.length] (w.alloc (.cells (xs.map vi).toArray T)) fun e w' => ∃ x : Int, e = .returned (.int .i64 x) ∧ x ∈ xs ∧ SrcG w' B g v ∧ Kept g w w' := by
  have hb : Below w.heap.size w (w.alloc (.cells (xs.map vi).toArray T)) := below_alloc _ _
  have hI : Ints (w.alloc (.cells (xs.map vi).toArray T)) (.slice (some ⟨w.heap.size, 0, none⟩) xs.length xs.length) xs := by
    refine ⟨_, _, rfl, by omega, fun i x hx => ⟨_, _, rfl, ?_⟩⟩
    have hi := (List.getElem?_eq_some_iff.1 hx)
    obtain ⟨h1, h2⟩ := hi
    simp [h1, h2]
  refine (c_l01Pick v _ _ xs _ B g (hs.keep hb) hI ?_ hp hl).mono ?_
  · intro b off e
    cases e
    have := hs.lo.2
    omega
  · rintro e w' ⟨x, h1, h2, h3, h4⟩
    exact ⟨x, h1, h2, h3, (Kept.ofBelow hb).trans (Kept.ofTouch h4)⟩
set_option maxHeartbeats 1000000 in
theorem k_l01Draw (v : Value) (w : World) (B g : Nat) (hs : SrcG w B g v) :
    Calls Try.prog 116 #[v] w (DrawnN B g v w) := by
  have HS := Lib.hid hs
  clear hs
  go_enter Try.func116, Try.ntmps116
  go_wp2_with fail
  refine (k_next v 5 _ B g HS.out (by omega) (by omega)).mono ?_
  rintro e w1 ⟨z, rfl, hz1, hz2, hs1, hb1⟩
  have HS1 := Lib.hid hs1
  have HB1 := Lib.hid hb1
  clear hs1 hb1
  have hz : z = 0 ∨ z = 1 ∨ z = 2 ∨ z = 3 ∨ z = 4 := by omega
  clear hz1 hz2
  rcases hz with rfl | rfl | rfl | rfl | rfl
  · go_wp2_with fail
    refine (k_next v 55441 _ B g HS1.out (by omega) (by omega)).mono ?_
    rintro e w2 ⟨x, rfl, hx1, hx2, hs2, hb2⟩
    have HS2 := Lib.hid hs2
    have HB2 := Lib.hid (HB1.out.trans hb2)
    clear hs2 hb2
    go_wp2_with fail
    go_ret
    exact ⟨_, rfl, ⟨hx1, hx2⟩, HS2.out, HB2.out⟩
  · go_wp2_with fail
    refine (k_pick v _ [1, 2, 3, 4, 5, 7, 8, 11, 16, 24, 55440] _ B g HS1.out (by decide) (by decide)).mono ?_
    rintro e w2 ⟨x, rfl, hx, hs2, hb2⟩
    have hx' : 1 ≤ x ∧ x ≤ 55440 := by simp at hx; omega
    obtain ⟨hx1, hx2⟩ := hx'
    have HS2 := Lib.hid hs2
    have HB2 := Lib.hid (HB1.out.trans hb2)
    clear hs2 hb2 hx
    go_wp2_with fail
    refine (c_l01Unity x _ hx1 hx2).mono ?_
    rintro e w3 ⟨rfl, hb3⟩
    have HS3 := Lib.hid (HS2.out.keep hb3)
    have HB3 := Lib.hid (HB2.out.trans (Kept.ofBelow hb3))
    clear hb3
    go_wp2_with fail
    go_ret
    exact ⟨_, rfl, by unfold iroot; exact ipw_bd _ _, HS3.out, HB3.out⟩
  · go_wp2_with fail
    refine (k_next v 21 _ B g HS1.out (by omega) (by omega)).mono ?_
    rintro e w2 ⟨x, rfl, hx1, hx2, hs2, hb2⟩
    have HS2 := Lib.hid hs2
    have HB2 := Lib.hid (HB1.out.trans hb2)
    clear hs2 hb2
    go_wp2_with fail
    refine (c_l01Mod _ _).mono ?_
    rintro e w3 ⟨rfl, rfl⟩
    go_wp2_with fail
    go_ret
    exact ⟨_, rfl, by omega, HS2.out, HB2.out⟩
  all_goals
    go_wp2_with fail
    refine (k_next v 41 _ B g HS1.out (by omega) (by omega)).mono ?_
    rintro e w2 ⟨x, rfl, hx1, hx2, hs2, hb2⟩
    have HS2 := Lib.hid hs2
    have HB2 := Lib.hid (HB1.out.trans hb2)
    clear hs2 hb2
    go_wp2_with fail
    refine (c_l01Mod _ _).mono ?_
    rintro e w3 ⟨rfl, rfl⟩
    go_wp2_with fail
    refine (k_next v 20 _ B g HS2.out (by omega) (by omega)).mono ?_
    rintro e w3 ⟨y, rfl, hy1, hy2, hs3, hb3⟩
    have HS3 := Lib.hid hs3
    have HB3 := Lib.hid (HB2.out.trans hb3)
    clear hs3 hb3
    go_wp2_with fail
    refine (c_l01Inv _ _ (by omega) (by omega)).mono ?_
    rintro e w4 ⟨rfl, rfl⟩
    go_wp2_with fail
    go_ret
    refine ⟨_, rfl, ?_, HS3.out, HB3.out⟩
    have h1 := iinv_bd (1 + y)
    have h2 : 0 ≤ (x - 20) % 55441 ∧ (x - 20) % 55441 < 55441 := by omega
    have hp := prod_bd h2.1 h2.2 h1.1 h1.2
    generalize (x - 20) % 55441 * iinv (1 + y) = P at *
    have hw : wrap64 P = P := by unfold wrap64; omega
    rw [hw, Int.tmod_eq_emod_of_nonneg hp.1]
    omega
theorem k_l01Spoil (v : Value) (w : World) (B g : Nat) (hs : SrcG w B g v) :
    Calls Try.prog 76 #[v] w (DrawnK B g v w) := by
  have HS := Lib.hid hs
  clear hs
  go_enter Try.func76, Try.ntmps76
  go_wp2_with fail
  refine (k_next v 24 _ B g HS.out (by omega) (by omega)).mono ?_
  rintro e w1 ⟨z, rfl, hz1, hz2, hs1, hb1⟩
  have HS1 := Lib.hid hs1
  have HB1 := Lib.hid hb1
  clear hs1 hb1
  by_cases hz : z = 0
  · subst hz
    go_wp2_with fail
    refine (k_pick v _ [-1, 55441, 1099511627776, -4611686018427387904] _ B g HS1.out (by decide) (by decide)).mono ?_
    rintro e w2 ⟨x, rfl, _, hs2, hb2⟩
    have HS2 := Lib.hid hs2
    have HB2 := Lib.hid (HB1.out.trans hb2)
    clear hs2 hb2
    go_wp2_with fail
    go_ret
    exact ⟨_, rfl, HS2.out, HB2.out⟩
  · have hzB : (z == 0) = false := by simp [hz]
    go_wp2_with fail
    refine (k_l01Draw v _ B g HS1.out).mono ?_
    rintro e w2 ⟨x, rfl, _, hs2, hb2⟩
    have HS2 := Lib.hid hs2
    have HB2 := Lib.hid (HB1.out.trans hb2)
    clear hs2 hb2
    go_wp2_with fail
    go_ret
    exact ⟨_, rfl, HS2.out, HB2.out⟩
theorem Kept.then {g : Nat} {a b c : World} (h : Kept g a b) (h' : Below a.heap.size b c) : Kept g a c :=
  ⟨h'.os.trans h.os, h'.tape.trans h.tape, h'.output.trans h.output, Nat.le_trans h.size h'.size, fun k hk hg => (h'.block k hk).trans (h.block k hk hg)⟩
theorem SrcG.keepC {w w' : World} {B C g : Nat} {v : Value} (s : SrcG w B g v) (hb : Below C w w') (hg : g < C) : SrcG w' B g v := by
  obtain ⟨a, n, cap, k, h, e, s⟩ := s
  refine ⟨a, n, cap, k, h, e, s.lo, Nat.lt_of_lt_of_le s.hi hb.size, s.len, s.k0, s.kn, by rw [hb.cell hg]; exact s.c0, by rw [hb.cell hg]; exact s.c1, by rw [hb.cell hg]; exact s.c2, by rw [hb.frozen hg]; exact s.f1, by rw [hb.frozen hg]; exact s.f2, fun i hi => ?_⟩
  obtain ⟨b, off, y, h1, h2, h3, h4⟩ := s.bs i hi
  have := s.lo
  exact ⟨b, off, y, h1, h2, by rw [hb.cell (by show b < C; omega)]; exact h3, h4⟩
theorem OwnI.kept {w w' : World} {B g : Nat} {v : Value} {xs : List Int} (h : OwnI w B v xs) (hk : Kept g w w') (hg : g < B) : OwnI w' B v xs :=
  Own.of_block h fun k e => by have h1 := Own.lt h e; exact hk.block k h1.2 (by omega)
theorem OwnM.kept {w w' : World} {B g : Nat} {v : Value} {xss : List (List Int)} (h : OwnM w B v xss) (hk : Kept g w w') (hg : g < B) : OwnM w' B v xss := by
  obtain ⟨us, ho, hlen, hr, ha⟩ := h
  exact ⟨us, ho.of_block fun k e => by have h1 := ho.lt e; exact hk.block k h1.2 (by omega), hlen, fun i u xs h1 h2 => OwnI.kept (hr i u xs h1 h2) hk hg, ha⟩
/-- lists that are drawn -/
def nums (xs : List Int) : Prop := xs.all isNum = true
theorem nums_snoc {xs : List Int} {x : Int} (h : xs.all isNum = true) (h1 : 0 ≤ x) (h2 : x < 55441) : (xs ++ [x]).all isNum = true := by
  rw [List.all_append, h]; simp [isNum_yes h1 h2]
set_option maxHeartbeats 1000000 in
theorem k_l01List (v : Value) (n : Nat) (w : World) (B g : Nat) (hs : SrcG w B g v) (hn : n ≤ 1000) :
    Calls Try.prog 120 #[v, .int .i64 n] w fun e w' => ∃ (u : Value) (xs : List Int), e = .returned u ∧ OwnI w' w.heap.size u xs ∧ xs.length = n ∧ xs.all isNum = true ∧ SrcG w' B g v ∧ Kept g w w' := by
  have HS := Lib.hid hs
  have hgl := hs.lo.2
  clear hs
  go_enter Try.func120, Try.ntmps120
  go_wp2_with fail
  go_loopw [1, 5] (fun nn out wr => ∃ (k : Nat) (xs : List Int), k ≤ n ∧ nn = .int .i64 ((n - k : Nat) : Int) ∧ OwnI wr w.heap.size out xs ∧ Hid (xs.length = k ∧ xs.all isNum = true) ∧ SrcG wr B g v ∧ Kept g w wr) (fun nn _ _ => (intOf nn).toNat)
  case atStart => exact ⟨0, [], Nat.zero_le _, by simp, own_empty _ _ _ (Nat.le_refl _), ⟨rfl, rfl⟩, HS.out.keep (below_alloc _ _), Kept.ofBelow (below_alloc _ _)⟩
  case round =>
    obtain ⟨k, xs, hk, rfl, hown, HX, hs, hbel⟩ := hrel
    clear HS
    have hsz := hbel.size
    by_cases hlt : k < n
    · obtain ⟨j, hj⟩ : ∃ j, n - k = j + 1 := ⟨n - k - 1, by omega⟩
      rw [hj]
      have hjb : j < 1000 := by omega
      have HJ := Lib.hid hj
      have HS := Lib.hid hs
      have HO := Lib.hid hown
      have HB := Lib.hid hbel
      clear hs hown hbel hj
      go_wp2_with fail
      refine (k_l01Draw v _ B g HS.out).mono ?_
      rintro e w2 ⟨x, rfl, hx, hs2, hb2⟩
      have HO2 := Lib.hid (HO.out.kept hb2 hgl)
      have HS2 := Lib.hid hs2
      have HB2 := Lib.hid (HB.out.trans hb2)
      have hz2 := hb2.size
      have HXN : Hid ((xs ++ [x]).length = k + 1 ∧ (xs ++ [x]).all isNum = true) := Lib.hid ⟨by rw [List.length_append, HX.out.1]; rfl, nums_snoc HX.out.2 hx.1 hx.2⟩
      have hxl : xs.length ≤ 1000 := by rw [HX.out.1]; omega
      have hlo := HS2.out.lo
      clear hs2 hb2 hx
      go_wp2_with (at_builtin; refine wp_pushI HO2.out rfl _ _ rfl rfl rfl (by first | with_reducible rfl | simp) (by omega) (by omega) ?_; intro v3 w3 ho3 hg3 hb3)
      have HB3 := Lib.hid (HB2.out.then hb3)
      have HS3 := Lib.hid (HS2.out.keepC hb3 hgl)
      clear hg3
      go_roundw
      case rel => exact ⟨k + 1, _, by omega, by have := HJ.out; rw [show n - (k + 1) = j from by omega], ho3, HXN.out, HS3.out, HB3.out⟩
      case measure => simp [intOf]
    · have hj : n - k = 0 := by omega
      rw [hj]
      have HS := Lib.hid hs
      have HO := Lib.hid hown
      have HB := Lib.hid hbel
      clear hs hown hbel
      go_wp2_with fail
      go_ret
      exact ⟨_, xs, rfl, HO.out, by rw [HX.out.1]; omega, HX.out.2, HS.out, HB.out⟩
end Go.Proofs.Ytmbcncmmgfnlmaa
