/- Walks: whether a matrix is diagonal in a basis, program and reference. -/
import Derived.Test.YtmbcncmmgfnlmaaChn
import Derived.Test.YtmbcncmmgfnlmaaEgn
namespace Go.Proofs.Ytmbcncmmgfnlmaa
open Go.RowKit
open Fus (F Mx toI ofI toI_bd toI_of toI_ofI ofI_toI rts rts_length rts_mem hpoly kerR)
attribute [local irreducible] Fus.rts Fus.fnat

/-- sums of the eigenspaces' dimensions over the first numbers of a list -/
def dsum (n : Nat) (f : Mx) (xs : List Int) : Nat → Nat
  | 0 => 0
  | k + 1 => dsum n f xs k + (kerR n n (lessF f (ofI (xs.getD k 0)))).d
theorem dsum_le (n : Nat) (f : Mx) (xs : List Int) (k : Nat) : dsum n f xs k ≤ k * n := by
  induction k with
  | zero => exact Nat.zero_le _
  | succ k ih =>
    have := kerR_le n n (lessF f (ofI (xs.getD k 0)))
    show dsum n f xs k + _ ≤ _
    rw [Nat.add_mul, Nat.one_mul]; omega
theorem dsum_next {n : Nat} {f : Mx} {xs : List Int} {k : Nat} {x : Int} (h : xs[k]? = some x) : dsum n f xs (k + 1) = dsum n f xs k + (kerR n n (lessF f (ofI x))).d := by
  show _ + (kerR n n (lessF f (ofI (xs.getD k 0)))).d = _
  rw [List.getD_eq_getElem?_getD, h]; rfl
theorem rts_bd {m : Nat} {c : Nat → F} {x : Int} {N : Nat} (hN : (N : Int) ≤ 55441) (h : x ∈ rts m c N) : 0 ≤ x ∧ x < 55441 := by
  obtain ⟨j, hj, rfl, _⟩ := rts_mem.1 h
  omega
/-- two results: a bool and a code -/
def twoB (r : Bool × Int) : Value := .tuple #[.bool r.1, .int .i64 r.2]
theorem ret_twoB {r r' : Bool × Int} (h : r = r') : Ending.returned (twoB r') = Ending.returned (twoB r) := by rw [h]
def diaS (n : Nat) (f : Mx) : Nat := dsum n f (rts (n + 1) (hpoly n f) 55441) (rts (n + 1) (hpoly n f) 55441).length
def diaN (m : List (List Int)) : Bool × Int := if sqCode m true = 0 then (((diaS m.length (entF m) : Int) == (m.length : Int)), 0) else (false, sqCode m true)
set_option maxHeartbeats 2000000 in
theorem c_IsDiagonalizable (u : Value) (m : List (List Int)) (w : World) (hu : IntRows w u m) :
    Calls Try.prog 42 #[u] w fun e w' => e = .returned (twoB (diaN m)) ∧ Below w.heap.size w w' := by
  have HU := Lib.hid hu
  by_cases h : sqCode m true = 0
  · have HR := Lib.hid (sq_rows h)
    have HT := Lib.hid (sqFi h)
    have hB : (sqCode m true != 0) = false := by simp [h]
    have H : Hid (diaN m = (((diaS m.length (entF m) : Int) == (m.length : Int)), 0)) := Lib.hid (if_pos h)
    have hn1 := HR.out.1
    have hn2 := HR.out.2.1
    clear h hu
    go_enter Try.func42, Try.ntmps42
    go_wp2_with fail
    refine (c_squareCode u m _ _ HU.out).mono ?_
    rintro e w1 ⟨rfl, hb⟩
    have HB := Lib.hid hb
    have HV : Hid (IntRows w1 u (tabF m.length m.length (entF m))) := Lib.hid (by rw [← HT.out]; exact HU.out.keep hb)
    clear hb
    go_wp2_with fail
    refine (c_eigenvaluesH u m.length (entF m) _ HV.out hn1 (by omega)).mono ?_
    rintro e w2 ⟨v2, rfl, ho2, hb2⟩
    obtain ⟨cap, ad, hueq, _⟩ : ∃ cap ad, u = .slice ad m.length cap ∧ True := by
      obtain ⟨ad, cap, e, _⟩ := HU.out; exact ⟨cap, ad, e, trivial⟩
    subst hueq
    have HXB : Hid (∀ x ∈ rts (m.length + 1) (hpoly m.length (entF m)) 55441, 0 ≤ x ∧ x < 55441) := Lib.hid (fun x hx => rts_bd (by omega) hx)
    have HXL : Hid ((rts (m.length + 1) (hpoly m.length (entF m)) 55441).length ≤ 55441) := Lib.hid (rts_length _ _ _)
    have HDS : Hid (diaS m.length (entF m) = dsum m.length (entF m) (rts (m.length + 1) (hpoly m.length (entF m)) 55441) (rts (m.length + 1) (hpoly m.length (entF m)) 55441).length) := Lib.hid rfl
    generalize rts (m.length + 1) (hpoly m.length (entF m)) 55441 = xs at *
    have HV2 := Lib.hid (HV.out.keep hb2)
    have HB2 := Lib.hid (HB.out.trans (hb2.mono HB.out.size))
    have hxl := HXL.out
    have HXS : Hid (Ints w2 v2 xs) := Lib.hid (OwnI.ints ho2 (by omega))
    obtain ⟨a2, c2, rfl, _, hc2⟩ := id HXS.out
    have HC2 := Lib.hid hc2
    clear ho2 hb2 hc2
    go_wp2_with fail
    go_loopw [5, 16] (fun s i wr => ∃ k : Nat, k ≤ xs.length ∧ i = .int .i64 k ∧ s = .int .i64 (dsum m.length (entF m) xs k : Int) ∧ Below w2.heap.size w2 wr) (fun _ i _ => xs.length - (intOf i).toNat)
    case atStart => exact ⟨0, Nat.zero_le _, rfl, rfl, Below.refl _ _⟩
    case round =>
      obtain ⟨k, hk, rfl, rfl, hbel⟩ := hrel
      have HBL := Lib.hid hbel
      have hdl := dsum_le m.length (entF m) xs k
      have hdl2 : dsum m.length (entF m) xs k ≤ 55441 * 500 := Nat.le_trans hdl (Nat.mul_le_mul (by omega) (by omega))
      clear hbel hdl
      by_cases hlt : k < xs.length
      · obtain ⟨x, hx⟩ : ∃ x, xs[k]? = some x := ⟨xs[k], by simp [hlt]⟩
        obtain ⟨b, off, rfl, hcell⟩ := HC2.out k x hx
        have hc' := bcell HBL.out hcell
        have hxb := HXB.out x (List.mem_of_getElem? hx)
        have HX : Hid (x = toI (ofI x)) := Lib.hid (by rw [toI_ofI]; omega)
        have HDN : Hid (dsum m.length (entF m) xs (k + 1) = dsum m.length (entF m) xs k + (kerR m.length m.length (lessF (entF m) (ofI x))).d) := Lib.hid (dsum_next hx)
        have hkr := kerR_le m.length m.length (lessF (entF m) (ofI x))
        obtain ⟨X, hX⟩ : ∃ X, ofI x = X := ⟨_, rfl⟩
        rw [hX] at HX HDN hkr
        have HV3 := Lib.hid (HV2.out.keep HBL.out)
        have hlI : (k : Int) < (xs.length : Int) := by omega
        have hlI0 : (0 : Int) ≤ (k : Int) := by omega
        clear hcell hx hX hxb
        go_wp2_with fail
        have hcl := c_lessUnit _ m.length (entF m) X wr HV3.out (by omega)
        rw [← HX.out] at hcl
        refine hcl.mono ?_
        rintro e w4 ⟨v4, rfl, ho4, hb4⟩
        have HI4 : Hid (IntRows w4 v4 (tabF m.length m.length (lessF (entF m) X))) := Lib.hid (ho4.rows (by rw [tabF_length]; omega) (fun xs hx => by rw [tabF_mem hx]; omega))
        have HB4 := Lib.hid (HBL.out.trans (hb4.mono HBL.out.size))
        clear hcl ho4 hb4
        go_wp2_with fail
        refine (c_kernel v4 m.length m.length _ _ HI4.out hn1 hn1 (by omega) (by omega)).mono ?_
        rintro e w5 ⟨v5, rfl, ho5, hb5⟩
        obtain ⟨p5, c5, hv5⟩ := ho5.sliceLen
        rw [kerF_length] at hv5
        subst hv5
        have HB5 := Lib.hid (HB4.out.trans (hb5.mono HB4.out.size))
        clear ho5 hb5
        generalize (kerR m.length m.length (lessF (entF m) X)).d = D at *
        go_wp2_with fail
        go_roundw
        case rel => exact ⟨k + 1, by omega, by go_num, by rw [HDN.out]; go_num, HB5.out⟩
        case measure => simp [intOf]; omega
      · obtain rfl : k = xs.length := by omega
        go_wp2_with fail
        go_ret2
        exact ⟨by rw [H.out, HDS.out]; rfl, HB2.out.trans (HBL.out.mono HB2.out.size)⟩
  · have H : Hid (diaN m = (false, sqCode m true)) := Lib.hid (if_neg h)
    have hB : (sqCode m true != 0) = true := by rw [bne_iff_ne]; exact h
    clear h hu
    go_enter Try.func42, Try.ntmps42
    go_wp2_with fail
    refine (c_squareCode u m _ _ HU.out).mono ?_
    rintro e w1 ⟨rfl, hb⟩
    have HB := Lib.hid hb
    clear hb
    go_wp2_with fail
    go_ret2
    exact ⟨ret_twoB H.out, HB.out⟩
end Go.Proofs.Ytmbcncmmgfnlmaa
