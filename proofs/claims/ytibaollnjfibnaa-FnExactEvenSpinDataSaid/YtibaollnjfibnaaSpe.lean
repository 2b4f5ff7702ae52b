/- Spin data: the quantum number (a closure of impl.spinData). -/
import Derived.Test.YtibaollnjfibnaaSpq
namespace Go.Proofs.Ytibaollnjfibnaa
open Go.RowKit
/-- the quotient, the remainder: no rule opens them -/
def dv (a b : Int) : Int := a * iinv b % 55441
def md (a : Int) : Int := a % 55441
theorem dv_bd (a b : Int) : 0 ≤ dv a b ∧ dv a b < 55441 := by unfold dv; omega
theorem md_bd (a : Int) : 0 ≤ md a ∧ md a < 55441 := by unfold md; omega
theorem dv_one (x : Int) : dv 1 x = iinv x := by
  unfold dv
  have := iinv_bd x
  rw [Int.one_mul]
  omega
/-- the quantum number -/
def qnum (q a : Int) : Int := dv (md (ipw q a - dv 1 (ipw q a))) (md (q - dv 1 q))
theorem qnum_bd (q a : Int) : 0 ≤ qnum q a ∧ qnum q a < 55441 := dv_bd _ _
theorem qnum_eq (q a : Int) : qnum q a = (ipw q a - ipw (iinv q) a) % 55441 * iinv ((q - iinv q) % 55441) % 55441 := by
  unfold qnum
  rw [dv_one, dv_one, iinv_ipw]
  rfl
theorem c_modG (a : Int) (w : World) : Calls Try.prog 34 #[.int .i64 a] w fun e w' => e = .returned (.int .i64 (md a)) ∧ w' = w := (c_mod a w).mono fun _ _ h => ⟨h.1, h.2.symm⟩
theorem c_divG (a b : Int) (w : World) (ha : 0 ≤ a) (ha' : a < 55441) (hb : 0 ≤ b) (hb' : b < 55441) : Calls Try.prog 33 #[.int .i64 a, .int .i64 b] w fun e w' => e = .returned (.int .i64 (dv a b)) ∧ w' = w := (c_divide a b w ha ha' hb hb').mono fun _ _ h => ⟨h.1, h.2.symm⟩
attribute [irreducible] dv md
set_option maxHeartbeats 2000000 in
theorem c_quantum (q a : Int) (b : Nat) (w : World) (hc : w.cell? ⟨b, 0, none⟩ = some (.int .i64 q)) (hq : 0 ≤ q) (hq' : q < 55441) (ha : 0 ≤ a) (ha' : a ≤ 1000000) :
    Calls Try.prog 32 #[.int .i64 a, .pointer (some ⟨b, 0, none⟩)] w fun e w' => e = .returned (.int .i64 (qnum q a)) ∧ Drew w w' := by
  have hqn : qnum q a = dv (md (ipw q a - dv 1 (ipw q a))) (md (q - dv 1 q)) := rfl
  have hP := c_power q a w hq hq' ha (by omega)
  have hpb := ipw_bd q a
  generalize ipw q a = P at *
  have HP := Lib.hid hP
  have HQ := Lib.hid hqn
  clear hP hqn
  have h1 := dv_bd 1 P
  have h2 := dv_bd 1 q
  have h3 := md_bd (P - dv 1 P)
  have h4 := md_bd (q - dv 1 q)
  have hw1 : IntKind.i64.wrap (P - dv 1 P) = P - dv 1 P := IntWalk.i64_in _ (by omega)
  have hw2 : IntKind.i64.wrap (q - dv 1 q) = q - dv 1 q := IntWalk.i64_in _ (by omega)
  go_enter Try.func32, Try.ntmps32
  go_wp2_with fail
  refine HP.out.mono ?_
  rintro e w1 ⟨rfl, rfl⟩
  go_wp2_with fail
  go_quiet ((first
    | (go_at_call 34; exact Calls.quiet_of_same (c_modG _ _))
    | (go_at_call 33; exact Calls.quiet_of_same (c_divG _ _ _ (by omega) (by omega) (by omega) (by omega)))))
  go_wp2_with fail
  go_ret
  exact ⟨ret_int HQ.out.symm, _, rfl⟩
end Go.Proofs.Ytibaollnjfibnaa
