/- slices.Backward over orders of groups; sums of elements by the program. -/
import Derived.Test.YtckcjlophnehmaaRtb
import Derived.RangeFuncBox
import Derived.RangeFuncLeaves
import Derived.Shelf.Abstract
import Derived.OwnWalkIn
import Derived.TacticsInMore
import Derived.LoopNIn
import Derived.LoopIn
import Derived.BigRegionIn
namespace Go.Proofs.Ytckcjlophnehmaa
open Go.RowKit Go.Shelf
attribute [local go_sem] Oper.semAt_some
set_option linter.unusedVariables false
set_option linter.unusedSimpArgs false

/-- what has come when k rounds are over -/
def uptoB {α : Type} (f : Nat → α) (k : Nat) : List α := (List.range k).map f
theorem uptoB_succ {α : Type} (f : Nat → α) (k : Nat) : uptoB f (k + 1) = uptoB f k ++ [f k] := by simp [uptoB, List.range_succ]
theorem uptoB_length {α : Type} (f : Nat → α) (k : Nat) : (uptoB f k).length = k := by simp [uptoB]
theorem belowK_dummy : True := trivial
/-- the j-th pair from above -/
def bwn (c : Nat → Nat) (m : Nat) (j : Nat) : Nat × Nat := (m - 1 - j, c (m - 1 - j))

/-! sums of elements of a group: the orders are m 0, m 1, .. -/
def addI (m : Nat → Nat) : Nat → Nat → Nat → Nat
  | 0, _, _ => 0
  | k + 1, a, b => (a % m k + b % m k) % m k + m k * addI m k (a / m k) (b / m k)
def prodI (m : Nat → Nat) : Nat → Nat
  | 0 => 1
  | k + 1 => m k * prodI m k
theorem prodI_pos {m : Nat → Nat} : ∀ k, (∀ j, j < k → 1 ≤ m j) → 1 ≤ prodI m k
  | 0, _ => Nat.le_refl _
  | k + 1, h => Nat.mul_pos (h k (by omega)) (prodI_pos k fun j hj => h j (by omega))
theorem addI_lt {m : Nat → Nat} : ∀ k a b, (∀ j, j < k → 1 ≤ m j) → addI m k a b < prodI m k
  | 0, _, _, _ => by simp [addI, prodI]
  | k + 1, a, b, h => by
    have h1 := addI_lt k (a / m k) (b / m k) (fun j hj => h j (by omega))
    have h2 := Nat.mod_lt (a % m k + b % m k) (h k (by omega))
    have h3 : m k * (addI m k (a / m k) (b / m k) + 1) ≤ m k * prodI m k := Nat.mul_le_mul_left _ h1
    rw [Nat.mul_add, Nat.mul_one] at h3
    simp only [addI, prodI]
    omega
/-- where the loop stands with k orders to come -/
structure AddAt (m : Nat → Nat) (k T n s p a b : Nat) : Prop where
  sum : s + p * addI m k a b = T
  place : p * prodI m k = n
  pos : 1 ≤ p
  ha : a ≤ 1000
  hb : b ≤ 1000
theorem AddAt.next {m : Nat → Nat} {k T n s p a b : Nat} (h : AddAt m (k + 1) T n s p a b) (hm : ∀ j, j < k + 1 → 1 ≤ m j) :
    AddAt m k T n (s + (a % m k + b % m k) % m k * p) (p * m k) (a / m k) (b / m k) := by
  refine ⟨?_, ?_, Nat.mul_pos h.pos (hm k (by omega)), Nat.le_trans (Nat.div_le_self _ _) h.ha, Nat.le_trans (Nat.div_le_self _ _) h.hb⟩
  · have h1 := h.sum
    simp only [addI] at h1
    rw [Nat.mul_add, ← Nat.mul_assoc] at h1
    rw [Nat.mul_comm _ p]
    omega
  · have h1 := h.place
    simp only [prodI] at h1
    rw [← Nat.mul_assoc] at h1
    exact h1
/-- bounds for one round -/
theorem AddAt.bd {m : Nat → Nat} {k T n s p a b : Nat} (h : AddAt m (k + 1) T n s p a b) (hm : ∀ j, j < k + 1 → 1 ≤ m j) : p * m k ≤ n ∧ m k ≤ n ∧ (a % m k + b % m k) % m k * p ≤ n ∧ s ≤ T := by
  have h1 := h.place
  simp only [prodI] at h1
  rw [← Nat.mul_assoc] at h1
  have h2 := prodI_pos k (m := m) fun j hj => hm j (by omega)
  have h3 : p * m k * 1 ≤ p * m k * prodI m k := Nat.mul_le_mul_left _ h2
  have h4 : p * m k ≤ n := by omega
  have h5 : 1 * m k ≤ p * m k := Nat.mul_le_mul_right _ h.pos
  have h6 := Nat.mod_lt (a % m k + b % m k) (hm k (by omega))
  have h7 : (a % m k + b % m k) % m k * p ≤ m k * p := Nat.mul_le_mul_right _ (Nat.le_of_lt h6)
  rw [Nat.mul_comm (m k) p] at h7
  have h8 := h.sum
  exact ⟨h4, by omega, by omega, by omega⟩
/-- one round of the program, as it is -/
def stW (q : Int × Int × Int × Int) (x : Nat × Nat) : Int × Int × Int × Int :=
  (IntKind.i64.wrap (q.1 + IntKind.i64.wrap ((IntKind.i64.wrap (q.2.2.1.tmod ((x.2 : Int) + 1) + q.2.2.2.tmod ((x.2 : Int) + 1))).tmod ((x.2 : Int) + 1) * q.2.1)),
    IntKind.i64.wrap (q.2.1 * ((x.2 : Int) + 1)), IntKind.i64.wrap (q.2.2.1.tdiv ((x.2 : Int) + 1)), IntKind.i64.wrap (q.2.2.2.tdiv ((x.2 : Int) + 1)))
/-- where the round finds its four numbers -/
structure AddBox (z : Nat) (q : Int × Int × Int × Int) (W : World) : Prop where
  a : W.cell? ⟨z, 0, none⟩ = some (.int .i64 q.2.2.1)
  fa : W.frozen? ⟨z, 0, none⟩ = false
  b : W.cell? ⟨z + 1, 0, none⟩ = some (.int .i64 q.2.2.2)
  fb : W.frozen? ⟨z + 1, 0, none⟩ = false
  s : W.cell? ⟨z + 1 + 1, 0, none⟩ = some (.int .i64 q.1)
  fs : W.frozen? ⟨z + 1 + 1, 0, none⟩ = false
  p : W.cell? ⟨z + 1 + 1 + 1, 0, none⟩ = some (.int .i64 q.2.1)
  fp : W.frozen? ⟨z + 1 + 1 + 1, 0, none⟩ = false
theorem AddBox.kept {z : Nat} {q : Int × Int × Int × Int} {A B : World} {row : Option Nat} (h : AddBox z q A) (hg : A.grownBy B row) (hr : ∀ r, row = some r → ∃ o : Obj, A.heap[r]? = some o ∧ o.isCells = false) : AddBox z q B := by
  exact ⟨cell_kept h.a hg hr, (frozen_kept h.a hg hr).trans h.fa, cell_kept h.b hg hr, (frozen_kept h.b hg hr).trans h.fb, cell_kept h.s hg hr, (frozen_kept h.s hg hr).trans h.fs, cell_kept h.p hg hr, (frozen_kept h.p hg hr).trans h.fp⟩
def folW (q : Int × Int × Int × Int) : List (Nat × Nat) → Int × Int × Int × Int := List.foldl stW q
theorem folW_snoc (q : Int × Int × Int × Int) (pre : List (Nat × Nat)) (x : Nat × Nat) : folW q (pre ++ [x]) = stW (folW q pre) x := by simp [folW]
theorem folW_at {m c : Nat → Nat} {len T n a b : Nat} (hn : n ≤ 1000) (hT : T ≤ 1000) (hc : ∀ j, j < len → m j = c j + 1) (h0 : AddAt m len T n 0 1 a b) :
    ∀ k, k ≤ len → ∃ s p a' b' : Nat, folW (0, 1, (a : Int), (b : Int)) (uptoB (bwn c len) k) = ((s : Int), (p : Int), (a' : Int), (b' : Int)) ∧ AddAt m (len - k) T n s p a' b'
  | 0, _ => ⟨0, 1, a, b, rfl, h0⟩
  | k + 1, hk => by
    obtain ⟨s, p, a', b', e, h⟩ := folW_at hn hT hc h0 k (by omega)
    have hl : len - k = (len - (k + 1)) + 1 := by omega
    rw [hl] at h
    have hm : ∀ j, j < len - (k + 1) + 1 → 1 ≤ m j := fun j hj => by rw [hc j (by omega)]; omega
    obtain ⟨d1, d2, d3, d4⟩ := h.bd hm
    have hnx := h.next hm
    have hmk := hc (len - (k + 1)) (by omega)
    refine ⟨_, _, _, _, ?_, hnx⟩
    rw [uptoB_succ, folW_snoc, e]
    have hb' : bwn c len k = (len - 1 - k, c (len - (k + 1))) := by unfold bwn; rw [show len - 1 - k = len - (k + 1) from by omega]
    rw [hb']
    unfold stW
    dsimp only
    rw [show ((c (len - (k + 1)) : Int) + 1) = (m (len - (k + 1)) : Int) by omega]
    generalize m (len - (k + 1)) = M at *
    have e1 : (a' : Int).tmod (M : Int) = ((a' % M : Nat) : Int) := rfl
    have e2 : (b' : Int).tmod (M : Int) = ((b' % M : Nat) : Int) := rfl
    have e3 : (a' : Int).tdiv (M : Int) = ((a' / M : Nat) : Int) := rfl
    have e4 : (b' : Int).tdiv (M : Int) = ((b' / M : Nat) : Int) := rfl
    have l1 : a' % M ≤ a' := Nat.mod_le _ _
    have l2 : b' % M ≤ b' := Nat.mod_le _ _
    have l3 : a' / M ≤ a' := Nat.div_le_self _ _
    have l4 : b' / M ≤ b' := Nat.div_le_self _ _
    have hha := h.ha
    have hhb := h.hb
    rw [e1, e2, e3, e4]
    generalize a' % M = A at *
    generalize b' % M = B at *
    generalize a' / M = A2 at *
    generalize b' / M = B2 at *
    rw [IntWalk.i64_in ((A : Int) + (B : Int)) (by omega)]
    have e5 : ((A : Int) + (B : Int)).tmod (M : Int) = (((A + B) % M : Nat) : Int) := rfl
    rw [e5]
    have e6 : (((A + B) % M : Nat) : Int) * (p : Int) = (((A + B) % M * p : Nat) : Int) := (Int.natCast_mul _ _).symm
    have e7 : (p : Int) * (M : Int) = ((p * M : Nat) : Int) := (Int.natCast_mul _ _).symm
    rw [e6, e7]
    generalize (A + B) % M * p = D at *
    generalize p * M = P2 at *
    rw [IntWalk.i64_in (D : Int) (by omega), IntWalk.i64_in ((s : Int) + (D : Int)) (by omega), IntWalk.i64_in (P2 : Int) (by omega), IntWalk.i64_in (A2 : Int) (by omega), IntWalk.i64_in (B2 : Int) (by omega)]
    rfl

/-- a region inside a fence, a round of one too: what every state on the way keeps -/
theorem wpAnyIn_inv {F : Fence} {n : Nat} {P : Program} {md : Region.Mode} {ops : Array Oper} {Q : Exit → Act → World → Prop} (Inv : Array Bool → Act → World → Prop) (μ : Array Bool → Nat)
    (Z : ∀ listed a w, Inv listed a w → Region.ready md ops listed = [] → Q .normal a w)
    (E : ∀ listed a w, Inv listed a w → μ listed = 0 → Region.ready md ops listed = [])
    (S : ∀ listed a w, Inv listed a w → ∀ i o, ops[i]? = some o → listed.getD i true = false → (∀ e ∈ o.after, Region.binds md e = true → listed.getD e.on false = true) →
      ∃ a' w', Inv (listed.setIfInBounds i true) a' w' ∧ μ (listed.setIfInBounds i true) < μ listed ∧ ∀ K : Act → World → Prop, K a' w' → wpOpIn F n P ops Q i K a w) :
    ∀ fuel listed a w, Inv listed a w → μ listed ≤ fuel → wpAnyIn F n P md ops Q fuel listed a w := by
  intro fuel
  induction fuel with
  | zero => exact fun listed a w h hm => ⟨E listed a w h (by omega), Z listed a w h (E listed a w h (by omega))⟩
  | succ fuel ih =>
    intro listed a w h hm
    refine ⟨Z listed a w h, fun i hi => ?_⟩
    obtain ⟨h1, o, ho, h2⟩ := mem_ready.1 hi
    obtain ⟨a', w', q1, q2, q3⟩ := S listed a w h i o ho h1 h2
    exact q3 _ (ih _ _ _ q1 (by omega))
theorem wpOpIn_some {F : Fence} {n : Nat} {P : Program} {ops : Array Oper} {Q : Exit → Act → World → Prop} {i : Nat} {o : Oper} {K : Act → World → Prop} {a : Act} {w : World} (ho : ops[i]? = some o)
    (h : if Region.wanted o (yielded ops a.tmps) = true then o.wpIn F n P a w K Q else (∀ f, o.about P w a.eval = some f → F.fn f) ∧ K (a.put o.dst undef) w) : wpOpIn F n P ops Q i K a w := by
  unfold wpOpIn
  simp only [ho]
  exact h
theorem rg4_f0_13 {l0 l1 l2 l3 l4 l5 l6 l7 l8 l9 l10 l11 l12 l13 : Bool} (hm : (l3 = true → l1 = true ∧ l2 = true) ∧ (l6 = true → l4 = true ∧ l5 = true) ∧ (l7 = true → l1 = true ∧ l2 = true ∧ l3 = true ∧ l4 = true ∧ l5 = true ∧ l6 = true) ∧ (l9 = true → l1 = true ∧ l2 = true ∧ l3 = true ∧ l4 = true ∧ l5 = true ∧ l6 = true ∧ l7 = true ∧ l8 = true) ∧ (l11 = true → l1 = true ∧ l2 = true ∧ l3 = true ∧ l4 = true ∧ l5 = true ∧ l6 = true ∧ l7 = true ∧ l8 = true ∧ l9 = true ∧ l10 = true) ∧ (l12 = true → l0 = true ∧ l1 = true ∧ l2 = true ∧ l3 = true ∧ l4 = true ∧ l5 = true ∧ l6 = true ∧ l7 = true ∧ l8 = true ∧ l9 = true ∧ l10 = true ∧ l11 = true) ∧ (l13 = true → l0 = true ∧ l1 = true ∧ l2 = true ∧ l3 = true ∧ l4 = true ∧ l5 = true ∧ l6 = true ∧ l7 = true ∧ l8 = true ∧ l9 = true ∧ l10 = true ∧ l11 = true ∧ l12 = true)) (hs : l0 = false) : l13 = false := by cases l13 <;> simp_all
theorem rg4_m0 {l0 l1 l2 l3 l4 l5 l6 l7 l8 l9 l10 l11 l12 l13 : Bool} (hm : (l3 = true → l1 = true ∧ l2 = true) ∧ (l6 = true → l4 = true ∧ l5 = true) ∧ (l7 = true → l1 = true ∧ l2 = true ∧ l3 = true ∧ l4 = true ∧ l5 = true ∧ l6 = true) ∧ (l9 = true → l1 = true ∧ l2 = true ∧ l3 = true ∧ l4 = true ∧ l5 = true ∧ l6 = true ∧ l7 = true ∧ l8 = true) ∧ (l11 = true → l1 = true ∧ l2 = true ∧ l3 = true ∧ l4 = true ∧ l5 = true ∧ l6 = true ∧ l7 = true ∧ l8 = true ∧ l9 = true ∧ l10 = true) ∧ (l12 = true → l0 = true ∧ l1 = true ∧ l2 = true ∧ l3 = true ∧ l4 = true ∧ l5 = true ∧ l6 = true ∧ l7 = true ∧ l8 = true ∧ l9 = true ∧ l10 = true ∧ l11 = true) ∧ (l13 = true → l0 = true ∧ l1 = true ∧ l2 = true ∧ l3 = true ∧ l4 = true ∧ l5 = true ∧ l6 = true ∧ l7 = true ∧ l8 = true ∧ l9 = true ∧ l10 = true ∧ l11 = true ∧ l12 = true)) (hs : l0 = false) (ha : True) : (l3 = true → l1 = true ∧ l2 = true) ∧ (l6 = true → l4 = true ∧ l5 = true) ∧ (l7 = true → l1 = true ∧ l2 = true ∧ l3 = true ∧ l4 = true ∧ l5 = true ∧ l6 = true) ∧ (l9 = true → l1 = true ∧ l2 = true ∧ l3 = true ∧ l4 = true ∧ l5 = true ∧ l6 = true ∧ l7 = true ∧ l8 = true) ∧ (l11 = true → l1 = true ∧ l2 = true ∧ l3 = true ∧ l4 = true ∧ l5 = true ∧ l6 = true ∧ l7 = true ∧ l8 = true ∧ l9 = true ∧ l10 = true) ∧ (l12 = true → true = true ∧ l1 = true ∧ l2 = true ∧ l3 = true ∧ l4 = true ∧ l5 = true ∧ l6 = true ∧ l7 = true ∧ l8 = true ∧ l9 = true ∧ l10 = true ∧ l11 = true) ∧ (l13 = true → true = true ∧ l1 = true ∧ l2 = true ∧ l3 = true ∧ l4 = true ∧ l5 = true ∧ l6 = true ∧ l7 = true ∧ l8 = true ∧ l9 = true ∧ l10 = true ∧ l11 = true ∧ l12 = true) := by simp_all
theorem rg4_f1_13 {l0 l1 l2 l3 l4 l5 l6 l7 l8 l9 l10 l11 l12 l13 : Bool} (hm : (l3 = true → l1 = true ∧ l2 = true) ∧ (l6 = true → l4 = true ∧ l5 = true) ∧ (l7 = true → l1 = true ∧ l2 = true ∧ l3 = true ∧ l4 = true ∧ l5 = true ∧ l6 = true) ∧ (l9 = true → l1 = true ∧ l2 = true ∧ l3 = true ∧ l4 = true ∧ l5 = true ∧ l6 = true ∧ l7 = true ∧ l8 = true) ∧ (l11 = true → l1 = true ∧ l2 = true ∧ l3 = true ∧ l4 = true ∧ l5 = true ∧ l6 = true ∧ l7 = true ∧ l8 = true ∧ l9 = true ∧ l10 = true) ∧ (l12 = true → l0 = true ∧ l1 = true ∧ l2 = true ∧ l3 = true ∧ l4 = true ∧ l5 = true ∧ l6 = true ∧ l7 = true ∧ l8 = true ∧ l9 = true ∧ l10 = true ∧ l11 = true) ∧ (l13 = true → l0 = true ∧ l1 = true ∧ l2 = true ∧ l3 = true ∧ l4 = true ∧ l5 = true ∧ l6 = true ∧ l7 = true ∧ l8 = true ∧ l9 = true ∧ l10 = true ∧ l11 = true ∧ l12 = true)) (hs : l1 = false) : l13 = false := by cases l13 <;> simp_all
theorem rg4_m1 {l0 l1 l2 l3 l4 l5 l6 l7 l8 l9 l10 l11 l12 l13 : Bool} (hm : (l3 = true → l1 = true ∧ l2 = true) ∧ (l6 = true → l4 = true ∧ l5 = true) ∧ (l7 = true → l1 = true ∧ l2 = true ∧ l3 = true ∧ l4 = true ∧ l5 = true ∧ l6 = true) ∧ (l9 = true → l1 = true ∧ l2 = true ∧ l3 = true ∧ l4 = true ∧ l5 = true ∧ l6 = true ∧ l7 = true ∧ l8 = true) ∧ (l11 = true → l1 = true ∧ l2 = true ∧ l3 = true ∧ l4 = true ∧ l5 = true ∧ l6 = true ∧ l7 = true ∧ l8 = true ∧ l9 = true ∧ l10 = true) ∧ (l12 = true → l0 = true ∧ l1 = true ∧ l2 = true ∧ l3 = true ∧ l4 = true ∧ l5 = true ∧ l6 = true ∧ l7 = true ∧ l8 = true ∧ l9 = true ∧ l10 = true ∧ l11 = true) ∧ (l13 = true → l0 = true ∧ l1 = true ∧ l2 = true ∧ l3 = true ∧ l4 = true ∧ l5 = true ∧ l6 = true ∧ l7 = true ∧ l8 = true ∧ l9 = true ∧ l10 = true ∧ l11 = true ∧ l12 = true)) (hs : l1 = false) (ha : True) : (l3 = true → true = true ∧ l2 = true) ∧ (l6 = true → l4 = true ∧ l5 = true) ∧ (l7 = true → true = true ∧ l2 = true ∧ l3 = true ∧ l4 = true ∧ l5 = true ∧ l6 = true) ∧ (l9 = true → true = true ∧ l2 = true ∧ l3 = true ∧ l4 = true ∧ l5 = true ∧ l6 = true ∧ l7 = true ∧ l8 = true) ∧ (l11 = true → true = true ∧ l2 = true ∧ l3 = true ∧ l4 = true ∧ l5 = true ∧ l6 = true ∧ l7 = true ∧ l8 = true ∧ l9 = true ∧ l10 = true) ∧ (l12 = true → l0 = true ∧ true = true ∧ l2 = true ∧ l3 = true ∧ l4 = true ∧ l5 = true ∧ l6 = true ∧ l7 = true ∧ l8 = true ∧ l9 = true ∧ l10 = true ∧ l11 = true) ∧ (l13 = true → l0 = true ∧ true = true ∧ l2 = true ∧ l3 = true ∧ l4 = true ∧ l5 = true ∧ l6 = true ∧ l7 = true ∧ l8 = true ∧ l9 = true ∧ l10 = true ∧ l11 = true ∧ l12 = true) := by simp_all
theorem rg4_f2_13 {l0 l1 l2 l3 l4 l5 l6 l7 l8 l9 l10 l11 l12 l13 : Bool} (hm : (l3 = true → l1 = true ∧ l2 = true) ∧ (l6 = true → l4 = true ∧ l5 = true) ∧ (l7 = true → l1 = true ∧ l2 = true ∧ l3 = true ∧ l4 = true ∧ l5 = true ∧ l6 = true) ∧ (l9 = true → l1 = true ∧ l2 = true ∧ l3 = true ∧ l4 = true ∧ l5 = true ∧ l6 = true ∧ l7 = true ∧ l8 = true) ∧ (l11 = true → l1 = true ∧ l2 = true ∧ l3 = true ∧ l4 = true ∧ l5 = true ∧ l6 = true ∧ l7 = true ∧ l8 = true ∧ l9 = true ∧ l10 = true) ∧ (l12 = true → l0 = true ∧ l1 = true ∧ l2 = true ∧ l3 = true ∧ l4 = true ∧ l5 = true ∧ l6 = true ∧ l7 = true ∧ l8 = true ∧ l9 = true ∧ l10 = true ∧ l11 = true) ∧ (l13 = true → l0 = true ∧ l1 = true ∧ l2 = true ∧ l3 = true ∧ l4 = true ∧ l5 = true ∧ l6 = true ∧ l7 = true ∧ l8 = true ∧ l9 = true ∧ l10 = true ∧ l11 = true ∧ l12 = true)) (hs : l2 = false) : l13 = false := by cases l13 <;> simp_all
theorem rg4_m2 {l0 l1 l2 l3 l4 l5 l6 l7 l8 l9 l10 l11 l12 l13 : Bool} (hm : (l3 = true → l1 = true ∧ l2 = true) ∧ (l6 = true → l4 = true ∧ l5 = true) ∧ (l7 = true → l1 = true ∧ l2 = true ∧ l3 = true ∧ l4 = true ∧ l5 = true ∧ l6 = true) ∧ (l9 = true → l1 = true ∧ l2 = true ∧ l3 = true ∧ l4 = true ∧ l5 = true ∧ l6 = true ∧ l7 = true ∧ l8 = true) ∧ (l11 = true → l1 = true ∧ l2 = true ∧ l3 = true ∧ l4 = true ∧ l5 = true ∧ l6 = true ∧ l7 = true ∧ l8 = true ∧ l9 = true ∧ l10 = true) ∧ (l12 = true → l0 = true ∧ l1 = true ∧ l2 = true ∧ l3 = true ∧ l4 = true ∧ l5 = true ∧ l6 = true ∧ l7 = true ∧ l8 = true ∧ l9 = true ∧ l10 = true ∧ l11 = true) ∧ (l13 = true → l0 = true ∧ l1 = true ∧ l2 = true ∧ l3 = true ∧ l4 = true ∧ l5 = true ∧ l6 = true ∧ l7 = true ∧ l8 = true ∧ l9 = true ∧ l10 = true ∧ l11 = true ∧ l12 = true)) (hs : l2 = false) (ha : True) : (l3 = true → l1 = true ∧ true = true) ∧ (l6 = true → l4 = true ∧ l5 = true) ∧ (l7 = true → l1 = true ∧ true = true ∧ l3 = true ∧ l4 = true ∧ l5 = true ∧ l6 = true) ∧ (l9 = true → l1 = true ∧ true = true ∧ l3 = true ∧ l4 = true ∧ l5 = true ∧ l6 = true ∧ l7 = true ∧ l8 = true) ∧ (l11 = true → l1 = true ∧ true = true ∧ l3 = true ∧ l4 = true ∧ l5 = true ∧ l6 = true ∧ l7 = true ∧ l8 = true ∧ l9 = true ∧ l10 = true) ∧ (l12 = true → l0 = true ∧ l1 = true ∧ true = true ∧ l3 = true ∧ l4 = true ∧ l5 = true ∧ l6 = true ∧ l7 = true ∧ l8 = true ∧ l9 = true ∧ l10 = true ∧ l11 = true) ∧ (l13 = true → l0 = true ∧ l1 = true ∧ true = true ∧ l3 = true ∧ l4 = true ∧ l5 = true ∧ l6 = true ∧ l7 = true ∧ l8 = true ∧ l9 = true ∧ l10 = true ∧ l11 = true ∧ l12 = true) := by simp_all
theorem rg4_f3_13 {l0 l1 l2 l3 l4 l5 l6 l7 l8 l9 l10 l11 l12 l13 : Bool} (hm : (l3 = true → l1 = true ∧ l2 = true) ∧ (l6 = true → l4 = true ∧ l5 = true) ∧ (l7 = true → l1 = true ∧ l2 = true ∧ l3 = true ∧ l4 = true ∧ l5 = true ∧ l6 = true) ∧ (l9 = true → l1 = true ∧ l2 = true ∧ l3 = true ∧ l4 = true ∧ l5 = true ∧ l6 = true ∧ l7 = true ∧ l8 = true) ∧ (l11 = true → l1 = true ∧ l2 = true ∧ l3 = true ∧ l4 = true ∧ l5 = true ∧ l6 = true ∧ l7 = true ∧ l8 = true ∧ l9 = true ∧ l10 = true) ∧ (l12 = true → l0 = true ∧ l1 = true ∧ l2 = true ∧ l3 = true ∧ l4 = true ∧ l5 = true ∧ l6 = true ∧ l7 = true ∧ l8 = true ∧ l9 = true ∧ l10 = true ∧ l11 = true) ∧ (l13 = true → l0 = true ∧ l1 = true ∧ l2 = true ∧ l3 = true ∧ l4 = true ∧ l5 = true ∧ l6 = true ∧ l7 = true ∧ l8 = true ∧ l9 = true ∧ l10 = true ∧ l11 = true ∧ l12 = true)) (hs : l3 = false) : l13 = false := by cases l13 <;> simp_all
theorem rg4_t3 {l0 l1 l2 l3 l4 l5 l6 l7 l8 l9 l10 l11 l12 l13 : Bool} (hm : (l3 = true → l1 = true ∧ l2 = true) ∧ (l6 = true → l4 = true ∧ l5 = true) ∧ (l7 = true → l1 = true ∧ l2 = true ∧ l3 = true ∧ l4 = true ∧ l5 = true ∧ l6 = true) ∧ (l9 = true → l1 = true ∧ l2 = true ∧ l3 = true ∧ l4 = true ∧ l5 = true ∧ l6 = true ∧ l7 = true ∧ l8 = true) ∧ (l11 = true → l1 = true ∧ l2 = true ∧ l3 = true ∧ l4 = true ∧ l5 = true ∧ l6 = true ∧ l7 = true ∧ l8 = true ∧ l9 = true ∧ l10 = true) ∧ (l12 = true → l0 = true ∧ l1 = true ∧ l2 = true ∧ l3 = true ∧ l4 = true ∧ l5 = true ∧ l6 = true ∧ l7 = true ∧ l8 = true ∧ l9 = true ∧ l10 = true ∧ l11 = true) ∧ (l13 = true → l0 = true ∧ l1 = true ∧ l2 = true ∧ l3 = true ∧ l4 = true ∧ l5 = true ∧ l6 = true ∧ l7 = true ∧ l8 = true ∧ l9 = true ∧ l10 = true ∧ l11 = true ∧ l12 = true)) (hx : l1 = true ∧ l2 = true) : l1 = true ∧ l2 = true := by simp_all
theorem rg4_m3 {l0 l1 l2 l3 l4 l5 l6 l7 l8 l9 l10 l11 l12 l13 : Bool} (hm : (l3 = true → l1 = true ∧ l2 = true) ∧ (l6 = true → l4 = true ∧ l5 = true) ∧ (l7 = true → l1 = true ∧ l2 = true ∧ l3 = true ∧ l4 = true ∧ l5 = true ∧ l6 = true) ∧ (l9 = true → l1 = true ∧ l2 = true ∧ l3 = true ∧ l4 = true ∧ l5 = true ∧ l6 = true ∧ l7 = true ∧ l8 = true) ∧ (l11 = true → l1 = true ∧ l2 = true ∧ l3 = true ∧ l4 = true ∧ l5 = true ∧ l6 = true ∧ l7 = true ∧ l8 = true ∧ l9 = true ∧ l10 = true) ∧ (l12 = true → l0 = true ∧ l1 = true ∧ l2 = true ∧ l3 = true ∧ l4 = true ∧ l5 = true ∧ l6 = true ∧ l7 = true ∧ l8 = true ∧ l9 = true ∧ l10 = true ∧ l11 = true) ∧ (l13 = true → l0 = true ∧ l1 = true ∧ l2 = true ∧ l3 = true ∧ l4 = true ∧ l5 = true ∧ l6 = true ∧ l7 = true ∧ l8 = true ∧ l9 = true ∧ l10 = true ∧ l11 = true ∧ l12 = true)) (hs : l3 = false) (ha : l1 = true ∧ l2 = true) : (true = true → l1 = true ∧ l2 = true) ∧ (l6 = true → l4 = true ∧ l5 = true) ∧ (l7 = true → l1 = true ∧ l2 = true ∧ true = true ∧ l4 = true ∧ l5 = true ∧ l6 = true) ∧ (l9 = true → l1 = true ∧ l2 = true ∧ true = true ∧ l4 = true ∧ l5 = true ∧ l6 = true ∧ l7 = true ∧ l8 = true) ∧ (l11 = true → l1 = true ∧ l2 = true ∧ true = true ∧ l4 = true ∧ l5 = true ∧ l6 = true ∧ l7 = true ∧ l8 = true ∧ l9 = true ∧ l10 = true) ∧ (l12 = true → l0 = true ∧ l1 = true ∧ l2 = true ∧ true = true ∧ l4 = true ∧ l5 = true ∧ l6 = true ∧ l7 = true ∧ l8 = true ∧ l9 = true ∧ l10 = true ∧ l11 = true) ∧ (l13 = true → l0 = true ∧ l1 = true ∧ l2 = true ∧ true = true ∧ l4 = true ∧ l5 = true ∧ l6 = true ∧ l7 = true ∧ l8 = true ∧ l9 = true ∧ l10 = true ∧ l11 = true ∧ l12 = true) := by simp_all
theorem rg4_f4_13 {l0 l1 l2 l3 l4 l5 l6 l7 l8 l9 l10 l11 l12 l13 : Bool} (hm : (l3 = true → l1 = true ∧ l2 = true) ∧ (l6 = true → l4 = true ∧ l5 = true) ∧ (l7 = true → l1 = true ∧ l2 = true ∧ l3 = true ∧ l4 = true ∧ l5 = true ∧ l6 = true) ∧ (l9 = true → l1 = true ∧ l2 = true ∧ l3 = true ∧ l4 = true ∧ l5 = true ∧ l6 = true ∧ l7 = true ∧ l8 = true) ∧ (l11 = true → l1 = true ∧ l2 = true ∧ l3 = true ∧ l4 = true ∧ l5 = true ∧ l6 = true ∧ l7 = true ∧ l8 = true ∧ l9 = true ∧ l10 = true) ∧ (l12 = true → l0 = true ∧ l1 = true ∧ l2 = true ∧ l3 = true ∧ l4 = true ∧ l5 = true ∧ l6 = true ∧ l7 = true ∧ l8 = true ∧ l9 = true ∧ l10 = true ∧ l11 = true) ∧ (l13 = true → l0 = true ∧ l1 = true ∧ l2 = true ∧ l3 = true ∧ l4 = true ∧ l5 = true ∧ l6 = true ∧ l7 = true ∧ l8 = true ∧ l9 = true ∧ l10 = true ∧ l11 = true ∧ l12 = true)) (hs : l4 = false) : l13 = false := by cases l13 <;> simp_all
theorem rg4_m4 {l0 l1 l2 l3 l4 l5 l6 l7 l8 l9 l10 l11 l12 l13 : Bool} (hm : (l3 = true → l1 = true ∧ l2 = true) ∧ (l6 = true → l4 = true ∧ l5 = true) ∧ (l7 = true → l1 = true ∧ l2 = true ∧ l3 = true ∧ l4 = true ∧ l5 = true ∧ l6 = true) ∧ (l9 = true → l1 = true ∧ l2 = true ∧ l3 = true ∧ l4 = true ∧ l5 = true ∧ l6 = true ∧ l7 = true ∧ l8 = true) ∧ (l11 = true → l1 = true ∧ l2 = true ∧ l3 = true ∧ l4 = true ∧ l5 = true ∧ l6 = true ∧ l7 = true ∧ l8 = true ∧ l9 = true ∧ l10 = true) ∧ (l12 = true → l0 = true ∧ l1 = true ∧ l2 = true ∧ l3 = true ∧ l4 = true ∧ l5 = true ∧ l6 = true ∧ l7 = true ∧ l8 = true ∧ l9 = true ∧ l10 = true ∧ l11 = true) ∧ (l13 = true → l0 = true ∧ l1 = true ∧ l2 = true ∧ l3 = true ∧ l4 = true ∧ l5 = true ∧ l6 = true ∧ l7 = true ∧ l8 = true ∧ l9 = true ∧ l10 = true ∧ l11 = true ∧ l12 = true)) (hs : l4 = false) (ha : True) : (l3 = true → l1 = true ∧ l2 = true) ∧ (l6 = true → true = true ∧ l5 = true) ∧ (l7 = true → l1 = true ∧ l2 = true ∧ l3 = true ∧ true = true ∧ l5 = true ∧ l6 = true) ∧ (l9 = true → l1 = true ∧ l2 = true ∧ l3 = true ∧ true = true ∧ l5 = true ∧ l6 = true ∧ l7 = true ∧ l8 = true) ∧ (l11 = true → l1 = true ∧ l2 = true ∧ l3 = true ∧ true = true ∧ l5 = true ∧ l6 = true ∧ l7 = true ∧ l8 = true ∧ l9 = true ∧ l10 = true) ∧ (l12 = true → l0 = true ∧ l1 = true ∧ l2 = true ∧ l3 = true ∧ true = true ∧ l5 = true ∧ l6 = true ∧ l7 = true ∧ l8 = true ∧ l9 = true ∧ l10 = true ∧ l11 = true) ∧ (l13 = true → l0 = true ∧ l1 = true ∧ l2 = true ∧ l3 = true ∧ true = true ∧ l5 = true ∧ l6 = true ∧ l7 = true ∧ l8 = true ∧ l9 = true ∧ l10 = true ∧ l11 = true ∧ l12 = true) := by simp_all
theorem rg4_f5_13 {l0 l1 l2 l3 l4 l5 l6 l7 l8 l9 l10 l11 l12 l13 : Bool} (hm : (l3 = true → l1 = true ∧ l2 = true) ∧ (l6 = true → l4 = true ∧ l5 = true) ∧ (l7 = true → l1 = true ∧ l2 = true ∧ l3 = true ∧ l4 = true ∧ l5 = true ∧ l6 = true) ∧ (l9 = true → l1 = true ∧ l2 = true ∧ l3 = true ∧ l4 = true ∧ l5 = true ∧ l6 = true ∧ l7 = true ∧ l8 = true) ∧ (l11 = true → l1 = true ∧ l2 = true ∧ l3 = true ∧ l4 = true ∧ l5 = true ∧ l6 = true ∧ l7 = true ∧ l8 = true ∧ l9 = true ∧ l10 = true) ∧ (l12 = true → l0 = true ∧ l1 = true ∧ l2 = true ∧ l3 = true ∧ l4 = true ∧ l5 = true ∧ l6 = true ∧ l7 = true ∧ l8 = true ∧ l9 = true ∧ l10 = true ∧ l11 = true) ∧ (l13 = true → l0 = true ∧ l1 = true ∧ l2 = true ∧ l3 = true ∧ l4 = true ∧ l5 = true ∧ l6 = true ∧ l7 = true ∧ l8 = true ∧ l9 = true ∧ l10 = true ∧ l11 = true ∧ l12 = true)) (hs : l5 = false) : l13 = false := by cases l13 <;> simp_all
theorem rg4_m5 {l0 l1 l2 l3 l4 l5 l6 l7 l8 l9 l10 l11 l12 l13 : Bool} (hm : (l3 = true → l1 = true ∧ l2 = true) ∧ (l6 = true → l4 = true ∧ l5 = true) ∧ (l7 = true → l1 = true ∧ l2 = true ∧ l3 = true ∧ l4 = true ∧ l5 = true ∧ l6 = true) ∧ (l9 = true → l1 = true ∧ l2 = true ∧ l3 = true ∧ l4 = true ∧ l5 = true ∧ l6 = true ∧ l7 = true ∧ l8 = true) ∧ (l11 = true → l1 = true ∧ l2 = true ∧ l3 = true ∧ l4 = true ∧ l5 = true ∧ l6 = true ∧ l7 = true ∧ l8 = true ∧ l9 = true ∧ l10 = true) ∧ (l12 = true → l0 = true ∧ l1 = true ∧ l2 = true ∧ l3 = true ∧ l4 = true ∧ l5 = true ∧ l6 = true ∧ l7 = true ∧ l8 = true ∧ l9 = true ∧ l10 = true ∧ l11 = true) ∧ (l13 = true → l0 = true ∧ l1 = true ∧ l2 = true ∧ l3 = true ∧ l4 = true ∧ l5 = true ∧ l6 = true ∧ l7 = true ∧ l8 = true ∧ l9 = true ∧ l10 = true ∧ l11 = true ∧ l12 = true)) (hs : l5 = false) (ha : True) : (l3 = true → l1 = true ∧ l2 = true) ∧ (l6 = true → l4 = true ∧ true = true) ∧ (l7 = true → l1 = true ∧ l2 = true ∧ l3 = true ∧ l4 = true ∧ true = true ∧ l6 = true) ∧ (l9 = true → l1 = true ∧ l2 = true ∧ l3 = true ∧ l4 = true ∧ true = true ∧ l6 = true ∧ l7 = true ∧ l8 = true) ∧ (l11 = true → l1 = true ∧ l2 = true ∧ l3 = true ∧ l4 = true ∧ true = true ∧ l6 = true ∧ l7 = true ∧ l8 = true ∧ l9 = true ∧ l10 = true) ∧ (l12 = true → l0 = true ∧ l1 = true ∧ l2 = true ∧ l3 = true ∧ l4 = true ∧ true = true ∧ l6 = true ∧ l7 = true ∧ l8 = true ∧ l9 = true ∧ l10 = true ∧ l11 = true) ∧ (l13 = true → l0 = true ∧ l1 = true ∧ l2 = true ∧ l3 = true ∧ l4 = true ∧ true = true ∧ l6 = true ∧ l7 = true ∧ l8 = true ∧ l9 = true ∧ l10 = true ∧ l11 = true ∧ l12 = true) := by simp_all
theorem rg4_f6_13 {l0 l1 l2 l3 l4 l5 l6 l7 l8 l9 l10 l11 l12 l13 : Bool} (hm : (l3 = true → l1 = true ∧ l2 = true) ∧ (l6 = true → l4 = true ∧ l5 = true) ∧ (l7 = true → l1 = true ∧ l2 = true ∧ l3 = true ∧ l4 = true ∧ l5 = true ∧ l6 = true) ∧ (l9 = true → l1 = true ∧ l2 = true ∧ l3 = true ∧ l4 = true ∧ l5 = true ∧ l6 = true ∧ l7 = true ∧ l8 = true) ∧ (l11 = true → l1 = true ∧ l2 = true ∧ l3 = true ∧ l4 = true ∧ l5 = true ∧ l6 = true ∧ l7 = true ∧ l8 = true ∧ l9 = true ∧ l10 = true) ∧ (l12 = true → l0 = true ∧ l1 = true ∧ l2 = true ∧ l3 = true ∧ l4 = true ∧ l5 = true ∧ l6 = true ∧ l7 = true ∧ l8 = true ∧ l9 = true ∧ l10 = true ∧ l11 = true) ∧ (l13 = true → l0 = true ∧ l1 = true ∧ l2 = true ∧ l3 = true ∧ l4 = true ∧ l5 = true ∧ l6 = true ∧ l7 = true ∧ l8 = true ∧ l9 = true ∧ l10 = true ∧ l11 = true ∧ l12 = true)) (hs : l6 = false) : l13 = false := by cases l13 <;> simp_all
theorem rg4_t6 {l0 l1 l2 l3 l4 l5 l6 l7 l8 l9 l10 l11 l12 l13 : Bool} (hm : (l3 = true → l1 = true ∧ l2 = true) ∧ (l6 = true → l4 = true ∧ l5 = true) ∧ (l7 = true → l1 = true ∧ l2 = true ∧ l3 = true ∧ l4 = true ∧ l5 = true ∧ l6 = true) ∧ (l9 = true → l1 = true ∧ l2 = true ∧ l3 = true ∧ l4 = true ∧ l5 = true ∧ l6 = true ∧ l7 = true ∧ l8 = true) ∧ (l11 = true → l1 = true ∧ l2 = true ∧ l3 = true ∧ l4 = true ∧ l5 = true ∧ l6 = true ∧ l7 = true ∧ l8 = true ∧ l9 = true ∧ l10 = true) ∧ (l12 = true → l0 = true ∧ l1 = true ∧ l2 = true ∧ l3 = true ∧ l4 = true ∧ l5 = true ∧ l6 = true ∧ l7 = true ∧ l8 = true ∧ l9 = true ∧ l10 = true ∧ l11 = true) ∧ (l13 = true → l0 = true ∧ l1 = true ∧ l2 = true ∧ l3 = true ∧ l4 = true ∧ l5 = true ∧ l6 = true ∧ l7 = true ∧ l8 = true ∧ l9 = true ∧ l10 = true ∧ l11 = true ∧ l12 = true)) (hx : l4 = true ∧ l5 = true) : l4 = true ∧ l5 = true := by simp_all
theorem rg4_m6 {l0 l1 l2 l3 l4 l5 l6 l7 l8 l9 l10 l11 l12 l13 : Bool} (hm : (l3 = true → l1 = true ∧ l2 = true) ∧ (l6 = true → l4 = true ∧ l5 = true) ∧ (l7 = true → l1 = true ∧ l2 = true ∧ l3 = true ∧ l4 = true ∧ l5 = true ∧ l6 = true) ∧ (l9 = true → l1 = true ∧ l2 = true ∧ l3 = true ∧ l4 = true ∧ l5 = true ∧ l6 = true ∧ l7 = true ∧ l8 = true) ∧ (l11 = true → l1 = true ∧ l2 = true ∧ l3 = true ∧ l4 = true ∧ l5 = true ∧ l6 = true ∧ l7 = true ∧ l8 = true ∧ l9 = true ∧ l10 = true) ∧ (l12 = true → l0 = true ∧ l1 = true ∧ l2 = true ∧ l3 = true ∧ l4 = true ∧ l5 = true ∧ l6 = true ∧ l7 = true ∧ l8 = true ∧ l9 = true ∧ l10 = true ∧ l11 = true) ∧ (l13 = true → l0 = true ∧ l1 = true ∧ l2 = true ∧ l3 = true ∧ l4 = true ∧ l5 = true ∧ l6 = true ∧ l7 = true ∧ l8 = true ∧ l9 = true ∧ l10 = true ∧ l11 = true ∧ l12 = true)) (hs : l6 = false) (ha : l4 = true ∧ l5 = true) : (l3 = true → l1 = true ∧ l2 = true) ∧ (true = true → l4 = true ∧ l5 = true) ∧ (l7 = true → l1 = true ∧ l2 = true ∧ l3 = true ∧ l4 = true ∧ l5 = true ∧ true = true) ∧ (l9 = true → l1 = true ∧ l2 = true ∧ l3 = true ∧ l4 = true ∧ l5 = true ∧ true = true ∧ l7 = true ∧ l8 = true) ∧ (l11 = true → l1 = true ∧ l2 = true ∧ l3 = true ∧ l4 = true ∧ l5 = true ∧ true = true ∧ l7 = true ∧ l8 = true ∧ l9 = true ∧ l10 = true) ∧ (l12 = true → l0 = true ∧ l1 = true ∧ l2 = true ∧ l3 = true ∧ l4 = true ∧ l5 = true ∧ true = true ∧ l7 = true ∧ l8 = true ∧ l9 = true ∧ l10 = true ∧ l11 = true) ∧ (l13 = true → l0 = true ∧ l1 = true ∧ l2 = true ∧ l3 = true ∧ l4 = true ∧ l5 = true ∧ true = true ∧ l7 = true ∧ l8 = true ∧ l9 = true ∧ l10 = true ∧ l11 = true ∧ l12 = true) := by simp_all
theorem rg4_f7_13 {l0 l1 l2 l3 l4 l5 l6 l7 l8 l9 l10 l11 l12 l13 : Bool} (hm : (l3 = true → l1 = true ∧ l2 = true) ∧ (l6 = true → l4 = true ∧ l5 = true) ∧ (l7 = true → l1 = true ∧ l2 = true ∧ l3 = true ∧ l4 = true ∧ l5 = true ∧ l6 = true) ∧ (l9 = true → l1 = true ∧ l2 = true ∧ l3 = true ∧ l4 = true ∧ l5 = true ∧ l6 = true ∧ l7 = true ∧ l8 = true) ∧ (l11 = true → l1 = true ∧ l2 = true ∧ l3 = true ∧ l4 = true ∧ l5 = true ∧ l6 = true ∧ l7 = true ∧ l8 = true ∧ l9 = true ∧ l10 = true) ∧ (l12 = true → l0 = true ∧ l1 = true ∧ l2 = true ∧ l3 = true ∧ l4 = true ∧ l5 = true ∧ l6 = true ∧ l7 = true ∧ l8 = true ∧ l9 = true ∧ l10 = true ∧ l11 = true) ∧ (l13 = true → l0 = true ∧ l1 = true ∧ l2 = true ∧ l3 = true ∧ l4 = true ∧ l5 = true ∧ l6 = true ∧ l7 = true ∧ l8 = true ∧ l9 = true ∧ l10 = true ∧ l11 = true ∧ l12 = true)) (hs : l7 = false) : l13 = false := by cases l13 <;> simp_all
theorem rg4_t7 {l0 l1 l2 l3 l4 l5 l6 l7 l8 l9 l10 l11 l12 l13 : Bool} (hm : (l3 = true → l1 = true ∧ l2 = true) ∧ (l6 = true → l4 = true ∧ l5 = true) ∧ (l7 = true → l1 = true ∧ l2 = true ∧ l3 = true ∧ l4 = true ∧ l5 = true ∧ l6 = true) ∧ (l9 = true → l1 = true ∧ l2 = true ∧ l3 = true ∧ l4 = true ∧ l5 = true ∧ l6 = true ∧ l7 = true ∧ l8 = true) ∧ (l11 = true → l1 = true ∧ l2 = true ∧ l3 = true ∧ l4 = true ∧ l5 = true ∧ l6 = true ∧ l7 = true ∧ l8 = true ∧ l9 = true ∧ l10 = true) ∧ (l12 = true → l0 = true ∧ l1 = true ∧ l2 = true ∧ l3 = true ∧ l4 = true ∧ l5 = true ∧ l6 = true ∧ l7 = true ∧ l8 = true ∧ l9 = true ∧ l10 = true ∧ l11 = true) ∧ (l13 = true → l0 = true ∧ l1 = true ∧ l2 = true ∧ l3 = true ∧ l4 = true ∧ l5 = true ∧ l6 = true ∧ l7 = true ∧ l8 = true ∧ l9 = true ∧ l10 = true ∧ l11 = true ∧ l12 = true)) (hx : l3 = true ∧ l6 = true) : l1 = true ∧ l2 = true ∧ l3 = true ∧ l4 = true ∧ l5 = true ∧ l6 = true := by simp_all
theorem rg4_m7 {l0 l1 l2 l3 l4 l5 l6 l7 l8 l9 l10 l11 l12 l13 : Bool} (hm : (l3 = true → l1 = true ∧ l2 = true) ∧ (l6 = true → l4 = true ∧ l5 = true) ∧ (l7 = true → l1 = true ∧ l2 = true ∧ l3 = true ∧ l4 = true ∧ l5 = true ∧ l6 = true) ∧ (l9 = true → l1 = true ∧ l2 = true ∧ l3 = true ∧ l4 = true ∧ l5 = true ∧ l6 = true ∧ l7 = true ∧ l8 = true) ∧ (l11 = true → l1 = true ∧ l2 = true ∧ l3 = true ∧ l4 = true ∧ l5 = true ∧ l6 = true ∧ l7 = true ∧ l8 = true ∧ l9 = true ∧ l10 = true) ∧ (l12 = true → l0 = true ∧ l1 = true ∧ l2 = true ∧ l3 = true ∧ l4 = true ∧ l5 = true ∧ l6 = true ∧ l7 = true ∧ l8 = true ∧ l9 = true ∧ l10 = true ∧ l11 = true) ∧ (l13 = true → l0 = true ∧ l1 = true ∧ l2 = true ∧ l3 = true ∧ l4 = true ∧ l5 = true ∧ l6 = true ∧ l7 = true ∧ l8 = true ∧ l9 = true ∧ l10 = true ∧ l11 = true ∧ l12 = true)) (hs : l7 = false) (ha : l1 = true ∧ l2 = true ∧ l3 = true ∧ l4 = true ∧ l5 = true ∧ l6 = true) : (l3 = true → l1 = true ∧ l2 = true) ∧ (l6 = true → l4 = true ∧ l5 = true) ∧ (true = true → l1 = true ∧ l2 = true ∧ l3 = true ∧ l4 = true ∧ l5 = true ∧ l6 = true) ∧ (l9 = true → l1 = true ∧ l2 = true ∧ l3 = true ∧ l4 = true ∧ l5 = true ∧ l6 = true ∧ true = true ∧ l8 = true) ∧ (l11 = true → l1 = true ∧ l2 = true ∧ l3 = true ∧ l4 = true ∧ l5 = true ∧ l6 = true ∧ true = true ∧ l8 = true ∧ l9 = true ∧ l10 = true) ∧ (l12 = true → l0 = true ∧ l1 = true ∧ l2 = true ∧ l3 = true ∧ l4 = true ∧ l5 = true ∧ l6 = true ∧ true = true ∧ l8 = true ∧ l9 = true ∧ l10 = true ∧ l11 = true) ∧ (l13 = true → l0 = true ∧ l1 = true ∧ l2 = true ∧ l3 = true ∧ l4 = true ∧ l5 = true ∧ l6 = true ∧ true = true ∧ l8 = true ∧ l9 = true ∧ l10 = true ∧ l11 = true ∧ l12 = true) := by simp_all
theorem rg4_f8_13 {l0 l1 l2 l3 l4 l5 l6 l7 l8 l9 l10 l11 l12 l13 : Bool} (hm : (l3 = true → l1 = true ∧ l2 = true) ∧ (l6 = true → l4 = true ∧ l5 = true) ∧ (l7 = true → l1 = true ∧ l2 = true ∧ l3 = true ∧ l4 = true ∧ l5 = true ∧ l6 = true) ∧ (l9 = true → l1 = true ∧ l2 = true ∧ l3 = true ∧ l4 = true ∧ l5 = true ∧ l6 = true ∧ l7 = true ∧ l8 = true) ∧ (l11 = true → l1 = true ∧ l2 = true ∧ l3 = true ∧ l4 = true ∧ l5 = true ∧ l6 = true ∧ l7 = true ∧ l8 = true ∧ l9 = true ∧ l10 = true) ∧ (l12 = true → l0 = true ∧ l1 = true ∧ l2 = true ∧ l3 = true ∧ l4 = true ∧ l5 = true ∧ l6 = true ∧ l7 = true ∧ l8 = true ∧ l9 = true ∧ l10 = true ∧ l11 = true) ∧ (l13 = true → l0 = true ∧ l1 = true ∧ l2 = true ∧ l3 = true ∧ l4 = true ∧ l5 = true ∧ l6 = true ∧ l7 = true ∧ l8 = true ∧ l9 = true ∧ l10 = true ∧ l11 = true ∧ l12 = true)) (hs : l8 = false) : l13 = false := by cases l13 <;> simp_all
theorem rg4_m8 {l0 l1 l2 l3 l4 l5 l6 l7 l8 l9 l10 l11 l12 l13 : Bool} (hm : (l3 = true → l1 = true ∧ l2 = true) ∧ (l6 = true → l4 = true ∧ l5 = true) ∧ (l7 = true → l1 = true ∧ l2 = true ∧ l3 = true ∧ l4 = true ∧ l5 = true ∧ l6 = true) ∧ (l9 = true → l1 = true ∧ l2 = true ∧ l3 = true ∧ l4 = true ∧ l5 = true ∧ l6 = true ∧ l7 = true ∧ l8 = true) ∧ (l11 = true → l1 = true ∧ l2 = true ∧ l3 = true ∧ l4 = true ∧ l5 = true ∧ l6 = true ∧ l7 = true ∧ l8 = true ∧ l9 = true ∧ l10 = true) ∧ (l12 = true → l0 = true ∧ l1 = true ∧ l2 = true ∧ l3 = true ∧ l4 = true ∧ l5 = true ∧ l6 = true ∧ l7 = true ∧ l8 = true ∧ l9 = true ∧ l10 = true ∧ l11 = true) ∧ (l13 = true → l0 = true ∧ l1 = true ∧ l2 = true ∧ l3 = true ∧ l4 = true ∧ l5 = true ∧ l6 = true ∧ l7 = true ∧ l8 = true ∧ l9 = true ∧ l10 = true ∧ l11 = true ∧ l12 = true)) (hs : l8 = false) (ha : True) : (l3 = true → l1 = true ∧ l2 = true) ∧ (l6 = true → l4 = true ∧ l5 = true) ∧ (l7 = true → l1 = true ∧ l2 = true ∧ l3 = true ∧ l4 = true ∧ l5 = true ∧ l6 = true) ∧ (l9 = true → l1 = true ∧ l2 = true ∧ l3 = true ∧ l4 = true ∧ l5 = true ∧ l6 = true ∧ l7 = true ∧ true = true) ∧ (l11 = true → l1 = true ∧ l2 = true ∧ l3 = true ∧ l4 = true ∧ l5 = true ∧ l6 = true ∧ l7 = true ∧ true = true ∧ l9 = true ∧ l10 = true) ∧ (l12 = true → l0 = true ∧ l1 = true ∧ l2 = true ∧ l3 = true ∧ l4 = true ∧ l5 = true ∧ l6 = true ∧ l7 = true ∧ true = true ∧ l9 = true ∧ l10 = true ∧ l11 = true) ∧ (l13 = true → l0 = true ∧ l1 = true ∧ l2 = true ∧ l3 = true ∧ l4 = true ∧ l5 = true ∧ l6 = true ∧ l7 = true ∧ true = true ∧ l9 = true ∧ l10 = true ∧ l11 = true ∧ l12 = true) := by simp_all
theorem rg4_f9_13 {l0 l1 l2 l3 l4 l5 l6 l7 l8 l9 l10 l11 l12 l13 : Bool} (hm : (l3 = true → l1 = true ∧ l2 = true) ∧ (l6 = true → l4 = true ∧ l5 = true) ∧ (l7 = true → l1 = true ∧ l2 = true ∧ l3 = true ∧ l4 = true ∧ l5 = true ∧ l6 = true) ∧ (l9 = true → l1 = true ∧ l2 = true ∧ l3 = true ∧ l4 = true ∧ l5 = true ∧ l6 = true ∧ l7 = true ∧ l8 = true) ∧ (l11 = true → l1 = true ∧ l2 = true ∧ l3 = true ∧ l4 = true ∧ l5 = true ∧ l6 = true ∧ l7 = true ∧ l8 = true ∧ l9 = true ∧ l10 = true) ∧ (l12 = true → l0 = true ∧ l1 = true ∧ l2 = true ∧ l3 = true ∧ l4 = true ∧ l5 = true ∧ l6 = true ∧ l7 = true ∧ l8 = true ∧ l9 = true ∧ l10 = true ∧ l11 = true) ∧ (l13 = true → l0 = true ∧ l1 = true ∧ l2 = true ∧ l3 = true ∧ l4 = true ∧ l5 = true ∧ l6 = true ∧ l7 = true ∧ l8 = true ∧ l9 = true ∧ l10 = true ∧ l11 = true ∧ l12 = true)) (hs : l9 = false) : l13 = false := by cases l13 <;> simp_all
theorem rg4_t9 {l0 l1 l2 l3 l4 l5 l6 l7 l8 l9 l10 l11 l12 l13 : Bool} (hm : (l3 = true → l1 = true ∧ l2 = true) ∧ (l6 = true → l4 = true ∧ l5 = true) ∧ (l7 = true → l1 = true ∧ l2 = true ∧ l3 = true ∧ l4 = true ∧ l5 = true ∧ l6 = true) ∧ (l9 = true → l1 = true ∧ l2 = true ∧ l3 = true ∧ l4 = true ∧ l5 = true ∧ l6 = true ∧ l7 = true ∧ l8 = true) ∧ (l11 = true → l1 = true ∧ l2 = true ∧ l3 = true ∧ l4 = true ∧ l5 = true ∧ l6 = true ∧ l7 = true ∧ l8 = true ∧ l9 = true ∧ l10 = true) ∧ (l12 = true → l0 = true ∧ l1 = true ∧ l2 = true ∧ l3 = true ∧ l4 = true ∧ l5 = true ∧ l6 = true ∧ l7 = true ∧ l8 = true ∧ l9 = true ∧ l10 = true ∧ l11 = true) ∧ (l13 = true → l0 = true ∧ l1 = true ∧ l2 = true ∧ l3 = true ∧ l4 = true ∧ l5 = true ∧ l6 = true ∧ l7 = true ∧ l8 = true ∧ l9 = true ∧ l10 = true ∧ l11 = true ∧ l12 = true)) (hx : l7 = true ∧ l8 = true) : l1 = true ∧ l2 = true ∧ l3 = true ∧ l4 = true ∧ l5 = true ∧ l6 = true ∧ l7 = true ∧ l8 = true := by simp_all
theorem rg4_m9 {l0 l1 l2 l3 l4 l5 l6 l7 l8 l9 l10 l11 l12 l13 : Bool} (hm : (l3 = true → l1 = true ∧ l2 = true) ∧ (l6 = true → l4 = true ∧ l5 = true) ∧ (l7 = true → l1 = true ∧ l2 = true ∧ l3 = true ∧ l4 = true ∧ l5 = true ∧ l6 = true) ∧ (l9 = true → l1 = true ∧ l2 = true ∧ l3 = true ∧ l4 = true ∧ l5 = true ∧ l6 = true ∧ l7 = true ∧ l8 = true) ∧ (l11 = true → l1 = true ∧ l2 = true ∧ l3 = true ∧ l4 = true ∧ l5 = true ∧ l6 = true ∧ l7 = true ∧ l8 = true ∧ l9 = true ∧ l10 = true) ∧ (l12 = true → l0 = true ∧ l1 = true ∧ l2 = true ∧ l3 = true ∧ l4 = true ∧ l5 = true ∧ l6 = true ∧ l7 = true ∧ l8 = true ∧ l9 = true ∧ l10 = true ∧ l11 = true) ∧ (l13 = true → l0 = true ∧ l1 = true ∧ l2 = true ∧ l3 = true ∧ l4 = true ∧ l5 = true ∧ l6 = true ∧ l7 = true ∧ l8 = true ∧ l9 = true ∧ l10 = true ∧ l11 = true ∧ l12 = true)) (hs : l9 = false) (ha : l1 = true ∧ l2 = true ∧ l3 = true ∧ l4 = true ∧ l5 = true ∧ l6 = true ∧ l7 = true ∧ l8 = true) : (l3 = true → l1 = true ∧ l2 = true) ∧ (l6 = true → l4 = true ∧ l5 = true) ∧ (l7 = true → l1 = true ∧ l2 = true ∧ l3 = true ∧ l4 = true ∧ l5 = true ∧ l6 = true) ∧ (true = true → l1 = true ∧ l2 = true ∧ l3 = true ∧ l4 = true ∧ l5 = true ∧ l6 = true ∧ l7 = true ∧ l8 = true) ∧ (l11 = true → l1 = true ∧ l2 = true ∧ l3 = true ∧ l4 = true ∧ l5 = true ∧ l6 = true ∧ l7 = true ∧ l8 = true ∧ true = true ∧ l10 = true) ∧ (l12 = true → l0 = true ∧ l1 = true ∧ l2 = true ∧ l3 = true ∧ l4 = true ∧ l5 = true ∧ l6 = true ∧ l7 = true ∧ l8 = true ∧ true = true ∧ l10 = true ∧ l11 = true) ∧ (l13 = true → l0 = true ∧ l1 = true ∧ l2 = true ∧ l3 = true ∧ l4 = true ∧ l5 = true ∧ l6 = true ∧ l7 = true ∧ l8 = true ∧ true = true ∧ l10 = true ∧ l11 = true ∧ l12 = true) := by simp_all
theorem rg4_f10_13 {l0 l1 l2 l3 l4 l5 l6 l7 l8 l9 l10 l11 l12 l13 : Bool} (hm : (l3 = true → l1 = true ∧ l2 = true) ∧ (l6 = true → l4 = true ∧ l5 = true) ∧ (l7 = true → l1 = true ∧ l2 = true ∧ l3 = true ∧ l4 = true ∧ l5 = true ∧ l6 = true) ∧ (l9 = true → l1 = true ∧ l2 = true ∧ l3 = true ∧ l4 = true ∧ l5 = true ∧ l6 = true ∧ l7 = true ∧ l8 = true) ∧ (l11 = true → l1 = true ∧ l2 = true ∧ l3 = true ∧ l4 = true ∧ l5 = true ∧ l6 = true ∧ l7 = true ∧ l8 = true ∧ l9 = true ∧ l10 = true) ∧ (l12 = true → l0 = true ∧ l1 = true ∧ l2 = true ∧ l3 = true ∧ l4 = true ∧ l5 = true ∧ l6 = true ∧ l7 = true ∧ l8 = true ∧ l9 = true ∧ l10 = true ∧ l11 = true) ∧ (l13 = true → l0 = true ∧ l1 = true ∧ l2 = true ∧ l3 = true ∧ l4 = true ∧ l5 = true ∧ l6 = true ∧ l7 = true ∧ l8 = true ∧ l9 = true ∧ l10 = true ∧ l11 = true ∧ l12 = true)) (hs : l10 = false) : l13 = false := by cases l13 <;> simp_all
theorem rg4_m10 {l0 l1 l2 l3 l4 l5 l6 l7 l8 l9 l10 l11 l12 l13 : Bool} (hm : (l3 = true → l1 = true ∧ l2 = true) ∧ (l6 = true → l4 = true ∧ l5 = true) ∧ (l7 = true → l1 = true ∧ l2 = true ∧ l3 = true ∧ l4 = true ∧ l5 = true ∧ l6 = true) ∧ (l9 = true → l1 = true ∧ l2 = true ∧ l3 = true ∧ l4 = true ∧ l5 = true ∧ l6 = true ∧ l7 = true ∧ l8 = true) ∧ (l11 = true → l1 = true ∧ l2 = true ∧ l3 = true ∧ l4 = true ∧ l5 = true ∧ l6 = true ∧ l7 = true ∧ l8 = true ∧ l9 = true ∧ l10 = true) ∧ (l12 = true → l0 = true ∧ l1 = true ∧ l2 = true ∧ l3 = true ∧ l4 = true ∧ l5 = true ∧ l6 = true ∧ l7 = true ∧ l8 = true ∧ l9 = true ∧ l10 = true ∧ l11 = true) ∧ (l13 = true → l0 = true ∧ l1 = true ∧ l2 = true ∧ l3 = true ∧ l4 = true ∧ l5 = true ∧ l6 = true ∧ l7 = true ∧ l8 = true ∧ l9 = true ∧ l10 = true ∧ l11 = true ∧ l12 = true)) (hs : l10 = false) (ha : True) : (l3 = true → l1 = true ∧ l2 = true) ∧ (l6 = true → l4 = true ∧ l5 = true) ∧ (l7 = true → l1 = true ∧ l2 = true ∧ l3 = true ∧ l4 = true ∧ l5 = true ∧ l6 = true) ∧ (l9 = true → l1 = true ∧ l2 = true ∧ l3 = true ∧ l4 = true ∧ l5 = true ∧ l6 = true ∧ l7 = true ∧ l8 = true) ∧ (l11 = true → l1 = true ∧ l2 = true ∧ l3 = true ∧ l4 = true ∧ l5 = true ∧ l6 = true ∧ l7 = true ∧ l8 = true ∧ l9 = true ∧ true = true) ∧ (l12 = true → l0 = true ∧ l1 = true ∧ l2 = true ∧ l3 = true ∧ l4 = true ∧ l5 = true ∧ l6 = true ∧ l7 = true ∧ l8 = true ∧ l9 = true ∧ true = true ∧ l11 = true) ∧ (l13 = true → l0 = true ∧ l1 = true ∧ l2 = true ∧ l3 = true ∧ l4 = true ∧ l5 = true ∧ l6 = true ∧ l7 = true ∧ l8 = true ∧ l9 = true ∧ true = true ∧ l11 = true ∧ l12 = true) := by simp_all
theorem rg4_f11_13 {l0 l1 l2 l3 l4 l5 l6 l7 l8 l9 l10 l11 l12 l13 : Bool} (hm : (l3 = true → l1 = true ∧ l2 = true) ∧ (l6 = true → l4 = true ∧ l5 = true) ∧ (l7 = true → l1 = true ∧ l2 = true ∧ l3 = true ∧ l4 = true ∧ l5 = true ∧ l6 = true) ∧ (l9 = true → l1 = true ∧ l2 = true ∧ l3 = true ∧ l4 = true ∧ l5 = true ∧ l6 = true ∧ l7 = true ∧ l8 = true) ∧ (l11 = true → l1 = true ∧ l2 = true ∧ l3 = true ∧ l4 = true ∧ l5 = true ∧ l6 = true ∧ l7 = true ∧ l8 = true ∧ l9 = true ∧ l10 = true) ∧ (l12 = true → l0 = true ∧ l1 = true ∧ l2 = true ∧ l3 = true ∧ l4 = true ∧ l5 = true ∧ l6 = true ∧ l7 = true ∧ l8 = true ∧ l9 = true ∧ l10 = true ∧ l11 = true) ∧ (l13 = true → l0 = true ∧ l1 = true ∧ l2 = true ∧ l3 = true ∧ l4 = true ∧ l5 = true ∧ l6 = true ∧ l7 = true ∧ l8 = true ∧ l9 = true ∧ l10 = true ∧ l11 = true ∧ l12 = true)) (hs : l11 = false) : l13 = false := by cases l13 <;> simp_all
theorem rg4_t11 {l0 l1 l2 l3 l4 l5 l6 l7 l8 l9 l10 l11 l12 l13 : Bool} (hm : (l3 = true → l1 = true ∧ l2 = true) ∧ (l6 = true → l4 = true ∧ l5 = true) ∧ (l7 = true → l1 = true ∧ l2 = true ∧ l3 = true ∧ l4 = true ∧ l5 = true ∧ l6 = true) ∧ (l9 = true → l1 = true ∧ l2 = true ∧ l3 = true ∧ l4 = true ∧ l5 = true ∧ l6 = true ∧ l7 = true ∧ l8 = true) ∧ (l11 = true → l1 = true ∧ l2 = true ∧ l3 = true ∧ l4 = true ∧ l5 = true ∧ l6 = true ∧ l7 = true ∧ l8 = true ∧ l9 = true ∧ l10 = true) ∧ (l12 = true → l0 = true ∧ l1 = true ∧ l2 = true ∧ l3 = true ∧ l4 = true ∧ l5 = true ∧ l6 = true ∧ l7 = true ∧ l8 = true ∧ l9 = true ∧ l10 = true ∧ l11 = true) ∧ (l13 = true → l0 = true ∧ l1 = true ∧ l2 = true ∧ l3 = true ∧ l4 = true ∧ l5 = true ∧ l6 = true ∧ l7 = true ∧ l8 = true ∧ l9 = true ∧ l10 = true ∧ l11 = true ∧ l12 = true)) (hx : l9 = true ∧ l10 = true) : l1 = true ∧ l2 = true ∧ l3 = true ∧ l4 = true ∧ l5 = true ∧ l6 = true ∧ l7 = true ∧ l8 = true ∧ l9 = true ∧ l10 = true := by simp_all
theorem rg4_m11 {l0 l1 l2 l3 l4 l5 l6 l7 l8 l9 l10 l11 l12 l13 : Bool} (hm : (l3 = true → l1 = true ∧ l2 = true) ∧ (l6 = true → l4 = true ∧ l5 = true) ∧ (l7 = true → l1 = true ∧ l2 = true ∧ l3 = true ∧ l4 = true ∧ l5 = true ∧ l6 = true) ∧ (l9 = true → l1 = true ∧ l2 = true ∧ l3 = true ∧ l4 = true ∧ l5 = true ∧ l6 = true ∧ l7 = true ∧ l8 = true) ∧ (l11 = true → l1 = true ∧ l2 = true ∧ l3 = true ∧ l4 = true ∧ l5 = true ∧ l6 = true ∧ l7 = true ∧ l8 = true ∧ l9 = true ∧ l10 = true) ∧ (l12 = true → l0 = true ∧ l1 = true ∧ l2 = true ∧ l3 = true ∧ l4 = true ∧ l5 = true ∧ l6 = true ∧ l7 = true ∧ l8 = true ∧ l9 = true ∧ l10 = true ∧ l11 = true) ∧ (l13 = true → l0 = true ∧ l1 = true ∧ l2 = true ∧ l3 = true ∧ l4 = true ∧ l5 = true ∧ l6 = true ∧ l7 = true ∧ l8 = true ∧ l9 = true ∧ l10 = true ∧ l11 = true ∧ l12 = true)) (hs : l11 = false) (ha : l1 = true ∧ l2 = true ∧ l3 = true ∧ l4 = true ∧ l5 = true ∧ l6 = true ∧ l7 = true ∧ l8 = true ∧ l9 = true ∧ l10 = true) : (l3 = true → l1 = true ∧ l2 = true) ∧ (l6 = true → l4 = true ∧ l5 = true) ∧ (l7 = true → l1 = true ∧ l2 = true ∧ l3 = true ∧ l4 = true ∧ l5 = true ∧ l6 = true) ∧ (l9 = true → l1 = true ∧ l2 = true ∧ l3 = true ∧ l4 = true ∧ l5 = true ∧ l6 = true ∧ l7 = true ∧ l8 = true) ∧ (true = true → l1 = true ∧ l2 = true ∧ l3 = true ∧ l4 = true ∧ l5 = true ∧ l6 = true ∧ l7 = true ∧ l8 = true ∧ l9 = true ∧ l10 = true) ∧ (l12 = true → l0 = true ∧ l1 = true ∧ l2 = true ∧ l3 = true ∧ l4 = true ∧ l5 = true ∧ l6 = true ∧ l7 = true ∧ l8 = true ∧ l9 = true ∧ l10 = true ∧ true = true) ∧ (l13 = true → l0 = true ∧ l1 = true ∧ l2 = true ∧ l3 = true ∧ l4 = true ∧ l5 = true ∧ l6 = true ∧ l7 = true ∧ l8 = true ∧ l9 = true ∧ l10 = true ∧ true = true ∧ l12 = true) := by simp_all
theorem rg4_f12_13 {l0 l1 l2 l3 l4 l5 l6 l7 l8 l9 l10 l11 l12 l13 : Bool} (hm : (l3 = true → l1 = true ∧ l2 = true) ∧ (l6 = true → l4 = true ∧ l5 = true) ∧ (l7 = true → l1 = true ∧ l2 = true ∧ l3 = true ∧ l4 = true ∧ l5 = true ∧ l6 = true) ∧ (l9 = true → l1 = true ∧ l2 = true ∧ l3 = true ∧ l4 = true ∧ l5 = true ∧ l6 = true ∧ l7 = true ∧ l8 = true) ∧ (l11 = true → l1 = true ∧ l2 = true ∧ l3 = true ∧ l4 = true ∧ l5 = true ∧ l6 = true ∧ l7 = true ∧ l8 = true ∧ l9 = true ∧ l10 = true) ∧ (l12 = true → l0 = true ∧ l1 = true ∧ l2 = true ∧ l3 = true ∧ l4 = true ∧ l5 = true ∧ l6 = true ∧ l7 = true ∧ l8 = true ∧ l9 = true ∧ l10 = true ∧ l11 = true) ∧ (l13 = true → l0 = true ∧ l1 = true ∧ l2 = true ∧ l3 = true ∧ l4 = true ∧ l5 = true ∧ l6 = true ∧ l7 = true ∧ l8 = true ∧ l9 = true ∧ l10 = true ∧ l11 = true ∧ l12 = true)) (hs : l12 = false) : l13 = false := by cases l13 <;> simp_all
theorem rg4_t12 {l0 l1 l2 l3 l4 l5 l6 l7 l8 l9 l10 l11 l12 l13 : Bool} (hm : (l3 = true → l1 = true ∧ l2 = true) ∧ (l6 = true → l4 = true ∧ l5 = true) ∧ (l7 = true → l1 = true ∧ l2 = true ∧ l3 = true ∧ l4 = true ∧ l5 = true ∧ l6 = true) ∧ (l9 = true → l1 = true ∧ l2 = true ∧ l3 = true ∧ l4 = true ∧ l5 = true ∧ l6 = true ∧ l7 = true ∧ l8 = true) ∧ (l11 = true → l1 = true ∧ l2 = true ∧ l3 = true ∧ l4 = true ∧ l5 = true ∧ l6 = true ∧ l7 = true ∧ l8 = true ∧ l9 = true ∧ l10 = true) ∧ (l12 = true → l0 = true ∧ l1 = true ∧ l2 = true ∧ l3 = true ∧ l4 = true ∧ l5 = true ∧ l6 = true ∧ l7 = true ∧ l8 = true ∧ l9 = true ∧ l10 = true ∧ l11 = true) ∧ (l13 = true → l0 = true ∧ l1 = true ∧ l2 = true ∧ l3 = true ∧ l4 = true ∧ l5 = true ∧ l6 = true ∧ l7 = true ∧ l8 = true ∧ l9 = true ∧ l10 = true ∧ l11 = true ∧ l12 = true)) (hx : l0 = true ∧ l11 = true) : l0 = true ∧ l1 = true ∧ l2 = true ∧ l3 = true ∧ l4 = true ∧ l5 = true ∧ l6 = true ∧ l7 = true ∧ l8 = true ∧ l9 = true ∧ l10 = true ∧ l11 = true := by simp_all
theorem rg4_m12 {l0 l1 l2 l3 l4 l5 l6 l7 l8 l9 l10 l11 l12 l13 : Bool} (hm : (l3 = true → l1 = true ∧ l2 = true) ∧ (l6 = true → l4 = true ∧ l5 = true) ∧ (l7 = true → l1 = true ∧ l2 = true ∧ l3 = true ∧ l4 = true ∧ l5 = true ∧ l6 = true) ∧ (l9 = true → l1 = true ∧ l2 = true ∧ l3 = true ∧ l4 = true ∧ l5 = true ∧ l6 = true ∧ l7 = true ∧ l8 = true) ∧ (l11 = true → l1 = true ∧ l2 = true ∧ l3 = true ∧ l4 = true ∧ l5 = true ∧ l6 = true ∧ l7 = true ∧ l8 = true ∧ l9 = true ∧ l10 = true) ∧ (l12 = true → l0 = true ∧ l1 = true ∧ l2 = true ∧ l3 = true ∧ l4 = true ∧ l5 = true ∧ l6 = true ∧ l7 = true ∧ l8 = true ∧ l9 = true ∧ l10 = true ∧ l11 = true) ∧ (l13 = true → l0 = true ∧ l1 = true ∧ l2 = true ∧ l3 = true ∧ l4 = true ∧ l5 = true ∧ l6 = true ∧ l7 = true ∧ l8 = true ∧ l9 = true ∧ l10 = true ∧ l11 = true ∧ l12 = true)) (hs : l12 = false) (ha : l0 = true ∧ l1 = true ∧ l2 = true ∧ l3 = true ∧ l4 = true ∧ l5 = true ∧ l6 = true ∧ l7 = true ∧ l8 = true ∧ l9 = true ∧ l10 = true ∧ l11 = true) : (l3 = true → l1 = true ∧ l2 = true) ∧ (l6 = true → l4 = true ∧ l5 = true) ∧ (l7 = true → l1 = true ∧ l2 = true ∧ l3 = true ∧ l4 = true ∧ l5 = true ∧ l6 = true) ∧ (l9 = true → l1 = true ∧ l2 = true ∧ l3 = true ∧ l4 = true ∧ l5 = true ∧ l6 = true ∧ l7 = true ∧ l8 = true) ∧ (l11 = true → l1 = true ∧ l2 = true ∧ l3 = true ∧ l4 = true ∧ l5 = true ∧ l6 = true ∧ l7 = true ∧ l8 = true ∧ l9 = true ∧ l10 = true) ∧ (true = true → l0 = true ∧ l1 = true ∧ l2 = true ∧ l3 = true ∧ l4 = true ∧ l5 = true ∧ l6 = true ∧ l7 = true ∧ l8 = true ∧ l9 = true ∧ l10 = true ∧ l11 = true) ∧ (l13 = true → l0 = true ∧ l1 = true ∧ l2 = true ∧ l3 = true ∧ l4 = true ∧ l5 = true ∧ l6 = true ∧ l7 = true ∧ l8 = true ∧ l9 = true ∧ l10 = true ∧ l11 = true ∧ true = true) := by simp_all
theorem rg4_t13 {l0 l1 l2 l3 l4 l5 l6 l7 l8 l9 l10 l11 l12 l13 : Bool} (hm : (l3 = true → l1 = true ∧ l2 = true) ∧ (l6 = true → l4 = true ∧ l5 = true) ∧ (l7 = true → l1 = true ∧ l2 = true ∧ l3 = true ∧ l4 = true ∧ l5 = true ∧ l6 = true) ∧ (l9 = true → l1 = true ∧ l2 = true ∧ l3 = true ∧ l4 = true ∧ l5 = true ∧ l6 = true ∧ l7 = true ∧ l8 = true) ∧ (l11 = true → l1 = true ∧ l2 = true ∧ l3 = true ∧ l4 = true ∧ l5 = true ∧ l6 = true ∧ l7 = true ∧ l8 = true ∧ l9 = true ∧ l10 = true) ∧ (l12 = true → l0 = true ∧ l1 = true ∧ l2 = true ∧ l3 = true ∧ l4 = true ∧ l5 = true ∧ l6 = true ∧ l7 = true ∧ l8 = true ∧ l9 = true ∧ l10 = true ∧ l11 = true) ∧ (l13 = true → l0 = true ∧ l1 = true ∧ l2 = true ∧ l3 = true ∧ l4 = true ∧ l5 = true ∧ l6 = true ∧ l7 = true ∧ l8 = true ∧ l9 = true ∧ l10 = true ∧ l11 = true ∧ l12 = true)) (hx : l12 = true) : l0 = true ∧ l1 = true ∧ l2 = true ∧ l3 = true ∧ l4 = true ∧ l5 = true ∧ l6 = true ∧ l7 = true ∧ l8 = true ∧ l9 = true ∧ l10 = true ∧ l11 = true ∧ l12 = true := by simp_all
theorem rg4_m13 {l0 l1 l2 l3 l4 l5 l6 l7 l8 l9 l10 l11 l12 l13 : Bool} (hm : (l3 = true → l1 = true ∧ l2 = true) ∧ (l6 = true → l4 = true ∧ l5 = true) ∧ (l7 = true → l1 = true ∧ l2 = true ∧ l3 = true ∧ l4 = true ∧ l5 = true ∧ l6 = true) ∧ (l9 = true → l1 = true ∧ l2 = true ∧ l3 = true ∧ l4 = true ∧ l5 = true ∧ l6 = true ∧ l7 = true ∧ l8 = true) ∧ (l11 = true → l1 = true ∧ l2 = true ∧ l3 = true ∧ l4 = true ∧ l5 = true ∧ l6 = true ∧ l7 = true ∧ l8 = true ∧ l9 = true ∧ l10 = true) ∧ (l12 = true → l0 = true ∧ l1 = true ∧ l2 = true ∧ l3 = true ∧ l4 = true ∧ l5 = true ∧ l6 = true ∧ l7 = true ∧ l8 = true ∧ l9 = true ∧ l10 = true ∧ l11 = true) ∧ (l13 = true → l0 = true ∧ l1 = true ∧ l2 = true ∧ l3 = true ∧ l4 = true ∧ l5 = true ∧ l6 = true ∧ l7 = true ∧ l8 = true ∧ l9 = true ∧ l10 = true ∧ l11 = true ∧ l12 = true)) (hs : l13 = false) (ha : l0 = true ∧ l1 = true ∧ l2 = true ∧ l3 = true ∧ l4 = true ∧ l5 = true ∧ l6 = true ∧ l7 = true ∧ l8 = true ∧ l9 = true ∧ l10 = true ∧ l11 = true ∧ l12 = true) : (l3 = true → l1 = true ∧ l2 = true) ∧ (l6 = true → l4 = true ∧ l5 = true) ∧ (l7 = true → l1 = true ∧ l2 = true ∧ l3 = true ∧ l4 = true ∧ l5 = true ∧ l6 = true) ∧ (l9 = true → l1 = true ∧ l2 = true ∧ l3 = true ∧ l4 = true ∧ l5 = true ∧ l6 = true ∧ l7 = true ∧ l8 = true) ∧ (l11 = true → l1 = true ∧ l2 = true ∧ l3 = true ∧ l4 = true ∧ l5 = true ∧ l6 = true ∧ l7 = true ∧ l8 = true ∧ l9 = true ∧ l10 = true) ∧ (l12 = true → l0 = true ∧ l1 = true ∧ l2 = true ∧ l3 = true ∧ l4 = true ∧ l5 = true ∧ l6 = true ∧ l7 = true ∧ l8 = true ∧ l9 = true ∧ l10 = true ∧ l11 = true) ∧ (true = true → l0 = true ∧ l1 = true ∧ l2 = true ∧ l3 = true ∧ l4 = true ∧ l5 = true ∧ l6 = true ∧ l7 = true ∧ l8 = true ∧ l9 = true ∧ l10 = true ∧ l11 = true ∧ l12 = true) := by simp_all
theorem rg6_f0_6 {l0 l1 l2 l3 l4 l5 l6 l7 : Bool} (hm : (l2 = true → l0 = true ∧ l1 = true) ∧ (l5 = true → l3 = true ∧ l4 = true) ∧ (l6 = true → l0 = true ∧ l1 = true ∧ l2 = true) ∧ (l7 = true → l0 = true ∧ l1 = true ∧ l2 = true ∧ l3 = true ∧ l4 = true ∧ l5 = true ∧ l6 = true)) (hs : l0 = false) : l6 = false := by cases l6 <;> simp_all
theorem rg6_f0_7 {l0 l1 l2 l3 l4 l5 l6 l7 : Bool} (hm : (l2 = true → l0 = true ∧ l1 = true) ∧ (l5 = true → l3 = true ∧ l4 = true) ∧ (l6 = true → l0 = true ∧ l1 = true ∧ l2 = true) ∧ (l7 = true → l0 = true ∧ l1 = true ∧ l2 = true ∧ l3 = true ∧ l4 = true ∧ l5 = true ∧ l6 = true)) (hs : l0 = false) : l7 = false := by cases l7 <;> simp_all
theorem rg6_m0 {l0 l1 l2 l3 l4 l5 l6 l7 : Bool} (hm : (l2 = true → l0 = true ∧ l1 = true) ∧ (l5 = true → l3 = true ∧ l4 = true) ∧ (l6 = true → l0 = true ∧ l1 = true ∧ l2 = true) ∧ (l7 = true → l0 = true ∧ l1 = true ∧ l2 = true ∧ l3 = true ∧ l4 = true ∧ l5 = true ∧ l6 = true)) (hs : l0 = false) (ha : True) : (l2 = true → true = true ∧ l1 = true) ∧ (l5 = true → l3 = true ∧ l4 = true) ∧ (l6 = true → true = true ∧ l1 = true ∧ l2 = true) ∧ (l7 = true → true = true ∧ l1 = true ∧ l2 = true ∧ l3 = true ∧ l4 = true ∧ l5 = true ∧ l6 = true) := by simp_all
theorem rg6_f1_6 {l0 l1 l2 l3 l4 l5 l6 l7 : Bool} (hm : (l2 = true → l0 = true ∧ l1 = true) ∧ (l5 = true → l3 = true ∧ l4 = true) ∧ (l6 = true → l0 = true ∧ l1 = true ∧ l2 = true) ∧ (l7 = true → l0 = true ∧ l1 = true ∧ l2 = true ∧ l3 = true ∧ l4 = true ∧ l5 = true ∧ l6 = true)) (hs : l1 = false) : l6 = false := by cases l6 <;> simp_all
theorem rg6_f1_7 {l0 l1 l2 l3 l4 l5 l6 l7 : Bool} (hm : (l2 = true → l0 = true ∧ l1 = true) ∧ (l5 = true → l3 = true ∧ l4 = true) ∧ (l6 = true → l0 = true ∧ l1 = true ∧ l2 = true) ∧ (l7 = true → l0 = true ∧ l1 = true ∧ l2 = true ∧ l3 = true ∧ l4 = true ∧ l5 = true ∧ l6 = true)) (hs : l1 = false) : l7 = false := by cases l7 <;> simp_all
theorem rg6_m1 {l0 l1 l2 l3 l4 l5 l6 l7 : Bool} (hm : (l2 = true → l0 = true ∧ l1 = true) ∧ (l5 = true → l3 = true ∧ l4 = true) ∧ (l6 = true → l0 = true ∧ l1 = true ∧ l2 = true) ∧ (l7 = true → l0 = true ∧ l1 = true ∧ l2 = true ∧ l3 = true ∧ l4 = true ∧ l5 = true ∧ l6 = true)) (hs : l1 = false) (ha : True) : (l2 = true → l0 = true ∧ true = true) ∧ (l5 = true → l3 = true ∧ l4 = true) ∧ (l6 = true → l0 = true ∧ true = true ∧ l2 = true) ∧ (l7 = true → l0 = true ∧ true = true ∧ l2 = true ∧ l3 = true ∧ l4 = true ∧ l5 = true ∧ l6 = true) := by simp_all
theorem rg6_f2_6 {l0 l1 l2 l3 l4 l5 l6 l7 : Bool} (hm : (l2 = true → l0 = true ∧ l1 = true) ∧ (l5 = true → l3 = true ∧ l4 = true) ∧ (l6 = true → l0 = true ∧ l1 = true ∧ l2 = true) ∧ (l7 = true → l0 = true ∧ l1 = true ∧ l2 = true ∧ l3 = true ∧ l4 = true ∧ l5 = true ∧ l6 = true)) (hs : l2 = false) : l6 = false := by cases l6 <;> simp_all
theorem rg6_f2_7 {l0 l1 l2 l3 l4 l5 l6 l7 : Bool} (hm : (l2 = true → l0 = true ∧ l1 = true) ∧ (l5 = true → l3 = true ∧ l4 = true) ∧ (l6 = true → l0 = true ∧ l1 = true ∧ l2 = true) ∧ (l7 = true → l0 = true ∧ l1 = true ∧ l2 = true ∧ l3 = true ∧ l4 = true ∧ l5 = true ∧ l6 = true)) (hs : l2 = false) : l7 = false := by cases l7 <;> simp_all
theorem rg6_t2 {l0 l1 l2 l3 l4 l5 l6 l7 : Bool} (hm : (l2 = true → l0 = true ∧ l1 = true) ∧ (l5 = true → l3 = true ∧ l4 = true) ∧ (l6 = true → l0 = true ∧ l1 = true ∧ l2 = true) ∧ (l7 = true → l0 = true ∧ l1 = true ∧ l2 = true ∧ l3 = true ∧ l4 = true ∧ l5 = true ∧ l6 = true)) (hx : l0 = true ∧ l1 = true) : l0 = true ∧ l1 = true := by simp_all
theorem rg6_m2 {l0 l1 l2 l3 l4 l5 l6 l7 : Bool} (hm : (l2 = true → l0 = true ∧ l1 = true) ∧ (l5 = true → l3 = true ∧ l4 = true) ∧ (l6 = true → l0 = true ∧ l1 = true ∧ l2 = true) ∧ (l7 = true → l0 = true ∧ l1 = true ∧ l2 = true ∧ l3 = true ∧ l4 = true ∧ l5 = true ∧ l6 = true)) (hs : l2 = false) (ha : l0 = true ∧ l1 = true) : (true = true → l0 = true ∧ l1 = true) ∧ (l5 = true → l3 = true ∧ l4 = true) ∧ (l6 = true → l0 = true ∧ l1 = true ∧ true = true) ∧ (l7 = true → l0 = true ∧ l1 = true ∧ true = true ∧ l3 = true ∧ l4 = true ∧ l5 = true ∧ l6 = true) := by simp_all
theorem rg6_f3_7 {l0 l1 l2 l3 l4 l5 l6 l7 : Bool} (hm : (l2 = true → l0 = true ∧ l1 = true) ∧ (l5 = true → l3 = true ∧ l4 = true) ∧ (l6 = true → l0 = true ∧ l1 = true ∧ l2 = true) ∧ (l7 = true → l0 = true ∧ l1 = true ∧ l2 = true ∧ l3 = true ∧ l4 = true ∧ l5 = true ∧ l6 = true)) (hs : l3 = false) : l7 = false := by cases l7 <;> simp_all
theorem rg6_m3 {l0 l1 l2 l3 l4 l5 l6 l7 : Bool} (hm : (l2 = true → l0 = true ∧ l1 = true) ∧ (l5 = true → l3 = true ∧ l4 = true) ∧ (l6 = true → l0 = true ∧ l1 = true ∧ l2 = true) ∧ (l7 = true → l0 = true ∧ l1 = true ∧ l2 = true ∧ l3 = true ∧ l4 = true ∧ l5 = true ∧ l6 = true)) (hs : l3 = false) (ha : True) : (l2 = true → l0 = true ∧ l1 = true) ∧ (l5 = true → true = true ∧ l4 = true) ∧ (l6 = true → l0 = true ∧ l1 = true ∧ l2 = true) ∧ (l7 = true → l0 = true ∧ l1 = true ∧ l2 = true ∧ true = true ∧ l4 = true ∧ l5 = true ∧ l6 = true) := by simp_all
theorem rg6_f4_7 {l0 l1 l2 l3 l4 l5 l6 l7 : Bool} (hm : (l2 = true → l0 = true ∧ l1 = true) ∧ (l5 = true → l3 = true ∧ l4 = true) ∧ (l6 = true → l0 = true ∧ l1 = true ∧ l2 = true) ∧ (l7 = true → l0 = true ∧ l1 = true ∧ l2 = true ∧ l3 = true ∧ l4 = true ∧ l5 = true ∧ l6 = true)) (hs : l4 = false) : l7 = false := by cases l7 <;> simp_all
theorem rg6_m4 {l0 l1 l2 l3 l4 l5 l6 l7 : Bool} (hm : (l2 = true → l0 = true ∧ l1 = true) ∧ (l5 = true → l3 = true ∧ l4 = true) ∧ (l6 = true → l0 = true ∧ l1 = true ∧ l2 = true) ∧ (l7 = true → l0 = true ∧ l1 = true ∧ l2 = true ∧ l3 = true ∧ l4 = true ∧ l5 = true ∧ l6 = true)) (hs : l4 = false) (ha : True) : (l2 = true → l0 = true ∧ l1 = true) ∧ (l5 = true → l3 = true ∧ true = true) ∧ (l6 = true → l0 = true ∧ l1 = true ∧ l2 = true) ∧ (l7 = true → l0 = true ∧ l1 = true ∧ l2 = true ∧ l3 = true ∧ true = true ∧ l5 = true ∧ l6 = true) := by simp_all
theorem rg6_f5_7 {l0 l1 l2 l3 l4 l5 l6 l7 : Bool} (hm : (l2 = true → l0 = true ∧ l1 = true) ∧ (l5 = true → l3 = true ∧ l4 = true) ∧ (l6 = true → l0 = true ∧ l1 = true ∧ l2 = true) ∧ (l7 = true → l0 = true ∧ l1 = true ∧ l2 = true ∧ l3 = true ∧ l4 = true ∧ l5 = true ∧ l6 = true)) (hs : l5 = false) : l7 = false := by cases l7 <;> simp_all
theorem rg6_t5 {l0 l1 l2 l3 l4 l5 l6 l7 : Bool} (hm : (l2 = true → l0 = true ∧ l1 = true) ∧ (l5 = true → l3 = true ∧ l4 = true) ∧ (l6 = true → l0 = true ∧ l1 = true ∧ l2 = true) ∧ (l7 = true → l0 = true ∧ l1 = true ∧ l2 = true ∧ l3 = true ∧ l4 = true ∧ l5 = true ∧ l6 = true)) (hx : l3 = true ∧ l4 = true) : l3 = true ∧ l4 = true := by simp_all
theorem rg6_m5 {l0 l1 l2 l3 l4 l5 l6 l7 : Bool} (hm : (l2 = true → l0 = true ∧ l1 = true) ∧ (l5 = true → l3 = true ∧ l4 = true) ∧ (l6 = true → l0 = true ∧ l1 = true ∧ l2 = true) ∧ (l7 = true → l0 = true ∧ l1 = true ∧ l2 = true ∧ l3 = true ∧ l4 = true ∧ l5 = true ∧ l6 = true)) (hs : l5 = false) (ha : l3 = true ∧ l4 = true) : (l2 = true → l0 = true ∧ l1 = true) ∧ (true = true → l3 = true ∧ l4 = true) ∧ (l6 = true → l0 = true ∧ l1 = true ∧ l2 = true) ∧ (l7 = true → l0 = true ∧ l1 = true ∧ l2 = true ∧ l3 = true ∧ l4 = true ∧ true = true ∧ l6 = true) := by simp_all
theorem rg6_f6_7 {l0 l1 l2 l3 l4 l5 l6 l7 : Bool} (hm : (l2 = true → l0 = true ∧ l1 = true) ∧ (l5 = true → l3 = true ∧ l4 = true) ∧ (l6 = true → l0 = true ∧ l1 = true ∧ l2 = true) ∧ (l7 = true → l0 = true ∧ l1 = true ∧ l2 = true ∧ l3 = true ∧ l4 = true ∧ l5 = true ∧ l6 = true)) (hs : l6 = false) : l7 = false := by cases l7 <;> simp_all
theorem rg6_t6 {l0 l1 l2 l3 l4 l5 l6 l7 : Bool} (hm : (l2 = true → l0 = true ∧ l1 = true) ∧ (l5 = true → l3 = true ∧ l4 = true) ∧ (l6 = true → l0 = true ∧ l1 = true ∧ l2 = true) ∧ (l7 = true → l0 = true ∧ l1 = true ∧ l2 = true ∧ l3 = true ∧ l4 = true ∧ l5 = true ∧ l6 = true)) (hx : l2 = true) : l0 = true ∧ l1 = true ∧ l2 = true := by simp_all
theorem rg6_m6 {l0 l1 l2 l3 l4 l5 l6 l7 : Bool} (hm : (l2 = true → l0 = true ∧ l1 = true) ∧ (l5 = true → l3 = true ∧ l4 = true) ∧ (l6 = true → l0 = true ∧ l1 = true ∧ l2 = true) ∧ (l7 = true → l0 = true ∧ l1 = true ∧ l2 = true ∧ l3 = true ∧ l4 = true ∧ l5 = true ∧ l6 = true)) (hs : l6 = false) (ha : l0 = true ∧ l1 = true ∧ l2 = true) : (l2 = true → l0 = true ∧ l1 = true) ∧ (l5 = true → l3 = true ∧ l4 = true) ∧ (true = true → l0 = true ∧ l1 = true ∧ l2 = true) ∧ (l7 = true → l0 = true ∧ l1 = true ∧ l2 = true ∧ l3 = true ∧ l4 = true ∧ l5 = true ∧ true = true) := by simp_all
theorem rg6_t7 {l0 l1 l2 l3 l4 l5 l6 l7 : Bool} (hm : (l2 = true → l0 = true ∧ l1 = true) ∧ (l5 = true → l3 = true ∧ l4 = true) ∧ (l6 = true → l0 = true ∧ l1 = true ∧ l2 = true) ∧ (l7 = true → l0 = true ∧ l1 = true ∧ l2 = true ∧ l3 = true ∧ l4 = true ∧ l5 = true ∧ l6 = true)) (hx : l5 = true ∧ l6 = true) : l0 = true ∧ l1 = true ∧ l2 = true ∧ l3 = true ∧ l4 = true ∧ l5 = true ∧ l6 = true := by simp_all
theorem rg6_m7 {l0 l1 l2 l3 l4 l5 l6 l7 : Bool} (hm : (l2 = true → l0 = true ∧ l1 = true) ∧ (l5 = true → l3 = true ∧ l4 = true) ∧ (l6 = true → l0 = true ∧ l1 = true ∧ l2 = true) ∧ (l7 = true → l0 = true ∧ l1 = true ∧ l2 = true ∧ l3 = true ∧ l4 = true ∧ l5 = true ∧ l6 = true)) (hs : l7 = false) (ha : l0 = true ∧ l1 = true ∧ l2 = true ∧ l3 = true ∧ l4 = true ∧ l5 = true ∧ l6 = true) : (l2 = true → l0 = true ∧ l1 = true) ∧ (l5 = true → l3 = true ∧ l4 = true) ∧ (l6 = true → l0 = true ∧ l1 = true ∧ l2 = true) ∧ (true = true → l0 = true ∧ l1 = true ∧ l2 = true ∧ l3 = true ∧ l4 = true ∧ l5 = true ∧ l6 = true) := by simp_all
/-- what a round keeps -/
def KpB (n₀ Bs : Nat) (A B : World) : Prop := Below n₀ A B ∧ B.cell? ⟨Bs, 0, none⟩ = A.cell? ⟨Bs, 0, none⟩
theorem kpB_t {n₀ Bs : Nat} {A B C : World} (h1 : KpB n₀ Bs A B) (h2 : KpB n₀ Bs B C) : KpB n₀ Bs A C := ⟨h1.1.trans h2.1, h2.2.trans h1.2⟩
theorem kpB_b {n₀ Bs : Nat} {w : World} (hn : n₀ ≤ w.heap.size) (hs : Bs < w.heap.size) (W : World) (l : Nat) (o o' : Obj) (hl : w.heap.size ≤ l) (h : W.heap[l]? = some o) (h1 : o.isCells = false) (h2 : o.isWalk = false) : KpB n₀ Bs W (W.putObj l o') :=
  ⟨belowK_b hn W l o o' hl h h1 h2, by simp only [World.cell?]; rw [World.putObj_heap_other (by omega)]⟩
set_option maxRecDepth 100000 in
set_option maxHeartbeats 2000000 in
/-- the function value that slices.Backward hands back: for every loop body that keeps what lay below n₀ -/
theorem bw1_in (F' : Fence) (n : Nat) (hf : F'.fn 60) (hro : F'.round = none) (hn : 1 ≤ n) (l Bs n₀ b off len cap : Nat) (c : Nat → Nat) (hreach : len * 8 ≤ 140737488351232) (hb : b < n₀) (J Jx : List (Nat × Nat) → World → Prop)
    (hY : ∀ pre x W, J pre W → pre.length < len → YieldAt F' (n - 1) Try.prog l #[.int .i64 (x.1 : Int), .int .i64 ((x.2 : Int) + 1)] W fun e W' =>
      (e = .returned (.bool true) ∧ J (pre ++ [x]) W' ∧ KpB n₀ Bs W W') ∨ (e = .returned (.bool false) ∧ Jx (pre ++ [x]) W'))
    (W : World) (hBs : W.cell? ⟨Bs, 0, none⟩ = some (.slice (some ⟨b, off, none⟩) len cap)) (hc : ∀ j, j < len → W.cell? ⟨b, off + j, none⟩ = some (.int .i64 ((c j : Int) + 1))) (h0 : J [] W) :
    CallsIn F' n Try.prog 60 #[.func (.yield l) #[] #[], .pointer (some ⟨Bs, 0, none⟩)] W fun e W' => (∃ v, e = .returned v) ∧
      ((∃ ys, ys = uptoB (bwn c len) len ∧ J ys W') ∨ (∃ pre, (∃ k, k ≤ len ∧ pre = uptoB (bwn c len) k) ∧ Jx pre W')) := by
  refine callsIn_of_wp Try.func60 rfl hf ?_ hro
  simp only [Try.ntmps60, List.size_toArray, List.length_cons, List.length_nil, Nat.reduceAdd, Nat.reduceSub, Array.replicate_succ, Array.replicate_zero, List.push_toArray, List.append_toArray, List.nil_append, List.cons_append]
  gi_wp2
  gi_loopw [3] (fun i wr => ∃ k m : Nat, len = m + k ∧ i = .int .i64 ((m : Int) - 1) ∧ J (uptoB (bwn c len) k) wr ∧ KpB n₀ Bs W wr)
    (fun i _ => (intOf i + 1).toNat)
  case atStart => exact ⟨0, len, by omega, by go_num, h0, Below.refl _ _, rfl⟩
  case round =>
    obtain ⟨k, m, hk, rfl, hJs, hnx⟩ := hrel
    have hBs' := hnx.2.trans hBs
    cases m with
    | zero =>
      obtain rfl : len = k := by omega
      rw [show ((0 : Nat) : Int) - 1 = -1 from rfl]
      gi_wp2
      go_end0
      exact ⟨⟨_, rfl⟩, .inl ⟨_, rfl, hJs⟩⟩
    | succ m =>
      have e1 : (((m + 1 : Nat) : Int) - 1) = (m : Int) := by omega
      rw [e1]
      have hcx := (hnx.1.cell (p := ⟨b, off + m, none⟩) hb).trans (hc m (by omega))
      have hml : m < len := by omega
      have hmI : (m : Int) < (len : Int) := by omega
      have hmI0 : (0 : Int) ≤ (m : Int) := by omega
      have hbw : bwn c len k = (m, c m) := by unfold bwn; rw [show len - 1 - k = m from by omega]
      have HK := Lib.hid hk
      clear hk
      obtain ⟨fn, tmps, assign, body, hy, hR⟩ := hY _ (m, c m) wr hJs (by rw [uptoB_length]; have := HK.out; omega)
      dsimp only at hy
      have HBW := Lib.hid hbw
      clear hbw
      gi_wp2
      refine hR.mono ?_
      rintro e W3 (⟨rfl, hJ3, hk3⟩ | ⟨rfl, hJx3⟩)
      · gi_wp2
        go_roundw
        case rel => exact ⟨k + 1, m, by have := HK.out; omega, by go_num, by rw [uptoB_succ, HBW.out]; exact hJ3, kpB_t hnx hk3⟩
        case measure => simp [intOf]
      · gi_wp2
        refine bodyPost_ret (results_none rfl _ _ _) rfl ?_
        exact ⟨⟨_, rfl⟩, .inr ⟨_, ⟨k + 1, by have := HK.out; omega, by rw [uptoB_succ, HBW.out]⟩, hJx3⟩⟩
set_option maxHeartbeats 1000000 in
theorem bw_in (F' : Fence) (n : Nat) (hf : F'.fn 52) (hro : F'.round = none) (a : Option Addr) (len cap : Nat) (w : World) :
    CallsIn F' n Try.prog 52 #[.slice a len cap] w fun e w' => e = .returned (.func (.func 60) #[] #[.pointer (some ⟨w.heap.size, 0, none⟩)]) ∧ w' = w.alloc (.cells #[.slice a len cap] 29) := by
  refine callsIn_of_wp Try.func52 rfl hf ?_ hro
  simp only [Try.ntmps52, List.size_toArray, List.length_cons, List.length_nil, Nat.reduceAdd, Nat.reduceSub, Array.replicate_succ, Array.replicate_zero, List.push_toArray, List.append_toArray, List.nil_append, List.cons_append]
  gi_wp2
  go_ret
  exact ⟨rfl, rfl⟩
theorem bw_stops (F' : Fence) (n : Nat) (hf : F'.fn 60) (hro : F'.round = none) (hn : 1 ≤ n) (Bs n₀ b off len cap : Nat) (c : Nat → Nat) (hreach : len * 8 ≤ 140737488351232) (w : World) (hBs : Bs < w.heap.size) (hn₀ : n₀ ≤ w.heap.size) (hb : b < n₀)
    (hcs : w.cell? ⟨Bs, 0, none⟩ = some (.slice (some ⟨b, off, none⟩) len cap)) (hc : ∀ j, j < len → w.cell? ⟨b, off + j, none⟩ = some (.int .i64 ((c j : Int) + 1))) :
    SeqStopsK F' n Try.prog 60 #[.pointer (some ⟨Bs, 0, none⟩)] (fun x : Nat × Nat => #[Value.int .i64 (x.1 : Int), Value.int .i64 ((x.2 : Int) + 1)]) (KpB n₀ Bs) (fun ys => ys = uptoB (bwn c len) len)
      (fun pre => ∃ k, k ≤ len ∧ pre = uptoB (bwn c len) k) len w := fun l J Jx W hW _ _ hY h0 =>
  bw1_in F' n hf hro hn l Bs n₀ b off len cap c hreach hb J Jx hY W ((hW.cell (p := ⟨Bs, 0, none⟩) hBs).trans hcs) (fun j hj => (hW.cell (p := ⟨b, off + j, none⟩) (by show b < _; omega)).trans (hc j hj)) h0
theorem AddBox.setS {z : Nat} {s p a b v : Int} {W : World} (h : AddBox z (s, p, a, b) W) : AddBox z (v, p, a, b) (W.setCell ⟨z + 1 + 1, 0, none⟩ (.int .i64 v)) :=
  ⟨(World.cell?_setCell_other _ _ _ _ (fun e => absurd (congrArg Addr.block e) (by show ¬ (z + 1 + 1 = z); omega))).trans h.a, by rw [World.frozen?_setCell]; exact h.fa, (World.cell?_setCell_other _ _ _ _ (fun e => absurd (congrArg Addr.block e) (by show ¬ (z + 1 + 1 = z + 1); omega))).trans h.b, by rw [World.frozen?_setCell]; exact h.fb, World.cell?_setCell_same _ _ _ h.s, by rw [World.frozen?_setCell]; exact h.fs, (World.cell?_setCell_other _ _ _ _ (fun e => absurd (congrArg Addr.block e) (by show ¬ (z + 1 + 1 = z + 1 + 1 + 1); omega))).trans h.p, by rw [World.frozen?_setCell]; exact h.fp⟩
theorem AddBox.setP {z : Nat} {s p a b v : Int} {W : World} (h : AddBox z (s, p, a, b) W) : AddBox z (s, v, a, b) (W.setCell ⟨z + 1 + 1 + 1, 0, none⟩ (.int .i64 v)) :=
  ⟨(World.cell?_setCell_other _ _ _ _ (fun e => absurd (congrArg Addr.block e) (by show ¬ (z + 1 + 1 + 1 = z); omega))).trans h.a, by rw [World.frozen?_setCell]; exact h.fa, (World.cell?_setCell_other _ _ _ _ (fun e => absurd (congrArg Addr.block e) (by show ¬ (z + 1 + 1 + 1 = z + 1); omega))).trans h.b, by rw [World.frozen?_setCell]; exact h.fb, (World.cell?_setCell_other _ _ _ _ (fun e => absurd (congrArg Addr.block e) (by show ¬ (z + 1 + 1 + 1 = z + 1 + 1); omega))).trans h.s, by rw [World.frozen?_setCell]; exact h.fs, World.cell?_setCell_same _ _ _ h.p, by rw [World.frozen?_setCell]; exact h.fp⟩
theorem AddBox.setA {z : Nat} {s p a b v : Int} {W : World} (h : AddBox z (s, p, a, b) W) : AddBox z (s, p, v, b) (W.setCell ⟨z, 0, none⟩ (.int .i64 v)) :=
  ⟨World.cell?_setCell_same _ _ _ h.a, by rw [World.frozen?_setCell]; exact h.fa, (World.cell?_setCell_other _ _ _ _ (fun e => absurd (congrArg Addr.block e) (by show ¬ (z = z + 1); omega))).trans h.b, by rw [World.frozen?_setCell]; exact h.fb, (World.cell?_setCell_other _ _ _ _ (fun e => absurd (congrArg Addr.block e) (by show ¬ (z = z + 1 + 1); omega))).trans h.s, by rw [World.frozen?_setCell]; exact h.fs, (World.cell?_setCell_other _ _ _ _ (fun e => absurd (congrArg Addr.block e) (by show ¬ (z = z + 1 + 1 + 1); omega))).trans h.p, by rw [World.frozen?_setCell]; exact h.fp⟩
theorem AddBox.setB {z : Nat} {s p a b v : Int} {W : World} (h : AddBox z (s, p, a, b) W) : AddBox z (s, p, a, v) (W.setCell ⟨z + 1, 0, none⟩ (.int .i64 v)) :=
  ⟨(World.cell?_setCell_other _ _ _ _ (fun e => absurd (congrArg Addr.block e) (by show ¬ (z + 1 = z); omega))).trans h.a, by rw [World.frozen?_setCell]; exact h.fa, World.cell?_setCell_same _ _ _ h.b, by rw [World.frozen?_setCell]; exact h.fb, (World.cell?_setCell_other _ _ _ _ (fun e => absurd (congrArg Addr.block e) (by show ¬ (z + 1 = z + 1 + 1); omega))).trans h.s, by rw [World.frozen?_setCell]; exact h.fs, (World.cell?_setCell_other _ _ _ _ (fun e => absurd (congrArg Addr.block e) (by show ¬ (z + 1 = z + 1 + 1 + 1); omega))).trans h.p, by rw [World.frozen?_setCell]; exact h.fp⟩
theorem keepsDrew (W : World) : KeepsOthers W W.drew := ⟨Nat.le_refl _, fun _ _ h _ => h⟩
theorem AddBox.drew {z : Nat} {q : Int × Int × Int × Int} {W : World} (h : AddBox z q W) : AddBox z q W.drew := ⟨h.a, h.fa, h.b, h.fb, h.s, h.fs, h.p, h.fp⟩
theorem KpB.setO {n₀ Bs k : Nat} {A B : World} {v : Value} (h : KpB n₀ Bs A B) (hk : n₀ ≤ k) (hb : k ≠ Bs) : KpB n₀ Bs A (B.setCell ⟨k, 0, none⟩ v) :=
  ⟨h.1.setCell (p := ⟨k, 0, none⟩) hk _, (World.cell?_setCell_other _ _ _ _ (fun e => hb (congrArg Addr.block e))).trans h.2⟩
theorem kpB_r (n₀ Bs : Nat) (W : World) : KpB n₀ Bs W W := ⟨Below.refl _ _, rfl⟩
theorem KpB.drew {n₀ Bs : Nat} {A B : World} (h : KpB n₀ Bs A B) : KpB n₀ Bs A B.drew := ⟨h.1.drew, h.2⟩
set_option maxRecDepth 100000 in
set_option maxHeartbeats 2000000 in
theorem addElements_in (F' : Fence) (n : Nat) (h3 : F'.fn 40) (h5 : F'.fn 52) (h7 : F'.fn 60) (hro : F'.round = none) (hn : 3 ≤ n) (b off len cap : Nat) (c : Nat → Nat) (x y : Nat) (hreach : len * 8 ≤ 140737488351232) (w : World)
    (hc : ∀ j, j < len → w.cell? ⟨b, off + j, none⟩ = some (.int .i64 ((c j : Int) + 1))) (hb : b < w.heap.size) :
    CallsIn F' n Try.prog 40 #[.slice (some ⟨b, off, none⟩) len cap, .int .i64 x, .int .i64 y] w fun e W' => e = .returned (.int .i64 (folW (0, 1, (x : Int), (y : Int)) (uptoB (bwn c len) len)).1) ∧ Below w.heap.size w W' := by
  have h1 : 1 ≤ n := by omega
  refine callsIn_of_wp_marks Try.func40 rfl h3 ?_ hro
  simp only [Try.ntmps40, List.size_toArray, List.length_cons, List.length_nil, Nat.reduceAdd, Nat.reduceSub, Array.replicate_succ, Array.replicate_zero, List.push_toArray, List.append_toArray, List.nil_append, List.cons_append]
  gi_wp2_with (gi_at_call 52; refine (bw_in F' (n - 1) h5 hro _ _ _ _).mono ?_; rintro e w' ⟨rfl, rfl⟩)
  have bA := Boxed.new w 2 (.int .i64 x)
  have bB := Boxed.new (w.alloc (.cells #[.int .i64 x] 2)) 2 (.int .i64 y)
  have bS := Boxed.new ((w.alloc (.cells #[.int .i64 x] 2)).alloc (.cells #[.int .i64 y] 2)) 2 (.int .i64 0)
  have bP := Boxed.new (((w.alloc (.cells #[.int .i64 x] 2)).alloc (.cells #[.int .i64 y] 2)).alloc (.cells #[.int .i64 0] 2)) 2 (.int .i64 1)
  have bN := Boxed.new ((((w.alloc (.cells #[.int .i64 x] 2)).alloc (.cells #[.int .i64 y] 2)).alloc (.cells #[.int .i64 0] 2)).alloc (.cells #[.int .i64 1] 2)) 29 (.slice (some ⟨b, off, none⟩) len cap)
  simp only [World.size_alloc] at bB bS bP bN
  have hB0 : Below w.heap.size w (((((w.alloc (.cells #[.int .i64 x] 2)).alloc (.cells #[.int .i64 y] 2)).alloc (.cells #[.int .i64 0] 2)).alloc (.cells #[.int .i64 1] 2)).alloc (.cells #[.slice (some ⟨b, off, none⟩) len cap] 29)) := (((((Below.refl _ w).alloc (Nat.le_refl _) _).alloc (by simp) _).alloc (by simp; omega) _).alloc (by simp; omega) _).alloc (by simp; omega) _
  refine wpIn_rangeFunc_ownG hro h1 (gf := 60) (lb := #[.pointer (some ⟨w.heap.size + 1 + 1 + 1 + 1, 0, none⟩)]) rfl h7 (enters_of Try.func60 (by kernel_rfl) rfl)
    (bw_stops F' (n - 1) h7 hro (by omega) (w.heap.size + 1 + 1 + 1 + 1) w.heap.size b off len cap c hreach _ (by simp) (by simp; omega) hb bN.cell (fun j hj => (hB0.cell (p := ⟨b, off + j, none⟩) hb).trans (hc j hj))) kpB_t (kpB_b (by simp; omega) (by simp)) (Below.refl _ _) (fun _ => rfl)
    (fun pre W => AddBox w.heap.size (folW (0, 1, (x : Int), (y : Int)) pre) W ∧ Below w.heap.size w W)
    (fun _ _ _ => False)
    (OwnFrom.and (Own.from (fun s A B row hs hg hr => hs.kept hg hr) _) (ownFrom_below (Nat.le_refl _) (by simp; omega)))
    (fun _ _ _ _ _ hs _ _ => hs)
    ⟨⟨(((bA.alloc _).alloc _).alloc _ |>.alloc _).cell, (((bA.alloc _).alloc _).alloc _ |>.alloc _).frozen, (((bB.alloc _).alloc _).alloc _).cell, (((bB.alloc _).alloc _).alloc _).frozen, ((bS.alloc _).alloc _).cell, ((bS.alloc _).alloc _).frozen, (bP.alloc _).cell, (bP.alloc _).frozen⟩, hB0⟩
    (fun q => { tmps := #[.slice (some ⟨b, off, none⟩) len cap, .int .i64 x, .int .i64 y, undef, .pointer (some ⟨w.heap.size, 0, none⟩), .pointer (some ⟨w.heap.size + 1, 0, none⟩), .int .i64 0, .pointer (some ⟨w.heap.size + 1 + 1, 0, none⟩), .pointer (some ⟨w.heap.size + 1 + 1 + 1, 0, none⟩), undef, .int .i64 ((q.2 : Int) + 1), .slice (some ⟨b, off, none⟩) len cap, .func (.func 60) #[] #[.pointer (some ⟨w.heap.size + 1 + 1 + 1 + 1, 0, none⟩)], .int .i64 (q.1 : Int), .int .i64 ((q.2 : Int) + 1), undef, undef, undef, undef, undef, undef, undef, undef, undef, undef, undef, undef, undef, undef, undef, undef, undef, undef, undef, undef, undef, undef, undef], defers := [] }) ?assign ?body ?done ?stop
  case assign =>
    intro l q W K hK
    gi_wp2
    exact hK
  case body =>
    rintro l pre q W ⟨hA, hB⟩ _
    have HS := Lib.hid (folW_snoc (0, 1, (x : Int), (y : Int)) pre q)
    have HA := Lib.hid hA
    have HBB := Lib.hid hB
    obtain ⟨k1, k2, k3, k4, k5, k6, k7, k8⟩ := hA
    clear hB
    revert HS HA k1 k3 k5 k7
    generalize folW (0, 1, (x : Int), (y : Int)) pre = f0
    intro HS HA k1 k3 k5 k7
    obtain ⟨s0, p0, a0, b0⟩ := f0
    dsimp only at k1 k3 k5 k7
    obtain ⟨M, hM⟩ : ∃ M : Int, M = (q.2 : Int) + 1 := ⟨_, rfl⟩
    have hM1 : M ≠ 0 := by omega
    have hM2 : 1 ≤ M := by omega
    obtain ⟨ra, h1⟩ : ∃ r, a0.tmod M = r := ⟨_, rfl⟩
    obtain ⟨rb, h2⟩ : ∃ r, b0.tmod M = r := ⟨_, rfl⟩
    obtain ⟨u, h3⟩ : ∃ r, IntKind.i64.wrap (ra + rb) = r := ⟨_, rfl⟩
    obtain ⟨d, h4⟩ : ∃ r, u.tmod M = r := ⟨_, rfl⟩
    obtain ⟨dp, h5⟩ : ∃ r, IntKind.i64.wrap (d * p0) = r := ⟨_, rfl⟩
    obtain ⟨s1, h6⟩ : ∃ r, IntKind.i64.wrap (s0 + dp) = r := ⟨_, rfl⟩
    obtain ⟨p1, h7⟩ : ∃ r, IntKind.i64.wrap (p0 * M) = r := ⟨_, rfl⟩
    obtain ⟨a1, h8⟩ : ∃ r, IntKind.i64.wrap (a0.tdiv M) = r := ⟨_, rfl⟩
    obtain ⟨b1, h9⟩ : ∃ r, IntKind.i64.wrap (b0.tdiv M) = r := ⟨_, rfl⟩
    have HQ : Hid (stW (s0, p0, a0, b0) q = (s1, p1, a1, b1)) := Lib.hid (by unfold stW; dsimp only; rw [← hM, h1, h2, h3, h4, h5, h6, h7, h8, h9])
    dsimp only
    rw [← hM]
    have HM := Lib.hid hM
    clear hM
    gi_wp2
    refine wpIn_region_any (by kernel_rfl) ?_
    refine wpAnyIn_inv (fun listed aa ww => ∃ l0 l1 l2 l3 l4 l5 l6 l7 l8 l9 l10 l11 l12 l13 : Bool, listed = #[l0, l1, l2, l3, l4, l5, l6, l7, l8, l9, l10, l11, l12, l13] ∧ aa = ⟨#[.slice (some ⟨b, off, none⟩) len cap, .int .i64 x, .int .i64 y, undef, .pointer (some ⟨w.heap.size, 0, none⟩), .pointer (some ⟨w.heap.size + 1, 0, none⟩), .int .i64 0, .pointer (some ⟨w.heap.size + 1 + 1, 0, none⟩), .pointer (some ⟨w.heap.size + 1 + 1 + 1, 0, none⟩), undef, .int .i64 M, .slice (some ⟨b, off, none⟩) len cap, .func (.func 60) #[] #[.pointer (some ⟨w.heap.size + 1 + 1 + 1 + 1, 0, none⟩)], .int .i64 (q.1 : Int), .int .i64 M, bif l0 then .int .i64 s0 else undef, bif l1 then .int .i64 a0 else undef, bif l2 then .int .i64 M else undef, bif l3 then .int .i64 ra else undef, bif l4 then .int .i64 b0 else undef, bif l5 then .int .i64 M else undef, bif l6 then .int .i64 rb else undef, bif l7 then .int .i64 u else undef, bif l8 then .int .i64 M else undef, bif l9 then .int .i64 d else undef, bif l10 then .int .i64 p0 else undef, bif l11 then .int .i64 dp else undef, bif l12 then .int .i64 s1 else undef, undef, undef, undef, undef, undef, undef, undef, undef, undef, undef], []⟩ ∧ ww = (bif l13 then (W.drew.setCell ⟨w.heap.size + 1 + 1, 0, none⟩ (.int .i64 s1)) else W.drew) ∧ ((l3 = true → l1 = true ∧ l2 = true) ∧ (l6 = true → l4 = true ∧ l5 = true) ∧ (l7 = true → l1 = true ∧ l2 = true ∧ l3 = true ∧ l4 = true ∧ l5 = true ∧ l6 = true) ∧ (l9 = true → l1 = true ∧ l2 = true ∧ l3 = true ∧ l4 = true ∧ l5 = true ∧ l6 = true ∧ l7 = true ∧ l8 = true) ∧ (l11 = true → l1 = true ∧ l2 = true ∧ l3 = true ∧ l4 = true ∧ l5 = true ∧ l6 = true ∧ l7 = true ∧ l8 = true ∧ l9 = true ∧ l10 = true) ∧ (l12 = true → l0 = true ∧ l1 = true ∧ l2 = true ∧ l3 = true ∧ l4 = true ∧ l5 = true ∧ l6 = true ∧ l7 = true ∧ l8 = true ∧ l9 = true ∧ l10 = true ∧ l11 = true) ∧ (l13 = true → l0 = true ∧ l1 = true ∧ l2 = true ∧ l3 = true ∧ l4 = true ∧ l5 = true ∧ l6 = true ∧ l7 = true ∧ l8 = true ∧ l9 = true ∧ l10 = true ∧ l11 = true ∧ l12 = true))) (fun listed => (bif listed.getD 0 true then 0 else 1) + (bif listed.getD 1 true then 0 else 1) + (bif listed.getD 2 true then 0 else 1) + (bif listed.getD 3 true then 0 else 1) + (bif listed.getD 4 true then 0 else 1) + (bif listed.getD 5 true then 0 else 1) + (bif listed.getD 6 true then 0 else 1) + (bif listed.getD 7 true then 0 else 1) + (bif listed.getD 8 true then 0 else 1) + (bif listed.getD 9 true then 0 else 1) + (bif listed.getD 10 true then 0 else 1) + (bif listed.getD 11 true then 0 else 1) + (bif listed.getD 12 true then 0 else 1) + (bif listed.getD 13 true then 0 else 1)) ?Z ?E ?S _ _ _ _ ⟨false, false, false, false, false, false, false, false, false, false, false, false, false, false, rfl, rfl, rfl, by simp⟩ (by decide)
    case E =>
      rintro listed aa ww ⟨l0, l1, l2, l3, l4, l5, l6, l7, l8, l9, l10, l11, l12, l13, rfl, rfl, rfl, hm⟩ h
      obtain rfl : l0 = true := by
        cases l0
        · simp at h
        · rfl
      obtain rfl : l1 = true := by
        cases l1
        · simp at h
        · rfl
      obtain rfl : l2 = true := by
        cases l2
        · simp at h
        · rfl
      obtain rfl : l3 = true := by
        cases l3
        · simp at h
        · rfl
      obtain rfl : l4 = true := by
        cases l4
        · simp at h
        · rfl
      obtain rfl : l5 = true := by
        cases l5
        · simp at h
        · rfl
      obtain rfl : l6 = true := by
        cases l6
        · simp at h
        · rfl
      obtain rfl : l7 = true := by
        cases l7
        · simp at h
        · rfl
      obtain rfl : l8 = true := by
        cases l8
        · simp at h
        · rfl
      obtain rfl : l9 = true := by
        cases l9
        · simp at h
        · rfl
      obtain rfl : l10 = true := by
        cases l10
        · simp at h
        · rfl
      obtain rfl : l11 = true := by
        cases l11
        · simp at h
        · rfl
      obtain rfl : l12 = true := by
        cases l12
        · simp at h
        · rfl
      obtain rfl : l13 = true := by
        cases l13
        · simp at h
        · rfl
      kernel_rfl
    case S =>
      rintro listed aa ww ⟨l0, l1, l2, l3, l4, l5, l6, l7, l8, l9, l10, l11, l12, l13, rfl, rfl, rfl, hm⟩ i o ho hl hd
      match i, ho, hl, hd with
      | 0, hp, hs, hx =>
        obtain rfl := (Option.some.inj hp).symm
        simp [Region.binds] at hs hx
        clear ho hl hd hp
        have f13 := rg4_f0_13 hm hs
        have hM2 := rg4_m0 hm hs trivial
        subst f13
        (try subst hs)
        refine ⟨_, _, ⟨true, _, _, _, _, _, _, _, _, _, _, _, _, _, rfl, rfl, rfl, hM2⟩, by simp <;> omega, fun K hK => wpOpIn_some rfl ?_⟩
        simp only [Bool.cond_true, Bool.cond_false] at hK ⊢
        go_simp
        exact hK
      | 1, hp, hs, hx =>
        obtain rfl := (Option.some.inj hp).symm
        simp [Region.binds] at hs hx
        clear ho hl hd hp
        have f13 := rg4_f1_13 hm hs
        have hM2 := rg4_m1 hm hs trivial
        subst f13
        (try subst hs)
        refine ⟨_, _, ⟨_, true, _, _, _, _, _, _, _, _, _, _, _, _, rfl, rfl, rfl, hM2⟩, by simp <;> omega, fun K hK => wpOpIn_some rfl ?_⟩
        simp only [Bool.cond_true, Bool.cond_false] at hK ⊢
        go_simp
        exact hK
      | 2, hp, hs, hx =>
        obtain rfl := (Option.some.inj hp).symm
        simp [Region.binds] at hs hx
        clear ho hl hd hp
        have f13 := rg4_f2_13 hm hs
        have hM2 := rg4_m2 hm hs trivial
        subst f13
        (try subst hs)
        refine ⟨_, _, ⟨_, _, true, _, _, _, _, _, _, _, _, _, _, _, rfl, rfl, rfl, hM2⟩, by simp <;> omega, fun K hK => wpOpIn_some rfl ?_⟩
        simp only [Bool.cond_true, Bool.cond_false] at hK ⊢
        go_simp
        exact hK
      | 3, hp, hs, hx =>
        obtain rfl := (Option.some.inj hp).symm
        simp [Region.binds] at hs hx
        clear ho hl hd hp
        have f13 := rg4_f3_13 hm hs
        have hA := rg4_t3 hm hx
        have hM2 := rg4_m3 hm hs hA
        subst f13
        (try subst hs)
        obtain ⟨rfl, rfl⟩ := hA
        refine ⟨_, _, ⟨_, _, _, true, _, _, _, _, _, _, _, _, _, _, rfl, rfl, rfl, hM2⟩, by simp <;> omega, fun K hK => wpOpIn_some rfl ?_⟩
        simp only [Bool.cond_true, Bool.cond_false] at hK ⊢
        go_simp
        exact hK
      | 4, hp, hs, hx =>
        obtain rfl := (Option.some.inj hp).symm
        simp [Region.binds] at hs hx
        clear ho hl hd hp
        have f13 := rg4_f4_13 hm hs
        have hM2 := rg4_m4 hm hs trivial
        subst f13
        (try subst hs)
        refine ⟨_, _, ⟨_, _, _, _, true, _, _, _, _, _, _, _, _, _, rfl, rfl, rfl, hM2⟩, by simp <;> omega, fun K hK => wpOpIn_some rfl ?_⟩
        simp only [Bool.cond_true, Bool.cond_false] at hK ⊢
        go_simp
        exact hK
      | 5, hp, hs, hx =>
        obtain rfl := (Option.some.inj hp).symm
        simp [Region.binds] at hs hx
        clear ho hl hd hp
        have f13 := rg4_f5_13 hm hs
        have hM2 := rg4_m5 hm hs trivial
        subst f13
        (try subst hs)
        refine ⟨_, _, ⟨_, _, _, _, _, true, _, _, _, _, _, _, _, _, rfl, rfl, rfl, hM2⟩, by simp <;> omega, fun K hK => wpOpIn_some rfl ?_⟩
        simp only [Bool.cond_true, Bool.cond_false] at hK ⊢
        go_simp
        exact hK
      | 6, hp, hs, hx =>
        obtain rfl := (Option.some.inj hp).symm
        simp [Region.binds] at hs hx
        clear ho hl hd hp
        have f13 := rg4_f6_13 hm hs
        have hA := rg4_t6 hm hx
        have hM2 := rg4_m6 hm hs hA
        subst f13
        (try subst hs)
        obtain ⟨rfl, rfl⟩ := hA
        refine ⟨_, _, ⟨_, _, _, _, _, _, true, _, _, _, _, _, _, _, rfl, rfl, rfl, hM2⟩, by simp <;> omega, fun K hK => wpOpIn_some rfl ?_⟩
        simp only [Bool.cond_true, Bool.cond_false] at hK ⊢
        go_simp
        exact hK
      | 7, hp, hs, hx =>
        obtain rfl := (Option.some.inj hp).symm
        simp [Region.binds] at hs hx
        clear ho hl hd hp
        have f13 := rg4_f7_13 hm hs
        have hA := rg4_t7 hm hx
        have hM2 := rg4_m7 hm hs hA
        subst f13
        (try subst hs)
        obtain ⟨rfl, rfl, rfl, rfl, rfl, rfl⟩ := hA
        refine ⟨_, _, ⟨_, _, _, _, _, _, _, true, _, _, _, _, _, _, rfl, rfl, rfl, hM2⟩, by simp <;> omega, fun K hK => wpOpIn_some rfl ?_⟩
        simp only [Bool.cond_true, Bool.cond_false] at hK ⊢
        go_simp
        exact hK
      | 8, hp, hs, hx =>
        obtain rfl := (Option.some.inj hp).symm
        simp [Region.binds] at hs hx
        clear ho hl hd hp
        have f13 := rg4_f8_13 hm hs
        have hM2 := rg4_m8 hm hs trivial
        subst f13
        (try subst hs)
        refine ⟨_, _, ⟨_, _, _, _, _, _, _, _, true, _, _, _, _, _, rfl, rfl, rfl, hM2⟩, by simp <;> omega, fun K hK => wpOpIn_some rfl ?_⟩
        simp only [Bool.cond_true, Bool.cond_false] at hK ⊢
        go_simp
        exact hK
      | 9, hp, hs, hx =>
        obtain rfl := (Option.some.inj hp).symm
        simp [Region.binds] at hs hx
        clear ho hl hd hp
        have f13 := rg4_f9_13 hm hs
        have hA := rg4_t9 hm hx
        have hM2 := rg4_m9 hm hs hA
        subst f13
        (try subst hs)
        obtain ⟨rfl, rfl, rfl, rfl, rfl, rfl, rfl, rfl⟩ := hA
        refine ⟨_, _, ⟨_, _, _, _, _, _, _, _, _, true, _, _, _, _, rfl, rfl, rfl, hM2⟩, by simp <;> omega, fun K hK => wpOpIn_some rfl ?_⟩
        simp only [Bool.cond_true, Bool.cond_false] at hK ⊢
        go_simp
        exact hK
      | 10, hp, hs, hx =>
        obtain rfl := (Option.some.inj hp).symm
        simp [Region.binds] at hs hx
        clear ho hl hd hp
        have f13 := rg4_f10_13 hm hs
        have hM2 := rg4_m10 hm hs trivial
        subst f13
        (try subst hs)
        refine ⟨_, _, ⟨_, _, _, _, _, _, _, _, _, _, true, _, _, _, rfl, rfl, rfl, hM2⟩, by simp <;> omega, fun K hK => wpOpIn_some rfl ?_⟩
        simp only [Bool.cond_true, Bool.cond_false] at hK ⊢
        go_simp
        exact hK
      | 11, hp, hs, hx =>
        obtain rfl := (Option.some.inj hp).symm
        simp [Region.binds] at hs hx
        clear ho hl hd hp
        have f13 := rg4_f11_13 hm hs
        have hA := rg4_t11 hm hx
        have hM2 := rg4_m11 hm hs hA
        subst f13
        (try subst hs)
        obtain ⟨rfl, rfl, rfl, rfl, rfl, rfl, rfl, rfl, rfl, rfl⟩ := hA
        refine ⟨_, _, ⟨_, _, _, _, _, _, _, _, _, _, _, true, _, _, rfl, rfl, rfl, hM2⟩, by simp <;> omega, fun K hK => wpOpIn_some rfl ?_⟩
        simp only [Bool.cond_true, Bool.cond_false] at hK ⊢
        go_simp
        exact hK
      | 12, hp, hs, hx =>
        obtain rfl := (Option.some.inj hp).symm
        simp [Region.binds] at hs hx
        clear ho hl hd hp
        have f13 := rg4_f12_13 hm hs
        have hA := rg4_t12 hm hx
        have hM2 := rg4_m12 hm hs hA
        subst f13
        (try subst hs)
        obtain ⟨rfl, rfl, rfl, rfl, rfl, rfl, rfl, rfl, rfl, rfl, rfl, rfl⟩ := hA
        refine ⟨_, _, ⟨_, _, _, _, _, _, _, _, _, _, _, _, true, _, rfl, rfl, rfl, hM2⟩, by simp <;> omega, fun K hK => wpOpIn_some rfl ?_⟩
        simp only [Bool.cond_true, Bool.cond_false] at hK ⊢
        go_simp
        exact hK
      | 13, hp, hs, hx =>
        obtain rfl := (Option.some.inj hp).symm
        simp [Region.binds] at hs hx
        clear ho hl hd hp
        have hA := rg4_t13 hm hx.1
        have hM2 := rg4_m13 hm hs hA
        (try subst hs)
        obtain ⟨rfl, rfl, rfl, rfl, rfl, rfl, rfl, rfl, rfl, rfl, rfl, rfl, rfl⟩ := hA
        refine ⟨_, _, ⟨_, _, _, _, _, _, _, _, _, _, _, _, _, true, rfl, rfl, rfl, hM2⟩, by simp <;> omega, fun K hK => wpOpIn_some rfl ?_⟩
        simp only [Bool.cond_true, Bool.cond_false] at hK ⊢
        go_simp
        exact hK
      | i + 14, ho, _, _ => simp at ho
    case Z =>
      rintro listed aa ww ⟨l0, l1, l2, l3, l4, l5, l6, l7, l8, l9, l10, l11, l12, l13, rfl, rfl, rfl, hm⟩ hr
      obtain rfl : l0 = true := by
        cases l0
        · exact ((List.eq_nil_iff_forall_not_mem.1 hr) 0 (mem_ready.2 ⟨rfl, _, rfl, by simp [Region.binds]⟩)).elim
        · rfl
      obtain rfl : l1 = true := by
        cases l1
        · exact ((List.eq_nil_iff_forall_not_mem.1 hr) 1 (mem_ready.2 ⟨rfl, _, rfl, by simp [Region.binds]⟩)).elim
        · rfl
      obtain rfl : l2 = true := by
        cases l2
        · exact ((List.eq_nil_iff_forall_not_mem.1 hr) 2 (mem_ready.2 ⟨rfl, _, rfl, by simp [Region.binds]⟩)).elim
        · rfl
      obtain rfl : l3 = true := by
        cases l3
        · exact ((List.eq_nil_iff_forall_not_mem.1 hr) 3 (mem_ready.2 ⟨rfl, _, rfl, by simp [Region.binds]⟩)).elim
        · rfl
      obtain rfl : l4 = true := by
        cases l4
        · exact ((List.eq_nil_iff_forall_not_mem.1 hr) 4 (mem_ready.2 ⟨rfl, _, rfl, by simp [Region.binds]⟩)).elim
        · rfl
      obtain rfl : l5 = true := by
        cases l5
        · exact ((List.eq_nil_iff_forall_not_mem.1 hr) 5 (mem_ready.2 ⟨rfl, _, rfl, by simp [Region.binds]⟩)).elim
        · rfl
      obtain rfl : l6 = true := by
        cases l6
        · exact ((List.eq_nil_iff_forall_not_mem.1 hr) 6 (mem_ready.2 ⟨rfl, _, rfl, by simp [Region.binds]⟩)).elim
        · rfl
      obtain rfl : l7 = true := by
        cases l7
        · exact ((List.eq_nil_iff_forall_not_mem.1 hr) 7 (mem_ready.2 ⟨rfl, _, rfl, by simp [Region.binds]⟩)).elim
        · rfl
      obtain rfl : l8 = true := by
        cases l8
        · exact ((List.eq_nil_iff_forall_not_mem.1 hr) 8 (mem_ready.2 ⟨rfl, _, rfl, by simp [Region.binds]⟩)).elim
        · rfl
      obtain rfl : l9 = true := by
        cases l9
        · exact ((List.eq_nil_iff_forall_not_mem.1 hr) 9 (mem_ready.2 ⟨rfl, _, rfl, by simp [Region.binds]⟩)).elim
        · rfl
      obtain rfl : l10 = true := by
        cases l10
        · exact ((List.eq_nil_iff_forall_not_mem.1 hr) 10 (mem_ready.2 ⟨rfl, _, rfl, by simp [Region.binds]⟩)).elim
        · rfl
      obtain rfl : l11 = true := by
        cases l11
        · exact ((List.eq_nil_iff_forall_not_mem.1 hr) 11 (mem_ready.2 ⟨rfl, _, rfl, by simp [Region.binds]⟩)).elim
        · rfl
      obtain rfl : l12 = true := by
        cases l12
        · exact ((List.eq_nil_iff_forall_not_mem.1 hr) 12 (mem_ready.2 ⟨rfl, _, rfl, by simp [Region.binds]⟩)).elim
        · rfl
      obtain rfl : l13 = true := by
        cases l13
        · exact ((List.eq_nil_iff_forall_not_mem.1 hr) 13 (mem_ready.2 ⟨rfl, _, rfl, by simp [Region.binds]⟩)).elim
        · rfl
      simp only [Bool.cond_true, Bool.cond_false]
      clear hr hm
      gi_wp2
      refine wpIn_region_any (by kernel_rfl) ?_
      refine wpAnyIn_inv (fun listed aa ww => ∃ l0 l1 l2 l3 l4 l5 l6 l7 : Bool, listed = #[l0, l1, l2, l3, l4, l5, l6, l7] ∧ aa = ⟨#[.slice (some ⟨b, off, none⟩) len cap, .int .i64 x, .int .i64 y, undef, .pointer (some ⟨w.heap.size, 0, none⟩), .pointer (some ⟨w.heap.size + 1, 0, none⟩), .int .i64 0, .pointer (some ⟨w.heap.size + 1 + 1, 0, none⟩), .pointer (some ⟨w.heap.size + 1 + 1 + 1, 0, none⟩), undef, .int .i64 M, .slice (some ⟨b, off, none⟩) len cap, .func (.func 60) #[] #[.pointer (some ⟨w.heap.size + 1 + 1 + 1 + 1, 0, none⟩)], .int .i64 (q.1 : Int), .int .i64 M, .int .i64 s0, .int .i64 a0, .int .i64 M, .int .i64 ra, .int .i64 b0, .int .i64 M, .int .i64 rb, .int .i64 u, .int .i64 M, .int .i64 d, .int .i64 p0, .int .i64 dp, .int .i64 s1, .int .i64 p0, .int .i64 M, .int .i64 p1, bif l0 then .int .i64 a0 else undef, bif l1 then .int .i64 M else undef, bif l2 then .int .i64 a1 else undef, bif l3 then .int .i64 b0 else undef, bif l4 then .int .i64 M else undef, bif l5 then .int .i64 b1 else undef, undef], []⟩ ∧ ww = (bif l7 then (((((W.setCell ⟨w.heap.size + 1 + 1, 0, none⟩ (.int .i64 s1)).setCell ⟨w.heap.size + 1 + 1 + 1, 0, none⟩ (.int .i64 p1)).drew.drew).setCell ⟨w.heap.size, 0, none⟩ (.int .i64 a1)).setCell ⟨w.heap.size + 1, 0, none⟩ (.int .i64 b1)) else (bif l6 then ((((W.setCell ⟨w.heap.size + 1 + 1, 0, none⟩ (.int .i64 s1)).setCell ⟨w.heap.size + 1 + 1 + 1, 0, none⟩ (.int .i64 p1)).drew.drew).setCell ⟨w.heap.size, 0, none⟩ (.int .i64 a1)) else (((W.setCell ⟨w.heap.size + 1 + 1, 0, none⟩ (.int .i64 s1)).setCell ⟨w.heap.size + 1 + 1 + 1, 0, none⟩ (.int .i64 p1)).drew.drew))) ∧ ((l2 = true → l0 = true ∧ l1 = true) ∧ (l5 = true → l3 = true ∧ l4 = true) ∧ (l6 = true → l0 = true ∧ l1 = true ∧ l2 = true) ∧ (l7 = true → l0 = true ∧ l1 = true ∧ l2 = true ∧ l3 = true ∧ l4 = true ∧ l5 = true ∧ l6 = true))) (fun listed => (bif listed.getD 0 true then 0 else 1) + (bif listed.getD 1 true then 0 else 1) + (bif listed.getD 2 true then 0 else 1) + (bif listed.getD 3 true then 0 else 1) + (bif listed.getD 4 true then 0 else 1) + (bif listed.getD 5 true then 0 else 1) + (bif listed.getD 6 true then 0 else 1) + (bif listed.getD 7 true then 0 else 1)) ?Z ?E ?S _ _ _ _ ⟨false, false, false, false, false, false, false, false, rfl, rfl, rfl, by simp⟩ (by decide)
      case E =>
        rintro listed aa ww ⟨l0, l1, l2, l3, l4, l5, l6, l7, rfl, rfl, rfl, hm⟩ h
        obtain rfl : l0 = true := by
          cases l0
          · simp at h
          · rfl
        obtain rfl : l1 = true := by
          cases l1
          · simp at h
          · rfl
        obtain rfl : l2 = true := by
          cases l2
          · simp at h
          · rfl
        obtain rfl : l3 = true := by
          cases l3
          · simp at h
          · rfl
        obtain rfl : l4 = true := by
          cases l4
          · simp at h
          · rfl
        obtain rfl : l5 = true := by
          cases l5
          · simp at h
          · rfl
        obtain rfl : l6 = true := by
          cases l6
          · simp at h
          · rfl
        obtain rfl : l7 = true := by
          cases l7
          · simp at h
          · rfl
        kernel_rfl
      case S =>
        rintro listed aa ww ⟨l0, l1, l2, l3, l4, l5, l6, l7, rfl, rfl, rfl, hm⟩ i o ho hl hd
        match i, ho, hl, hd with
        | 0, hp, hs, hx =>
          obtain rfl := (Option.some.inj hp).symm
          simp [Region.binds] at hs hx
          clear ho hl hd hp
          have f6 := rg6_f0_6 hm hs
          have f7 := rg6_f0_7 hm hs
          have hM2 := rg6_m0 hm hs trivial
          subst f6
          subst f7
          (try subst hs)
          refine ⟨_, _, ⟨true, _, _, _, _, _, _, _, rfl, rfl, rfl, hM2⟩, by simp <;> omega, fun K hK => wpOpIn_some rfl ?_⟩
          simp only [Bool.cond_true, Bool.cond_false] at hK ⊢
          go_simp
          exact hK
        | 1, hp, hs, hx =>
          obtain rfl := (Option.some.inj hp).symm
          simp [Region.binds] at hs hx
          clear ho hl hd hp
          have f6 := rg6_f1_6 hm hs
          have f7 := rg6_f1_7 hm hs
          have hM2 := rg6_m1 hm hs trivial
          subst f6
          subst f7
          (try subst hs)
          refine ⟨_, _, ⟨_, true, _, _, _, _, _, _, rfl, rfl, rfl, hM2⟩, by simp <;> omega, fun K hK => wpOpIn_some rfl ?_⟩
          simp only [Bool.cond_true, Bool.cond_false] at hK ⊢
          go_simp
          exact hK
        | 2, hp, hs, hx =>
          obtain rfl := (Option.some.inj hp).symm
          simp [Region.binds] at hs hx
          clear ho hl hd hp
          have f6 := rg6_f2_6 hm hs
          have f7 := rg6_f2_7 hm hs
          have hA := rg6_t2 hm hx
          have hM2 := rg6_m2 hm hs hA
          subst f6
          subst f7
          (try subst hs)
          obtain ⟨rfl, rfl⟩ := hA
          refine ⟨_, _, ⟨_, _, true, _, _, _, _, _, rfl, rfl, rfl, hM2⟩, by simp <;> omega, fun K hK => wpOpIn_some rfl ?_⟩
          simp only [Bool.cond_true, Bool.cond_false] at hK ⊢
          go_simp
          exact hK
        | 3, hp, hs, hx =>
          obtain rfl := (Option.some.inj hp).symm
          simp [Region.binds] at hs hx
          clear ho hl hd hp
          have f7 := rg6_f3_7 hm hs
          have hM2 := rg6_m3 hm hs trivial
          subst f7
          (try subst hs)
          refine ⟨_, _, ⟨_, _, _, true, _, _, _, _, rfl, rfl, rfl, hM2⟩, by simp <;> omega, fun K hK => wpOpIn_some rfl ?_⟩
          clear hm hM2
          cases l6
          all_goals
            simp only [Bool.cond_true, Bool.cond_false] at hK ⊢
            go_simp
            exact hK
        | 4, hp, hs, hx =>
          obtain rfl := (Option.some.inj hp).symm
          simp [Region.binds] at hs hx
          clear ho hl hd hp
          have f7 := rg6_f4_7 hm hs
          have hM2 := rg6_m4 hm hs trivial
          subst f7
          (try subst hs)
          refine ⟨_, _, ⟨_, _, _, _, true, _, _, _, rfl, rfl, rfl, hM2⟩, by simp <;> omega, fun K hK => wpOpIn_some rfl ?_⟩
          simp only [Bool.cond_true, Bool.cond_false] at hK ⊢
          go_simp
          exact hK
        | 5, hp, hs, hx =>
          obtain rfl := (Option.some.inj hp).symm
          simp [Region.binds] at hs hx
          clear ho hl hd hp
          have f7 := rg6_f5_7 hm hs
          have hA := rg6_t5 hm hx
          have hM2 := rg6_m5 hm hs hA
          subst f7
          (try subst hs)
          obtain ⟨rfl, rfl⟩ := hA
          refine ⟨_, _, ⟨_, _, _, _, _, true, _, _, rfl, rfl, rfl, hM2⟩, by simp <;> omega, fun K hK => wpOpIn_some rfl ?_⟩
          simp only [Bool.cond_true, Bool.cond_false] at hK ⊢
          go_simp
          exact hK
        | 6, hp, hs, hx =>
          obtain rfl := (Option.some.inj hp).symm
          simp [Region.binds] at hs hx
          clear ho hl hd hp
          have f7 := rg6_f6_7 hm hs
          have hA := rg6_t6 hm hx.1
          have hM2 := rg6_m6 hm hs hA
          subst f7
          (try subst hs)
          obtain ⟨rfl, rfl, rfl⟩ := hA
          refine ⟨_, _, ⟨_, _, _, _, _, _, true, _, rfl, rfl, rfl, hM2⟩, by simp <;> omega, fun K hK => wpOpIn_some rfl ?_⟩
          simp only [Bool.cond_true, Bool.cond_false] at hK ⊢
          go_simp
          exact hK
        | 7, hp, hs, hx =>
          obtain rfl := (Option.some.inj hp).symm
          simp [Region.binds] at hs hx
          clear ho hl hd hp
          have hA := rg6_t7 hm ⟨hx.1, hx.2.1⟩
          have hM2 := rg6_m7 hm hs hA
          (try subst hs)
          obtain ⟨rfl, rfl, rfl, rfl, rfl, rfl, rfl⟩ := hA
          refine ⟨_, _, ⟨_, _, _, _, _, _, _, true, rfl, rfl, rfl, hM2⟩, by simp <;> omega, fun K hK => wpOpIn_some rfl ?_⟩
          simp only [Bool.cond_true, Bool.cond_false] at hK ⊢
          go_simp
          exact hK
        | i + 8, ho, _, _ => simp at ho
      case Z =>
        rintro listed aa ww ⟨l0, l1, l2, l3, l4, l5, l6, l7, rfl, rfl, rfl, hm⟩ hr
        obtain rfl : l0 = true := by
          cases l0
          · exact ((List.eq_nil_iff_forall_not_mem.1 hr) 0 (mem_ready.2 ⟨rfl, _, rfl, by simp [Region.binds]⟩)).elim
          · rfl
        obtain rfl : l1 = true := by
          cases l1
          · exact ((List.eq_nil_iff_forall_not_mem.1 hr) 1 (mem_ready.2 ⟨rfl, _, rfl, by simp [Region.binds]⟩)).elim
          · rfl
        obtain rfl : l2 = true := by
          cases l2
          · exact ((List.eq_nil_iff_forall_not_mem.1 hr) 2 (mem_ready.2 ⟨rfl, _, rfl, by simp [Region.binds]⟩)).elim
          · rfl
        obtain rfl : l3 = true := by
          cases l3
          · exact ((List.eq_nil_iff_forall_not_mem.1 hr) 3 (mem_ready.2 ⟨rfl, _, rfl, by simp [Region.binds]⟩)).elim
          · rfl
        obtain rfl : l4 = true := by
          cases l4
          · exact ((List.eq_nil_iff_forall_not_mem.1 hr) 4 (mem_ready.2 ⟨rfl, _, rfl, by simp [Region.binds]⟩)).elim
          · rfl
        obtain rfl : l5 = true := by
          cases l5
          · exact ((List.eq_nil_iff_forall_not_mem.1 hr) 5 (mem_ready.2 ⟨rfl, _, rfl, by simp [Region.binds]⟩)).elim
          · rfl
        obtain rfl : l6 = true := by
          cases l6
          · exact ((List.eq_nil_iff_forall_not_mem.1 hr) 6 (mem_ready.2 ⟨rfl, _, rfl, by simp [Region.binds]⟩)).elim
          · rfl
        obtain rfl : l7 = true := by
          cases l7
          · exact ((List.eq_nil_iff_forall_not_mem.1 hr) 7 (mem_ready.2 ⟨rfl, _, rfl, by simp [Region.binds]⟩)).elim
          · rfl
        simp only [Bool.cond_true, Bool.cond_false]
        clear hr hm
        gi_wp2
        refine ⟨((((((KeepsOthers.setCell _ _ _).trans (KeepsOthers.setCell _ _ _)).trans (KeepsOthers.setCell _ _ _)).trans (KeepsOthers.setCell _ _ _)).trans (keepsDrew _)).trans (keepsDrew _)).from _, ?_, ?_, ?_⟩
        · exact (((((kpB_r w.heap.size (w.heap.size + 1 + 1 + 1 + 1) W).setO (k := w.heap.size + 1 + 1) (by omega) (by omega)).setO (k := w.heap.size + 1 + 1 + 1) (by omega) (by omega)).setO (k := w.heap.size) (by omega) (by omega)).setO (k := w.heap.size + 1) (by omega) (by omega)).drew.drew
        · rw [HS.out, HQ.out]
          exact HA.out.setS.setP.setA.setB.drew.drew
        · exact HBB.out.trans ((((((Below.refl w.heap.size W).setCell (p := ⟨w.heap.size + 1 + 1, 0, none⟩) (by show _ ≤ _ + 1 + 1; omega) _).setCell (p := ⟨w.heap.size + 1 + 1 + 1, 0, none⟩) (by show _ ≤ _ + 1 + 1 + 1; omega) _).setCell (p := ⟨w.heap.size, 0, none⟩) (Nat.le_refl _) _).setCell (p := ⟨w.heap.size + 1, 0, none⟩) (Nat.le_succ _) _).drew.drew)
  case done =>
    rintro D ys W hD rfl ⟨hA, hB⟩ hK
    have hc1 := hA.s
    gi_wp2
    refine ⟨by simp, .inl ⟨_, _, rfl, run_takeDeferred hK, ?_⟩⟩
    exact ⟨_, results_tmp rfl _ _ _, rfl, hB.trans (belowK_b (w := w) (Nat.le_refl _) W D _ _ (by simp at hD; omega) hK rfl rfl)⟩
  case stop =>
    rintro D c' pre W _ _ h _
    exact h.elim
theorem c_addElements (v : Value) (xs : List Int) (m : Nat → Nat) (N x y : Nat) (w : World) (hv : Ints w v xs) (h0 : 0 < xs.length) (hm : ∀ j, j < xs.length → xs[j]? = some (m j : Int) ∧ 1 ≤ m j) (hN : prodI m xs.length = N) (hN2 : N ≤ 1000) (hx : x ≤ 1000) (hy : y ≤ 1000) :
    Calls Try.prog 40 #[v, .int .i64 x, .int .i64 y] w fun e w' => e = .returned (.int .i64 (addI m xs.length x y)) ∧ Below w.heap.size w w' := by
  obtain ⟨a, cap, rfl, hl, hc⟩ := hv
  obtain ⟨b, off, rfl, h1⟩ := hc 0 _ (hm 0 h0).1
  have hT := addI_lt xs.length x y (fun j hj => (hm j hj).2)
  have hA : AddAt m xs.length (addI m xs.length x y) N 0 1 x y := ⟨by rw [Nat.zero_add, Nat.one_mul], by rw [Nat.one_mul]; exact hN, Nat.le_refl _, hx, hy⟩
  obtain ⟨s, p, a', b', e, hE⟩ := folW_at (c := fun j => m j - 1) hN2 (by omega) (fun j hj => by have := (hm j hj).2; omega) hA xs.length (Nat.le_refl _)
  rw [Nat.sub_self] at hE
  have hs : s = addI m xs.length x y := by have := hE.sum; simpa [addI] using this
  refine (callsIn_wide.1 (addElements_in Fence.wide 3 trivial trivial trivial rfl (by omega) b off xs.length cap (fun j => m j - 1) x y (by omega) w (fun j hj => ?_) (Ints.lt h1))).mono ?_
  · obtain ⟨b', off', e', h2⟩ := hc j _ (hm j hj).1
    cases e'
    rw [h2, show (((m j - 1 : Nat) : Int) + 1) = (m j : Int) from by have := (hm j hj).2; omega]
  · rintro e2 w2 ⟨rfl, hb2⟩
    refine ⟨?_, hb2⟩
    rw [e, hs]
end Go.Proofs.Ytckcjlophnehmaa
