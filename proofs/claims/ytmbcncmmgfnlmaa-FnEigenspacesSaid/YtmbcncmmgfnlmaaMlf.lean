/- Tables by their numbers in the field, and what the functions on matrices answer there. -/
import Derived.Test.YtmbcncmmgfnlmaaGkr
import Derived.Test.YtmbcncmmgfnlmaaTim
import Derived.Test.YtmbcncmmgfnlmaaGpw
import Derived.Test.YtmbcncmmgfnlmaaGsp
namespace Go.Proofs.Ytmbcncmmgfnlmaa
open Go.RowKit
open Fus (F Mx toI ofI toI_bd toI_of toI_ofI ofI_toI ofI_add ofI_mul mm tr ap sm mm_assoc mm_tr kerR redR rank_nullity kerR_ker toI_zero)
theorem isMat_F {r c : Nat} (f : Mx) (h1 : 1 ≤ r) (h2 : r ≤ 16) (h3 : 1 ≤ c) (h4 : c ≤ 16) : isMat (tabF r c f) = true :=
  isMat_mk (by rw [tabF_length]; exact h1) (by rw [tabF_length]; exact h2) (by rw [width_F h1]; exact h3) (by rw [width_F h1]; exact h4) fun i x hx => by rw [width_F h1]; exact good_tabF r c f i x hx
/-- matrices: sizes and entries -/
def Sz (n : Nat) : Prop := 1 ≤ n ∧ n ≤ 16
theorem mat_form {m : List (List Int)} (h : isMat m = true) : ∃ (r c : Nat) (f : Mx), m = tabF r c f ∧ Sz r ∧ Sz c :=
  ⟨m.length, width m, entF m, mat_F h, ⟨(isMat_parts h).1, (isMat_parts h).2.1⟩, ⟨(isMat_parts h).2.2.1, (isMat_parts h).2.2.2.1⟩⟩
theorem mulM_F {r n c : Nat} (f g : Mx) (hr : Sz r) (hn : Sz n) (hc : Sz c) : mulM (tabF r n f) (tabF n c g) = (tabF r c (mm n f g), 0) := by
  unfold mulM
  rw [if_pos ⟨isMat_F f hr.1 hr.2 hn.1 hn.2, isMat_F g hn.1 hn.2 hc.1 hc.2⟩, if_pos (by rw [width_F hr.1, tabF_length]), mulZ_F hn.1]
theorem mulM_ok {a b c : List (List Int)} (h : mulM a b = (c, 0)) : ∃ (r n k : Nat) (f g : Mx), a = tabF r n f ∧ b = tabF n k g ∧ Sz r ∧ Sz n ∧ Sz k ∧ c = tabF r k (mm n f g) := by
  have h0 := h
  unfold mulM at h
  split at h
  · rename_i hm
    split at h
    · rename_i hw
      obtain ⟨r, n, f, rfl, hr, hn⟩ := mat_form hm.1
      obtain ⟨n', k, g, rfl, hn', hk⟩ := mat_form hm.2
      rw [width_F hr.1, tabF_length] at hw
      subst hw
      rw [mulM_F f g hr hn hk] at h0
      exact ⟨r, n, k, f, g, rfl, rfl, hr, hn, hk, (congrArg Prod.fst h0).symm⟩
    · have := congrArg Prod.snd h; simp at this
  · have := congrArg Prod.snd h; simp at this
theorem turnN_F {r c : Nat} (f : Mx) (hr : Sz r) (hc : Sz c) : turnN (tabF r c f) = (tabF c r (tr f), 0) := by
  unfold turnN
  rw [if_pos (isMat_F f hr.1 hr.2 hc.1 hc.2)]
  unfold turnZ
  rw [width_F hr.1, tabF_length]
  refine congrArg (·, 0) ?_
  show tab c r _ = tab c r fun i j => toI (tr f i j)
  exact tab_congr fun i j hi hj => ent_F hj hi
theorem appZ_F {r c : Nat} (f : Mx) (x : Nat → F) : appZ (tabF r c f) (zl c x) = zl r (ap c f x) := by
  unfold appZ
  rw [tabF_length]
  refine vec_congr fun i hi => ?_
  have e : (tabF r c f).getD i [] = zl c (f i) := by rw [List.getD_eq_getElem?_getD, tabF_at c f hi]; rfl
  rw [e]
  unfold dotZ
  rw [dotK_sum, zl_length, sumK_congr (g := fun j => toI (f i j) * toI (x j)) (fun j hj => by
    simp only [List.getD_eq_getElem?_getD, zl_at (f i) hj, zl_at x hj, Option.getD_some])]
  exact (toI_of (ofI_sum c (fun j => f i j) (fun j => x j))).symm
theorem appN_F {r c : Nat} (f : Mx) (x : Nat → F) (hr : Sz r) (hc : Sz c) : appN (tabF r c f) (zl c x) = (zl r (ap c f x), 0) := by
  unfold appN
  rw [if_pos (isMat_F f hr.1 hr.2 hc.1 hc.2), if_pos ⟨by rw [zl_length, width_F hr.1], zl_num _ _⟩, appZ_F]
theorem kerN_ok {m l : List (List Int)} (h : kerN m = (l, 0)) : ∃ (r c : Nat) (f : Mx), m = tabF r c f ∧ Sz r ∧ Sz c ∧ l = tabF (kerR r c f).d c (kerR r c f).f ∧ rankN m = ((((redR r f c).d : Nat) : Int), 0) ∧ spanN m = (tabF (redR r f c).d c (redR r f c).f, 0) := by
  unfold kerN at h
  split at h
  · rename_i hm
    have h2 := isMat_parts hm
    refine ⟨m.length, width m, entF m, mat_F hm, ⟨h2.1, h2.2.1⟩, ⟨h2.2.2.1, h2.2.2.2.1⟩, (congrArg Prod.fst h).symm, by unfold rankN; rw [if_pos hm], ?_⟩
    unfold spanN
    rw [if_neg (by intro e; rw [e] at h2; exact absurd h2.1 (by decide)), if_pos hm]
    rfl
  · have := congrArg Prod.snd h; simp at this
theorem rowsShape {w : World} {v : Value} {m : List (List Int)} (h : IntRows w v m) : ∃ a cap, v = .slice a m.length cap := by
  obtain ⟨a, cap, e, _⟩ := h; exact ⟨a, cap, e⟩
theorem intsShape {w : World} {v : Value} {xs : List Int} (h : Ints w v xs) : ∃ a cap, v = .slice a xs.length cap := by
  obtain ⟨a, cap, e, _⟩ := h; exact ⟨a, cap, e⟩
theorem rowAt {w : World} {a : Option Addr} {n cap i : Nat} {m : List (List Int)} {xs : List Int} (h : IntRows w (.slice a n cap) m) (hx : m[i]? = some xs) :
    ∃ b off u, a = some ⟨b, off, none⟩ ∧ w.cell? ⟨b, off + i, none⟩ = some u ∧ Ints w u xs := by
  obtain ⟨a', cap', e, _, hc⟩ := h
  cases e
  exact hc i xs hx
theorem ker_len (r c : Nat) (f : Mx) : (kerR r c f).d ≤ c ∧ (redR r f c).d ≤ c ∧ (redR r f c).d + (kerR r c f).d = c := by
  have := rank_nullity r c f
  exact ⟨by omega, by omega, this⟩
theorem ker_zero {r c : Nat} (f : Mx) {i : Nat} (hi : i < (kerR r c f).d) : zl r (ap c f ((kerR r c f).f i)) = zl r fun _ => 0 :=
  zl_congr fun j hj => kerR_ker r c f hi j hj
theorem entF_F {r c i j : Nat} {f : Mx} (hi : i < r) (hj : j < c) : entF (tabF r c f) i j = f i j := by
  unfold entF
  rw [ent_F hi hj, ofI_toI]
/-- reading what a call has made -/
theorem readM {w : World} {B : Nat} {v : Value} {m : List (List Int)} (hS : Small 4096 m) (h : OwnM w B v m) : IntRows w v m :=
  h.rows (by have := hS.1; omega) fun xs hx => by have := hS.2 xs hx; omega
theorem readI {w : World} {B : Nat} {v : Value} {xs : List Int} (hS : xs.length ≤ 100000) (h : OwnI w B v xs) : Ints w v xs := OwnI.ints h (by omega)
theorem readF {w : World} {B : Nat} {v : Value} {r c : Nat} {f : Mx} (hr : Sz r) (hc : Sz c) (h : OwnM w B v (tabF r c f)) : IntRows w v (tabF r c f) :=
  h.rowsF (by have := hr.2; omega) (by have := hc.2; omega)
end Go.Proofs.Ytmbcncmmgfnlmaa
