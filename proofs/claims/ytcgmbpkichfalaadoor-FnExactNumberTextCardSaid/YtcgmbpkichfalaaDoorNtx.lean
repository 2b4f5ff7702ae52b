/- Texts of numbers: the plain law. The text of a number is its short fraction, or the number itself; both readers give back exactly the numbers whose text it is. No condition. -/
import Derived.Test.YtcgmbpkichfalaaDoorFlf
import Derived.Test.YtcgmbpkichfalaaDoorDry
import Derived.Lib.ItoaMem
import Derived.Lib.AtoiAllCases
import Derived.Lib.IndexMore
namespace Go.Proofs.YtcgmbpkichfalaaDoor
namespace Txt
set_option linter.unusedVariables false
open Go.Lib (decDigits itoa atoiAll parseUint10 parseMag)

/-- the text of a number -/
def txt (a : Int) : List UInt8 :=
  if (Fus.shortF a).2 = 0 then itoa a else if (Fus.shortF a).2 = 1 then itoa (Fus.shortF a).1 else itoa (Fus.shortF a).1 ++ 47 :: itoa (Fus.shortF a).2

theorem dec_mem (u : Nat) : ∀ b ∈ decDigits u, 48 ≤ b.toNat ∧ b.toNat ≤ 57 := by
  induction u using Nat.strongRecOn with
  | _ u ih =>
    intro b hb
    rw [decDigits] at hb
    split at hb
    · rw [List.mem_singleton] at hb
      subst hb
      rw [UInt8.toNat_ofNat']
      omega
    · rename_i h
      rcases List.mem_append.1 hb with hb | hb
      · exact ih (u / 10) (by omega) b hb
      · rw [List.mem_singleton] at hb
        subst hb
        rw [UInt8.toNat_ofNat']
        omega
theorem dec_ne (u : Nat) : decDigits u ≠ [] := by
  intro h
  have h1 := Lib.decDigits_length u
  have h2 := Lib.nDigits_pos u
  rw [h] at h1
  simp at h1
  omega
/-- what digits spell, ahead of it acc -/
def valD (acc : Nat) (l : List UInt8) : Nat := l.foldl (fun n c => n * 10 + (c.toNat - 48)) acc
theorem valD_snoc (acc : Nat) (l : List UInt8) (c : UInt8) : valD acc (l ++ [c]) = valD acc l * 10 + (c.toNat - 48) := by simp [valD]
theorem valD_dec (u : Nat) : valD 0 (decDigits u) = u := by
  induction u using Nat.strongRecOn with
  | _ u ih =>
    rw [decDigits]
    split
    · rename_i h
      simp [valD, UInt8.toNat_ofNat']
      omega
    · rename_i h
      rw [valD_snoc, ih (u / 10) (by omega), UInt8.toNat_ofNat']
      omega
theorem valD_ge (l : List UInt8) : ∀ acc, acc ≤ valD acc l := by
  induction l with
  | nil => intro acc; exact Nat.le_refl _
  | cons c l ih =>
    intro acc
    have := ih (acc * 10 + (c.toNat - 48))
    show acc ≤ valD (acc * 10 + (c.toNat - 48)) l
    omega
theorem parse_val (l : List UInt8) : ∀ acc, (∀ b ∈ l, 48 ≤ b.toNat ∧ b.toNat ≤ 57) → valD acc l < 1000000000000000000 → parseUint10 acc l = .ok (valD acc l) := by
  induction l with
  | nil => intro acc _ _; rfl
  | cons c l ih =>
    intro acc h hv
    have hc := h c (by simp)
    have hv' : valD (acc * 10 + (c.toNat - 48)) l < 1000000000000000000 := hv
    have hg := valD_ge l (acc * 10 + (c.toNat - 48))
    unfold parseUint10
    rw [if_pos hc, if_neg (by omega), if_neg (by omega)]
    exact ih _ (fun b hb => h b (by simp [hb])) hv'
theorem parseMag_dec (u : Nat) (h : u < 1000000000000000000) : parseMag (decDigits u) = .ok u := by
  unfold Lib.parseMag
  rw [if_neg (dec_ne u), parse_val _ _ (dec_mem u) (by rw [valD_dec]; exact h), valD_dec]
theorem atoi_itoa (n : Int) (h : -1000000000000 ≤ n) (h' : n ≤ 1000000000000) : atoiAll (itoa n) = .ok n := by
  by_cases hn : n < 0
  · obtain ⟨u, rfl⟩ : ∃ u : Nat, n = -(u : Int) := ⟨n.natAbs, by omega⟩
    rw [Lib.itoa_neg u (by omega), Lib.atoiAll_minus, parseMag_dec u (by omega)]
    simp only [Lib.signed]
    rw [if_neg (by omega)]
  · obtain ⟨u, rfl⟩ : ∃ u : Nat, n = (u : Int) := ⟨n.toNat, by omega⟩
    rw [Lib.itoa_nonneg u]
    obtain ⟨c, r, hcr⟩ : ∃ c r, decDigits u = c :: r := by
      cases hd : decDigits u with
      | nil => exact absurd hd (dec_ne u)
      | cons c r => exact ⟨c, r, rfl⟩
    have hc := dec_mem u c (by rw [hcr]; simp)
    have hp := parseMag_dec u (by omega)
    rw [hcr] at hp ⊢
    rw [Lib.atoiAll_plain c r (by omega) (by omega), hp]
    simp only [Lib.signless]
    rw [if_neg (by omega)]
/-- the decimal reader -/
def readDec (l : List UInt8) : Int × Bool :=
  match atoiAll l with
  | .ok v => (v, decide (itoa v = l))
  | Lib.NumEnd.syntax => (0, false)
  | Lib.NumEnd.range => (Lib.atoiSat l, false)
theorem readDec_itoa (n : Int) (h : -1000000000000 ≤ n) (h' : n ≤ 1000000000000) : readDec (itoa n) = (n, true) := by
  unfold readDec
  rw [atoi_itoa n h h']
  simp
/-- the program's reader -/
def parseI (l : List UInt8) : Int × Bool :=
  if (readDec (Lib.cut l [47]).1).2 = true ∧ ((Lib.cut l [47]).2.2 = true → (readDec (Lib.cut l [47]).2.1).2 = true) then
    (let f := fracN (readDec (Lib.cut l [47]).1).1 (if (Lib.cut l [47]).2.2 = true then (readDec (Lib.cut l [47]).2.1).1 else 1)
     (f.1, decide (f.2 = 0) && decide (txt f.1 = l)))
  else (0, false)
def parseN (l : List UInt8) : Int × Int := if (parseI l).2 = true then ((parseI l).1, 0) else (0, 6)
theorem fracN_bd (p q : Int) : 0 ≤ (fracN p q).1 ∧ (fracN p q).1 < 55441 := by
  unfold fracN
  split
  · split
    · simp
    · simp only; omega
  · simp
theorem parseI_bd (l : List UInt8) : 0 ≤ (parseI l).1 ∧ (parseI l).1 < 55441 := by
  unfold parseI
  split
  · exact fracN_bd _ _
  · simp
theorem parseI_ok {l : List UInt8} (h : (parseI l).2 = true) : txt (parseI l).1 = l := by
  unfold parseI at h ⊢
  split at h
  · rename_i h1
    rw [if_pos h1]
    simp only [Bool.and_eq_true, decide_eq_true_iff] at h
    exact h.2
  · simp at h
theorem itoa_mem (n : Int) : ∀ b ∈ itoa n, b = 45 ∨ (48 ≤ b.toNat ∧ b.toNat ≤ 57) := by
  intro b hb
  unfold Lib.itoa at hb
  split at hb
  · rcases List.mem_cons.1 hb with hb | hb
    · exact .inl hb
    · exact .inr (dec_mem _ b hb)
  · exact .inr (dec_mem _ b hb)
theorem itoa_no47 (n : Int) : ∀ b ∈ itoa n, b ≠ 47 := by
  intro b hb e
  subst e
  rcases itoa_mem n _ hb with h | h
  · exact absurd h (by decide)
  · exact absurd h.1 (by decide)
theorem occ_one (s : List UInt8) (j : Nat) : Lib.occAt s [47] j = decide (s[j]? = some 47) := by
  unfold Lib.occAt
  rw [← List.head?_drop]
  cases s.drop j with
  | nil => rfl
  | cons c r =>
    show ((47 == c) && List.isPrefixOf [] r) = decide (some c = some 47)
    have e : List.isPrefixOf ([] : List UInt8) r = true := by cases r <;> rfl
    rw [e, Bool.and_true, Bool.eq_iff_iff, beq_iff_eq, decide_eq_true_iff, Option.some.injEq]
    exact eq_comm
theorem cut_none {s : List UInt8} (h : ∀ b ∈ s, b ≠ 47) : Lib.cut s [47] = (s, [], false) := by
  unfold Lib.cut
  rcases Lib.index_spec s [47] with ⟨h1, _⟩ | ⟨i, _, _, h3, _⟩
  · rw [if_neg (by omega)]
  · rw [occ_one] at h3
    simp only [decide_eq_true_iff] at h3
    exact absurd rfl (h 47 (List.mem_of_getElem? h3))
theorem cut_some {s r : List UInt8} (h : ∀ b ∈ s, b ≠ 47) : Lib.cut (s ++ 47 :: r) [47] = (s, r, true) := by
  unfold Lib.cut
  rcases Lib.index_spec (s ++ 47 :: r) [47] with ⟨_, h2⟩ | ⟨i, h1, h2, h3, h4⟩
  · have := h2 s.length (by simp)
    rw [occ_one] at this
    simp at this
  · rw [occ_one] at h3
    simp only [decide_eq_true_iff] at h3
    have e : i = s.length := by
      rcases Nat.lt_trichotomy i s.length with h' | h' | h'
      · rw [List.getElem?_append_left h'] at h3
        exact absurd rfl (h 47 (List.mem_of_getElem? h3))
      · exact h'
      · have := h4 s.length h'
        rw [occ_one] at this
        simp at this
    subst e
    rw [h1, if_pos (by omega)]
    simp
theorem txt_cases (a : Int) (ha : 0 ≤ a) (ha' : a < 55441) :
    (txt a = itoa a ∨ (txt a = itoa (Fus.cres a 1) ∧ -166 ≤ Fus.cres a 1 ∧ Fus.cres a 1 ≤ 166)) ∨ ∃ q : Int, 2 ≤ q ∧ q ≤ 166 ∧ txt a = itoa (Fus.cres a q) ++ 47 :: itoa q ∧ -166 ≤ Fus.cres a q ∧ Fus.cres a q ≤ 166 := by
  unfold txt
  rcases Fus.shortF_cases a with e | ⟨q, h1, h2, e, h3, h4, _⟩
  · rw [e]; simp
  · rw [e]
    by_cases hq : q = 1
    · subst hq
      left; right
      simp [h3, h4]
    · right
      refine ⟨q, by omega, h2, ?_, h3, h4⟩
      simp only
      rw [if_neg (by omega), if_neg hq]
theorem quot_short (a q : Int) (ha : 0 ≤ a) (ha' : a < 55441) (hq : 1 ≤ q) (hq' : q ≤ 166) : (Fus.cres a q % 55441) * iinv (q % 55441) % 55441 = a := by
  rw [Fus.cres_mod, Int.emod_eq_of_lt (by omega : 0 ≤ q) (by omega : q < 55441)]
  have h1 := iinv_mul q (by omega) (by omega)
  calc a * q % 55441 * iinv q % 55441 = a * (q * iinv q % 55441) % 55441 := by
        rw [Int.mul_emod (a * q % 55441), Int.emod_emod, ← Int.mul_emod, Int.mul_assoc, Int.mul_emod a (q * iinv q % 55441), Int.emod_emod, ← Int.mul_emod]
    _ = a := by rw [h1]; omega
theorem frac_short (a q : Int) (ha : 0 ≤ a) (ha' : a < 55441) (hq : 1 ≤ q) (hq' : q ≤ 166) (h1 : -166 ≤ Fus.cres a q) (h2 : Fus.cres a q ≤ 166) : fracN (Fus.cres a q) q = (a, 0) := by
  unfold fracN
  rw [if_pos (by omega), if_neg (by omega), quot_short a q ha ha' hq hq']
theorem frac_self (a : Int) (ha : 0 ≤ a) (ha' : a < 55441) : fracN a 1 = (a, 0) := by
  unfold fracN
  rw [if_pos (by omega), if_neg (by omega)]
  have h1 := iinv_mul 1 (by omega) (by omega)
  rw [Int.one_mul] at h1
  have h2 := iinv_bd 1
  have h3 : iinv 1 = 1 := by omega
  rw [show (1 : Int) % 55441 = 1 from rfl, h3]
  simp only [Int.mul_one, Prod.mk.injEq, and_true]
  omega
theorem parseI_txt (a : Int) (ha : 0 ≤ a) (ha' : a < 55441) : parseI (txt a) = (a, true) := by
  have key : ∀ n : Int, -1000000 ≤ n → n ≤ 1000000 → txt a = itoa n → fracN n 1 = (a, 0) → parseI (txt a) = (a, true) := fun n h1 h2 e hf => by
    unfold parseI
    have hc : Lib.cut (txt a) [47] = (itoa n, [], false) := by rw [e]; exact cut_none (itoa_no47 n)
    rw [hc]
    simp only [readDec_itoa n (by omega) (by omega)]
    simp [hf]
  rcases txt_cases a ha ha' with (e | ⟨e, h1, h2⟩) | ⟨q, hq, hq', e, h1, h2⟩
  · exact key a (by omega) (by omega) e (frac_self a ha ha')
  · exact key _ (by omega) (by omega) e (frac_short a 1 ha ha' (by omega) (by omega) h1 h2)
  · unfold parseI
    have hc : Lib.cut (txt a) [47] = (itoa (Fus.cres a q), itoa q, true) := by rw [e]; exact cut_some (itoa_no47 _)
    rw [hc]
    simp only [readDec_itoa (Fus.cres a q) (by omega) (by omega), readDec_itoa q (by omega) (by omega)]
    simp [frac_short a q ha ha' (by omega) hq' h1 h2]
theorem parseN_txt (a : Int) (ha : 0 ≤ a) (ha' : a < 55441) : parseN (txt a) = (a, 0) := by unfold parseN; rw [parseI_txt a ha ha']; simp

/-- the reference's decimal reader -/
def valueS (l : List UInt8) : Int :=
  if l = [] ∨ 9 < l.length ∨ (1 < l.length ∧ l.head? = some 48) then -1
  else if l.all (fun b => decide (48 ≤ b.toNat) && decide (b.toNat ≤ 57)) = true then (valD 0 l : Nat) else -1
/-- the parts between the bytes b -/
def splitL (b : UInt8) : List UInt8 → List (List UInt8)
  | [] => [[]]
  | c :: r => if c = b then [] :: splitL b r else match splitL b r with
    | h :: t => (c :: h) :: t
    | [] => [[c]]
theorem splitL_ne (b : UInt8) (l : List UInt8) : splitL b l ≠ [] := by
  cases l with
  | nil => simp [splitL]
  | cons c r =>
    unfold splitL
    split
    · simp
    · split <;> simp
theorem splitL_none {b : UInt8} {s : List UInt8} (h : ∀ c ∈ s, c ≠ b) : splitL b s = [s] := by
  induction s with
  | nil => rfl
  | cons c r ih =>
    unfold splitL
    rw [if_neg (h c (by simp)), ih (fun x hx => h x (by simp [hx]))]
theorem splitL_some {b : UInt8} {s : List UInt8} (r : List UInt8) (h : ∀ c ∈ s, c ≠ b) : splitL b (s ++ b :: r) = s :: splitL b r := by
  induction s with
  | nil => simp [splitL]
  | cons c t ih =>
    show splitL b (c :: (t ++ b :: r)) = _
    rw [splitL, if_neg (h c (by simp)), ih (fun x hx => h x (by simp [hx]))]
/-- the text behind a sign -/
def bodyL (l : List UInt8) : List UInt8 := if l.head? = some 45 then l.tail else l
def signL (l : List UInt8) : Int := if l.head? = some 45 then -1 else 1
def pS (l : List UInt8) : Int := valueS ((splitL 47 (bodyL l)).headD [])
def qS (l : List UInt8) : Int := if (splitL 47 (bodyL l)).length = 2 then valueS ((splitL 47 (bodyL l)).getD 1 []) else 1
def aS (l : List UInt8) : Int := (signL l * (pS l % 55441)) % 55441 * iinv (qS l % 55441) % 55441
/-- the reference's reader -/
def parseS (l : List UInt8) : Int × Int :=
  if 2 < (splitL 47 (bodyL l)).length ∨ pS l < 0 ∨ qS l < 1 ∨ qS l % 55441 = 0 then (0, 6)
  else if txt (aS l) = l then (aS l, 0) else (0, 6)
theorem dec_head (u : Nat) (h : 10 ≤ u) : (decDigits u).head? ≠ some 48 := by
  induction u using Nat.strongRecOn with
  | _ u ih =>
    rw [decDigits, dif_neg (by omega)]
    by_cases h1 : u / 10 < 10
    · rw [decDigits, dif_pos h1]
      simp only [List.cons_append, List.head?_cons, ne_eq, Option.some.injEq]
      intro e
      have := congrArg UInt8.toNat e
      rw [UInt8.toNat_ofNat'] at this
      have h48 : (48 : UInt8).toNat = 48 := rfl
      omega
    · have := ih (u / 10) (by omega) (by omega)
      rw [List.head?_append]
      cases hd : (decDigits (u / 10)).head? with
      | none => rw [List.head?_eq_none_iff] at hd; exact absurd hd (dec_ne _)
      | some c => rw [hd] at this; simpa using this
theorem valueS_dec (u : Nat) (h : u < 1000000000) : valueS (decDigits u) = u := by
  unfold valueS
  have hl := Lib.decDigits_length u
  have hd : Lib.nDigits u ≤ 9 := by
    by_cases hs : 9 < Lib.nDigits u
    · exfalso
      have hgt : ∀ u, 1 ≤ u → 10 ^ (Lib.nDigits u - 1) ≤ u := by
        intro u
        induction u using Nat.strongRecOn with
        | _ u ih =>
          intro hu
          by_cases hx : u < 10
          · rw [Lib.nDigits_small hx]; simpa using hu
          · rw [Lib.nDigits_big hx]
            have h1 := ih (u / 10) (by omega) (by omega)
            have h2 := Lib.nDigits_pos (u / 10)
            obtain ⟨k, hk⟩ : ∃ k, Lib.nDigits (u / 10) = k + 1 := ⟨Lib.nDigits (u / 10) - 1, by omega⟩
            rw [hk] at h1 ⊢
            simp only [Nat.add_sub_cancel] at h1 ⊢
            rw [Nat.pow_succ]
            omega
      have hu : 1 ≤ u := by
        rcases Nat.eq_zero_or_pos u with e | e
        · subst e; rw [Lib.nDigits_small (by omega)] at hs; omega
        · exact e
      have h1 := hgt u hu
      have h2 : 10 ^ 9 ≤ 10 ^ (Lib.nDigits u - 1) := Nat.pow_le_pow_right (by omega) (by omega)
      omega
    · omega
  rw [if_neg, if_pos]
  · rw [valD_dec]
  · rw [List.all_eq_true]
    intro b hb
    have := dec_mem u b hb
    simp [this.1, this.2]
  · rintro (h1 | h1 | ⟨h1, h2⟩)
    · exact dec_ne u h1
    · omega
    · refine dec_head u ?_ h2
      by_cases hx : u < 10
      · rw [hl, Lib.nDigits_small hx] at h1; omega
      · omega
theorem itoa_sign (n : Int) : signL (itoa n) = (if n < 0 then -1 else 1) ∧ bodyL (itoa n) = decDigits n.natAbs := by
  unfold signL bodyL Lib.itoa
  split
  · simp
  · rename_i h
    have hn : n.toNat = n.natAbs := by omega
    have h1 : (decDigits n.toNat).head? ≠ some 45 := by
      intro e
      cases hd : decDigits n.toNat with
      | nil => exact dec_ne _ hd
      | cons c r =>
        rw [hd] at e
        simp only [List.head?_cons, Option.some.injEq] at e
        have := dec_mem n.toNat c (by rw [hd]; simp)
        rw [e] at this
        exact absurd this.1 (by decide)
    rw [if_neg h1, if_neg h1, hn]
    exact ⟨rfl, rfl⟩
theorem bodyL_cons (c : UInt8) (t : List UInt8) : bodyL (c :: t) = if c = 45 then t else c :: t := by
  unfold bodyL
  by_cases h : c = 45
  · subst h; rfl
  · rw [if_neg (by simpa using h), if_neg h]
theorem signL_cons (c : UInt8) (t : List UInt8) : signL (c :: t) = if c = 45 then -1 else 1 := by
  unfold signL
  by_cases h : c = 45
  · subst h; rfl
  · rw [if_neg (by simpa using h), if_neg h]
theorem sign_app (n : Int) (r : List UInt8) : signL (itoa n ++ r) = (if n < 0 then -1 else 1) ∧ bodyL (itoa n ++ r) = decDigits n.natAbs ++ r := by
  have h := itoa_sign n
  cases hi : itoa n with
  | nil =>
    exfalso
    have := h.2
    rw [hi] at this
    exact dec_ne _ this.symm
  | cons c t =>
    rw [hi, bodyL_cons, signL_cons] at h
    show signL (c :: (t ++ r)) = _ ∧ bodyL (c :: (t ++ r)) = _
    rw [bodyL_cons, signL_cons, ← h.2]
    refine ⟨h.1, ?_⟩
    split <;> rfl
theorem dec_no47 (u : Nat) : ∀ b ∈ decDigits u, b ≠ 47 := by
  intro b hb e
  subst e
  exact absurd (dec_mem u _ hb).1 (by decide)
theorem sgn_mod (n : Int) (h : -1000000 ≤ n) (h' : n ≤ 1000000) : ((if n < 0 then -1 else 1) * (((n.natAbs : Nat) : Int) % 55441)) % 55441 = n % 55441 := by
  split <;> omega
theorem parseS_txt (a : Int) (ha : 0 ≤ a) (ha' : a < 55441) : parseS (txt a) = (a, 0) := by
  have key : ∀ n : Int, -1000000 ≤ n → n ≤ 1000000 → txt a = itoa n → n % 55441 = a → parseS (txt a) = (a, 0) := fun n h1 h2 e hf => by
    obtain ⟨e1, e2⟩ := itoa_sign n
    have hs : splitL 47 (bodyL (txt a)) = [decDigits n.natAbs] := by rw [e, e2]; exact splitL_none (dec_no47 _)
    have hp : pS (txt a) = (n.natAbs : Nat) := by unfold pS; rw [hs]; exact valueS_dec _ (by omega)
    have hq : qS (txt a) = 1 := by unfold qS; rw [hs]; simp
    have hA : aS (txt a) = a := by
      unfold aS
      rw [hp, hq, show signL (txt a) = (if n < 0 then -1 else 1) from by rw [e]; exact e1, sgn_mod n h1 h2, hf]
      have h1 := iinv_mul 1 (by omega) (by omega)
      rw [Int.one_mul] at h1
      have h2 := iinv_bd 1
      have h3 : iinv 1 = 1 := by omega
      rw [show (1 : Int) % 55441 = 1 from rfl, h3, Int.mul_one]
      omega
    unfold parseS
    rw [hs, hp, hq, if_neg (by first | (simp; done) | (simp; omega)), hA, if_pos rfl]
  rcases txt_cases a ha ha' with (e | ⟨e, h1, h2⟩) | ⟨q, hq, hq', e, h1, h2⟩
  · exact key a (by omega) (by omega) e (by omega)
  · exact key _ (by omega) (by omega) e (by rw [Fus.cres_mod]; omega)
  · obtain ⟨e1, e2⟩ := sign_app (Fus.cres a q) (47 :: itoa q)
    have eq : itoa q = decDigits q.natAbs := by unfold Lib.itoa; rw [if_neg (by omega)]; congr 1; omega
    have hs : splitL 47 (bodyL (txt a)) = [decDigits (Fus.cres a q).natAbs, decDigits q.natAbs] := by rw [e, e2, splitL_some _ (dec_no47 _), eq, splitL_none (dec_no47 _)]
    have hp : pS (txt a) = ((Fus.cres a q).natAbs : Nat) := by unfold pS; rw [hs]; exact valueS_dec _ (by omega)
    have hqq : qS (txt a) = q := by
      unfold qS
      rw [hs]
      show (if (2 : Nat) = 2 then valueS (decDigits q.natAbs) else 1) = q
      rw [if_pos rfl]
      have : valueS (decDigits q.natAbs) = _ := valueS_dec q.natAbs (by omega)
      omega
    have hA : aS (txt a) = a := by
      unfold aS
      rw [hp, hqq, show signL (txt a) = (if Fus.cres a q < 0 then -1 else 1) from by rw [e]; exact e1, sgn_mod _ (by omega) (by omega)]
      exact quot_short a q ha ha' (by omega) hq'
    unfold parseS
    rw [hs, hp, hqq, if_neg (by first | (simp; done) | (simp; omega)), hA, if_pos rfl]
theorem aS_bd (l : List UInt8) : 0 ≤ aS l ∧ aS l < 55441 := by unfold aS; omega
/-- both readers give the same -/
theorem parse_same (l : List UInt8) : parseS l = parseN l := by
  by_cases h : ∃ a, (0 ≤ a ∧ a < 55441) ∧ txt a = l
  · obtain ⟨a, ⟨h1, h2⟩, rfl⟩ := h
    rw [parseS_txt a h1 h2, parseN_txt a h1 h2]
  · have e1 : parseS l = (0, 6) := by
      unfold parseS
      split
      · rfl
      · split
        · rename_i h2
          exact absurd ⟨_, aS_bd l, h2⟩ h
        · rfl
    have e2 : parseN l = (0, 6) := by
      unfold parseN
      split
      · rename_i h2
        exact absurd ⟨_, parseI_bd l, parseI_ok h2⟩ h
      · rfl
    rw [e1, e2]
end Txt
end Go.Proofs.YtcgmbpkichfalaaDoor
