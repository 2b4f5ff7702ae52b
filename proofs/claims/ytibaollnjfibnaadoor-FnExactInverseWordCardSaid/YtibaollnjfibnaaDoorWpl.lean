/- Words: the plain law. A word is a text of at most 60 of the letters s, t, S, T; its inverse is the text backwards with the letters in the other case; it is reduced by taking away neighbours that are inverse to each other. No condition. -/
import Derived.Lib.SlTrimSet
namespace Go.Proofs.YtibaollnjfibnaaDoor
namespace Wrd

/-- the four letters -/
def isL (b : UInt8) : Bool := [115, 116, 83, 84].contains b
/-- a word -/
def wordB (s : ByteArray) : Bool := decide (s.size ≤ 60) && s.data.toList.all isL
theorem dropWhile_nil_iff {α : Type} {p : α → Bool} : ∀ {l : List α}, l.dropWhile p = [] ↔ l.all p = true
  | [] => by simp
  | a :: l => by
    cases h : p a
    · simp [h]
    · simp only [List.dropWhile_cons, h, if_true, List.all_cons, Bool.true_and]
      exact dropWhile_nil_iff
theorem dropWhile_head {α : Type} {p : α → Bool} : ∀ {l : List α} {a : α} {r : List α}, l.dropWhile p = a :: r → p a = false
  | [], a, r, h => by simp at h
  | b :: l, a, r, h => by
    cases hb : p b
    · simp [hb] at h
      rw [← h.1]; exact hb
    · simp [hb] at h
      exact dropWhile_head h
theorem trim_nil (l cs : List UInt8) : Lib.trimS l cs = [] ↔ l.all (cs.contains ·) = true := by
  unfold Lib.trimS Lib.trimLeftS Lib.trimRightS
  rw [dropWhile_nil_iff]
  constructor
  · intro h
    cases hr : l.reverse.dropWhile (cs.contains ·) with
    | nil =>
      have := dropWhile_nil_iff.1 hr
      simpa using this
    | cons a r =>
      rw [hr] at h
      have h1 := dropWhile_head hr
      simp at h h1
      exact absurd h.2 h1
  · intro h
    have : l.reverse.dropWhile (cs.contains ·) = [] := dropWhile_nil_iff.2 (by simpa using h)
    rw [this]
    rfl
/-- what is left of a text when the letters are trimmed off is empty exactly if all bytes are letters -/
theorem trim_word (s : ByteArray) : (Lib.trimS s.data.toList [115, 116, 83, 84] = []) ↔ s.data.toList.all isL = true := trim_nil _ _
/-- the letter of the inverse -/
def oth (b : UInt8) : UInt8 := if b = 115 then 83 else if b = 116 then 84 else if b = 83 then 115 else 116
theorem isL_cases {b : UInt8} (h : isL b = true) : b = 115 ∨ b = 116 ∨ b = 83 ∨ b = 84 := by
  unfold isL at h
  simpa using h
/-- the inverse -/
def invL (l : List UInt8) : List UInt8 := l.reverse.map oth
/-- a step of the reduction -/
def redStep (out : List UInt8) (c : UInt8) : List UInt8 := if out.getLast? = some (oth c) then out.dropLast else out ++ [c]
def redL (l : List UInt8) : List UInt8 := l.foldl redStep []
theorem redStep_len (out : List UInt8) (c : UInt8) : (redStep out c).length ≤ out.length + 1 := by
  unfold redStep
  split
  · simp; omega
  · simp
theorem foldl_take_succ (l : List UInt8) (k : Nat) (c : UInt8) (h : l[k]? = some c) : (l.take (k + 1)).foldl redStep [] = redStep ((l.take k).foldl redStep []) c := by
  rw [List.take_add_one, h]
  simp
theorem redStep_mem {out : List UInt8} {c : UInt8} (h : ∀ b ∈ out, isL b = true) (hc : isL c = true) : ∀ b ∈ redStep out c, isL b = true := by
  unfold redStep
  split
  · exact fun b hb => h b (List.dropLast_subset _ hb)
  · intro b hb
    rcases List.mem_append.1 hb with hb | hb
    · exact h b hb
    · simp at hb; subst hb; exact hc
theorem fold_len (l : List UInt8) : ∀ out, (l.foldl redStep out).length ≤ out.length + l.length := by
  induction l with
  | nil => intro out; simp
  | cons a l ih =>
    intro out
    have h1 := ih (redStep out a)
    have h2 := redStep_len out a
    simp only [List.foldl_cons, List.length_cons]
    omega
end Wrd
end Go.Proofs.YtibaollnjfibnaaDoor
