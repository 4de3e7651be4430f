/- Plain facts on inodes' bytes. -/
import Derived.Test.YtoeiipkikpalaaaPa
set_option linter.unusedVariables false
set_option linter.unusedSimpArgs false
namespace Go.Proofs.Ytoeiipkikpalaaa
/-- An inode as inode.Decode takes it, number by number. -/
def dA (s : Bs) := tkN s 1
def dB (s : Bs) := tkN (dA s).2.1 2
def dC (s : Bs) := tkN (dB s).2.1 4
def dD (s : Bs) := tkN (dC s).2.1 4
def dE (s : Bs) := tkT (dD s).2.1
def decN (s : Bs) : Ino := ⟨(dA s).1, (dB s).1, (dC s).1, (dD s).1, (dE s).1⟩
def decBad (s : Bs) : Bool := ((((dA s).2.2 || (dB s).2.2) || (dC s).2.2) || (dD s).2.2) || (dE s).2.2
def decIno (s : Bs) : Option Ino := if decBad s then none else if (dE s).2.1 = [] then (if inoOk (decN s) then some (decN s) else none) else none
theorem dA_len (s : Bs) : (dA s).2.1.length ≤ s.length := tkN_len s 1
theorem dB_len (s : Bs) : (dB s).2.1.length ≤ s.length := Nat.le_trans (tkN_len _ 2) (dA_len s)
theorem dC_len (s : Bs) : (dC s).2.1.length ≤ s.length := Nat.le_trans (tkN_len _ 4) (dB_len s)
theorem dD_len (s : Bs) : (dD s).2.1.length ≤ s.length := Nat.le_trans (tkN_len _ 4) (dC_len s)
theorem dE_len (s : Bs) : (dE s).1.length ≤ s.length := Nat.le_trans (tkT_len1 _) (dD_len s)
/-- A key as inode.Parse takes it. -/
def pA (s : Bs) := tkN s.tail 4
def pB (s : Bs) := tkN (pA s).2.1 4
def parN (s : Bs) : Ky := if kindOf (bt s 0) = 3 then ⟨3, (pA s).1, [], (pB s).1⟩ else ⟨kindOf (bt s 0), (pA s).1, (pA s).2.1, 0⟩
def parBad (s : Bs) : Bool := if kindOf (bt s 0) = 3 then (pA s).2.2 || (pB s).2.2 else (pA s).2.2
def parKey (s : Bs) : Option Ky := if s.length < 5 then none else if parBad s then none else if keyOk (parN s) then (if keyRaw (parN s) = s then some (parN s) else none) else none
/-- The kind that is found of a letter, when the kinds below j were looked at. -/
def kk (c : UInt8) (j : Nat) : Nat := if kindOf c < j then kindOf c else 0
theorem kindOf_lt (c : UInt8) : kindOf c < 5 := by unfold kindOf; repeat (split; · omega)
                                                   omega
theorem kindOf_iff (c : UInt8) (j : Nat) (h1 : 1 ≤ j) (h4 : j ≤ 4) : letterOf j = c ↔ kindOf c = j := by
  have h : j = 1 ∨ j = 2 ∨ j = 3 ∨ j = 4 := by omega
  unfold kindOf
  rcases h with rfl | rfl | rfl | rfl <;> simp only [letterOf] <;> constructor <;> intro h
  all_goals first | (subst h; decide) | (revert h; repeat' split) <;> simp_all
theorem kk_hit {c : UInt8} {j : Nat} (h1 : 1 ≤ j) (h4 : j ≤ 4) (h : letterOf j = c) : kk c (j + 1) = j := by
  have := (kindOf_iff c j h1 h4).1 h
  unfold kk; rw [this]; simp
theorem kk_miss {c : UInt8} {j : Nat} (h1 : 1 ≤ j) (h4 : j ≤ 4) (h : ¬ letterOf j = c) : kk c (j + 1) = kk c j := by
  have h2 : kindOf c ≠ j := fun e => h ((kindOf_iff c j h1 h4).2 e)
  unfold kk
  by_cases h3 : kindOf c < j
  · rw [if_pos (by omega), if_pos h3]
  · rw [if_neg (by omega), if_neg h3]
theorem kk_end (c : UInt8) : kk c 5 = kindOf c := by unfold kk; rw [if_pos (kindOf_lt c)]
theorem kk_one (c : UInt8) : kk c 1 = 0 := by unfold kk; split <;> omega
theorem kk_lt (c : UInt8) (j : Nat) : kk c j < 5 := by unfold kk; have := kindOf_lt c; split <;> omega
end Go.Proofs.Ytoeiipkikpalaaa
