/- Plain facts: a new volume. -/
import Derived.Test.YtoeiipkikpalaaaPa6
set_option linter.unusedVariables false
set_option linter.unusedSimpArgs false
namespace Go.Proofs.Ytoeiipkikpalaaa
/-- A new volume. -/
def newIts : List It := [⟨keyRaw ⟨1, 1, [], 0⟩, inoB ⟨1, 0, 1, 0, []⟩⟩]
def newS : PSt := ⟨[⟨⟨1, 1, [], 0⟩, inoB ⟨1, 0, 1, 0, []⟩⟩], updF (fun _ => none) 1 (some ⟨1, 0, 1, 0, []⟩), fun _ => none⟩
theorem new_parsed : parKey (keyRaw ⟨1, 1, [], 0⟩) = some ⟨1, 1, [], 0⟩ := by decide +kernel
theorem new_ino : decIno (inoB ⟨1, 0, 1, 0, []⟩) = some ⟨1, 0, 1, 0, []⟩ := by decide +kernel
theorem new_chk : chk newIts = true := by decide +kernel
theorem new_step : pstep PSt.zero ⟨keyRaw ⟨1, 1, [], 0⟩, inoB ⟨1, 0, 1, 0, []⟩⟩ = some newS := by
  unfold pstep
  rw [new_parsed]
  simp only
  rw [if_pos trivial, new_ino]
  rfl
theorem new_at : newS.inoAt 1 = ⟨1, 0, 1, 0, []⟩ := rfl
theorem new_parsed' : parsed newIts = some newS := by
  unfold parsed newIts
  simp only [parseL, new_step]
  rw [if_pos]
  exact ⟨new_chk, by rw [new_at]⟩
theorem new_look : lookOk newS = true := by
  unfold lookOk newS
  simp [fitsB, linkB, updF]
theorem vol_new : vol newIts = some newS := by unfold vol; rw [new_parsed']; simp only; rw [new_look]; rfl
theorem ent_new : entL newIts 1 [97] = 0 := by
  unfold entL
  have h : getL newIts (keyRaw ⟨2, 1, [97], 0⟩) = none := by decide +kernel
  have hk : keyB ⟨2, 1, [97], 0⟩ = some (keyRaw ⟨2, 1, [97], 0⟩) := by decide +kernel
  rw [hk]; simp only; rw [h]; rfl
theorem walk_new : walkN newS newIts true 8 [[97]] 1 = (0, 5) := by
  rw [walkN_cons, if_neg (by rw [new_at]; decide), if_pos ent_new]
theorem ls_new : lsL newS 1 = [] := by decide +kernel
theorem next_new : nextN newS = 2 := by decide +kernel
theorem vol_none : vol [] = none := by decide +kernel
end Go.Proofs.Ytoeiipkikpalaaa
