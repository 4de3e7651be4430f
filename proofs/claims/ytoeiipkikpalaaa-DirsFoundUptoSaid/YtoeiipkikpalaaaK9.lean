/- Contracts: whether a key is right; a key's bytes. -/
import Derived.Test.YtoeiipkikpalaaaO3
set_option linter.unusedVariables false
set_option linter.unusedSimpArgs false
namespace Go.Proofs.Ytoeiipkikpalaaa
open Go.RowKit
theorem ret_bool {a b : Bool} (h : a = b) : Ending.returned (.bool a) = .returned (.bool b) := by rw [h]
set_option maxRecDepth 100000 in
theorem key_right (k ino ch : Nat) (nm : Bs) (hk : k < 256) (hi : ino < 4294967296) (hc : ch < 4294967296) (hn : nm.length ≤ 1048576) (w : World) :
    Calls Try.prog 28 #[.agg #[.int .u8 (k : Nat), .int .u32 (ino : Nat), .string (str nm), .int .u32 (ch : Nat)]] w fun e w' => e = .returned (.bool (keyOk ⟨k, ino, nm, ch⟩)) ∧ Below w.heap.size w w' := by
  by_cases h1 : k = 1
  · subst h1
    go_enter Try.func28, Try.ntmps28
    go_wp2_with fail
    all_goals
      go_ret
      refine ⟨ret_bool ?_, (Below.refl _ _).alloc (Nat.le_refl _) _⟩
      try simp [keyOk]
      first | done | (simp_all; done) | (rw [Bool.eq_iff_iff]; simp_all; done) | (rw [Bool.eq_iff_iff]; simp_all; omega) | (simp_all; omega)
  · by_cases h3 : k = 3
    · subst h3
      go_enter Try.func28, Try.ntmps28
      go_wp2_with fail
      all_goals
        go_ret
        refine ⟨ret_bool ?_, (Below.refl _ _).alloc (Nat.le_refl _) _⟩
        try simp [keyOk]
        first | done | (simp_all; done) | (rw [Bool.eq_iff_iff]; simp_all; done) | (rw [Bool.eq_iff_iff]; simp_all; omega) | (simp_all; omega)
    · by_cases h24 : k = 2 ∨ k = 4
      · have hv : keyOk ⟨k, ino, nm, ch⟩ = (decide (0 < ino) && nameOk nm && decide (ch = 0)) := by
          rcases h24 with rfl | rfl <;> rfl
        have Hv := Lib.hid hv
        clear hv
        have hnm := name_any nm (by omega)
        cases hN : nameOk nm
        all_goals
          rw [hN] at hnm
          have HN := Lib.hid hN
          have Hn := Lib.hid hnm
          clear hN hnm
          rcases h24 with rfl | rfl
          all_goals
            go_enter Try.func28, Try.ntmps28
            go_wp2_with (go_at_call 42; refine (Hn.out _).mono ?_; rintro e w' ⟨rfl, n, rfl⟩)
            all_goals
              go_ret
              refine ⟨ret_bool ?_, by repeat (first | exact Below.refl _ _ | apply below_drewN | apply below_alloc)⟩
              rw [Hv.out, HN.out]
              try simp
              first | done | (simp_all; done) | (rw [Bool.eq_iff_iff]; simp_all; done) | (rw [Bool.eq_iff_iff]; simp_all; omega) | (simp_all; omega)
      · have hv : keyOk ⟨k, ino, nm, ch⟩ = false := by
          unfold keyOk; dsimp only; split <;> first | rfl | omega
        have Hv := Lib.hid hv
        have h2 : ¬ k = 2 := fun h => h24 (.inl h)
        have h4 : ¬ k = 4 := fun h => h24 (.inr h)
        clear hv h24
        go_enter Try.func28, Try.ntmps28
        go_wp2_with fail
        go_ret
        exact ⟨by rw [Hv.out]; rfl, (Below.refl _ _).alloc (Nat.le_refl _) _⟩
end Go.Proofs.Ytoeiipkikpalaaa
