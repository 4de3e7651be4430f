/- Contracts: inode.Check, Encode, Decode. -/
import Derived.Test.YtoeiipkikpalaaaK3
import Derived.Test.YtoeiipkikpalaaaB2
set_option linter.unusedVariables false
set_option linter.unusedSimpArgs false
namespace Go.Proofs.Ytoeiipkikpalaaa
open Go.RowKit
theorem ret_i64 {a b : Int} (h : a = b) : Ending.returned (.int .i64 a) = .returned (.int .i64 b) := by rw [h]
def inoE (n : Ino) : Int := if inoOk n then 0 else 4
theorem inoE_ok {n : Ino} (h : inoOk n = true) : inoE n = 0 := by unfold inoE; rw [if_pos h]
theorem inoE_bad {n : Ino} (h : inoOk n = false) : inoE n = 4 := by unfold inoE; rw [if_neg (by rw [h]; decide)]
set_option maxRecDepth 100000 in
theorem icheck_any (k m ln sz : Nat) (t : Bs) (hk : k < 256) (hl : ln < 4294967296) (hs : sz < 4294967296) (ht : t.length ≤ 1048576) (w : World) :
    Calls Try.prog 31 #[.agg #[.int .u8 (k : Nat), .int .u16 (m : Nat), .int .u32 (ln : Nat), .int .u32 (sz : Nat), .string (str t)]] w fun e w' => e = .returned (.int .i64 (inoE ⟨k, m, ln, sz, t⟩)) ∧ Below w.heap.size w w' := by
  by_cases h1 : k = 1
  · subst h1
    go_enter Try.func31, Try.ntmps31
    go_wp2_with fail
    all_goals
      go_ret
      refine ⟨ret_i64 ?_, (Below.refl _ _).alloc (Nat.le_refl _) _⟩
      first
      | (refine (inoE_ok ?_).symm; simp [inoOk]; simp_all; done)
      | (refine (inoE_ok ?_).symm; simp [inoOk]; simp_all; omega)
      | (refine (inoE_bad ?_).symm; simp [inoOk]; simp_all; done)
      | (refine (inoE_bad ?_).symm; simp [inoOk]; simp_all; omega)
      | (refine (inoE_bad ?_).symm; simp [inoOk]; omega)
  · by_cases h2 : k = 2
    · subst h2
      go_enter Try.func31, Try.ntmps31
      go_wp2_with fail
      all_goals
        go_ret
        refine ⟨ret_i64 ?_, (Below.refl _ _).alloc (Nat.le_refl _) _⟩
        first
        | (refine (inoE_ok ?_).symm; simp [inoOk]; simp_all; done)
        | (refine (inoE_ok ?_).symm; simp [inoOk]; simp_all; omega)
        | (refine (inoE_bad ?_).symm; simp [inoOk]; simp_all; done)
        | (refine (inoE_bad ?_).symm; simp [inoOk]; simp_all; omega)
        | (refine (inoE_bad ?_).symm; simp [inoOk]; omega)
    · by_cases h3 : k = 3
      · subst h3
        cases hz : t.contains 0
        all_goals
          have Hz := Lib.hid hz
          clear hz
          go_enter Try.func31, Try.ntmps31
          go_wp2_with ((go_at_call 47; refine (contains_any t 0 _).mono ?_; rintro e w' ⟨rfl, rfl⟩; rw [Hz.out]))
          all_goals
            go_ret
            refine ⟨ret_i64 ?_, (Below.refl _ _).alloc (Nat.le_refl _) _⟩
            have hz := Hz.out
            clear Hz
            first
            | (refine (inoE_bad ?_).symm; simp [inoOk]; simp_all; done)
            | (refine (inoE_bad ?_).symm; simp [inoOk]; simp_all; omega)
            | (refine (inoE_bad ?_).symm; simp [inoOk]; omega)
            | (refine (inoE_ok ?_).symm; simp only [inoOk, hz]; simp_all; done)
            | (refine (inoE_ok ?_).symm; simp only [inoOk, hz]; simp_all; omega)
      · go_enter Try.func31, Try.ntmps31
        go_wp2_with fail
        go_ret
        refine ⟨ret_i64 ((inoE_bad ?_).symm), (Below.refl _ _).alloc (Nat.le_refl _) _⟩
        unfold inoOk
        split <;> simp_all
end Go.Proofs.Ytoeiipkikpalaaa
