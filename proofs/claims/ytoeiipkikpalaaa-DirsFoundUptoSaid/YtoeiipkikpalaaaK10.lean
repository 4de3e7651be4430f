/- Contracts: inode.Key, a key's bytes. -/
import Derived.Test.YtoeiipkikpalaaaK9
set_option linter.unusedVariables false
set_option linter.unusedSimpArgs false
namespace Go.Proofs.Ytoeiipkikpalaaa
open Go.RowKit
theorem key_bad (k ino ch : Nat) (nm : Bs) (hk : k < 256) (hi : ino < 4294967296) (hc : ch < 4294967296) (hn : nm.length ≤ 1048576) (ho : keyOk ⟨k, ino, nm, ch⟩ = false) (w : World) :
    Calls Try.prog 20 #[.agg #[.int .u8 (k : Nat), .int .u32 (ino : Nat), .string (str nm), .int .u32 (ch : Nat)]] w fun e w' => e = .returned (.tuple #[.string (str []), .int .i64 4]) ∧ Below w.heap.size w w' := by
  have hr := key_right k ino ch nm hk hi hc hn
  rw [ho] at hr
  have Hr := Lib.hid hr
  clear hr ho
  go_enter Try.func20, Try.ntmps20
  go_wp2_with fail
  refine (Hr.out _).mono ?_
  rintro e w1 ⟨rfl, hb⟩
  have hB := below_step (below_alloc (Below.refl _ _) _) hb
  clear hb
  go_wp2_with fail
  go_ret2
  exact ⟨rfl, hB⟩
set_option maxRecDepth 100000 in
theorem key_ok (k ino ch : Nat) (nm : Bs) (hk : k < 256) (hi : ino < 4294967296) (hc : ch < 4294967296) (hn : nm.length ≤ 1048576) (ho : keyOk ⟨k, ino, nm, ch⟩ = true) (w : World) :
    Calls Try.prog 20 #[.agg #[.int .u8 (k : Nat), .int .u32 (ino : Nat), .string (str nm), .int .u32 (ch : Nat)]] w fun e w' => e = .returned (.tuple #[.string (str (keyRaw ⟨k, ino, nm, ch⟩)), .int .i64 0]) ∧ Below w.heap.size w w' := by
  have hr := key_right k ino ch nm hk hi hc hn
  rw [ho] at hr
  have Hr := Lib.hid hr
  have Ho := Lib.hid ho
  clear hr ho
  obtain ⟨g, hg⟩ : ∃ g, g = w.heap.size := ⟨_, rfl⟩
  have Hg := Lib.hid hg
  have S1 := fun W hb => (St.new w #[.int .u8 (k : Nat), .int .u32 (ino : Nat), .string (str nm), .int .u32 (ch : Nat)] 58).step (W' := W) hb
  have HS1 := Lib.hid S1
  clear S1 hg
  go_enter Try.func20, Try.ntmps20
  go_wp2_with fail
  refine (Hr.out _).mono ?_
  rintro e w1 ⟨rfl, hb⟩
  have S1 := HS1.out w1 hb
  rw [← Hg.out] at S1
  rw [← Hg.out]
  clear hb Hr
  have c0 := S1.cell 0
  have c1 := S1.cell 1
  simp at c0 c1
  go_wp2_with fail
  refine (prefix_any k ino hk hi _).mono ?_
  rintro e w2 ⟨rfl, hb⟩
  have S2 := S1.step hb
  clear S1 c0 c1 hb
  have c0 := S2.cell 0
  have c2 := S2.cell 2
  have c3 := S2.cell 3
  simp at c0 c2 c3
  have hpl : (prefixB k ino).length ≤ 5 := by unfold prefixB; split <;> simp [be_length]
  by_cases h3 : k = 3
  · subst h3
    have Hv := Lib.hid (show keyRaw ⟨3, ino, nm, ch⟩ = prefixB 3 ino ++ be 4 ch from rfl)
    have hu : IntKind.u64.wrap (ch : Int) = (ch : Int) := by rw [IntKind.wrap_u64]; omega
    go_wp2_with fail
    refine (inum_4 ch hc _).mono ?_
    rintro e w3 ⟨rfl, hb⟩
    have S3 := S2.step hb
    clear c0 c2 c3 S2 hb
    go_wp2_with fail
    go_ret2
    exact ⟨by rw [Hv.out]; rfl, S3.2⟩
  · have Hv := Lib.hid (show keyRaw ⟨k, ino, nm, ch⟩ = prefixB k ino ++ nm by unfold keyRaw; rw [if_neg h3])
    go_wp2_with fail
    go_ret2
    exact ⟨by rw [Hv.out]; rfl, S2.2⟩
end Go.Proofs.Ytoeiipkikpalaaa
