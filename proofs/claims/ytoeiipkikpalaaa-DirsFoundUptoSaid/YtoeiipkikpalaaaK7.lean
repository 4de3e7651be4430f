/- Contracts: inode.Encode, Decode. -/
import Derived.Test.YtoeiipkikpalaaaK6
import Derived.Deep.RegionHeld3
set_option linter.unusedVariables false
set_option linter.unusedSimpArgs false
namespace Go.Proofs.Ytoeiipkikpalaaa
open Go.RowKit
theorem inum_1 (n : Nat) (hn : n < 256) (w : World) : Calls Try.prog 30 #[.int .u64 (n : Int), .int .i64 1] w fun e w' => e = .returned (.string (str (be 1 n))) ∧ Below w.heap.size w w' := inum_any n 1 (.inl rfl) hn w
theorem inum_2 (n : Nat) (hn : n < 65536) (w : World) : Calls Try.prog 30 #[.int .u64 (n : Int), .int .i64 2] w fun e w' => e = .returned (.string (str (be 2 n))) ∧ Below w.heap.size w w' := inum_any n 2 (.inr (.inl rfl)) hn w
theorem inum_4 (n : Nat) (hn : n < 4294967296) (w : World) : Calls Try.prog 30 #[.int .u64 (n : Int), .int .i64 4] w fun e w' => e = .returned (.string (str (be 4 n))) ∧ Below w.heap.size w w' := inum_any n 4 (.inr (.inr rfl)) hn w
/-- An inode's numbers fit their widths. -/
def InoFits (n : Ino) : Prop := n.kind < 256 ∧ n.mode < 65536 ∧ n.links < 4294967296 ∧ n.size < 4294967296 ∧ n.target.length ≤ 1048576
set_option maxRecDepth 100000 in
set_option maxHeartbeats 1000000 in
theorem encode_ok (k m ln sz : Nat) (t : Bs) (hf : InoFits ⟨k, m, ln, sz, t⟩) (ho : inoOk ⟨k, m, ln, sz, t⟩ = true) (w : World) :
    Calls Try.prog 21 #[.agg #[.int .u8 (k : Nat), .int .u16 (m : Nat), .int .u32 (ln : Nat), .int .u32 (sz : Nat), .string (str t)]] w fun e w' => e = .returned (.tuple #[.string (str (inoB ⟨k, m, ln, sz, t⟩)), .int .i64 0]) ∧ Below w.heap.size w w' := by
  obtain ⟨h1, h2, h3, h4, h5⟩ := hf
  have hc := icheck_any k m ln sz t h1 h3 h4 h5
  rw [inoE_ok ho] at hc
  have Hc := Lib.hid hc
  have htl : t.length < 65536 := by
    unfold inoOk at ho
    dsimp only at ho h5
    split at ho <;> simp at ho
    · rw [ho.2]; decide
    · rw [ho.2]; decide
    · omega
  clear hc
  have Ho := Lib.hid ho
  clear ho
  go_enter Try.func21, Try.ntmps21
  go_wp2_with fail
  refine (Hc.out _).mono ?_
  rintro e w1 ⟨rfl, hb1⟩
  obtain ⟨g, hg⟩ : ∃ g, g = w.heap.size := ⟨_, rfl⟩
  have S1 := (St.new w #[.int .u8 (k : Nat), .int .u16 (m : Nat), .int .u32 (ln : Nat), .int .u32 (sz : Nat), .string (str t)] 37).step hb1
  rw [← hg] at S1
  rw [← hg]
  clear hb1 Hc hg
  have c4 := S1.cell 4
  simp at c4
  go_wp2_with fail
  refine (text_any t htl _).mono ?_
  rintro e w2 ⟨rfl, hb2⟩
  have S2 := S1.step hb2
  clear hb2 c4 S1
  have S3 := S2.drew
  have c0 := S2.cell 0
  have c1 := S2.cell 1
  have c2 := S2.cell 2
  have c3 := S2.cell 3
  simp at c0 c1 c2 c3
  have hlen : ¬ (9223372036854775807 < 11 + (2 + t.length)) := by omega
  have v1 : IntKind.u64.wrap (k : Int) = (k : Int) := by rw [IntKind.wrap_u64]; omega
  have v2 : IntKind.u64.wrap (m : Int) = (m : Int) := by rw [IntKind.wrap_u64]; omega
  have v3 : IntKind.u64.wrap (ln : Int) = (ln : Int) := by rw [IntKind.wrap_u64]; omega
  have v4 : IntKind.u64.wrap (sz : Int) = (sz : Int) := by rw [IntKind.wrap_u64]; omega
  go_wp2_with fail
  go_region_held3 (fun w' => w'.cell? ⟨g, 0, none⟩ = some (.int .u8 (k : Nat)) ∧ w'.cell? ⟨g, 1, none⟩ = some (.int .u16 (m : Nat)) ∧ w'.cell? ⟨g, 2, none⟩ = some (.int .u32 (ln : Nat)) ∧ w'.cell? ⟨g, 3, none⟩ = some (.int .u32 (sz : Nat))) (exact ⟨by assumption, by assumption, by assumption, by assumption⟩)
    (first | (go_at_call 30; (first | (with_reducible refine (inum_1 k h1 _).mono ?_) | (with_reducible refine (inum_2 m h2 _).mono ?_) | (with_reducible refine (inum_4 ln h3 _).mono ?_) | (with_reducible refine (inum_4 sz h4 _).mono ?_)); rintro e w' ⟨rfl, hb⟩; have hS := St.step (by assumption) hb; have q0 := hS.cell 0; have q1 := hS.cell 1; have q2 := hS.cell 2; have q3 := hS.cell 3; simp at q0 q1 q2 q3; clear hb))
  go_wp2
  go_ret2
  exact ⟨by simp [inoB, List.append_assoc], (show St w _ g _ _ from by assumption).2⟩
end Go.Proofs.Ytoeiipkikpalaaa
