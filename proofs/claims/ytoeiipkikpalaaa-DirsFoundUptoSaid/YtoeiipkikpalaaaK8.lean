/- Contracts: inode.Decode. -/
import Derived.Test.YtoeiipkikpalaaaK7
import Derived.Test.YtoeiipkikpalaaaPa2
set_option linter.unusedVariables false
set_option linter.unusedSimpArgs false
namespace Go.Proofs.Ytoeiipkikpalaaa
open Go.RowKit
theorem u8_mod (n : Nat) (h : n < 256 ^ 1) : IntKind.u8.wrap (n : Int) = (n : Int) := by rw [IntKind.wrap_u8]; omega
theorem u16_mod (n : Nat) (h : n < 256 ^ 2) : IntKind.u16.wrap (n : Int) = (n : Int) := by rw [IntKind.wrap_u16]; omega
theorem u32_mod (n : Nat) (h : n < 256 ^ 4) : IntKind.u32.wrap (n : Int) = (n : Int) := by rw [IntKind.wrap_u32]; omega
theorem dA_call (s : Bs) (hs : s.length ≤ 1048576) (g : Nat) (w : World) (H : Tkr w g s false) : Calls Try.prog 67 #[.pointer (some ⟨g, 0, none⟩), .int .i64 1] w fun e w' => e = .returned (.int .u64 ((dA s).1 : Nat)) ∧ Tkr w' g (dA s).2.1 (dA s).2.2 ∧ Only g w w' :=
  (tnum_any s false 1 (by omega) (by omega) (by omega) g w H).mono fun _ _ ⟨h1, h2, h3⟩ => ⟨h1, by rw [Bool.false_or] at h2; exact h2, h3⟩
theorem dB_call (s : Bs) (hs : s.length ≤ 1048576) (g : Nat) (w : World) (H : Tkr w g (dA s).2.1 (dA s).2.2) : Calls Try.prog 67 #[.pointer (some ⟨g, 0, none⟩), .int .i64 2] w fun e w' => e = .returned (.int .u64 ((dB s).1 : Nat)) ∧ Tkr w' g (dB s).2.1 ((dA s).2.2 || (dB s).2.2) ∧ Only g w w' :=
  tnum_any (dA s).2.1 _ 2 (by omega) (by omega) (by have := dA_len s; omega) g w H
theorem dC_call (s : Bs) (hs : s.length ≤ 1048576) (g : Nat) (w : World) (H : Tkr w g (dB s).2.1 ((dA s).2.2 || (dB s).2.2)) : Calls Try.prog 67 #[.pointer (some ⟨g, 0, none⟩), .int .i64 4] w fun e w' => e = .returned (.int .u64 ((dC s).1 : Nat)) ∧ Tkr w' g (dC s).2.1 (((dA s).2.2 || (dB s).2.2) || (dC s).2.2) ∧ Only g w w' :=
  tnum_any (dB s).2.1 _ 4 (by omega) (by omega) (by have := dB_len s; omega) g w H
theorem dD_call (s : Bs) (hs : s.length ≤ 1048576) (g : Nat) (w : World) (H : Tkr w g (dC s).2.1 (((dA s).2.2 || (dB s).2.2) || (dC s).2.2)) : Calls Try.prog 67 #[.pointer (some ⟨g, 0, none⟩), .int .i64 4] w fun e w' => e = .returned (.int .u64 ((dD s).1 : Nat)) ∧ Tkr w' g (dD s).2.1 ((((dA s).2.2 || (dB s).2.2) || (dC s).2.2) || (dD s).2.2) ∧ Only g w w' :=
  tnum_any (dC s).2.1 _ 4 (by omega) (by omega) (by have := dC_len s; omega) g w H
theorem dE_call (s : Bs) (hs : s.length ≤ 1048576) (g : Nat) (w : World) (H : Tkr w g (dD s).2.1 ((((dA s).2.2 || (dB s).2.2) || (dC s).2.2) || (dD s).2.2)) : Calls Try.prog 68 #[.pointer (some ⟨g, 0, none⟩)] w fun e w' => e = .returned (.string (str (dE s).1)) ∧ Tkr w' g (dE s).2.1 (decBad s) ∧ Only g w w' := by
  unfold decBad dE
  exact ttext_any (dD s).2.1 _ (by have := dD_len s; omega) g w H
theorem below_only' {B g : Nat} {w w' : World} {a : World} (h : Below B a w) (ho : Only g w w') (hg : B ≤ g) (hB : B ≤ w.heap.size) : Below B a w' := below_only h ho hg hB
def DecOut (s : Bs) (w : World) (e : Ending) (w' : World) : Prop :=
  (match decIno s with
    | some n => e = .returned (.tuple #[.agg #[.int .u8 (n.kind : Nat), .int .u16 (n.mode : Nat), .int .u32 (n.links : Nat), .int .u32 (n.size : Nat), .string (str n.target)], .int .i64 0])
    | none => e = .returned (.tuple #[.agg #[.int .u8 0, .int .u16 0, .int .u32 0, .int .u32 0, .string (str [])], .int .i64 4])) ∧ Below w.heap.size w w'
set_option maxRecDepth 100000 in
set_option maxHeartbeats 4000000 in
theorem decode_any (s : Bs) (hs : s.length ≤ 1048576) (w : World) :
    Calls Try.prog 53 #[.string (str s)] w (DecOut s w) := by
  go_enter Try.func53, Try.ntmps53
  go_wp2_with fail
  have T1 : Tkr ((w.alloc (.cells #[.int .u8 0, .int .u16 0, .int .u32 0, .int .u32 0, .string ⟨#[]⟩] 37)).alloc (.cells #[.string (str s), .bool false] 134)) (w.heap.size + 1) s false := by
    have := Blk.new (w.alloc (.cells #[.int .u8 0, .int .u16 0, .int .u32 0, .int .u32 0, .string ⟨#[]⟩] 37)) #[.string (str s), .bool false] 134
    simpa [Tkr] using this
  have R1 : St w ((w.alloc (.cells #[.int .u8 0, .int .u16 0, .int .u32 0, .int .u32 0, .string ⟨#[]⟩] 37)).alloc (.cells #[.string (str s), .bool false] 134)) w.heap.size #[.int .u8 0, .int .u16 0, .int .u32 0, .int .u32 0, .string ⟨#[]⟩] 37 :=
    ⟨(Blk.new _ _ _).alloc _, below_alloc (below_alloc (Below.refl _ _) _) _⟩
  refine (dA_call s (by omega) _ _ T1).mono ?_
  rintro e w1 ⟨rfl, T2, O1⟩
  have R2 := R1.only O1 (by omega) (by omega)
  clear T1 R1 O1
  have v1 := u8_mod (dA s).1 (tkN_lt _ _)
  have l1 := dA_len s
  go_wp2_with fail
  refine (dB_call s (by omega) _ _ T2).mono ?_
  rintro e w2 ⟨rfl, T3, O2⟩
  have R3 := R2.only O2 (by omega) (by omega)
  clear T2 R2 O2
  have v2 := u16_mod (dB s).1 (tkN_lt _ _)
  have l2 := dB_len s
  go_wp2_with fail
  refine (dC_call s (by omega) _ _ T3).mono ?_
  rintro e w3 ⟨rfl, T4, O3⟩
  have R4 := R3.only O3 (by omega) (by omega)
  clear T3 R3 O3
  have v3 := u32_mod (dC s).1 (tkN_lt _ _)
  have l3 := dC_len s
  go_wp2_with fail
  refine (dD_call s (by omega) _ _ T4).mono ?_
  rintro e w4 ⟨rfl, T5, O4⟩
  have R5 := R4.only O4 (by omega) (by omega)
  clear T4 R4 O4
  have v4 := u32_mod (dD s).1 (tkN_lt _ _)
  have l4 := dD_len s
  go_wp2_with fail
  refine (dE_call s (by omega) _ _ T5).mono ?_
  rintro e w5 ⟨rfl, T6, O5⟩
  have R6 := R5.only O5 (by omega) (by omega)
  clear T5 R5 O5
  have l5 := dE_len s
  have c0 := Blk.cell T6 0
  have c1 := Blk.cell T6 1
  simp at c0 c1
  have hlt := Blk.lt T6
  have e0 : w.heap.size < w5.heap.size := by omega
  have H6 := Lib.hid R6
  have hl5 : (dE s).1.length ≤ 1048576 := by omega
  clear R6 T6 v1 v2 v3 v4 l1 l2 l3 l4 l5
  cases hb : decBad s
  · rw [hb] at c1
    by_cases hl : (dE s).2.1 = []
    · have d1 : ((dE s).2.1 == []) = true := by simp [hl]
      have d2 : (dE s).2.1.isEmpty = true := by simp [hl]
      have hic := icheck_any (dA s).1 (dB s).1 (dC s).1 (dD s).1 (dE s).1 (tkN_lt _ _) (tkN_lt _ _) (tkN_lt _ _) hl5
      cases ho : inoOk (decN s)
      · have hv : decIno s = none := by unfold decIno; rw [hb, hl, ho]; rfl
        rw [show (⟨(dA s).1, (dB s).1, (dC s).1, (dD s).1, (dE s).1⟩ : Ino) = decN s from rfl, inoE_bad ho] at hic
        have Hv := Lib.hid hv
        have Hi := Lib.hid hic
        clear hv hic ho hl hb hl5
        go_wp2_with fail
        refine (Hi.out _).mono ?_
        rintro e w6 ⟨rfl, hb6⟩
        have R7 := (H6.out.alloc _).step hb6
        have r0 := R7.cell 0
        have r1 := R7.cell 1
        have r2 := R7.cell 2
        have r3 := R7.cell 3
        have r4 := R7.cell 4
        have f0 := R7.1.frozen 0
        have f1 := R7.1.frozen 1
        have f2 := R7.1.frozen 2
        have f3 := R7.1.frozen 3
        have f4 := R7.1.frozen 4
        simp at r0 r1 r2 r3 r4
        have H7 := Lib.hid R7
        clear R7
        clear hb6 H6 c0 c1
        go_wp2_with fail
        have hz : w.heap.size ≤ w.heap.size := Nat.le_refl _
        have R8 := ((((H7.out.set hz 0 (.int .u8 0)).set hz 1 (.int .u16 0)).set hz 2 (.int .u32 0)).set hz 3 (.int .u32 0)).set hz 4 (.string ⟨#[]⟩)
        have q0 := R8.cell 0
        have q1 := R8.cell 1
        have q2 := R8.cell 2
        have q3 := R8.cell 3
        have q4 := R8.cell 4
        have hB := R8.2
        clear R8 H7 r0 r1 r2 r3 r4 f0 f1 f2 f3 f4
        revert q0 q1 q2 q3 q4 hB
        generalize (((((w6).setCell { block := w.heap.size, off := 0 } (.int .u8 0)).setCell { block := w.heap.size, off := 1 } (.int .u16 0)).setCell { block := w.heap.size, off := 2 } (.int .u32 0)).setCell { block := w.heap.size, off := 3 } (.int .u32 0)).setCell { block := w.heap.size, off := 4 } (.string ⟨#[]⟩) = W
        intro q0 q1 q2 q3 q4 hB
        simp at q0 q1 q2 q3 q4
        refine bodyPost_ret (v := .tuple #[.agg #[.int .u8 0, .int .u16 0, .int .u32 0, .int .u32 0, .string (str [])], .int .i64 4]) (by simp [results, Try.results53, go_sem, q0, q1, q2, q3, q4]; rfl) rfl ?_
        exact ⟨by rw [Hv.out], hB⟩
      · have hv : decIno s = some (decN s) := by unfold decIno; rw [hb, hl, ho]; rfl
        rw [show (⟨(dA s).1, (dB s).1, (dC s).1, (dD s).1, (dE s).1⟩ : Ino) = decN s from rfl, inoE_ok ho] at hic
        have Hv := Lib.hid hv
        have Hi := Lib.hid hic
        clear hv hic ho hl hb hl5
        go_wp2_with fail
        have hb5 := Blk.new w5 #[.int .u8 ((dA s).1 : Nat), .int .u16 ((dB s).1 : Nat), .int .u32 ((dC s).1 : Nat), .int .u32 ((dD s).1 : Nat), .string (str (dE s).1)] 37
        refine (Hi.out _).mono ?_
        rintro e w6 ⟨rfl, hb6⟩
        have hbk := hb5.below hb6
        have k0 := hbk.cell 0
        have k1 := hbk.cell 1
        have k2 := hbk.cell 2
        have k3 := hbk.cell 3
        have k4 := hbk.cell 4
        simp at k0 k1 k2 k3 k4
        clear hb5 hbk
        have R7 := (H6.out.alloc _).step hb6
        have r0 := R7.cell 0
        have r1 := R7.cell 1
        have r2 := R7.cell 2
        have r3 := R7.cell 3
        have r4 := R7.cell 4
        have f0 := R7.1.frozen 0
        have f1 := R7.1.frozen 1
        have f2 := R7.1.frozen 2
        have f3 := R7.1.frozen 3
        have f4 := R7.1.frozen 4
        simp at r0 r1 r2 r3 r4
        have H7 := Lib.hid R7
        clear R7
        clear hb6 H6 c0 c1
        go_wp2_with fail
        have hz : w.heap.size ≤ w.heap.size := Nat.le_refl _
        have R8 := ((((H7.out.set hz 0 (.int .u8 ((dA s).1 : Nat))).set hz 1 (.int .u16 ((dB s).1 : Nat))).set hz 2 (.int .u32 ((dC s).1 : Nat))).set hz 3 (.int .u32 ((dD s).1 : Nat))).set hz 4 (.string (str (dE s).1))
        have q0 := R8.cell 0
        have q1 := R8.cell 1
        have q2 := R8.cell 2
        have q3 := R8.cell 3
        have q4 := R8.cell 4
        have hB := R8.2
        clear R8 H7 r0 r1 r2 r3 r4 f0 f1 f2 f3 f4
        revert q0 q1 q2 q3 q4 hB
        generalize (((((w6).setCell { block := w.heap.size, off := 0 } (.int .u8 ((dA s).1 : Nat))).setCell { block := w.heap.size, off := 1 } (.int .u16 ((dB s).1 : Nat))).setCell { block := w.heap.size, off := 2 } (.int .u32 ((dC s).1 : Nat))).setCell { block := w.heap.size, off := 3 } (.int .u32 ((dD s).1 : Nat))).setCell { block := w.heap.size, off := 4 } (.string (str (dE s).1)) = W
        intro q0 q1 q2 q3 q4 hB
        simp at q0 q1 q2 q3 q4
        refine bodyPost_ret (v := .tuple #[.agg #[.int .u8 ((dA s).1 : Nat), .int .u16 ((dB s).1 : Nat), .int .u32 ((dC s).1 : Nat), .int .u32 ((dD s).1 : Nat), .string (str (dE s).1)], .int .i64 0]) (by simp [results, Try.results53, go_sem, q0, q1, q2, q3, q4]) rfl ?_
        exact ⟨by rw [Hv.out]; rfl, hB⟩
    · have d1 : ((dE s).2.1 == []) = false := by simp [hl]
      have d2 : (dE s).2.1.isEmpty = false := by simp [hl]
      have hv : decIno s = none := by unfold decIno; rw [hb, if_neg (by decide), if_neg hl]
      have Hv := Lib.hid hv
      clear hv hl hb hl5
      have R6 := H6.out
      have r0 := R6.cell 0
      have r1 := R6.cell 1
      have r2 := R6.cell 2
      have r3 := R6.cell 3
      have r4 := R6.cell 4
      have f0 := R6.1.frozen 0
      have f1 := R6.1.frozen 1
      have f2 := R6.1.frozen 2
      have f3 := R6.1.frozen 3
      have f4 := R6.1.frozen 4
      simp at r0 r1 r2 r3 r4
      have H7 := Lib.hid R6
      clear R6 H6
      go_wp2_with fail
      have hz : w.heap.size ≤ w.heap.size := Nat.le_refl _
      have R8 := (((((H7.out.set hz 0 (.int .u8 0)).set hz 1 (.int .u16 0)).set hz 2 (.int .u32 0)).set hz 3 (.int .u32 0)).set hz 4 (.string ⟨#[]⟩)).alloc (.cells #[.int .u8 ((dA s).1 : Nat), .int .u16 ((dB s).1 : Nat), .int .u32 ((dC s).1 : Nat), .int .u32 ((dD s).1 : Nat), .string (str (dE s).1)] 37)
      have q0 := R8.cell 0
      have q1 := R8.cell 1
      have q2 := R8.cell 2
      have q3 := R8.cell 3
      have q4 := R8.cell 4
      have hB := R8.2
      clear R8 H7 r0 r1 r2 r3 r4 f0 f1 f2 f3 f4
      revert q0 q1 q2 q3 q4 hB
      generalize ((((((w5).setCell { block := w.heap.size, off := 0 } (.int .u8 0)).setCell { block := w.heap.size, off := 1 } (.int .u16 0)).setCell { block := w.heap.size, off := 2 } (.int .u32 0)).setCell { block := w.heap.size, off := 3 } (.int .u32 0)).setCell { block := w.heap.size, off := 4 } (.string ⟨#[]⟩)).alloc (.cells #[.int .u8 ((dA s).1 : Nat), .int .u16 ((dB s).1 : Nat), .int .u32 ((dC s).1 : Nat), .int .u32 ((dD s).1 : Nat), .string (str (dE s).1)] 37) = W
      intro q0 q1 q2 q3 q4 hB
      simp at q0 q1 q2 q3 q4
      refine bodyPost_ret (v := .tuple #[.agg #[.int .u8 0, .int .u16 0, .int .u32 0, .int .u32 0, .string (str [])], .int .i64 4]) (by simp [results, Try.results53, go_sem, q0, q1, q2, q3, q4]; rfl) rfl ?_
      exact ⟨by rw [Hv.out], hB⟩
  · rw [hb] at c1
    have hv : decIno s = none := by unfold decIno; rw [hb]; rfl
    have Hv := Lib.hid hv
    clear hv hb hl5
    have R6 := H6.out
    have r0 := R6.cell 0
    have r1 := R6.cell 1
    have r2 := R6.cell 2
    have r3 := R6.cell 3
    have r4 := R6.cell 4
    have f0 := R6.1.frozen 0
    have f1 := R6.1.frozen 1
    have f2 := R6.1.frozen 2
    have f3 := R6.1.frozen 3
    have f4 := R6.1.frozen 4
    simp at r0 r1 r2 r3 r4
    have H7 := Lib.hid R6
    clear R6 H6
    go_wp2_with fail
    have hz : w.heap.size ≤ w.heap.size := Nat.le_refl _
    have R8 := (((((H7.out.set hz 0 (.int .u8 0)).set hz 1 (.int .u16 0)).set hz 2 (.int .u32 0)).set hz 3 (.int .u32 0)).set hz 4 (.string ⟨#[]⟩)).alloc (.cells #[.int .u8 ((dA s).1 : Nat), .int .u16 ((dB s).1 : Nat), .int .u32 ((dC s).1 : Nat), .int .u32 ((dD s).1 : Nat), .string (str (dE s).1)] 37)
    have q0 := R8.cell 0
    have q1 := R8.cell 1
    have q2 := R8.cell 2
    have q3 := R8.cell 3
    have q4 := R8.cell 4
    have hB := R8.2
    clear R8 H7 r0 r1 r2 r3 r4 f0 f1 f2 f3 f4
    revert q0 q1 q2 q3 q4 hB
    generalize ((((((w5).setCell { block := w.heap.size, off := 0 } (.int .u8 0)).setCell { block := w.heap.size, off := 1 } (.int .u16 0)).setCell { block := w.heap.size, off := 2 } (.int .u32 0)).setCell { block := w.heap.size, off := 3 } (.int .u32 0)).setCell { block := w.heap.size, off := 4 } (.string ⟨#[]⟩)).alloc (.cells #[.int .u8 ((dA s).1 : Nat), .int .u16 ((dB s).1 : Nat), .int .u32 ((dC s).1 : Nat), .int .u32 ((dD s).1 : Nat), .string (str (dE s).1)] 37) = W
    intro q0 q1 q2 q3 q4 hB
    simp at q0 q1 q2 q3 q4
    refine bodyPost_ret (v := .tuple #[.agg #[.int .u8 0, .int .u16 0, .int .u32 0, .int .u32 0, .string (str [])], .int .i64 4]) (by simp [results, Try.results53, go_sem, q0, q1, q2, q3, q4]; rfl) rfl ?_
    exact ⟨by rw [Hv.out], hB⟩
end Go.Proofs.Ytoeiipkikpalaaa
