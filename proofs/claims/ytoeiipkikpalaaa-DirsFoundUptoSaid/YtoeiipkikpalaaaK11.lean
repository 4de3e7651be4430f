/- Contracts: inode.Parse. -/
import Derived.Test.YtoeiipkikpalaaaK10
import Derived.Test.YtoeiipkikpalaaaK8
set_option linter.unusedVariables false
set_option linter.unusedSimpArgs false
namespace Go.Proofs.Ytoeiipkikpalaaa
open Go.RowKit
def kyA (k : Ky) : Array Value := #[.int .u8 (k.kind : Nat), .int .u32 (k.ino : Nat), .string (str k.name), .int .u32 (k.chunk : Nat)]
def ParOut (s : Bs) (w : World) (e : Ending) (w' : World) : Prop :=
  (match parKey s with
    | some k => e = .returned (.tuple #[.agg #[.int .u8 (k.kind : Nat), .int .u32 (k.ino : Nat), .string (str k.name), .int .u32 (k.chunk : Nat)], .int .i64 0])
    | none => e = .returned (.tuple #[.agg #[.int .u8 0, .int .u32 0, .string (str []), .int .u32 0], .int .i64 4])) ∧ Below w.heap.size w w'
/-- The blocks of Parse: the result, the letters, the key. -/
def ParSt (w W : World) (k : Nat) (b : Bool) : Prop :=
  St w W w.heap.size #[.int .u8 0, .int .u32 0, .string ⟨#[]⟩, .int .u32 0] 58 ∧ LS W (w.heap.size + 1) b ∧ Blk W (w.heap.size + 1 + 1) #[.int .u8 (k : Nat), .int .u32 0, .string ⟨#[]⟩, .int .u32 0] 58
theorem ParSt.letter {w W W' : World} {k : Nat} {b b' : Bool} (h : ParSt w W k b) (hl : LS W' (w.heap.size + 1) b') (ho : Only (w.heap.size + 1) W W') : ParSt w W' k b' :=
  ⟨h.1.only ho (by omega) (by omega), hl, h.2.2.only ho (by omega)⟩
theorem ParSt.drew {w W : World} {k : Nat} {b : Bool} (h : ParSt w W k b) : ParSt w W.drew k b := ⟨h.1.drew, Blk.drew h.2.1, h.2.2.drew⟩
theorem ParSt.drewN {w W : World} {k : Nat} {b : Bool} (h : ParSt w W k b) (n : Nat) : ParSt w (W.drewN n) k b := ⟨h.1.drewN n, Blk.drewN h.2.1 n, h.2.2.drewN n⟩
theorem ParSt.kind {w W : World} {k : Nat} {b : Bool} (h : ParSt w W k b) (j : Nat) : ParSt w (W.setCell ⟨w.heap.size + 1 + 1, 0, none⟩ (.int .u8 (j : Nat))) j b := by
  have ho := (Only.refl (w.heap.size + 1 + 1) W).set 0 (.int .u8 (j : Nat))
  exact ⟨h.1.only ho (by omega) (by omega), Blk.only h.2.1 ho (by omega), h.2.2.set 0 _⟩
theorem pA_call (s : Bs) (hs : s.length ≤ 1048576) (g : Nat) (w : World) (H : Tkr w g s.tail false) : Calls Try.prog 67 #[.pointer (some ⟨g, 0, none⟩), .int .i64 4] w fun e w' => e = .returned (.int .u64 ((pA s).1 : Nat)) ∧ Tkr w' g (pA s).2.1 (pA s).2.2 ∧ Only g w w' :=
  (tnum_any s.tail false 4 (by omega) (by omega) (by simp; omega) g w H).mono fun _ _ ⟨h1, h2, h3⟩ => ⟨h1, by rw [Bool.false_or] at h2; exact h2, h3⟩
theorem pA_len (s : Bs) : (pA s).2.1.length ≤ s.length := Nat.le_trans (tkN_len _ 4) (by simp)
theorem pB_call (s : Bs) (hs : s.length ≤ 1048576) (g : Nat) (w : World) (H : Tkr w g (pA s).2.1 (pA s).2.2) : Calls Try.prog 67 #[.pointer (some ⟨g, 0, none⟩), .int .i64 4] w fun e w' => e = .returned (.int .u64 ((pB s).1 : Nat)) ∧ Tkr w' g (pB s).2.1 ((pA s).2.2 || (pB s).2.2) ∧ Only g w w' :=
  tnum_any (pA s).2.1 _ 4 (by omega) (by omega) (by have := pA_len s; omega) g w H
theorem par_short (s : Bs) (hs : s.length < 5) (w : World) : Calls Try.prog 52 #[.string (str s)] w (ParOut s w) := by
  have Hv := Lib.hid (show parKey s = none by unfold parKey; rw [if_pos hs])
  go_enter Try.func52, Try.ntmps52
  go_wp2_with fail
  refine bodyPost_ret (v := .tuple #[.agg #[.int .u8 0, .int .u32 0, .string (str []), .int .u32 0], .int .i64 4]) (by simp [results, Try.results52, go_sem]; rfl) rfl ?_
  exact ⟨by rw [Hv.out], below_alloc (Below.refl _ _) _⟩
set_option maxRecDepth 100000 in
set_option maxHeartbeats 8000000 in
theorem par_long (s : Bs) (h5 : ¬ s.length < 5) (hs : s.length ≤ 1048576) (w : World) : Calls Try.prog 52 #[.string (str s)] w (ParOut s w) := by
  have S0 : ParSt w (((w.alloc (.cells #[.int .u8 0, .int .u32 0, .string ⟨#[]⟩, .int .u32 0] 58)).alloc (.cells #[.int .u32 0, .int .i32 0, .int .u32 0, .int .u8 0, .int .u8 0, .int .u8 0, .int .u8 0, .int .u8 0] 110)).alloc (.cells #[.int .u8 0, .int .u32 0, .string ⟨#[]⟩, .int .u32 0] 58)) 0 false := by
    refine ⟨((St.new w _ _).alloc _).alloc _, ?_, ?_⟩
    · have := (Blk.new (w.alloc (.cells #[.int .u8 0, .int .u32 0, .string ⟨#[]⟩, .int .u32 0] 58)) #[.int .u32 0, .int .i32 0, .int .u32 0, .int .u8 0, .int .u8 0, .int .u8 0, .int .u8 0, .int .u8 0] 110).alloc (.cells #[.int .u8 0, .int .u32 0, .string ⟨#[]⟩, .int .u32 0] 58)
      simpa [LS] using this
    · have := Blk.new ((w.alloc (.cells #[.int .u8 0, .int .u32 0, .string ⟨#[]⟩, .int .u32 0] 58)).alloc (.cells #[.int .u32 0, .int .i32 0, .int .u32 0, .int .u8 0, .int .u8 0, .int .u8 0, .int .u8 0, .int .u8 0] 110)) #[.int .u8 0, .int .u32 0, .string ⟨#[]⟩, .int .u32 0] 58
      simpa using this
  have HS0 := Lib.hid S0
  clear S0
  obtain ⟨c, hc⟩ : ∃ c, c = bt s 0 := ⟨_, rfl⟩
  have Hc := Lib.hid hc
  clear hc
  go_enter Try.func52, Try.ntmps52
  go_wp2_with fail
  go_loopw [6] (fun t wr => ∃ (j : Nat) (b : Bool), t = .int .u8 (j : Nat) ∧ 1 ≤ j ∧ j ≤ 5 ∧ Hid (ParSt w wr (kk c j) b)) (fun t _ => 5 - (intOf t).toNat)
  case atStart => exact ⟨1, false, rfl, by omega, by omega, Lib.hid (by rw [kk_one]; exact HS0.out)⟩
  case round =>
    clear HS0
    obtain ⟨j, b, rfl, h1, hj, hS⟩ := hrel
    by_cases hlt : j < 5
    · by_cases hL : letterOf j = c
      · have hkk := kk_hit (c := c) h1 (by omega) hL
        have Hkk := Lib.hid hkk
        have hlet := fun W b H => letter_any (w.heap.size + 1) W b j (by omega) H
        rw [hL] at hlet
        have Hlet := Lib.hid hlet
        have hidx : ((bt s 0).toNat : Int) = (c.toNat : Int) := by rw [Hc.out]
        clear hL hkk hlet
        go_wp2_with fail
        go_region_with (first | (go_at_call 45; refine (Hlet.out _ b hS.out.drew.2.1).mono ?_; rintro e w' ⟨rfl, hl, ho⟩))
        all_goals
          have hS2 := hS.out.drew.letter hl ho
          have k0 := hS2.2.2.cell 0
          have z0 := hS2.2.2.frozen 0
          simp at k0
          have HS2 := Lib.hid hS2
          clear hl ho hS2
          go_wp2_with fail
          go_roundw
          case rel => exact ⟨j + 1, true, by go_num, by omega, by omega, Lib.hid (by rw [Hkk.out]; exact HS2.out.kind j)⟩
          case measure => simp [intOf]; omega
      · have hkk := kk_miss (c := c) h1 (by omega) hL
        have Hkk := Lib.hid hkk
        have hlet := fun W b H => letter_any (w.heap.size + 1) W b j (by omega) H
        have Hlet := Lib.hid hlet
        have hne : ¬ ((letterOf j).toNat : Int) = ((bt s 0).toNat : Int) := by
          rw [← Hc.out]; intro h; apply hL; apply UInt8.toNat_inj.1; omega
        have hne2 : (((letterOf j).toNat : Int) == ((bt s 0).toNat : Int)) = false := by simpa using hne
        clear hL hkk hlet hne
        go_wp2_with fail
        go_region_with (first | (go_at_call 45; refine (Hlet.out _ b hS.out.drew.2.1).mono ?_; rintro e w' ⟨rfl, hl, ho⟩))
        all_goals
          have hS2 := hS.out.drew.letter hl ho
          have HS2 := Lib.hid hS2
          clear hl ho hS2
          go_wp2_with fail
          go_roundw
          case rel => exact ⟨j + 1, true, by go_num, by omega, by omega, Lib.hid (by rw [Hkk.out]; exact HS2.out)⟩
          case measure => simp [intOf]; omega
    · obtain rfl : j = 5 := by omega
      have hS2 := hS.out
      rw [kk_end] at hS2
      have k0 := hS2.2.2.cell 0
      have k1 := hS2.2.2.cell 1
      have k2 := hS2.2.2.cell 2
      have k3 := hS2.2.2.cell 3
      have z0 := hS2.2.2.frozen 0
      have z1 := hS2.2.2.frozen 1
      have z2 := hS2.2.2.frozen 2
      have z3 := hS2.2.2.frozen 3
      simp at k0 k1 k2 k3
      have hlt2 := hS2.2.2.lt
      have HS2 := Lib.hid hS2
      clear hS hS2
      go_wp2_with fail
      have hT : Tkr (wr.alloc (.cells #[.string (str s.tail), .bool false] 134)) wr.heap.size s.tail false := Blk.new wr _ _
      refine (pA_call s hs _ _ hT).mono ?_
      rintro e w1 ⟨rfl, hT1, hO1⟩
      have R1 := (HS2.out.1.alloc (.cells #[.string (str s.tail), .bool false] 134)).only hO1 (by omega) (by omega)
      have K1 := (HS2.out.2.2.alloc (.cells #[.string (str s.tail), .bool false] 134)).only hO1 (by omega)
      clear hT k0 k1 k2 k3 z0 z1 z2 z3 HS2 hO1
      have k0 := K1.cell 0
      have k1 := K1.cell 1
      have k2 := K1.cell 2
      have k3 := K1.cell 3
      have z0 := K1.frozen 0
      have z1 := K1.frozen 1
      have z2 := K1.frozen 2
      have z3 := K1.frozen 3
      have t0 := Blk.cell hT1 0
      simp at k0 k1 k2 k3 t0
      have v1 := u32_mod (pA s).1 (tkN_lt _ _)
      obtain ⟨p, hp⟩ : ∃ p, p = wr.heap.size := ⟨_, rfl⟩
      rw [← hp] at hT1 t0
      rw [← hp]
      have hpb : w.heap.size + 1 + 1 < p := by omega
      have HT1 := Lib.hid hT1
      have HR1 := Lib.hid R1
      have HK1 := Lib.hid K1
      clear hT1 R1 K1 hp
      by_cases h3 : kindOf c = 3
      · rw [h3] at k0
        have Hn := Lib.hid (show parN s = ⟨3, (pA s).1, [], (pB s).1⟩ by unfold parN; rw [← Hc.out, if_pos h3])
        have Hb := Lib.hid (show parBad s = ((pA s).2.2 || (pB s).2.2) by unfold parBad; rw [← Hc.out, if_pos h3])
        have K2 := HK1.out.set 1 (.int .u32 ((pA s).1 : Nat))
        have O2 := (Only.refl (w.heap.size + 1 + 1) w1).set 1 (.int .u32 ((pA s).1 : Nat))
        have T2 : Tkr (w1.setCell ⟨w.heap.size + 1 + 1, 1, none⟩ (.int .u32 ((pA s).1 : Nat))) p (pA s).2.1 (pA s).2.2 := Blk.only HT1.out O2 (by omega)
        have R2 := HR1.out.only O2 (by omega) (by omega)
        have HK2 := Lib.hid K2; have HT2 := Lib.hid T2; have HR2 := Lib.hid R2
        have Hh3 := Lib.hid h3
        clear K2 T2 R2 O2 HK1 HT1 HR1 h3
        go_wp2_with fail
        refine (pB_call s hs _ _ HT2.out).mono ?_
        rintro e w2 ⟨rfl, T3, O3⟩
        have R3 := HR2.out.only O3 (by omega) (by omega)
        have K3 := HK2.out.only O3 (by omega)
        clear k0 k1 k2 k3 z0 z1 z2 z3 t0 HK2 HT2 HR2 O3 v1
        have k0 := K3.cell 0
        have k1 := K3.cell 1
        have k2 := K3.cell 2
        have k3 := K3.cell 3
        have z3 := K3.frozen 3
        rw [Hh3.out] at k0
        simp at k0 k1 k2 k3
        have v2 := u32_mod (pB s).1 (tkN_lt _ _)
        have K4 := K3.set 3 (.int .u32 ((pB s).1 : Nat))
        have O4 := (Only.refl (w.heap.size + 1 + 1) w2).set 3 (.int .u32 ((pB s).1 : Nat))
        have T4 := Blk.only T3 O4 (by omega)
        have R4 := R3.only O4 (by omega) (by omega)
        have HK4 := Lib.hid K4; have HT4 := Lib.hid T4; have HR4 := Lib.hid R4
        clear K3 T3 R3 K4 T4 R4 O4
        have HKd := Lib.hid (show 3 < 256 by omega)
        have HC := Lib.hid (show (pB s).1 < 4294967296 from tkN_lt _ _)
        have HL := Lib.hid (show ([] : Bs).length ≤ 1048576 by simp)
        go_wp2_with fail
        cases ho : keyOk (parN s)
        · have Hv := Lib.hid (show parKey s = none by unfold parKey; rw [if_neg h5, ho]; cases parBad s <;> rfl)
          rw [Hn.out] at ho
          refine (key_bad 3 (pA s).1 (pB s).1 [] HKd.out (tkN_lt _ _) HC.out HL.out ho _).mono ?_
          clear ho
          rintro e w5 ⟨rfl, hb⟩
          have R5 := HR4.out.step hb
          have K5 := HK4.out.below hb
          have T5 := Blk.below HT4.out hb
          clear HR4 HK4 HT4 hb
          have r0 := R5.cell 0
          have r1 := R5.cell 1
          have r2 := R5.cell 2
          have r3 := R5.cell 3
          have y0 := R5.1.frozen 0
          have y1 := R5.1.frozen 1
          have y2 := R5.1.frozen 2
          have y3 := R5.1.frozen 3
          have k0 := K5.cell 0
          have k1 := K5.cell 1
          have k2 := K5.cell 2
          have k3 := K5.cell 3
          have t1 := Blk.cell T5 1
          simp at r0 r1 r2 r3 k0 k1 k2 k3 t1
          rw [Hh3.out] at k0
          rw [← Hb.out] at t1
          have HR5 := Lib.hid R5
          clear R5 K5 T5
          cases hbad : parBad s
          all_goals
            rw [hbad] at t1
            clear hbad
            go_wp2_with fail
            have hz : w.heap.size ≤ w.heap.size := Nat.le_refl _
            have R8 := (((HR5.out.set hz 0 (.int .u8 0)).set hz 1 (.int .u32 0)).set hz 2 (.string ⟨#[]⟩)).set hz 3 (.int .u32 0)
            have q0 := R8.cell 0
            have q1 := R8.cell 1
            have q2 := R8.cell 2
            have q3 := R8.cell 3
            have hB := R8.2
            clear R8 HR5 r0 r1 r2 r3 y0 y1 y2 y3
            revert q0 q1 q2 q3 hB
            generalize ((((w5).setCell { block := w.heap.size, off := 0 } (.int .u8 0)).setCell { block := w.heap.size, off := 1 } (.int .u32 0)).setCell { block := w.heap.size, off := 2 } (.string ⟨#[]⟩)).setCell { block := w.heap.size, off := 3 } (.int .u32 0) = W
            intro q0 q1 q2 q3 hB
            simp at q0 q1 q2 q3
            refine bodyPost_ret (v := .tuple #[.agg #[.int .u8 0, .int .u32 0, .string (str []), .int .u32 0], .int .i64 4]) (by simp [results, Try.results52, go_sem, q0, q1, q2, q3]; rfl) rfl ?_
            exact ⟨by rw [Hv.out], hB⟩
        · have ho2 := ho
          rw [Hn.out] at ho2
          refine (key_ok 3 (pA s).1 (pB s).1 [] HKd.out (tkN_lt _ _) HC.out HL.out ho2 _).mono ?_
          rw [← Hn.out]
          clear ho2
          rintro e w5 ⟨rfl, hb⟩
          have R5 := HR4.out.step hb
          have K5 := HK4.out.below hb
          have T5 := Blk.below HT4.out hb
          clear HR4 HK4 HT4 hb
          have r0 := R5.cell 0
          have r1 := R5.cell 1
          have r2 := R5.cell 2
          have r3 := R5.cell 3
          have y0 := R5.1.frozen 0
          have y1 := R5.1.frozen 1
          have y2 := R5.1.frozen 2
          have y3 := R5.1.frozen 3
          have k0 := K5.cell 0
          have k1 := K5.cell 1
          have k2 := K5.cell 2
          have k3 := K5.cell 3
          have t1 := Blk.cell T5 1
          simp at r0 r1 r2 r3 k0 k1 k2 k3 t1
          rw [Hh3.out] at k0
          rw [← Hb.out] at t1
          have HR5 := Lib.hid R5
          clear R5 K5 T5
          cases hbad : parBad s
          · rw [hbad] at t1
            by_cases heq : keyRaw (parN s) = s
            · have Hv := Lib.hid (show parKey s = some (parN s) by unfold parKey; rw [if_neg h5, ho, hbad, if_pos heq]; rfl)
              have d1 : (keyRaw (parN s) == s) = true := by rw [beq_iff_eq]; exact heq
              clear ho hbad heq
              go_wp2_with fail
              have hz : w.heap.size ≤ w.heap.size := Nat.le_refl _
              have R8 := (((HR5.out.set hz 0 (.int .u8 3)).set hz 1 (.int .u32 ((pA s).1 : Nat))).set hz 2 (.string ⟨#[]⟩)).set hz 3 (.int .u32 ((pB s).1 : Nat))
              have q0 := R8.cell 0
              have q1 := R8.cell 1
              have q2 := R8.cell 2
              have q3 := R8.cell 3
              have hB := R8.2
              clear R8 HR5 r0 r1 r2 r3 y0 y1 y2 y3
              revert q0 q1 q2 q3 hB
              generalize ((((w5).setCell { block := w.heap.size, off := 0 } (.int .u8 3)).setCell { block := w.heap.size, off := 1 } (.int .u32 ((pA s).1 : Nat))).setCell { block := w.heap.size, off := 2 } (.string ⟨#[]⟩)).setCell { block := w.heap.size, off := 3 } (.int .u32 ((pB s).1 : Nat)) = W
              intro q0 q1 q2 q3 hB
              simp at q0 q1 q2 q3
              refine bodyPost_ret (v := .tuple #[.agg #[.int .u8 3, .int .u32 ((pA s).1 : Nat), .string (str []), .int .u32 ((pB s).1 : Nat)], .int .i64 0]) (by simp [results, Try.results52, go_sem, q0, q1, q2, q3]; rfl) rfl ?_
              exact ⟨by rw [Hv.out, Hn.out]; rfl, hB⟩
            · have Hv := Lib.hid (show parKey s = none by unfold parKey; rw [if_neg h5, ho, hbad, if_neg heq]; rfl)
              have d1 : (keyRaw (parN s) == s) = false := by rw [beq_eq_false_iff_ne]; exact heq
              clear ho hbad heq
              go_wp2_with fail
              have hz : w.heap.size ≤ w.heap.size := Nat.le_refl _
              have R8 := (((HR5.out.set hz 0 (.int .u8 0)).set hz 1 (.int .u32 0)).set hz 2 (.string ⟨#[]⟩)).set hz 3 (.int .u32 0)
              have q0 := R8.cell 0
              have q1 := R8.cell 1
              have q2 := R8.cell 2
              have q3 := R8.cell 3
              have hB := R8.2
              clear R8 HR5 r0 r1 r2 r3 y0 y1 y2 y3
              revert q0 q1 q2 q3 hB
              generalize ((((w5).setCell { block := w.heap.size, off := 0 } (.int .u8 0)).setCell { block := w.heap.size, off := 1 } (.int .u32 0)).setCell { block := w.heap.size, off := 2 } (.string ⟨#[]⟩)).setCell { block := w.heap.size, off := 3 } (.int .u32 0) = W
              intro q0 q1 q2 q3 hB
              simp at q0 q1 q2 q3
              refine bodyPost_ret (v := .tuple #[.agg #[.int .u8 0, .int .u32 0, .string (str []), .int .u32 0], .int .i64 4]) (by simp [results, Try.results52, go_sem, q0, q1, q2, q3]; rfl) rfl ?_
              exact ⟨by rw [Hv.out], hB⟩
          · have Hv := Lib.hid (show parKey s = none by unfold parKey; rw [if_neg h5, hbad]; rfl)
            rw [hbad] at t1
            clear ho hbad
            go_wp2_with fail
            have hz : w.heap.size ≤ w.heap.size := Nat.le_refl _
            have R8 := (((HR5.out.set hz 0 (.int .u8 0)).set hz 1 (.int .u32 0)).set hz 2 (.string ⟨#[]⟩)).set hz 3 (.int .u32 0)
            have q0 := R8.cell 0
            have q1 := R8.cell 1
            have q2 := R8.cell 2
            have q3 := R8.cell 3
            have hB := R8.2
            clear R8 HR5 r0 r1 r2 r3 y0 y1 y2 y3
            revert q0 q1 q2 q3 hB
            generalize ((((w5).setCell { block := w.heap.size, off := 0 } (.int .u8 0)).setCell { block := w.heap.size, off := 1 } (.int .u32 0)).setCell { block := w.heap.size, off := 2 } (.string ⟨#[]⟩)).setCell { block := w.heap.size, off := 3 } (.int .u32 0) = W
            intro q0 q1 q2 q3 hB
            simp at q0 q1 q2 q3
            refine bodyPost_ret (v := .tuple #[.agg #[.int .u8 0, .int .u32 0, .string (str []), .int .u32 0], .int .i64 4]) (by simp [results, Try.results52, go_sem, q0, q1, q2, q3]; rfl) rfl ?_
            exact ⟨by rw [Hv.out], hB⟩
      · have Hn := Lib.hid (show parN s = ⟨kindOf c, (pA s).1, (pA s).2.1, 0⟩ by unfold parN; rw [← Hc.out, if_neg h3])
        have Hb := Lib.hid (show parBad s = (pA s).2.2 by unfold parBad; rw [← Hc.out, if_neg h3])
        have hk5 := kindOf_lt c
        have K4 := (HK1.out.set 1 (.int .u32 ((pA s).1 : Nat))).set 2 (.string (str (pA s).2.1))
        have O2 := ((Only.refl (w.heap.size + 1 + 1) w1).set 1 (.int .u32 ((pA s).1 : Nat))).set 2 (.string (str (pA s).2.1))
        have T4 := Blk.only HT1.out O2 (by omega)
        have R4 := HR1.out.only O2 (by omega) (by omega)
        have HK4 := Lib.hid K4; have HT4 := Lib.hid T4; have HR4 := Lib.hid R4
        clear K4 T4 R4 O2 HK1 HT1 HR1
        have HKd := Lib.hid (show kindOf c < 256 by omega)
        have HC := Lib.hid (show 0 < 4294967296 by omega)
        have HL := Lib.hid (show (pA s).2.1.length ≤ 1048576 by have := pA_len s; omega)
        go_wp2_with fail
        cases ho : keyOk (parN s)
        · have Hv := Lib.hid (show parKey s = none by unfold parKey; rw [if_neg h5, ho]; cases parBad s <;> rfl)
          rw [Hn.out] at ho
          refine (key_bad (kindOf c) (pA s).1 0 (pA s).2.1 HKd.out (tkN_lt _ _) HC.out HL.out ho _).mono ?_
          clear ho
          rintro e w5 ⟨rfl, hb⟩
          have R5 := HR4.out.step hb
          have K5 := HK4.out.below hb
          have T5 := Blk.below HT4.out hb
          clear HR4 HK4 HT4 hb
          have r0 := R5.cell 0
          have r1 := R5.cell 1
          have r2 := R5.cell 2
          have r3 := R5.cell 3
          have y0 := R5.1.frozen 0
          have y1 := R5.1.frozen 1
          have y2 := R5.1.frozen 2
          have y3 := R5.1.frozen 3
          have k0 := K5.cell 0
          have k1 := K5.cell 1
          have k2 := K5.cell 2
          have k3 := K5.cell 3
          have t1 := Blk.cell T5 1
          simp at r0 r1 r2 r3 k0 k1 k2 k3 t1
          rw [← Hb.out] at t1
          have HR5 := Lib.hid R5
          clear R5 K5 T5
          cases hbad : parBad s
          all_goals
            rw [hbad] at t1
            clear hbad
            go_wp2_with fail
            have hz : w.heap.size ≤ w.heap.size := Nat.le_refl _
            have R8 := (((HR5.out.set hz 0 (.int .u8 0)).set hz 1 (.int .u32 0)).set hz 2 (.string ⟨#[]⟩)).set hz 3 (.int .u32 0)
            have q0 := R8.cell 0
            have q1 := R8.cell 1
            have q2 := R8.cell 2
            have q3 := R8.cell 3
            have hB := R8.2
            clear R8 HR5 r0 r1 r2 r3 y0 y1 y2 y3
            revert q0 q1 q2 q3 hB
            generalize ((((w5).setCell { block := w.heap.size, off := 0 } (.int .u8 0)).setCell { block := w.heap.size, off := 1 } (.int .u32 0)).setCell { block := w.heap.size, off := 2 } (.string ⟨#[]⟩)).setCell { block := w.heap.size, off := 3 } (.int .u32 0) = W
            intro q0 q1 q2 q3 hB
            simp at q0 q1 q2 q3
            refine bodyPost_ret (v := .tuple #[.agg #[.int .u8 0, .int .u32 0, .string (str []), .int .u32 0], .int .i64 4]) (by simp [results, Try.results52, go_sem, q0, q1, q2, q3]; rfl) rfl ?_
            exact ⟨by rw [Hv.out], hB⟩
        · have ho2 := ho
          rw [Hn.out] at ho2
          refine (key_ok (kindOf c) (pA s).1 0 (pA s).2.1 HKd.out (tkN_lt _ _) HC.out HL.out ho2 _).mono ?_
          rw [← Hn.out]
          clear ho2
          rintro e w5 ⟨rfl, hb⟩
          have R5 := HR4.out.step hb
          have K5 := HK4.out.below hb
          have T5 := Blk.below HT4.out hb
          clear HR4 HK4 HT4 hb
          have r0 := R5.cell 0
          have r1 := R5.cell 1
          have r2 := R5.cell 2
          have r3 := R5.cell 3
          have y0 := R5.1.frozen 0
          have y1 := R5.1.frozen 1
          have y2 := R5.1.frozen 2
          have y3 := R5.1.frozen 3
          have k0 := K5.cell 0
          have k1 := K5.cell 1
          have k2 := K5.cell 2
          have k3 := K5.cell 3
          have t1 := Blk.cell T5 1
          simp at r0 r1 r2 r3 k0 k1 k2 k3 t1
          rw [← Hb.out] at t1
          have HR5 := Lib.hid R5
          clear R5 K5 T5
          cases hbad : parBad s
          · rw [hbad] at t1
            by_cases heq : keyRaw (parN s) = s
            · have Hv := Lib.hid (show parKey s = some (parN s) by unfold parKey; rw [if_neg h5, ho, hbad, if_pos heq]; rfl)
              have d1 : (keyRaw (parN s) == s) = true := by rw [beq_iff_eq]; exact heq
              clear ho hbad heq
              go_wp2_with fail
              have hz : w.heap.size ≤ w.heap.size := Nat.le_refl _
              have R8 := (((HR5.out.set hz 0 (.int .u8 (kindOf c : Nat))).set hz 1 (.int .u32 ((pA s).1 : Nat))).set hz 2 (.string (str (pA s).2.1))).set hz 3 (.int .u32 0)
              have q0 := R8.cell 0
              have q1 := R8.cell 1
              have q2 := R8.cell 2
              have q3 := R8.cell 3
              have hB := R8.2
              clear R8 HR5 r0 r1 r2 r3 y0 y1 y2 y3
              revert q0 q1 q2 q3 hB
              generalize ((((w5).setCell { block := w.heap.size, off := 0 } (.int .u8 (kindOf c : Nat))).setCell { block := w.heap.size, off := 1 } (.int .u32 ((pA s).1 : Nat))).setCell { block := w.heap.size, off := 2 } (.string (str (pA s).2.1))).setCell { block := w.heap.size, off := 3 } (.int .u32 0) = W
              intro q0 q1 q2 q3 hB
              simp at q0 q1 q2 q3
              refine bodyPost_ret (v := .tuple #[.agg #[.int .u8 (kindOf c : Nat), .int .u32 ((pA s).1 : Nat), .string (str (pA s).2.1), .int .u32 0], .int .i64 0]) (by simp [results, Try.results52, go_sem, q0, q1, q2, q3]) rfl ?_
              exact ⟨by rw [Hv.out, Hn.out]; rfl, hB⟩
            · have Hv := Lib.hid (show parKey s = none by unfold parKey; rw [if_neg h5, ho, hbad, if_neg heq]; rfl)
              have d1 : (keyRaw (parN s) == s) = false := by rw [beq_eq_false_iff_ne]; exact heq
              clear ho hbad heq
              go_wp2_with fail
              have hz : w.heap.size ≤ w.heap.size := Nat.le_refl _
              have R8 := (((HR5.out.set hz 0 (.int .u8 0)).set hz 1 (.int .u32 0)).set hz 2 (.string ⟨#[]⟩)).set hz 3 (.int .u32 0)
              have q0 := R8.cell 0
              have q1 := R8.cell 1
              have q2 := R8.cell 2
              have q3 := R8.cell 3
              have hB := R8.2
              clear R8 HR5 r0 r1 r2 r3 y0 y1 y2 y3
              revert q0 q1 q2 q3 hB
              generalize ((((w5).setCell { block := w.heap.size, off := 0 } (.int .u8 0)).setCell { block := w.heap.size, off := 1 } (.int .u32 0)).setCell { block := w.heap.size, off := 2 } (.string ⟨#[]⟩)).setCell { block := w.heap.size, off := 3 } (.int .u32 0) = W
              intro q0 q1 q2 q3 hB
              simp at q0 q1 q2 q3
              refine bodyPost_ret (v := .tuple #[.agg #[.int .u8 0, .int .u32 0, .string (str []), .int .u32 0], .int .i64 4]) (by simp [results, Try.results52, go_sem, q0, q1, q2, q3]; rfl) rfl ?_
              exact ⟨by rw [Hv.out], hB⟩
          · have Hv := Lib.hid (show parKey s = none by unfold parKey; rw [if_neg h5, hbad]; rfl)
            rw [hbad] at t1
            clear ho hbad
            go_wp2_with fail
            have hz : w.heap.size ≤ w.heap.size := Nat.le_refl _
            have R8 := (((HR5.out.set hz 0 (.int .u8 0)).set hz 1 (.int .u32 0)).set hz 2 (.string ⟨#[]⟩)).set hz 3 (.int .u32 0)
            have q0 := R8.cell 0
            have q1 := R8.cell 1
            have q2 := R8.cell 2
            have q3 := R8.cell 3
            have hB := R8.2
            clear R8 HR5 r0 r1 r2 r3 y0 y1 y2 y3
            revert q0 q1 q2 q3 hB
            generalize ((((w5).setCell { block := w.heap.size, off := 0 } (.int .u8 0)).setCell { block := w.heap.size, off := 1 } (.int .u32 0)).setCell { block := w.heap.size, off := 2 } (.string ⟨#[]⟩)).setCell { block := w.heap.size, off := 3 } (.int .u32 0) = W
            intro q0 q1 q2 q3 hB
            simp at q0 q1 q2 q3
            refine bodyPost_ret (v := .tuple #[.agg #[.int .u8 0, .int .u32 0, .string (str []), .int .u32 0], .int .i64 4]) (by simp [results, Try.results52, go_sem, q0, q1, q2, q3]; rfl) rfl ?_
            exact ⟨by rw [Hv.out], hB⟩
end Go.Proofs.Ytoeiipkikpalaaa
