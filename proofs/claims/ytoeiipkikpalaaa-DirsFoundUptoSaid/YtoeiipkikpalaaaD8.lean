/- dirs: Check, Get, Next, New. -/
import Derived.Test.YtoeiipkikpalaaaD7
import Derived.Test.YtoeiipkikpalaaaPa7
set_option linter.unusedVariables false
set_option linter.unusedSimpArgs false
namespace Go.Proofs.Ytoeiipkikpalaaa
open Go.RowKit
/-- A volume that was looked through; only if it is right. -/
def VolOut (w' : World) (v : Nat) (A : Option Addr) (c : Nat) (l : List It) : Prop := ∀ s, vol l = some s → ∃ m1 m2 AA cc, VolSt w' v m1 m2 l.length (.slice A l.length c) (.int .u32 1) (.int .i32 0) (.int .u32 0) (.bool true) s AA cc ∧ s.Ok l.length
theorem opened_right (l : List It) (hsm : Small l) (A : Option Addr) (c : Nat) (w : World) (hR : Rd w A (itVs l)) :
    Calls Try.prog 15 #[.pointer (some ⟨w.heap.size, 0, none⟩)] (w.alloc (.cells (opened A l.length c) 77)) fun e w' => e = .returned (.bool (vol l).isSome) ∧ Below w.heap.size w w' ∧ VolOut w' w.heap.size A c l := by
  have hb := below_alloc (Below.refl w.heap.size w) (.cells (opened A l.length c) 77)
  refine (right_any l hsm A c w.heap.size _ (Blk.new w _ _) (hR.below hb) (fun b off h hne => by have := hR.lt h hne; omega)).mono ?_
  rintro e w' ⟨rfl, hL⟩
  refine ⟨rfl, below_only hb hL.1 (Nat.le_refl _) (by simp), fun s hs => ?_⟩
  have := hL.2
  rw [hs] at this
  obtain ⟨m1, m2, AA, cc, hV, hok, _⟩ := this
  exact ⟨m1, m2, AA, cc, hV, hok⟩
def dErr (l : List It) : Int := if (vol l).isSome then 0 else 9
theorem dcheck_any (l : List It) (hsm : Small l) (A : Option Addr) (c : Nat) (w : World) (hR : Rd w A (itVs l)) :
    Calls Try.prog 11 #[.slice A l.length c] w fun e w' => e = .returned (.int .i64 (dErr l)) ∧ Below w.heap.size w w' := by
  have hr := Lib.hid (opened_right l hsm A c w hR)
  have hd := Lib.hid (show dErr l = if (vol l).isSome then 0 else 9 from rfl)
  clear hR hsm
  go_enter Try.func11, Try.ntmps11
  go_wp2_with fail
  refine (open_any A l.length c _).mono ?_
  rintro e w1 ⟨rfl, rfl⟩
  go_wp2_with fail
  refine hr.out.mono ?_
  rintro e w2 ⟨rfl, hb, _⟩
  cases hv : (vol l).isSome
  · rw [hv] at hd
    clear hv
    go_wp2_with fail
    go_ret
    exact ⟨by rw [hd.out]; rfl, hb⟩
  · rw [hv] at hd
    clear hv
    go_wp2_with fail
    go_ret
    exact ⟨by rw [hd.out]; rfl, hb⟩
def dgetE (l : List It) (i : Nat) : Ino × Nat := match vol l with
  | none => (inoZ, 9)
  | some s => match s.ino i with
    | none => (inoZ, 5)
    | some n => (n, 0)
/-- What dirs.Get tells. -/
def getT (p : Ino × Nat) : Value := .tuple #[.agg #[.int .u8 (p.1.kind : Nat), .int .u16 (p.1.mode : Nat), .int .u32 (p.1.links : Nat), .int .u32 (p.1.size : Nat), .string (str p.1.target)], .int .i64 (p.2 : Nat)]
theorem St.ino5 {w W : World} {a0 a1 a2 a3 a4 : Value} {t : TypeId} (h : St w W w.heap.size #[a0, a1, a2, a3, a4] t) (b0 b1 b2 b3 b4 : Value) :
    ∃ W', W' = ((((W.setCell ⟨w.heap.size, 0, none⟩ b0).setCell ⟨w.heap.size, 1, none⟩ b1).setCell ⟨w.heap.size, 2, none⟩ b2).setCell ⟨w.heap.size, 3, none⟩ b3).setCell ⟨w.heap.size, 4, none⟩ b4 ∧
      W'.cell? ⟨w.heap.size, 0, none⟩ = some b0 ∧ W'.cell? ⟨w.heap.size, 1, none⟩ = some b1 ∧ W'.cell? ⟨w.heap.size, 2, none⟩ = some b2 ∧ W'.cell? ⟨w.heap.size, 3, none⟩ = some b3 ∧ W'.cell? ⟨w.heap.size, 4, none⟩ = some b4 ∧ Below w.heap.size w W' := by
  have hz : w.heap.size ≤ w.heap.size := Nat.le_refl _
  have R8 := ((((h.set hz 0 b0).set hz 1 b1).set hz 2 b2).set hz 3 b3).set hz 4 b4
  have q0 := R8.cell 0
  have q1 := R8.cell 1
  have q2 := R8.cell 2
  have q3 := R8.cell 3
  have q4 := R8.cell 4
  simp at q0 q1 q2 q3 q4
  exact ⟨_, rfl, q0, q1, q2, q3, q4, R8.2⟩
set_option maxRecDepth 100000 in
theorem dget_any (l : List It) (hsm : Small l) (A : Option Addr) (c : Nat) (w : World) (hR : Rd w A (itVs l)) (i : Nat) (hi : i < 4294967296) :
    Calls Try.prog 10 #[.slice A l.length c, .int .u32 (i : Nat)] w fun e w' => e = .returned (getT (dgetE l i)) ∧ Below w.heap.size w w' := by
  have hb0 := below_alloc (Below.refl w.heap.size w) (.cells #[.int .u8 0, .int .u16 0, .int .u32 0, .int .u32 0, .string ⟨#[]⟩] 37)
  have hr0 := opened_right l hsm A c (w.alloc (.cells #[.int .u8 0, .int .u16 0, .int .u32 0, .int .u32 0, .string ⟨#[]⟩] 37)) (hR.below hb0)
  rw [show (w.alloc (.cells #[.int .u8 0, .int .u16 0, .int .u32 0, .int .u32 0, .string ⟨#[]⟩] 37)).heap.size = w.heap.size + 1 by simp] at hr0
  have hr := Lib.hid hr0
  clear hr0
  have hN := Lib.hid (St.new w #[.int .u8 0, .int .u16 0, .int .u32 0, .int .u32 0, .string ⟨#[]⟩] 37)
  clear hR hsm hb0
  go_enter Try.func10, Try.ntmps10
  go_wp2_with fail
  refine (open_any A l.length c _).mono ?_
  rintro e w1 ⟨rfl, rfl⟩
  go_wp2_with fail
  refine hr.out.mono ?_
  rintro e w2 ⟨rfl, hb, hvo⟩
  have HS := Lib.hid (hN.out.step (by simpa using hb))
  cases hv : vol l with
  | none =>
    have hd := Lib.hid (show dgetE l i = (inoZ, 9) by unfold dgetE; rw [hv])
    have c0 := HS.out.cell 0
    have c1 := HS.out.cell 1
    have c2 := HS.out.cell 2
    have c3 := HS.out.cell 3
    have c4 := HS.out.cell 4
    have f0 := HS.out.1.frozen 0
    have f1 := HS.out.1.frozen 1
    have f2 := HS.out.1.frozen 2
    have f3 := HS.out.1.frozen 3
    have f4 := HS.out.1.frozen 4
    simp at c0 c1 c2 c3 c4
    clear hb hvo hv hr hN
    go_wp2_with fail
    obtain ⟨W, hW, q0, q1, q2, q3, q4, hB⟩ := HS.out.ino5 (.int .u8 0) (.int .u16 0) (.int .u32 0) (.int .u32 0) (.string ⟨#[]⟩)
    rw [← hW]
    clear hW HS c0 c1 c2 c3 c4 f0 f1 f2 f3 f4
    refine bodyPost_ret (v := getT (inoZ, 9)) (by rw [show getT (inoZ, 9) = .tuple #[.agg #[.int .u8 0, .int .u16 0, .int .u32 0, .int .u32 0, .string ⟨#[]⟩], .int .i64 9] from rfl]; simp [results, Try.results10, go_sem, q0, q1, q2, q3, q4]) rfl ?_
    exact ⟨by rw [hd.out], hB⟩
  | some s =>
    obtain ⟨m1, m2, AA, cc, hV, hok⟩ := hvo s hv
    have Hin := Lib.hid (inode_any w2 hV i hi)
    clear hb hvo hr hN hV hok
    obtain ⟨ii, hii⟩ : ∃ ii, ii = s.inoAt i := ⟨_, rfl⟩
    rw [← hii] at Hin
    cases hs : s.ino i with
    | none =>
      have hd := Lib.hid (show dgetE l i = (inoZ, 5) by unfold dgetE; rw [hv]; simp only; rw [hs])
      rw [hs] at Hin
      clear hs hv hii
      go_wp2_with fail
      refine Hin.out.mono ?_
      rintro e w3 ⟨rfl, hb3⟩
      have HS3 := Lib.hid ((HS.out.step hb3).alloc (.cells #[.int .u8 (ii.kind : Nat), .int .u16 (ii.mode : Nat), .int .u32 (ii.links : Nat), .int .u32 (ii.size : Nat), .string (str ii.target)] 37))
      have c0 := HS3.out.cell 0
      have c1 := HS3.out.cell 1
      have c2 := HS3.out.cell 2
      have c3 := HS3.out.cell 3
      have c4 := HS3.out.cell 4
      have f0 := HS3.out.1.frozen 0
      have f1 := HS3.out.1.frozen 1
      have f2 := HS3.out.1.frozen 2
      have f3 := HS3.out.1.frozen 3
      have f4 := HS3.out.1.frozen 4
      simp at c0 c1 c2 c3 c4
      clear hb3 HS Hin
      go_wp2_with fail
      obtain ⟨W, hW, q0, q1, q2, q3, q4, hB⟩ := HS3.out.ino5 (.int .u8 0) (.int .u16 0) (.int .u32 0) (.int .u32 0) (.string ⟨#[]⟩)
      rw [← hW]
      clear hW HS3 c0 c1 c2 c3 c4 f0 f1 f2 f3 f4
      refine bodyPost_ret (v := getT (inoZ, 5)) (by rw [show getT (inoZ, 5) = .tuple #[.agg #[.int .u8 0, .int .u16 0, .int .u32 0, .int .u32 0, .string ⟨#[]⟩], .int .i64 5] from rfl]; simp [results, Try.results10, go_sem, q0, q1, q2, q3, q4]) rfl ?_
      exact ⟨by rw [hd.out], hB⟩
    | some nn =>
      have hnn : ii = nn := by rw [hii]; unfold PSt.inoAt; rw [hs]; rfl
      have hd := Lib.hid (show dgetE l i = (ii, 0) by unfold dgetE; rw [hv]; simp only; rw [hs, hnn])
      rw [hs] at Hin
      clear hs hv hii hnn
      go_wp2_with fail
      refine Hin.out.mono ?_
      rintro e w3 ⟨rfl, hb3⟩
      have HS3 := Lib.hid ((HS.out.step hb3).alloc (.cells #[.int .u8 (ii.kind : Nat), .int .u16 (ii.mode : Nat), .int .u32 (ii.links : Nat), .int .u32 (ii.size : Nat), .string (str ii.target)] 37))
      have c0 := HS3.out.cell 0
      have c1 := HS3.out.cell 1
      have c2 := HS3.out.cell 2
      have c3 := HS3.out.cell 3
      have c4 := HS3.out.cell 4
      have f0 := HS3.out.1.frozen 0
      have f1 := HS3.out.1.frozen 1
      have f2 := HS3.out.1.frozen 2
      have f3 := HS3.out.1.frozen 3
      have f4 := HS3.out.1.frozen 4
      simp at c0 c1 c2 c3 c4
      clear hb3 HS Hin
      go_wp2_with fail
      obtain ⟨W, hW, q0, q1, q2, q3, q4, hB⟩ := HS3.out.ino5 (.int .u8 (ii.kind : Nat)) (.int .u16 (ii.mode : Nat)) (.int .u32 (ii.links : Nat)) (.int .u32 (ii.size : Nat)) (.string (str ii.target))
      rw [← hW]
      clear hW HS3 c0 c1 c2 c3 c4 f0 f1 f2 f3 f4
      refine bodyPost_ret (v := getT (ii, 0)) (by rw [show getT (ii, 0) = .tuple #[.agg #[.int .u8 (ii.kind : Nat), .int .u16 (ii.mode : Nat), .int .u32 (ii.links : Nat), .int .u32 (ii.size : Nat), .string (str ii.target)], .int .i64 0] from rfl]; simp [results, Try.results10, go_sem, q0, q1, q2, q3, q4]) rfl ?_
      exact ⟨by rw [hd.out], hB⟩
def dnextE (l : List It) : Nat × Nat := match vol l with
  | none => (0, 9)
  | some s => (nextN s, 0)
theorem dnext_any (l : List It) (hsm : Small l) (A : Option Addr) (c : Nat) (w : World) (hR : Rd w A (itVs l)) :
    Calls Try.prog 12 #[.slice A l.length c] w fun e w' => e = .returned (.tuple #[.int .u32 ((dnextE l).1 : Nat), .int .i64 ((dnextE l).2 : Nat)]) ∧ Below w.heap.size w w' := by
  have hr := Lib.hid (opened_right l hsm A c w hR)
  have hll := hsm.1
  clear hR hsm
  go_enter Try.func12, Try.ntmps12
  go_wp2_with fail
  refine (open_any A l.length c _).mono ?_
  rintro e w1 ⟨rfl, rfl⟩
  go_wp2_with fail
  refine hr.out.mono ?_
  rintro e w2 ⟨rfl, hb, hvo⟩
  cases hv : vol l with
  | none =>
    have hd := Lib.hid (show dnextE l = (0, 9) by unfold dnextE; rw [hv])
    clear hv hvo
    go_wp2_with fail
    go_ret2
    exact ⟨by rw [hd.out]; rfl, hb⟩
  | some s =>
    have hd := Lib.hid (show dnextE l = (nextN s, 0) by unfold dnextE; rw [hv])
    obtain ⟨m1, m2, AA, cc, hV, hok⟩ := hvo s hv
    have hn := Lib.hid (vnext_any w2 hV hok hll (next_free (vol_vl hv)))
    clear hv hvo hV hok
    go_wp2_with fail
    refine hn.out.mono ?_
    rintro e w3 ⟨rfl, hb3⟩
    have HB := Lib.hid (below_step hb hb3)
    clear hb3 hb
    go_wp2_with fail
    go_ret2
    exact ⟨by rw [hd.out]; rfl, HB.out⟩
theorem new_any (w : World) : Calls Try.prog 13 #[] w fun e w' => ∃ g, e = .returned (.slice (some ⟨g, 0, none⟩) newIts.length 1) ∧ Rd w' (some ⟨g, 0, none⟩) (itVs newIts) ∧ Below w.heap.size w w' := by
  have hk := fun W => key_ok 1 1 0 [] (by omega) (by omega) (by omega) (by simp) (by decide) W
  have he := fun W => encode_ok 1 0 1 0 [] ⟨by simp, by simp, by simp, by simp, by simp⟩ (by decide) W
  obtain ⟨kk', hkk⟩ : ∃ k, k = keyRaw ⟨1, 1, [], 0⟩ := ⟨_, rfl⟩
  obtain ⟨vv, hvv⟩ : ∃ v, v = inoB ⟨1, 0, 1, 0, []⟩ := ⟨_, rfl⟩
  rw [← hkk] at hk
  rw [← hvv] at he
  have hn : newIts = [⟨kk', vv⟩] := by unfold newIts; rw [hkk, hvv]
  rw [hn]
  have Hk := Lib.hid hk
  have He := Lib.hid he
  clear hk he hkk hvv hn
  go_enter Try.func13, Try.ntmps13
  go_wp2_with fail
  refine (Hk.out _).mono ?_
  rintro e w1 ⟨rfl, hb1⟩
  go_wp2_with fail
  refine (He.out _).mono ?_
  rintro e w2 ⟨rfl, hb2⟩
  have HB := Lib.hid (below_step hb1 hb2)
  clear hb1 hb2 Hk He
  go_wp2_with fail
  go_ret
  have hsz := HB.out.size
  refine ⟨w2.heap.size, rfl, fun _ => ⟨w2.heap.size, 0, rfl, fun i hi => ?_⟩, below_alloc HB.out _⟩
  have := (Blk.new w2 #[.string (str kk'), .string (str vv)] 61).cell i
  rw [Nat.zero_add, this]
  simp [itVs, itV]
end Go.Proofs.Ytoeiipkikpalaaa
