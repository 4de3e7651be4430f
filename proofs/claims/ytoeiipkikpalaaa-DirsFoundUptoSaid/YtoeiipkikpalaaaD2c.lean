/- dirs: fits, in one case. -/
import Derived.Test.YtoeiipkikpalaaaD1
import Derived.BigRegion
import Derived.Deep.RegionWith
import Derived.Deep.Cut
import Derived.Deep.CutRange
import Derived.Deep.DeepCutAuto
set_option linter.unusedVariables false
set_option linter.unusedSimpArgs false
namespace Go.Proofs.Ytoeiipkikpalaaa
open Go.RowKit
set_option maxRecDepth 100000 in
set_option maxHeartbeats 16000000 in
theorem fits_chunk {v m1 m2 N : Nat} {it d z u r : Value} {s : PSt} {AA : Option Addr} {cc n : Nat} (w : World) (h : VolSt w v m1 m2 N it d z u r s AA cc) (hok : s.Ok n) (kd ino ch : Nat) (nm vl : Bs)
    (hkd : kd < 256) (hino : ino < 4294967296) (hch : ch < 4294967296) (hvl : vl.length ≤ 1048576) (g2 : Hid (¬ kd = 2)) (g3 : Hid (kd = 3)) :
    Calls Try.prog 56 #[.pointer (some ⟨v, 0, none⟩), .agg #[.int .u8 (kd : Nat), .int .u32 (ino : Nat), .string (str nm), .int .u32 (ch : Nat), .string (str vl)]] w fun e w' => e = .returned (.bool (fitsB s ⟨⟨kd, ino, nm, ch⟩, vl⟩)) ∧ Below w.heap.size w w' := by
  have h' := h.alloc (.cells #[.int .u8 (kd : Nat), .int .u32 (ino : Nat), .string (str nm), .int .u32 (ch : Nat), .string (str vl)] 84)
  have hb := below_alloc (Below.refl w.heap.size w) (.cells #[.int .u8 (kd : Nat), .int .u32 (ino : Nat), .string (str nm), .int .u32 (ch : Nat), .string (str vl)] 84)
  have c6 := h'.blk.cell 6
  simp at c6
  have hh2 := h'.alloc (.cells #[.int .u8 0, .int .u16 0, .int .u32 0, .int .u32 0, .string ⟨#[]⟩] 37)
  have c6b := hh2.blk.cell 6
  simp at c6b
  have hl := h'.drew.hasIno ino hino
  have hl2 := hh2.drew.hasIno ino hino
  have HV2 := Lib.hid hh2
  have hlt := h'.blk.lt
  have HV := Lib.hid h'
  have HB := Lib.hid hb
  clear h h' hb hh2
  go_enter Try.func56, Try.ntmps56
  go_wp2_with fail
  go_cut [5, 6] (fun s5 s6 wx => s5 = .pointer (some ⟨w.heap.size + 1, 0, none⟩) ∧ s6 = .bool (s.ino ino).isSome ∧ wx = ((w.alloc (.cells #[.int .u8 (kd : Nat), .int .u32 (ino : Nat), .string (str nm), .int .u32 (ch : Nat), .string (str vl)] 84)).alloc (.cells #[.int .u8 ((s.inoAt ino).kind : Nat), .int .u16 ((s.inoAt ino).mode : Nat), .int .u32 ((s.inoAt ino).links : Nat), .int .u32 ((s.inoAt ino).size : Nat), .string (str (s.inoAt ino).target)] 37)).drew)
  case first =>
    go_region
    all_goals (go_wp2_with fail; go_meet; exact ⟨rfl, rfl, rfl⟩)
  case rest =>
  obtain ⟨rfl, rfl, hW⟩ := hcut
  obtain ⟨W, hWW⟩ : ∃ W, W = wc := ⟨_, rfl⟩
  rw [← hWW]
  rw [← hWW] at hW
  clear hWW
  have H3 : VolSt W v m1 m2 N it d z u r s AA cc := by rw [hW]; exact (HV.out.alloc _).drew
  have B3 : Below w.heap.size w W := by rw [hW]; exact below_drew (below_alloc HB.out _)
  have K3 : Blk W w.heap.size #[.int .u8 (kd : Nat), .int .u32 (ino : Nat), .string (str nm), .int .u32 (ch : Nat), .string (str vl)] 84 := by rw [hW]; exact ((Blk.new w _ _).alloc _).drew
  have I3 : Blk W (w.heap.size + 1) #[.int .u8 ((s.inoAt ino).kind : Nat), .int .u16 ((s.inoAt ino).mode : Nat), .int .u32 ((s.inoAt ino).links : Nat), .int .u32 ((s.inoAt ino).size : Nat), .string (str (s.inoAt ino).target)] 37 := by
    rw [hW]
    have := Blk.new (w.alloc (.cells #[.int .u8 (kd : Nat), .int .u32 (ino : Nat), .string (str nm), .int .u32 (ch : Nat), .string (str vl)] 84)) #[.int .u8 ((s.inoAt ino).kind : Nat), .int .u16 ((s.inoAt ino).mode : Nat), .int .u32 ((s.inoAt ino).links : Nat), .int .u32 ((s.inoAt ino).size : Nat), .string (str (s.inoAt ino).target)] 37
    simpa [Blk] using this.drew
  have c6' := H3.blk.cell 6
  have q0 := K3.cell 0
  have q3 := K3.cell 3
  have q4 := K3.cell 4
  have j0 := I3.cell 0
  have j3 := I3.cell 3
  simp at c6' q0 q3 q4 j0 j3
  have HV3 := Lib.hid H3
  have HB3 := Lib.hid B3
  have hlt3 := H3.blk.lt
  have hlt4 := K3.lt
  have HK := Lib.hid K3
  clear K3 I3 hlt hW
  have h2 := g2.out
  have h3 := g3.out
  have hik := (Ok_inoAt hok ino).1
  have his := (Ok_inoAt hok ino).2.2.2.1
  clear H3 B3 hl hl2 HV2 HV HB c6 c6b
  subst h3
  have Hv := Lib.hid (show fitsB s ⟨⟨3, ino, nm, ch⟩, vl⟩ = ((s.ino ino).isSome && (s.inoAt ino).kind == 2 && decide (1 ≤ vl.length) && decide (vl.length ≤ 128) && bt vl (vl.length - 1) != 0 && decide (ch * 128 + vl.length ≤ (s.inoAt ino).size)) from rfl)
  have e2 : (((3 : Nat) : Int) == 2) = false := rfl
  clear h2
  have hw1 : IntKind.i64.wrap ((vl.length : Int) - 1) = (vl.length : Int) - 1 := by rw [IntKind.wrap_i64]; omega
  have hcv1 : IntKind.i64.wrap (ch : Int) = (ch : Int) := by rw [IntKind.wrap_i64]; omega
  have hcv2 : IntKind.i64.wrap ((s.inoAt ino).size : Int) = ((s.inoAt ino).size : Int) := by rw [IntKind.wrap_i64]; omega
  have hm1 : IntKind.i64.wrap ((ch : Int) * 128) = (ch : Int) * 128 := by rw [IntKind.wrap_i64]; omega
  have hm2 : IntKind.i64.wrap ((ch : Int) * 128 + ((vl.length : Int) - 1)) = (ch : Int) * 128 + ((vl.length : Int) - 1) := by rw [IntKind.wrap_i64]; omega
  cases hi : (s.ino ino).isSome
  · go_wp2_with fail
    go_ret
    exact ⟨by rw [Hv.out, hi]; rfl, HB3.out⟩
  · rcases Nat.decEq (s.inoAt ino).kind 2 with hk | hk
    · have ek : (((s.inoAt ino).kind : Int) == 2) = false := by simpa using (show ¬ ((s.inoAt ino).kind : Int) = 2 by omega)
      go_wp2_with fail
      go_ret
      exact ⟨by rw [Hv.out, hi]; exact ret_bool (by simp [hk]), HB3.out⟩
    · have ek : (((s.inoAt ino).kind : Int) == 2) = true := by rw [hk]; rfl
      have Hk := Lib.hid hk
      clear hk
      clear hcv1 hkd e2
      have hxx : ∀ k : Int, k = (bt vl (vl.length - 1)).toNat → ((k != 0) = (bt vl (vl.length - 1) != 0)) := by
        intro k hk
        rw [Bool.eq_iff_iff]; simp only [bne_iff_ne, ne_eq, hk]
        constructor
        · intro h e; apply h; rw [e]; rfl
        · intro h e; apply h; apply UInt8.toNat_inj.1; simpa using e
      have hbz : (bt vl (vl.length - 1)).toNat = 0 ↔ bt vl (vl.length - 1) = 0 := ⟨fun h => UInt8.toNat_inj.1 h, fun h => by rw [h]; rfl⟩
      go_wp2_with fail
      all_goals
        go_ret
        refine ⟨?_, HB3.out⟩
        rw [Hv.out, hi]
        refine ret_bool ?_
        rw [Bool.eq_iff_iff]
        simp [Hk.out]
        first
          | omega
          | (intros; contradiction)
          | (constructor
             · rintro ⟨g1, g2⟩; exact ⟨⟨⟨by omega, by omega⟩, g1⟩, by omega⟩
             · rintro ⟨⟨_, g1⟩, g2⟩; exact ⟨g1, by omega⟩)
end Go.Proofs.Ytoeiipkikpalaaa
