/- dirs: fits, in one case. -/
import Derived.Test.YtoeiipkikpalaaaD1
import Derived.BigRegion
import Derived.Deep.RegionWith
import Derived.Deep.Cut
import Derived.Deep.CutRange
import Derived.Deep.DeepCutAuto
set_option linter.unusedVariables false
set_option linter.unusedSimpArgs false
namespace Go.Proofs.Ytoeiipkikpalaaa
open Go.RowKit
theorem Blk.setFar {w : World} {g : Nat} {cs : Array Value} {t : TypeId} (h : Blk w g cs t) {k : Nat} (hne : g ≠ k) (i : Nat) (v : Value) : Blk (w.setCell ⟨k, i, none⟩ v) g cs t := h.only ((Only.refl k w).set i v) hne
set_option maxRecDepth 100000 in
set_option maxHeartbeats 16000000 in
theorem fits_entry {v m1 m2 N : Nat} {it d z u r : Value} {s : PSt} {AA : Option Addr} {cc n : Nat} (w : World) (h : VolSt w v m1 m2 N it d z u r s AA cc) (hok : s.Ok n) (kd ino ch : Nat) (nm vl : Bs)
    (hkd : kd < 256) (hino : ino < 4294967296) (hch : ch < 4294967296) (hvl : vl.length ≤ 1048576) (g2 : Hid (kd = 2)) :
    Calls Try.prog 56 #[.pointer (some ⟨v, 0, none⟩), .agg #[.int .u8 (kd : Nat), .int .u32 (ino : Nat), .string (str nm), .int .u32 (ch : Nat), .string (str vl)]] w fun e w' => e = .returned (.bool (fitsB s ⟨⟨kd, ino, nm, ch⟩, vl⟩)) ∧ Below w.heap.size w w' := by
  have h' := h.alloc (.cells #[.int .u8 (kd : Nat), .int .u32 (ino : Nat), .string (str nm), .int .u32 (ch : Nat), .string (str vl)] 84)
  have hb := below_alloc (Below.refl w.heap.size w) (.cells #[.int .u8 (kd : Nat), .int .u32 (ino : Nat), .string (str nm), .int .u32 (ch : Nat), .string (str vl)] 84)
  have c6 := h'.blk.cell 6
  simp at c6
  have hh2 := h'.alloc (.cells #[.int .u8 0, .int .u16 0, .int .u32 0, .int .u32 0, .string ⟨#[]⟩] 37)
  have c6b := hh2.blk.cell 6
  simp at c6b
  have hl := h'.drew.hasIno ino hino
  have hl2 := hh2.drew.hasIno ino hino
  have HV2 := Lib.hid hh2
  have hlt := h'.blk.lt
  have HV := Lib.hid h'
  have HB := Lib.hid hb
  clear h h' hb hh2
  go_enter Try.func56, Try.ntmps56
  go_wp2_with fail
  go_cut [5, 6] (fun s5 s6 wx => s5 = .pointer (some ⟨w.heap.size + 1, 0, none⟩) ∧ s6 = .bool (s.ino ino).isSome ∧ wx = ((w.alloc (.cells #[.int .u8 (kd : Nat), .int .u32 (ino : Nat), .string (str nm), .int .u32 (ch : Nat), .string (str vl)] 84)).alloc (.cells #[.int .u8 ((s.inoAt ino).kind : Nat), .int .u16 ((s.inoAt ino).mode : Nat), .int .u32 ((s.inoAt ino).links : Nat), .int .u32 ((s.inoAt ino).size : Nat), .string (str (s.inoAt ino).target)] 37)).drew)
  case first =>
    go_region
    all_goals (go_wp2_with fail; go_meet; exact ⟨rfl, rfl, rfl⟩)
  case rest =>
  obtain ⟨rfl, rfl, hW⟩ := hcut
  obtain ⟨W, hWW⟩ : ∃ W, W = wc := ⟨_, rfl⟩
  rw [← hWW]
  rw [← hWW] at hW
  clear hWW
  have H3 : VolSt W v m1 m2 N it d z u r s AA cc := by rw [hW]; exact (HV.out.alloc _).drew
  have B3 : Below w.heap.size w W := by rw [hW]; exact below_drew (below_alloc HB.out _)
  have K3 : Blk W w.heap.size #[.int .u8 (kd : Nat), .int .u32 (ino : Nat), .string (str nm), .int .u32 (ch : Nat), .string (str vl)] 84 := by rw [hW]; exact ((Blk.new w _ _).alloc _).drew
  have I3 : Blk W (w.heap.size + 1) #[.int .u8 ((s.inoAt ino).kind : Nat), .int .u16 ((s.inoAt ino).mode : Nat), .int .u32 ((s.inoAt ino).links : Nat), .int .u32 ((s.inoAt ino).size : Nat), .string (str (s.inoAt ino).target)] 37 := by
    rw [hW]
    have := Blk.new (w.alloc (.cells #[.int .u8 (kd : Nat), .int .u32 (ino : Nat), .string (str nm), .int .u32 (ch : Nat), .string (str vl)] 84)) #[.int .u8 ((s.inoAt ino).kind : Nat), .int .u16 ((s.inoAt ino).mode : Nat), .int .u32 ((s.inoAt ino).links : Nat), .int .u32 ((s.inoAt ino).size : Nat), .string (str (s.inoAt ino).target)] 37
    simpa [Blk] using this.drew
  have c6' := H3.blk.cell 6
  have q0 := K3.cell 0
  have q3 := K3.cell 3
  have q4 := K3.cell 4
  have j0 := I3.cell 0
  have j3 := I3.cell 3
  simp at c6' q0 q3 q4 j0 j3
  have HV3 := Lib.hid H3
  have HB3 := Lib.hid B3
  have hlt3 := H3.blk.lt
  have hlt4 := K3.lt
  have HK := Lib.hid K3
  have HI := Lib.hid I3
  have hlt5 : w.heap.size + 1 ≠ W.heap.size := by have := I3.lt; omega
  clear K3 I3 hlt hW
  have h2 := g2.out
  have hik := (Ok_inoAt hok ino).1
  have his := (Ok_inoAt hok ino).2.2.2.1
  clear H3 B3 hl hl2 HV2 HV HB c6 c6b
  have Hv := Lib.hid (show fitsB s ⟨⟨kd, ino, nm, ch⟩, vl⟩ = ((s.ino ino).isSome && (s.ino (numE vl)).isSome && (s.inoAt ino).kind == 1) by unfold fitsB; rw [if_pos h2])
  have e2 : ((kd : Int) == 2) = true := by rw [h2]; rfl
  clear h2
  have hnl := numE_lt vl
  have k1 := fun k => (HV3.out.drewN k).hasIno (numE vl) hnl
  have H4 := HV3.out.alloc (.cells #[.int .u8 0, .int .u16 0, .int .u32 0, .int .u32 0, .string ⟨#[]⟩] 37)
  have c6d := H4.blk.cell 6
  simp at c6d
  have k2 := fun k => (H4.drewN k).hasIno (numE vl) hnl
  have k3 := fun k => ((HV3.out.drewN k).alloc (.cells #[.int .u8 0, .int .u16 0, .int .u32 0, .int .u32 0, .string ⟨#[]⟩] 37)).hasIno (numE vl) hnl
  have c6e : ∀ k, ((W.drewN k).alloc (.cells #[.int .u8 0, .int .u16 0, .int .u32 0, .int .u32 0, .string ⟨#[]⟩] 37)).cell? ⟨v, 6, none⟩ = some (.map (some m1)) := fun k => by
    have := ((HV3.out.drewN k).alloc (.cells #[.int .u8 0, .int .u16 0, .int .u32 0, .int .u32 0, .string ⟨#[]⟩] 37)).blk.cell 6
    simpa using this
  have nb : ∀ k, Blk ((W.drewN k).alloc (.cells #[.int .u8 0, .int .u16 0, .int .u32 0, .int .u32 0, .string ⟨#[]⟩] 37)) W.heap.size #[.int .u8 0, .int .u16 0, .int .u32 0, .int .u32 0, .string ⟨#[]⟩] 37 := fun k => Blk.new (W.drewN k) _ _
  have n0 := fun k => (nb k).cell 0
  have n1 := fun k => (nb k).cell 1
  have n2 := fun k => (nb k).cell 2
  have n3 := fun k => (nb k).cell 3
  have n4 := fun k => (nb k).cell 4
  have y0 := fun k => (nb k).frozen 0
  have y1 := fun k => (nb k).frozen 1
  have y2 := fun k => (nb k).frozen 2
  have y3 := fun k => (nb k).frozen 3
  have y4 := fun k => (nb k).frozen 4
  simp at n0 n1 n2 n3 n4
  have q4b : ∀ k, ((W.drewN k).alloc (.cells #[.int .u8 0, .int .u16 0, .int .u32 0, .int .u32 0, .string ⟨#[]⟩] 37)).cell? ⟨w.heap.size, 4, none⟩ = some (.string (str vl)) := fun k => by
    have := ((HK.out.drewN k).alloc (.cells #[.int .u8 0, .int .u16 0, .int .u32 0, .int .u32 0, .string ⟨#[]⟩] 37)).cell 4
    simpa using this
  have q4c : (W.alloc (.cells #[.int .u8 0, .int .u16 0, .int .u32 0, .int .u32 0, .string ⟨#[]⟩] 37)).cell? ⟨w.heap.size, 4, none⟩ = some (.string (str vl)) := by
    have := (HK.out.alloc (.cells #[.int .u8 0, .int .u16 0, .int .u32 0, .int .u32 0, .string ⟨#[]⟩] 37)).cell 4
    simpa using this
  clear H4 nb
  have hBs := HB3.out.size
  go_wp2_with fail
  go_cut [8] (fun s8 wx => s8 = .bool (s.ino (numE vl)).isSome ∧ wx.cell? ⟨w.heap.size + 1, 0, none⟩ = some (.int .u8 ((s.inoAt ino).kind : Nat)) ∧ Hid (Below w.heap.size w wx))
  case first =>
    go_region_with (first | (go_at_call 27; refine (number_any vl (by omega) _).mono ?_; rintro e w' ⟨rfl, k, rfl⟩))
    all_goals
      go_wp2_with fail
      go_meet
      clear k1 k2 k3 n0 n1 n2 n3 n4 y0 y1 y2 y3 y4 q4b q4c c6d c6e
      refine ⟨rfl, (Blk.cell (cs := #[.int .u8 ((s.inoAt ino).kind : Nat), .int .u16 ((s.inoAt ino).mode : Nat), .int .u32 ((s.inoAt ino).links : Nat), .int .u32 ((s.inoAt ino).size : Nat), .string (str (s.inoAt ino).target)]) (t := 37) ?_ 0).trans rfl, Lib.hid ?_⟩
      · repeat (with_reducible (first | exact HI.out | apply Blk.alloc | apply Blk.drewN | apply Blk.drew | refine Blk.setFar ?_ hlt5 _ _))
      · repeat (with_reducible (first | exact HB3.out | apply below_drewN | apply below_drew | apply below_alloc | refine below_set ?_ hBs _ _))
  case rest =>
  obtain ⟨rfl, hkc, hBw⟩ := hcut
  clear k1 k2 k3 n0 n1 n2 n3 n4 y0 y1 y2 y3 y4 q4b q4c c6d c6e
  obtain ⟨is, his'⟩ : ∃ is, is = (s.ino ino).isSome := ⟨_, rfl⟩
  obtain ⟨th, hth⟩ : ∃ th, th = (s.ino (numE vl)).isSome := ⟨_, rfl⟩
  obtain ⟨k1, hk1⟩ : ∃ k1, k1 = ((s.inoAt ino).kind == 1) := ⟨_, rfl⟩
  have hkk : (((s.inoAt ino).kind : Int) == 1) = k1 := by rw [hk1, Bool.eq_iff_iff]; simp; omega
  have Hv2 : Hid (fitsB s ⟨⟨kd, ino, nm, ch⟩, vl⟩ = (is && th && k1)) := Lib.hid (by rw [Hv.out, his', hth, hk1])
  clear Hv
  rw [← his', ← hth]
  clear his' hth hk1
  cases is
  · go_wp2_with fail
    go_ret
    exact ⟨by rw [Hv2.out]; rfl, hBw.out⟩
  · cases th
    · go_wp2_with fail
      go_ret
      exact ⟨by rw [Hv2.out]; rfl, hBw.out⟩
    · go_wp2_with fail
      go_ret
      exact ⟨by rw [Hv2.out]; rfl, hBw.out⟩
end Go.Proofs.Ytoeiipkikpalaaa
