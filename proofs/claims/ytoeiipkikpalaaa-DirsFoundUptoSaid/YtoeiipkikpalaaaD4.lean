/- dirs: parse. -/
import Derived.Test.YtoeiipkikpalaaaD1
import Derived.Test.YtoeiipkikpalaaaB4
import Derived.Test.YtoeiipkikpalaaaK8
import Derived.BigRegion
import Derived.Carry
import Derived.Deep.Cut
import Derived.Deep.CutRange
import Derived.Deep.DeepCutAuto
set_option linter.unusedVariables false
set_option linter.unusedSimpArgs false
namespace Go.Proofs.Ytoeiipkikpalaaa
open Go.RowKit
theorem par_any (s : Bs) (hs : s.length ≤ 1048576) (w : World) : Calls Try.prog 52 #[.string (str s)] w (ParOut s w) := by
  by_cases h : s.length < 5
  · exact par_short s h w
  · exact par_long s h hs w
/-- While a volume is looked through: i items are behind. -/
structure PV (w wr : World) (v i : Nat) (it d z u r : Value) (s : PSt) (val : Value) : Prop where
  only : Only v w wr
  blk : Blk wr v #[it, d, z, u, r, val, .map (some w.heap.size), .map (some (w.heap.size + 1))] 77
  size : w.heap.size + 2 ≤ wr.heap.size
  row : wr.ownsRow (w.heap.size + 2) 84 5 val s.all.length (ktVs s.all)
  ino : MapF wr w.heap.size i (fun j => (s.ino j).map inoV)
  up : MapF wr (w.heap.size + 1) i (fun j => (s.up j).map upV)
theorem PV.step {w wr w' : World} {v i : Nat} {it d z u r : Value} {s : PSt} {val : Value} (h : PV w wr v i it d z u r s val) (hb : Below wr.heap.size wr w') : PV w w' v i it d z u r s val :=
  ⟨h.only.below hb, h.blk.below hb, Nat.le_trans h.size hb.size, own_below h.row hb, h.ino.below hb, h.up.below hb⟩
theorem PV.alloc {w wr : World} {v i : Nat} {it d z u r : Value} {s : PSt} {val : Value} (h : PV w wr v i it d z u r s val) (o : Obj) : PV w (wr.alloc o) v i it d z u r s val := h.step (below_alloc (Below.refl _ _) o)
theorem PV.drew {w wr : World} {v i : Nat} {it d z u r : Value} {s : PSt} {val : Value} (h : PV w wr v i it d z u r s val) : PV w wr.drew v i it d z u r s val := h.step (below_drew (Below.refl _ _))
theorem PV.drewN {w wr : World} {v i : Nat} {it d z u r : Value} {s : PSt} {val : Value} (h : PV w wr v i it d z u r s val) (k : Nat) : PV w (wr.drewN k) v i it d z u r s val := h.step (below_drewN (Below.refl _ _) k)
/-- What parse leaves. -/
def ParseOut (w : World) (v : Nat) (it d z u r : Value) (l : List It) (e : Ending) (w' : World) : Prop :=
  e = .returned (.bool (parsed l).isSome) ∧ Only v w w' ∧
  match parsed l with
  | some s => ∃ m1 m2 AA cc, VolSt w' v m1 m2 l.length it d z u r s AA cc ∧ s.Ok l.length ∧ (∀ b off, AA = some ⟨b, off, none⟩ → ktVs s.all ≠ [] → b ≠ v)
  | none => ∃ a b c, Blk w' v #[it, d, z, u, r, a, b, c] 77
theorem ParseOut.bad {w wr : World} {v i : Nat} {it d z u r : Value} {s : PSt} {val : Value} {l : List It} (h : parsed l = none) (hP : PV w wr v i it d z u r s val) : ParseOut w v it d z u r l (.returned (.bool false)) wr :=
  ⟨by rw [h]; rfl, hP.only, by rw [h]; exact ⟨_, _, _, hP.blk⟩⟩
theorem parsed_none {l : List It} (h : parseL PSt.zero l = none) : parsed l = none := by unfold parsed; rw [h]
theorem par_none {s : Bs} (hp : parKey s = none) {w w' : World} {e : Ending} (h : ParOut s w e w') : e = .returned (.tuple #[.agg #[.int .u8 0, .int .u32 0, .string (str []), .int .u32 0], .int .i64 4]) ∧ Below w.heap.size w w' := by
  unfold ParOut at h; rw [hp] at h; exact h
theorem par_some {s : Bs} {k : Ky} (hp : parKey s = some k) {w w' : World} {e : Ending} (h : ParOut s w e w') : e = .returned (.tuple #[.agg #[.int .u8 (k.kind : Nat), .int .u32 (k.ino : Nat), .string (str k.name), .int .u32 (k.chunk : Nat)], .int .i64 0]) ∧ Below w.heap.size w w' := by
  unfold ParOut at h; rw [hp] at h; exact h
theorem dec_none {s : Bs} (hp : decIno s = none) {w w' : World} {e : Ending} (h : DecOut s w e w') : e = .returned (.tuple #[.agg #[.int .u8 0, .int .u16 0, .int .u32 0, .int .u32 0, .string (str [])], .int .i64 4]) ∧ Below w.heap.size w w' := by
  unfold DecOut at h; rw [hp] at h; exact h
theorem dec_some {s : Bs} {n : Ino} (hp : decIno s = some n) {w w' : World} {e : Ending} (h : DecOut s w e w') : e = .returned (.tuple #[.agg #[.int .u8 (n.kind : Nat), .int .u16 (n.mode : Nat), .int .u32 (n.links : Nat), .int .u32 (n.size : Nat), .string (str n.target)], .int .i64 0]) ∧ Below w.heap.size w w' := by
  unfold DecOut at h; rw [hp] at h; exact h
theorem pstep_none {s : PSt} {x : It} (hp : parKey x.key = none) : pstep s x = none := by unfold pstep; rw [hp]
theorem info_kept : (Try.prog.info? 84).map (fun i => (i.zero, i.size, i.bytes)) = some (some (.agg #[.int .u8 0, .int .u32 0, .string ⟨#[]⟩, .int .u32 0, .string ⟨#[]⟩]), 5, 48) := by kernel_rfl
/-- The new row written into the volume. -/
theorem PV.app {w W w2 : World} {v i : Nat} {it d z u r val v1 : Value} {s : PSt} {k : Ky} {xv : Bs} (h : PV w W v i it d z u r s val) (hv : v < w.heap.size) (hb : Below (w.heap.size + 2) W w2)
    (hown : w2.ownsRow (w.heap.size + 2) 84 5 v1 (s.all.length + 1) (ktVs s.all ++ ktV ⟨k, xv⟩)) : PV w (w2.setCell ⟨v, 5, none⟩ v1) v i it d z u r (s.add k xv) v1 := by
  have hsz := h.size
  have ho : Only v w2 (w2.setCell ⟨v, 5, none⟩ v1) := (Only.refl v w2).set 5 v1
  refine ⟨(h.only.keep hb (by omega)).set 5 v1, (h.blk.kept hb (by omega)).set 5 v1, Nat.le_trans hsz (by simpa using hb.size), ?_, (h.ino.kept hb (by omega)).set (by omega) 5 v1, (h.up.kept hb (by omega)).set (by omega) 5 v1⟩
  have := own_only hown ho (by omega)
  simpa [PSt.add, ktVs] using this
/-- An inode, an entry written into the maps. -/
theorem PV.putI {w W w2 : World} {v i : Nat} {it d z u r val : Value} {s : PSt} {k : Ky} {xv : Bs} {n : Ino} (h : PV w W v i it d z u r (s.add k xv) val) (hv : v < w.heap.size)
    (hm : MapF w2 w.heap.size (i + 1) (updF (fun j => (s.ino j).map inoV) k.ino (some (inoV n)))) (ho : Only w.heap.size W w2) : PV w w2 v (i + 1) it d z u r (s.addI k xv n) val :=
  ⟨h.only.keep (below_grown (B := w.heap.size) ho (fun g hg => by injection hg with hg; omega) (by have := h.size; omega)) (Nat.le_refl _), h.blk.only ho (by omega), Nat.le_trans h.size ho.size, own_only h.row ho (by omega),
    by rw [← updF_map] at hm; exact hm, (h.up.only ho (by omega)).mono (by omega)⟩
theorem PV.putE {w W w2 : World} {v i : Nat} {it d z u r val : Value} {s : PSt} {k : Ky} {xv : Bs} (h : PV w W v i it d z u r (s.add k xv) val) (hv : v < w.heap.size)
    (hm : MapF w2 (w.heap.size + 1) (i + 1) (updF (fun j => (s.up j).map upV) (numE xv) (some (upV ((s.upAt (numE xv)).1 + 1, k.ino))))) (ho : Only (w.heap.size + 1) W w2) : PV w w2 v (i + 1) it d z u r (s.addE k xv) val :=
  ⟨h.only.keep (below_grown (B := w.heap.size) ho (fun g hg => by injection hg with hg; omega) (by have := h.size; omega)) (Nat.le_refl _), h.blk.only ho (by omega), Nat.le_trans h.size ho.size, own_only h.row ho (by omega),
    (h.ino.only ho (by omega)).mono (by omega), by rw [← updF_map] at hm; exact hm⟩
theorem PV.mono {w W : World} {v i j : Nat} {it d z u r val : Value} {s : PSt} (h : PV w W v i it d z u r s val) (hij : i ≤ j) : PV w W v j it d z u r s val :=
  ⟨h.only, h.blk, h.size, h.row, h.ino.mono hij, h.up.mono hij⟩
set_option maxRecDepth 100000 in
set_option maxHeartbeats 4000000 in
theorem parse_any (l : List It) (hsm : Small l) (A : Option Addr) (c : Nat) (v : Nat) (d z u r : Value) (w : World)
    (hB : Blk w v #[.slice A l.length c, d, z, u, r, .slice none 0 0, .map none, .map none] 77) (hR : Rd w A (itVs l)) (hA : ∀ b off, A = some ⟨b, off, none⟩ → itVs l ≠ [] → b ≠ v) :
    Calls Try.prog 35 #[.pointer (some ⟨v, 0, none⟩)] w (ParseOut w v (.slice A l.length c) d z u r l) := by
  have c0 := hB.cell 0
  have c6 := hB.cell 6
  have c7 := hB.cell 7
  have f6 := hB.frozen 6
  have f7 := hB.frozen 7
  simp at c0 c6 c7
  have hlt := hB.lt
  have HBk := Lib.hid hB
  have HR := Lib.hid hR
  have HA := Lib.hid hA
  clear hB hR hA
  have hmk := fun (t : TypeId) (w : World) => run_makeMap (P := Try.prog) t w
  go_enter Try.func35, Try.ntmps35
  go_wp2_with fail
  have P0 : PV w ((((w.setCell ⟨v, 6, none⟩ (.map (some w.heap.size))).setCell ⟨v, 7, none⟩ (.map (some (w.heap.size + 1)))).alloc (.map #[] 0)).alloc (.map #[] 0)) v 0 (.slice A l.length c) d z u r PSt.zero (.slice none 0 0) := by
    obtain ⟨w2, hw2⟩ : ∃ w2, w2 = (w.setCell ⟨v, 6, none⟩ (.map (some w.heap.size))).setCell ⟨v, 7, none⟩ (.map (some (w.heap.size + 1))) := ⟨_, rfl⟩
    have hsz : w2.heap.size = w.heap.size := by rw [hw2]; simp
    have hbk : Blk w2 v #[.slice A l.length c, d, z, u, r, .slice none 0 0, .map (some w.heap.size), .map (some (w.heap.size + 1))] 77 := by rw [hw2]; exact (HBk.out.set 6 _).set 7 _
    have hon : Only v w w2 := by rw [hw2]; exact ((Only.refl v w).set 6 _).set 7 _
    rw [← hw2]
    have h1 := MapF.made w2
    have h2 := MapF.made (w2.alloc (.map #[] 0))
    rw [hsz] at h1
    rw [show (w2.alloc (.map #[] 0)).heap.size = w.heap.size + 1 by simp [hsz]] at h2
    exact ⟨(hon.alloc _).alloc _, (hbk.alloc _).alloc _, by simp [hsz], own_nil _ _ _ _, h1.alloc _, h2⟩
  have HP0 := Lib.hid P0
  clear P0
  go_loopw [23] (fun t wr => ∃ (i : Nat) (s : PSt) (val : Value), t = .int .i64 (i : Nat) ∧ i ≤ l.length ∧ Hid (parseL PSt.zero (l.take i) = some s) ∧ Hid (PV w wr v i (.slice A l.length c) d z u r s val) ∧ Hid (s.Ok i)) (fun t _ => l.length - (intOf t).toNat)
  case atStart => exact ⟨0, PSt.zero, _, rfl, by omega, Lib.hid rfl, HP0, Lib.hid Ok_zero⟩
  case round =>
    clear HP0 c0 c6 c7 f6 f7 hmk
    obtain ⟨i, s, val, rfl, hi, hS, hP, hO⟩ := hrel
    by_cases hil : i < l.length
    · obtain ⟨x, hx⟩ : ∃ x, x = l[i]'hil := ⟨_, rfl⟩
      have hRw := HR.out.only hP.out.only HA.out
      obtain ⟨b, off, rfl, k0, k1⟩ := hRw.item i hil
      rw [← hx] at k0 k1
      have hstep := parseL_take l i hil
      rw [hS.out, ← hx] at hstep
      have Hst := Lib.hid hstep
      have hxs := hsm.2 x (by rw [hx]; exact List.getElem_mem hil)
      clear hstep hRw
      have Hx := Lib.hid hx
      have Hil := Lib.hid hil
      clear hx
      go_wp2_with fail
      have hX := Blk.new wr #[.string (str x.key), .string (str x.val)] 61
      refine (par_any x.key hxs.1 _).mono ?_
      rintro e w1 hPar
      cases hp : parKey x.key with
      | none =>
        obtain ⟨rfl, hb⟩ := par_none hp hPar
        have HP1 := Lib.hid ((hP.out.alloc _).step hb)
        have Hv := Lib.hid (parsed_none (parseL_none l (i + 1) (Hst.out.trans (pstep_none hp))))
        clear hPar hp hb hX
        go_wp2_with fail
        go_ret
        exact ParseOut.bad Hv.out (HP1.out.alloc _)
      | some k =>
        obtain ⟨rfl, hb⟩ := par_some hp hPar
        have HP1 := Lib.hid ((hP.out.alloc (.cells #[.string (str x.key), .string (str x.val)] 61)).step hb)
        have HX1 := Lib.hid (hX.below hb)
        have Hp := Lib.hid hp
        have Hrow := Lib.hid (fun k hk => (hP.out.row.lt k hk).2)
        have Hvw := Lib.hid (show v < wr.heap.size from hP.out.blk.lt)
        have Hw1 := Lib.hid (show wr.heap.size ≤ w1.heap.size from Nat.le_trans (by simp) hb.size)
        clear hPar hp hb hX k0 k1
        go_wp2_with fail
        obtain ⟨W, hW⟩ : ∃ W, W = w1.alloc (.cells #[.int .u8 (k.kind : Nat), .int .u32 (k.ino : Nat), .string (str k.name), .int .u32 (k.chunk : Nat)] 58) := ⟨_, rfl⟩
        rw [← hW]
        have hPW : PV w W v i (.slice (some ⟨b, off, none⟩) l.length c) d z u r s val := by rw [hW]; exact HP1.out.alloc _
        have hXW : Blk W wr.heap.size #[.string (str x.key), .string (str x.val)] 61 := by rw [hW]; exact HX1.out.alloc _
        have hKW : Blk W w1.heap.size #[.int .u8 (k.kind : Nat), .int .u32 (k.ino : Nat), .string (str k.name), .int .u32 (k.chunk : Nat)] 58 := by rw [hW]; exact Blk.new _ _ _
        clear hW HP1 HX1 hP
        have a5 := hPW.blk.cell 5
        have g5 := hPW.blk.frozen 5
        have x1 := hXW.cell 1
        have y0 := hKW.cell 0
        have y1 := hKW.cell 1
        have y2 := hKW.cell 2
        have y3 := hKW.cell 3
        have l1 := hPW.blk.lt
        have l2 := hXW.lt
        have l3 := hKW.lt
        have hsz := hPW.size
        have hls : s.all.length ≤ 2097152 := by have := hO.out.1; have := hsm.1; omega
        simp at a5 x1 y0 y1 y2 y3
        have HPW := Lib.hid hPW
        have HXW := Lib.hid hXW
        have HKW := Lib.hid hKW
        clear hPW hXW hKW
        go_cut [] (fun wx => ∃ (g2 cap : Nat) (w2 : World), wx = w2.setCell ⟨v, 5, none⟩ (.slice (some ⟨g2, 0, none⟩) (s.all.length + 1) cap) ∧ Hid (Below (w.heap.size + 2) W w2) ∧ Hid (W.grownBy w2 val.ownBlock) ∧
          Hid (w2.ownsRow (w.heap.size + 2) 84 5 (.slice (some ⟨g2, 0, none⟩) (s.all.length + 1) cap) (s.all.length + 1) (ktVs s.all ++ ktV ⟨k, x.val⟩)))
        case first =>
          go_region_law (first | (refine step_app _ rfl _ _ 73 rfl (w.heap.size + 2) 84 _ 5 48 Try.underlying73 info_kept rfl (by decide) (by decide) val s.all.length (ktVs s.all) #[.int .u8 (k.kind : Nat), .int .u32 (k.ino : Nat), .string (str k.name), .int .u32 (k.chunk : Nat), .string (str x.val)] rfl (by intro u hu; simp at hu; rcases hu with rfl | rfl | rfl | rfl | rfl <;> rfl) rfl W.heap.size rfl (Blk.new W _ _) ((HPW.out.alloc _).row) (by simp; omega) hls ?_; intro g2 cap w2 hown hbel hgrow; have hq := ((HPW.out.alloc _).drew).blk.kept hbel (by omega); have r5 := hq.cell 5; have r5f := hq.frozen 5; simp at r5))
          all_goals (go_wp2_with fail; go_meet; exact ⟨_, _, _, rfl, Lib.hid (show Below (w.heap.size + 2) W _ from below_app (by assumption) hsz), Lib.hid (grown_app (by assumption)), Lib.hid (by assumption)⟩)
        case rest =>
        obtain ⟨g2, cap, w2, hwc, hbel, hgr, hown⟩ := hcut
        have hPA := HPW.out.app hlt hbel.out hown.out
        rw [← hwc] at hPA
        have hXA : Blk wc wr.heap.size #[.string (str x.key), .string (str x.val)] 61 := by
          rw [hwc]; exact (HXW.out.grown hgr.out (fun k hk => Hrow.out k hk)).only ((Only.refl v w2).set 5 _) (by have := Hvw.out; omega)
        have hKA : Blk wc w1.heap.size #[.int .u8 (k.kind : Nat), .int .u32 (k.ino : Nat), .string (str k.name), .int .u32 (k.chunk : Nat)] 58 := by
          rw [hwc]; exact (HKW.out.grown hgr.out (fun k hk => Nat.lt_of_lt_of_le (Hrow.out k hk) Hw1.out)).only ((Only.refl v w2).set 5 _) (by have := Hvw.out; have := Hw1.out; omega)
        have y0' := hKA.cell 0
        have y1' := hKA.cell 1
        have x1' := hXA.cell 1
        simp at y0' y1' x1'
        have HPA := Lib.hid hPA
        have HXA := Lib.hid hXA
        have HKA := Lib.hid hKA
        clear hPA hXA hKA hwc hbel hgr hown HPW HXW HKW a5 g5 x1 y0 y1 y2 y3 l1 l2 l3
        have hk5 := (parKey_ok Hp.out).1
        have hki := (parKey_ok Hp.out).2.1
        by_cases hk1 : k.kind = 1
        · have e1 : ((k.kind : Int) == 1) = true := by rw [hk1]; rfl
          have Hk1 := Lib.hid hk1
          clear hk1
          go_wp2_with fail
          refine (decode_any x.val hxs.2 _).mono ?_
          rintro e w3 hD
          cases hd : decIno x.val with
          | none =>
            obtain ⟨rfl, hb3⟩ := dec_none hd hD
            have hps : pstep s x = none := by unfold pstep; rw [Hp.out]; simp only; rw [if_pos Hk1.out, hd]
            have Hv := Lib.hid (parsed_none (parseL_none l (i + 1) (Hst.out.trans hps)))
            have HP3 := Lib.hid (HPA.out.step hb3)
            clear hD hd hb3 hps HPA HXA HKA
            go_wp2_with fail
            go_ret
            exact ParseOut.bad Hv.out (HP3.out.alloc _)
          | some n =>
            obtain ⟨rfl, hb3⟩ := dec_some hd hD
            have hps : pstep s x = some (s.addI k x.val n) := by unfold pstep; rw [Hp.out]; simp only; rw [if_pos Hk1.out, hd]
            have Hps := Lib.hid hps
            have HP3 := Lib.hid (HPA.out.step hb3)
            have HK3 := Lib.hid (HKA.out.below hb3)
            clear hD hd hb3 hps HPA HXA HKA y0' y1' x1'
            go_wp2_with fail
            obtain ⟨W3, hW3⟩ : ∃ W3, W3 = w3.alloc (.cells #[.int .u8 (n.kind : Nat), .int .u16 (n.mode : Nat), .int .u32 (n.links : Nat), .int .u32 (n.size : Nat), .string (str n.target)] 37) := ⟨_, rfl⟩
            rw [← hW3]
            have hP4 : PV w W3 v i (.slice (some ⟨b, off, none⟩) l.length c) d z u r (s.add k x.val) (.slice (some ⟨g2, 0, none⟩) (s.all.length + 1) cap) := by rw [hW3]; exact HP3.out.alloc _
            have hK4 : Blk W3 w1.heap.size #[.int .u8 (k.kind : Nat), .int .u32 (k.ino : Nat), .string (str k.name), .int .u32 (k.chunk : Nat)] 58 := by rw [hW3]; exact HK3.out.alloc _
            have hI4 : Blk W3 w3.heap.size #[.int .u8 (n.kind : Nat), .int .u16 (n.mode : Nat), .int .u32 (n.links : Nat), .int .u32 (n.size : Nat), .string (str n.target)] 37 := by rw [hW3]; exact Blk.new _ _ _
            clear hW3
            have a6 := hP4.blk.cell 6
            have y1 := hK4.cell 1
            have i0 := hI4.cell 0
            have i1 := hI4.cell 1
            have i2 := hI4.cell 2
            have i3 := hI4.cell 3
            have i4 := hI4.cell 4
            simp at a6 y1 i0 i1 i2 i3 i4
            have HP4 := Lib.hid hP4
            have hil2 := Hil.out
            have hln : l.length ≤ 1048576 := hsm.1
            clear hP4 hK4 hI4 HP3 HK3
            obtain ⟨w4, hrun, hm4, ho4⟩ := HP4.out.drew.ino.put Try.underlying74 (by simp only [maxLen]; omega) k.ino hki (inoV n)
            have HP5 := Lib.hid (HP4.out.drew.putI (n := n) hlt hm4 ho4)
            simp only [inoV] at hrun
            clear hm4 ho4 HP4
            go_region
            all_goals
              go_wp2_with fail
              go_roundw
              case rel => exact ⟨i + 1, s.addI k x.val n, _, by go_num, by have := Hil.out; omega, Lib.hid (Hst.out.trans Hps.out), HP5, Lib.hid (pstep_ok hO.out hxs.1 hxs.2 Hps.out)⟩
              case measure => have := Hil.out; simp [intOf]; omega
        · have e1 : ((k.kind : Int) == 1) = false := by simpa using (show ¬ (k.kind : Int) = 1 by omega)
          have Hk1 := Lib.hid hk1
          clear hk1
          by_cases hk2 : k.kind = 2
          · have e2 : ((k.kind : Int) == 2) = true := by rw [hk2]; rfl
            have Hk2 := Lib.hid hk2
            clear hk2
            have hps : pstep s x = some (s.addE k x.val) := by unfold pstep; rw [Hp.out]; simp only; rw [if_neg Hk1.out, if_pos Hk2.out]
            have Hps := Lib.hid hps
            clear hps
            go_wp2_with fail
            refine (number_any x.val (by have := hxs.2; omega) _).mono ?_
            rintro e w3 ⟨rfl, nq, hq⟩
            obtain ⟨q, hqq⟩ : ∃ q, q = numE x.val := ⟨_, rfl⟩
            rw [← hqq]
            have hq32 : q < 4294967296 := by rw [hqq]; exact numE_lt _
            have hP3 : PV w w3 v i (.slice (some ⟨b, off, none⟩) l.length c) d z u r (s.add k x.val) (.slice (some ⟨g2, 0, none⟩) (s.all.length + 1) cap) := by rw [hq]; exact HPA.out.drewN nq
            have hK3 : Blk w3 w1.heap.size #[.int .u8 (k.kind : Nat), .int .u32 (k.ino : Nat), .string (str k.name), .int .u32 (k.chunk : Nat)] 58 := by rw [hq]; exact HKA.out.drewN nq
            have hlk := hP3.drew.up.look Try.underlying75 (zero_up w3.drew) q hq32
            have hgd : ((Option.map upV ((s.add k x.val).up q)).getD (upV (0, 0))) = .agg #[.int .i64 ((s.upAt q).1 : Nat), .int .u32 ((s.upAt q).2 : Nat)] := by rw [getD_map]; rfl
            rw [hgd] at hlk
            have hup1 := (Ok_upAt hO.out q).1
            have hln : l.length ≤ 1048576 := hsm.1
            have hil2 := Hil.out
            have hsum : IntKind.i64.wrap (((s.upAt q).1 : Nat) + 1) = (((s.upAt q).1 + 1 : Nat) : Int) := by rw [IntKind.wrap_i64]; omega
            obtain ⟨w4, hrun, hm4, ho4⟩ := hP3.drew.up.put Try.underlying75 (by simp only [maxLen]; omega) q hq32 (upV ((s.upAt q).1 + 1, k.ino))
            have hP5 : PV w w4 v (i + 1) (.slice (some ⟨b, off, none⟩) l.length c) d z u r (s.addE k x.val) (.slice (some ⟨g2, 0, none⟩) (s.all.length + 1) cap) := by
              refine hP3.drew.putE (k := k) (xv := x.val) hlt ?_ ho4
              rw [← hqq]; exact hm4
            have HP5 := Lib.hid hP5
            simp only [upV] at hrun
            push_cast at hrun
            have hfe := dir_entries
            have a7 := hP3.blk.cell 7
            have y1 := hK3.cell 1
            simp at a7 y1
            clear hm4 ho4 hP3 hK3 hP5 hgd hq hqq HPA HXA HKA y0' y1' x1'
            go_wp2_with fail
            go_region
            all_goals
              go_wp2_with fail
              go_roundw
              case rel => exact ⟨i + 1, s.addE k x.val, _, by go_num, by have := Hil.out; omega, Lib.hid (Hst.out.trans Hps.out), HP5, Lib.hid (pstep_ok hO.out hxs.1 hxs.2 Hps.out)⟩
              case measure => have := Hil.out; simp [intOf]; omega
          · have e2 : ((k.kind : Int) == 2) = false := by simpa using (show ¬ (k.kind : Int) = 2 by omega)
            have Hk2 := Lib.hid hk2
            clear hk2
            have hps : pstep s x = some (s.add k x.val) := by unfold pstep; rw [Hp.out]; simp only; rw [if_neg Hk1.out, if_neg Hk2.out]
            have Hps := Lib.hid hps
            clear hps
            have hil2 := Hil.out
            have hln : l.length ≤ 1048576 := hsm.1
            go_wp2_with fail
            go_roundw
            case rel => exact ⟨i + 1, s.add k x.val, _, by go_num, by have := Hil.out; omega, Lib.hid (Hst.out.trans Hps.out), Lib.hid (HPA.out.mono (by omega)), Lib.hid (pstep_ok hO.out hxs.1 hxs.2 Hps.out)⟩
            case measure => have := Hil.out; simp [intOf]; omega
    · have hii : l.take i = l := List.take_of_length_le (by omega)
      have hS2 : parseL PSt.zero l = some s := by rw [← hii]; exact hS.out
      have HS2 := Lib.hid hS2
      have hi2 : i = l.length := by omega
      have hP1 := hP.out
      have c0 := hP1.blk.cell 0
      simp at c0
      have hRw := HR.out.only hP1.only HA.out
      have hck := check_any l A c wr hRw hsm
      have Hck := Lib.hid hck
      clear hck hRw hS2 hii hP1
      have hco : chkE l = 0 ∨ chkE l = 4 := by unfold chkE; split <;> simp
      cases hc : chk l
      · have hv := Lib.hid (show parsed l = none by unfold parsed; rw [HS2.out]; simp only; rw [if_neg (by rw [hc]; simp)])
        have he : chkE l = 4 := by unfold chkE; rw [hc]; rfl
        rw [he] at Hck
        clear hco he hc
        go_wp2_with fail
        refine Hck.out.mono ?_
        rintro e w1 ⟨rfl, hb⟩
        have HP1 := Lib.hid (hP.out.step hb)
        clear hb
        go_wp2_with fail
        go_ret
        exact ParseOut.bad hv.out HP1.out
      · have he : chkE l = 0 := by unfold chkE; rw [hc]; rfl
        rw [he] at Hck
        have Hc := Lib.hid hc
        clear hco he hc
        go_wp2_with fail
        refine Hck.out.mono ?_
        rintro e w1 ⟨rfl, hb⟩
        have hP1 := hP.out.step hb
        have c6 := hP1.blk.cell 6
        simp at c6
        have hlk := hP1.ino.look Try.underlying74 (zero_ino w1) 1 (by omega)
        rw [getD_map] at hlk
        change _ = Result.ok (Value.agg #[.int .u8 ((s.inoAt 1).kind : Nat), .int .u16 ((s.inoAt 1).mode : Nat), .int .u32 ((s.inoAt 1).links : Nat), .int .u32 ((s.inoAt 1).size : Nat), .string (str (s.inoAt 1).target)]) _ at hlk
        push_cast at hlk
        have hik := inode_kind
        have HP1 := Lib.hid hP1
        clear hb hP1
        by_cases hk : (s.inoAt 1).kind = 1
        · have hv := Lib.hid (show parsed l = some s by unfold parsed; rw [HS2.out]; simp only; rw [if_pos ⟨Hc.out, hk⟩])
          have ek : (((s.inoAt 1).kind : Int) == 1) = true := by rw [hk]; rfl
          clear hk
          go_wp2_with fail
          go_ret
          refine ⟨by rw [hv.out]; rfl, HP1.out.only, ?_⟩
          rw [hv.out]
          simp only
          obtain ⟨AA, cc, rfl, hcc, hrd⟩ := own_rd HP1.out.row
          refine ⟨_, _, AA, cc, ⟨HP1.out.blk, hcc, hrd, by rw [← hi2]; exact HP1.out.ino, by rw [← hi2]; exact HP1.out.up⟩, by rw [← hi2]; exact hO.out, ?_⟩
          intro b off hA2 _
          have := own_ge HP1.out.row (b := b) (off := off) (c := cc) (by rw [hA2])
          omega
        · have hv := Lib.hid (show parsed l = none by unfold parsed; rw [HS2.out]; simp only; rw [if_neg (fun h => hk h.2)])
          have ek : (((s.inoAt 1).kind : Int) == 1) = false := by simpa using (show ¬ ((s.inoAt 1).kind : Int) = 1 by omega)
          clear hk
          go_wp2_with fail
          go_ret
          exact ParseOut.bad hv.out HP1.out
end Go.Proofs.Ytoeiipkikpalaaa
