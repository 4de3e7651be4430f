/- dirs: Right: looked through once. -/
import Derived.Test.YtoeiipkikpalaaaD6
import Derived.Test.YtoeiipkikpalaaaD5
import Derived.Test.YtoeiipkikpalaaaO2
set_option linter.unusedVariables false
set_option linter.unusedSimpArgs false
namespace Go.Proofs.Ytoeiipkikpalaaa
open Go.RowKit
theorem LookOut.blk5 {w w' : World} {v : Nat} {it d z u : Value} {l : List It} (h : LookOut w v it d z u l w') : ∃ r a b c, Blk w' v #[it, d, z, u, r, a, b, c] 77 := by
  obtain ⟨_, h⟩ := h
  split at h
  · obtain ⟨m1, m2, AA, cc, hV, _⟩ := h; exact ⟨_, _, _, _, hV.blk⟩
  · obtain ⟨a, b, c, hB⟩ := h; exact ⟨_, _, _, _, hB⟩
theorem VolSt.cellSet {w : World} {v m1 m2 N : Nat} {it d z u r : Value} {s : PSt} {AA : Option Addr} {cc : Nat} (h : VolSt w v m1 m2 N it d z u r s AA cc) (hA : ∀ b off, AA = some ⟨b, off, none⟩ → ktVs s.all ≠ [] → b ≠ v) :
    (∀ x, VolSt (w.setCell ⟨v, 1, none⟩ x) v m1 m2 N it x z u r s AA cc) ∧ (∀ x, VolSt (w.setCell ⟨v, 2, none⟩ x) v m1 m2 N it d x u r s AA cc) := by
  constructor
  · intro x
    have ho := (Only.refl v w).set 1 x
    exact ⟨h.blk.set 1 x, h.cap, h.rd.only ho hA, h.ino.only ho (ownsMap_ne h.ino h.blk), h.up.only ho (ownsMap_ne h.up h.blk)⟩
  · intro x
    have ho := (Only.refl v w).set 2 x
    exact ⟨h.blk.set 2 x, h.cap, h.rd.only ho hA, h.ino.only ho (ownsMap_ne h.ino h.blk), h.up.only ho (ownsMap_ne h.up h.blk)⟩
theorem LookOut.done {w w' : World} {v : Nat} {it d z u : Value} {l : List It} (h : LookOut w v it d z u l w') (x y : Value) : LookOut w v it x y u l ((w'.drew.setCell ⟨v, 1, none⟩ x).setCell ⟨v, 2, none⟩ y) := by
  obtain ⟨ho, h⟩ := h
  refine ⟨(ho.drew.set 1 x).set 2 y, ?_⟩
  split at h
  · obtain ⟨m1, m2, AA, cc, hV, hok, hA⟩ := h
    rename_i s hs
    exact ⟨m1, m2, AA, cc, ((hV.drew.cellSet hA).1 x).cellSet hA |>.2 y, hok, hA⟩
  · obtain ⟨a, b, c, hB⟩ := h
    exact ⟨a, b, c, (hB.drew.set 1 x).set 2 y⟩
theorem LookOut.from {w0 w w' : World} {v : Nat} {it d z u : Value} {l : List It} (h : LookOut w v it d z u l w') (ho : Only v w0 w) : LookOut w0 v it d z u l w' := ⟨ho.trans h.1, h.2⟩
set_option maxRecDepth 100000 in
set_option maxHeartbeats 1000000 in
theorem slow_look (l : List It) (hsm : Small l) (A : Option Addr) (c : Nat) (v : Nat) (w : World) (hB : Blk w v (opened A l.length c) 77) (hR : Rd w A (itVs l)) (hA : ∀ b off, A = some ⟨b, off, none⟩ → itVs l ≠ [] → b ≠ v) :
    Calls Try.prog 34 #[.pointer (some ⟨v, 1, none⟩), .func (.func 23) #[.pointer (some ⟨v, 0, none⟩)] #[]] w fun e w' => e = .returned (.tuple #[]) ∧ LookOut w v (.slice A l.length c) (.int .u32 1) (.int .i32 0) (.int .u32 0) l w' := by
  unfold opened at hB
  have h1 := hB.cell 1
  have h2 := hB.cell 2
  have f1 := hB.frozen 1
  have f2 := hB.frozen 2
  simp at h1 h2
  have hl := run_call_load (P := Try.prog) Try.func48 (by kernel_rfl) (by kernel_rfl) (by kernel_rfl) .u32 (by kernel_rfl) (w := w.setCell ⟨v, 2, none⟩ (.int .i32 1)) (a := ⟨v, 1, none⟩) (x := 0) ((World.cell?_setCell_other _ ⟨v, 2, none⟩ ⟨v, 1, none⟩ _ (by simp)).trans h1)
  have hnot : ∀ (x : Bool) (w : World), (Op.unary .not (.bool x)).run Try.prog w = .ok (.bool (!x)) w := fun _ _ => rfl
  have HB1 := Lib.hid (hB.set 2 (.int .i32 1))
  have HO1 := Lib.hid ((Only.refl v w).set 2 (.int .i32 1))
  have HR1 := Lib.hid (hR.only ((Only.refl v w).set 2 (.int .i32 1)) hA)
  have HA := Lib.hid hA
  have HS := Lib.hid hsm
  clear hB hR hA hsm
  go_enter_defers Try.func34, Try.ntmps34
  go_wp2_with (go_at_call 49; refine (on_lock ⟨v, 2, none⟩ _ (by go_simp) (by go_simp)).mono ?_; rintro e w' ⟨rfl, rfl⟩)
  go_wp2_with (go_at_call 33; go_in)
  refine (look_any l HS.out A c v _ _ _ _ HB1.out HR1.out HA.out).mono ?_
  rintro e w2 ⟨rfl, hL⟩
  have HL := Lib.hid (hL.from HO1.out)
  obtain ⟨r, a, b, cc, hB2⟩ := hL.blk5
  have q1 := hB2.cell 1
  have q2 := hB2.cell 2
  have z1 := hB2.frozen 1
  have z2 := hB2.frozen 2
  simp at q1 q2
  clear hL hB2 h1 h2 f1 f2 hl HB1 HR1 HO1
  go_wp2
  refine leaves_cons (f := 51) (args := #[.pointer (some ⟨v, 1, none⟩), .bool true]) (by simp) (by simp [go_sem]) ?_
  refine (on_store ⟨v, 1, none⟩ (.int .u32 0) .returning _ q1 z1).mono ?_
  rintro e u' w'' ⟨rfl, rfl, rfl⟩
  have q3 : (w2.drew.setCell ⟨v, 1, none⟩ (.int .u32 1)).cell? ⟨v, 2, none⟩ = some (.int .i32 1) := (World.cell?_setCell_other _ ⟨v, 1, none⟩ ⟨v, 2, none⟩ _ (by simp)).trans q2
  have z3 : (w2.drew.setCell ⟨v, 1, none⟩ (.int .u32 1)).frozen? ⟨v, 2, none⟩ = false := by simp [z2]
  refine leaves_cons (f := 50) (args := #[.pointer (some ⟨v, 2, none⟩)]) (by simp [settle]) (by simp [go_sem]) ?_
  refine (on_unlock ⟨v, 2, none⟩ _ _ q3 z3).mono ?_
  rintro e u' w'' ⟨rfl, rfl, rfl⟩
  have hfin := HL.out.done (.int .u32 1) (.int .i32 0)
  simp [Leaves, settle, results, Try.results34]
  exact hfin
theorem do_look (l : List It) (hsm : Small l) (A : Option Addr) (c : Nat) (v : Nat) (w : World) (hB : Blk w v (opened A l.length c) 77) (hR : Rd w A (itVs l)) (hA : ∀ b off, A = some ⟨b, off, none⟩ → itVs l ≠ [] → b ≠ v) :
    Calls Try.prog 22 #[.pointer (some ⟨v, 1, none⟩), .func (.func 23) #[.pointer (some ⟨v, 0, none⟩)] #[]] w fun e w' => e = .returned (.tuple #[]) ∧ LookOut w v (.slice A l.length c) (.int .u32 1) (.int .i32 0) (.int .u32 0) l w' := by
  have hnot : ∀ (x : Bool) (w : World), (Op.unary .not (.bool x)).run Try.prog w = .ok (.bool (!x)) w := fun _ _ => rfl
  have h1 := hB.cell 1
  unfold opened at h1
  simp at h1
  have hl := run_call_load (P := Try.prog) Try.func48 (by kernel_rfl) (by kernel_rfl) (by kernel_rfl) .u32 (by kernel_rfl) h1
  have hs := Lib.hid (slow_look l hsm A c v w hB hR hA)
  clear hB hR hA hsm
  go_enter Try.func22, Try.ntmps22
  go_wp2_with (go_at_call 33; go_in)
  refine hs.out.mono ?_
  rintro e w2 ⟨rfl, hL⟩
  go_wp2
  go_end0
  exact ⟨rfl, hL⟩
/-- What is known of a volume that was looked through. -/
def Looked (w : World) (v : Nat) (A : Option Addr) (c : Nat) (l : List It) (w' : World) : Prop := LookOut w v (.slice A l.length c) (.int .u32 1) (.int .i32 0) (.int .u32 0) l w'
theorem right_any (l : List It) (hsm : Small l) (A : Option Addr) (c : Nat) (v : Nat) (w : World) (hB : Blk w v (opened A l.length c) 77) (hR : Rd w A (itVs l)) (hA : ∀ b off, A = some ⟨b, off, none⟩ → itVs l ≠ [] → b ≠ v) :
    Calls Try.prog 15 #[.pointer (some ⟨v, 0, none⟩)] w fun e w' => e = .returned (.bool (vol l).isSome) ∧ Looked w v A c l w' := by
  have hmf : ∀ (fn : Fn) (first cap : Array Value) (w : World), (Instr.makeFunc fn first cap).run Try.prog w = .ok (.func fn first cap) w := fun _ _ _ _ => rfl
  have hs := Lib.hid (do_look l hsm A c v w hB hR hA)
  clear hB hR hA hsm
  go_enter Try.func15, Try.ntmps15
  go_wp2_with fail
  refine hs.out.mono ?_
  rintro e w2 ⟨rfl, hL⟩
  have HL := Lib.hid (show Looked w v A c l w2 from hL)
  obtain ⟨_, hm⟩ := hL
  cases hv : vol l with
  | none =>
    rw [hv] at hm
    obtain ⟨a, b, cc, hB⟩ := hm
    have c4 := hB.cell 4
    simp at c4
    have Hv := Lib.hid hv
    clear hB hv
    go_wp2_with fail
    go_ret
    exact ⟨by rw [Hv.out]; rfl, HL.out⟩
  | some s =>
    rw [hv] at hm
    obtain ⟨m1, m2, AA, cc, hV, _, _⟩ := hm
    have c4 := hV.blk.cell 4
    simp at c4
    have Hv := Lib.hid hv
    clear hV hv
    go_wp2_with fail
    go_ret
    exact ⟨by rw [Hv.out]; rfl, HL.out⟩
end Go.Proofs.Ytoeiipkikpalaaa
