/- Contracts: the letters of the kinds of keys, made once. -/
import Derived.Test.YtoeiipkikpalaaaO
import Derived.BigRegion
set_option linter.unusedVariables false
set_option linter.unusedSimpArgs false
namespace Go.Proofs.Ytoeiipkikpalaaa
open Go.RowKit
set_option maxRecDepth 100000 in
theorem letter1_any (g p : Nat) (hne : g ≠ p) (d s z : Value) (w : World) (Hp : Blk w p #[.pointer (some ⟨g, 0, none⟩)] 126)
    (Hg : Blk w g #[d, s, z, .int .u8 0, .int .u8 0, .int .u8 0, .int .u8 0, .int .u8 0] 110) :
    Calls Try.prog 60 #[.pointer (some ⟨p, 0, none⟩)] w fun e w' => e = .returned (.tuple #[]) ∧ Blk w' g #[d, s, z, .int .u8 0, .int .u8 105, .int .u8 100, .int .u8 99, .int .u8 120] 110 ∧ Only g w w' := by
  have p0 := Hp.cell 0
  have c4 := Hg.cell 4
  have c5 := Hg.cell 5
  have c6 := Hg.cell 6
  have c7 := Hg.cell 7
  have f4 := Hg.frozen 4
  have f5 := Hg.frozen 5
  have f6 := Hg.frozen 6
  have f7 := Hg.frozen 7
  simp at p0 c4 c5 c6 c7
  have HG := Lib.hid Hg
  clear Hp Hg
  go_enter Try.func60, Try.ntmps60
  go_wp2
  go_region
  all_goals
    go_end0
    exact ⟨rfl, ((((HG.out.set 4 _).set 5 _).set 6 _).set 7 _).drew, (((((Only.refl g w).set 4 _).set 5 _).set 6 _).set 7 _).drew⟩
/-- A Once that has not been done, at cells o, o + 1, o + 2 of a block, as one: what is asked of whoever hands it a function. -/
theorem slow_letters (g p : Nat) (hne : g ≠ p) (w : World) (Hp : Blk w p #[.pointer (some ⟨g, 0, none⟩)] 126)
    (Hg : Blk w g #[.int .u32 0, .int .i32 0, .int .u32 0, .int .u8 0, .int .u8 0, .int .u8 0, .int .u8 0, .int .u8 0] 110) :
    Calls Try.prog 34 #[.pointer (some ⟨g, 0, none⟩), .func (.func 60) #[] #[.pointer (some ⟨p, 0, none⟩)]] w fun e w' => e = .returned (.tuple #[]) ∧
      Blk w' g #[.int .u32 1, .int .i32 0, .int .u32 0, .int .u8 0, .int .u8 105, .int .u8 100, .int .u8 99, .int .u8 120] 110 ∧ Only g w w' := by
  have h0 := Hg.cell 0
  have h1 := Hg.cell 1
  have f0 := Hg.frozen 0
  have f1 := Hg.frozen 1
  simp at h0 h1
  have hl := run_call_load (P := Try.prog) Try.func48 (by kernel_rfl) (by kernel_rfl) (by kernel_rfl) .u32 (by kernel_rfl) (w := w.setCell ⟨g, 1, none⟩ (.int .i32 1)) (a := ⟨g, 0, none⟩) (x := 0) ((World.cell?_setCell_other _ ⟨g, 1, none⟩ ⟨g, 0, none⟩ _ (by simp)).trans h0)
  have hnot : ∀ (x : Bool) (w : World), (Op.unary .not (.bool x)).run Try.prog w = .ok (.bool (!x)) w := fun _ _ => rfl
  have HG := Lib.hid Hg
  have HP := Lib.hid Hp
  clear Hg Hp
  go_enter_defers Try.func34, Try.ntmps34
  go_wp2_with (go_at_call 49; refine (on_lock ⟨g, 1, none⟩ _ (by go_simp) (by go_simp)).mono ?_; rintro e w' ⟨rfl, rfl⟩)
  go_wp2_with (go_at_call 33; go_in)
  have HG1 := HG.out.set 1 (.int .i32 1)
  have HP1 := HP.out.only ((Only.refl g w).set 1 (.int .i32 1)) (Ne.symm hne)
  refine (letter1_any g p hne _ _ _ _ HP1 HG1).mono ?_
  rintro e w2 ⟨rfl, HG2, O2⟩
  have q0 := HG2.cell 0
  have q1 := HG2.cell 1
  have z0 := HG2.frozen 0
  have z1 := HG2.frozen 1
  simp at q0 q1
  have HG2' := Lib.hid HG2
  clear HG1 HP1 HG2 h0 h1 f0 f1 hl
  go_wp2
  refine leaves_cons (f := 51) (args := #[.pointer (some ⟨g, 0, none⟩), .bool true]) (by simp) (by simp [go_sem]) ?_
  refine (on_store ⟨g, 0, none⟩ (.int .u32 0) .returning _ q0 z0).mono ?_
  rintro e u' w'' ⟨rfl, rfl, rfl⟩
  have q3 : (w2.drew.setCell ⟨g, 0, none⟩ (.int .u32 1)).cell? ⟨g, 1, none⟩ = some (.int .i32 1) := (World.cell?_setCell_other _ ⟨g, 0, none⟩ ⟨g, 1, none⟩ _ (by simp)).trans q1
  have z3 : (w2.drew.setCell ⟨g, 0, none⟩ (.int .u32 1)).frozen? ⟨g, 1, none⟩ = false := by simp [z1]
  refine leaves_cons (f := 50) (args := #[.pointer (some ⟨g, 1, none⟩)]) (by simp [settle]) (by simp [go_sem]) ?_
  refine (on_unlock ⟨g, 1, none⟩ _ _ q3 z3).mono ?_
  rintro e u' w'' ⟨rfl, rfl, rfl⟩
  have hB : Blk ((w2.drew.setCell ⟨g, 0, none⟩ (.int .u32 1)).setCell ⟨g, 1, none⟩ (.int .i32 0)) g #[.int .u32 1, .int .i32 0, .int .u32 0, .int .u8 0, .int .u8 105, .int .u8 100, .int .u8 99, .int .u8 120] 110 := (HG2'.out.drew.set 0 _).set 1 _
  have hO : Only g w ((w2.drew.setCell ⟨g, 0, none⟩ (.int .u32 1)).setCell ⟨g, 1, none⟩ (.int .i32 0)) := (((((Only.refl g w).set 1 (.int .i32 1)).trans O2).drew).set 0 _).set 1 _
  simp [Leaves, settle, results, Try.results34]
  exact ⟨hB, hO⟩
end Go.Proofs.Ytoeiipkikpalaaa
