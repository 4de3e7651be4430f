/- dirs: what is asked of a new volume. -/
import Derived.Test.YtoeiipkikpalaaaD11
set_option linter.unusedVariables false
set_option linter.unusedSimpArgs false
namespace Go.Proofs.Ytoeiipkikpalaaa
open Go.RowKit
theorem new_small : Small newIts := by
  refine ⟨by decide, fun x hx => ?_⟩
  unfold newIts at hx
  simp only [List.mem_singleton] at hx
  subst hx
  exact ⟨by decide +kernel, by decide +kernel⟩
theorem nil_small : Small [] := ⟨by simp, by simp⟩
theorem new_dget : dgetE newIts 1 = (⟨1, 0, 1, 0, []⟩, 0) := by unfold dgetE; rw [vol_new]; rfl
theorem new_dwalk0 : dwalkE newIts [] true = (1, 0) := by unfold dwalkE; rw [vol_new]; exact walkN_nil ..
theorem new_dwalk1 : dwalkE newIts [[97]] true = (0, 5) := by unfold dwalkE; rw [vol_new]; exact walk_new
theorem new_dlist : dlistE newIts 1 = ([], 0) := by
  unfold dlistE; rw [vol_new]; simp only
  have h : newS.ino 1 = some ⟨1, 0, 1, 0, []⟩ := rfl
  rw [h]; simp only
  rw [if_pos trivial, ls_new]
theorem new_dnext : dnextE newIts = (2, 0) := by unfold dnextE; rw [vol_new]; simp only; rw [next_new]
theorem new_derr : dErr newIts = 0 := by unfold dErr; rw [vol_new]; rfl
theorem nil_derr : dErr [] = 9 := by unfold dErr; rw [vol_none]; rfl
section
variable (g : Nat) (w : World) (hR : Rd w (some ⟨g, 0, none⟩) (itVs newIts))
include hR
theorem new_get : Calls Try.prog 10 #[.slice (some ⟨g, 0, none⟩) 1 1, .int .u32 1] w fun e w' => e = .returned (.tuple #[.agg #[.int .u8 1, .int .u16 0, .int .u32 1, .int .u32 0, .string ⟨#[]⟩], .int .i64 0]) ∧ Below w.heap.size w w' := by
  have h := dget_any newIts new_small (some ⟨g, 0, none⟩) 1 w hR 1 (by omega)
  rw [new_dget] at h
  exact h
theorem new_walk0 : Calls Try.prog 8 #[.slice (some ⟨g, 0, none⟩) 1 1, .slice none 0 0, .bool true] w fun e w' => e = .returned (.tuple #[.int .u32 1, .int .i64 0]) ∧ Below w.heap.size w w' := by
  have h := dwalk_any newIts new_small (some ⟨g, 0, none⟩) 1 w hR [] none 0 (by simp) (Rd.nil _ _) (by simp) (by simp) true
  rw [new_dwalk0] at h
  exact h
theorem new_walk1 (k : Nat) (hk : Blk w k #[.string ⟨#[97]⟩] 9) : Calls Try.prog 8 #[.slice (some ⟨g, 0, none⟩) 1 1, .slice (some ⟨k, 0, none⟩) 1 1, .bool true] w fun e w' => e = .returned (.tuple #[.int .u32 0, .int .i64 5]) ∧ Below w.heap.size w w' := by
  have h := dwalk_any newIts new_small (some ⟨g, 0, none⟩) 1 w hR [[97]] (some ⟨k, 0, none⟩) 1 (by simp) (fun _ => ⟨k, 0, rfl, fun i hi => by
    have := hk.cell i
    rw [Nat.zero_add, this]
    simp [nameVs, str]⟩) (by simp) (by simp) true
  rw [new_dwalk1] at h
  exact h
theorem new_list : Calls Try.prog 9 #[.slice (some ⟨g, 0, none⟩) 1 1, .int .u32 1] w fun e w' => ∃ A c, e = .returned (.tuple #[.slice A 0 c, .int .i64 0]) ∧ Below w.heap.size w w' := by
  have h := dlist_any newIts new_small (some ⟨g, 0, none⟩) 1 w hR 1 (by omega)
  rw [new_dlist] at h
  refine h.mono ?_
  rintro e w' ⟨x, rfl, ⟨A, c, rfl, _⟩, hb⟩
  exact ⟨A, c, rfl, hb⟩
theorem new_next : Calls Try.prog 12 #[.slice (some ⟨g, 0, none⟩) 1 1] w fun e w' => e = .returned (.tuple #[.int .u32 2, .int .i64 0]) ∧ Below w.heap.size w w' := by
  have h := dnext_any newIts new_small (some ⟨g, 0, none⟩) 1 w hR
  rw [new_dnext] at h
  exact h
theorem new_check : Calls Try.prog 11 #[.slice (some ⟨g, 0, none⟩) 1 1] w fun e w' => e = .returned (.int .i64 0) ∧ Below w.heap.size w w' := by
  have h := dcheck_any newIts new_small (some ⟨g, 0, none⟩) 1 w hR
  rw [new_derr] at h
  exact h
end
theorem nil_check (w : World) : Calls Try.prog 11 #[.slice none 0 0] w fun e w' => e = .returned (.int .i64 9) ∧ Below w.heap.size w w' := by
  have h := dcheck_any [] nil_small none 0 w (Rd.nil _ _)
  rw [nil_derr] at h
  exact h
set_option maxRecDepth 100000 in
theorem lives_any (w : World) : Calls Try.prog 7 #[] w fun e w' => e = .returned (.bool true) ∧ Below w.heap.size w w' := by
  go_enter Try.func7, Try.ntmps7
  go_wp2_with fail
  refine (new_any _).mono ?_
  rintro e w1 ⟨g, rfl, hR, hb1⟩
  rw [show newIts.length = 1 from rfl]
  have HR1 := Lib.hid hR
  have HB1 := Lib.hid hb1
  clear hR hb1
  go_wp2_with fail
  refine (new_get g _ HR1.out).mono ?_
  rintro e w2 ⟨rfl, hb⟩
  have HR2 := Lib.hid (HR1.out.below hb)
  have HB2 := Lib.hid (below_step HB1.out hb)
  clear hb HR1 HB1
  go_wp2_with fail
  have HR3 := Lib.hid (HR2.out.below (below_alloc (Below.refl _ _) (.cells #[.int .u8 1, .int .u16 0, .int .u32 1, .int .u32 0, .string ⟨#[]⟩] 37)))
  have HB3 := Lib.hid (below_alloc HB2.out (.cells #[.int .u8 1, .int .u16 0, .int .u32 1, .int .u32 0, .string ⟨#[]⟩] 37))
  have HI3 := Lib.hid (Blk.new w2 #[.int .u8 1, .int .u16 0, .int .u32 1, .int .u32 0, .string ⟨#[]⟩] 37)
  clear HR2 HB2
  refine (new_walk0 g _ HR3.out).mono ?_
  rintro e w4 ⟨rfl, hb⟩
  have HR4 := Lib.hid (HR3.out.below hb)
  have HB4 := Lib.hid (below_step HB3.out hb)
  have HI4 := Lib.hid (HI3.out.below hb)
  clear hb HR3 HB3 HI3
  go_wp2_with fail
  have hb0 := below_alloc (Below.refl w4.heap.size w4) (.cells #[.string ⟨#[97]⟩] 9)
  have HR5 := Lib.hid (HR4.out.below hb0)
  have HB5 := Lib.hid (below_step HB4.out hb0)
  have HI5 := Lib.hid (HI4.out.below hb0)
  clear hb0 HR4 HB4 HI4
  refine (new_walk1 g _ HR5.out _ (Blk.new w4 _ _)).mono ?_
  rintro e w6 ⟨rfl, hb⟩
  have HR6 := Lib.hid (HR5.out.below hb)
  have HB6 := Lib.hid (below_step HB5.out hb)
  have HI6 := Lib.hid (HI5.out.below hb)
  clear hb HR5 HB5 HI5
  go_wp2_with fail
  refine (new_list g _ HR6.out).mono ?_
  rintro e w7 ⟨A, c, rfl, hb⟩
  have HR7 := Lib.hid (HR6.out.below hb)
  have HB7 := Lib.hid (below_step HB6.out hb)
  have HI7 := Lib.hid (HI6.out.below hb)
  clear hb HR6 HB6 HI6
  go_wp2_with fail
  refine (new_next g _ HR7.out).mono ?_
  rintro e w8 ⟨rfl, hb⟩
  have HR8 := Lib.hid (HR7.out.below hb)
  have HB8 := Lib.hid (below_step HB7.out hb)
  have HI8 := Lib.hid (HI7.out.below hb)
  clear hb HR7 HB7 HI7
  go_wp2_with fail
  refine (new_check g _ HR8.out).mono ?_
  rintro e w9 ⟨rfl, hb⟩
  have HB9 := Lib.hid (below_step HB8.out hb)
  have i0 := (HI8.out.below hb).cell 0
  simp at i0
  clear hb HR8 HB8 HI8
  go_wp2_with fail
  refine (nil_check _).mono ?_
  rintro e w10 ⟨rfl, hb⟩
  have HB10 := Lib.hid (below_step HB9.out hb)
  clear hb HB9
  go_wp2_with fail
  go_ret
  exact ⟨rfl, HB10.out⟩
end Go.Proofs.Ytoeiipkikpalaaa
