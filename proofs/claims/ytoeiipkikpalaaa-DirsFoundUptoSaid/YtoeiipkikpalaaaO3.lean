/- Contracts: inode's letters; keys' beginnings. -/
import Derived.Test.YtoeiipkikpalaaaO2
import Derived.Test.YtoeiipkikpalaaaK7
import Derived.Deep.RegionWith
set_option linter.unusedVariables false
set_option linter.unusedSimpArgs false
namespace Go.Proofs.Ytoeiipkikpalaaa
open Go.RowKit
/-- The letters: not yet made (b = false), or made. -/
def LS (w : World) (g : Nat) (b : Bool) : Prop :=
  Blk w g (if b then #[.int .u32 1, .int .i32 0, .int .u32 0, .int .u8 0, .int .u8 105, .int .u8 100, .int .u8 99, .int .u8 120] else #[.int .u32 0, .int .i32 0, .int .u32 0, .int .u8 0, .int .u8 0, .int .u8 0, .int .u8 0, .int .u8 0]) 110
theorem do_letters (g p : Nat) (hne : g ≠ p) (w : World) (Hp : Blk w p #[.pointer (some ⟨g, 0, none⟩)] 126) (b : Bool) (Hg : LS w g b) :
    Calls Try.prog 22 #[.pointer (some ⟨g, 0, none⟩), .func (.func 60) #[] #[.pointer (some ⟨p, 0, none⟩)]] w fun e w' => e = .returned (.tuple #[]) ∧ LS w' g true ∧ Only g w w' := by
  have hnot : ∀ (x : Bool) (w : World), (Op.unary .not (.bool x)).run Try.prog w = .ok (.bool (!x)) w := fun _ _ => rfl
  cases b
  · have h0 := Blk.cell Hg 0
    simp at h0
    have hl := run_call_load (P := Try.prog) Try.func48 (by kernel_rfl) (by kernel_rfl) (by kernel_rfl) .u32 (by kernel_rfl) h0
    have HG := Lib.hid Hg
    have HP := Lib.hid Hp
    clear Hg Hp
    go_enter Try.func22, Try.ntmps22
    go_wp2_with (go_at_call 33; go_in)
    refine (slow_letters g p hne w HP.out HG.out).mono ?_
    rintro e w2 ⟨rfl, hB, hO⟩
    go_wp2
    go_end0
    exact ⟨rfl, hB, hO⟩
  · have h0 := Blk.cell Hg 0
    simp at h0
    have hl := run_call_load (P := Try.prog) Try.func48 (by kernel_rfl) (by kernel_rfl) (by kernel_rfl) .u32 (by kernel_rfl) h0
    have HG := Lib.hid Hg
    clear Hg Hp
    go_enter Try.func22, Try.ntmps22
    go_wp2_with (go_at_call 33; go_in)
    go_end0
    exact ⟨rfl, HG.out, Only.refl g w⟩
set_option maxRecDepth 100000 in
theorem letter_any (g : Nat) (w : World) (b : Bool) (k : Nat) (hk : k < 256) (Hg : LS w g b) :
    Calls Try.prog 45 #[.pointer (some ⟨g, 0, none⟩), .int .u8 (k : Nat)] w fun e w' => e = .returned (.int .u8 ((letterOf k).toNat : Nat)) ∧ LS w' g true ∧ Only g w w' := by
  have hmf : ∀ (fn : Fn) (first cap : Array Value) (w : World), (Instr.makeFunc fn first cap).run Try.prog w = .ok (.func fn first cap) w := fun _ _ _ _ => rfl
  have hlt : g < w.heap.size := Blk.lt Hg
  have HG := Lib.hid Hg
  clear Hg
  go_enter Try.func45, Try.ntmps45
  go_wp2_with fail
  refine (do_letters g w.heap.size (by omega) _ (Blk.new w _ _) b (Blk.alloc HG.out _)).mono ?_
  rintro e w2 ⟨rfl, hB, hO⟩
  have c3 := Blk.cell hB 3
  have c4 := Blk.cell hB 4
  have c5 := Blk.cell hB 5
  have c6 := Blk.cell hB 6
  have c7 := Blk.cell hB 7
  simp at c3 c4 c5 c6 c7
  have hp := ((Blk.new w #[.pointer (some ⟨g, 0, none⟩)] 126).only hO (by omega)).cell 0
  simp at hp
  have HB := Lib.hid hB
  have HO := Lib.hid hO
  clear hB hO
  by_cases h5 : k < 5
  · have h6 : k = 0 ∨ k = 1 ∨ k = 2 ∨ k = 3 ∨ k = 4 := by omega
    rcases h6 with rfl | rfl | rfl | rfl | rfl
    all_goals
      go_wp2_with fail
      go_ret
      exact ⟨rfl, HB.out, (Only.refl g w).alloc _ |>.trans HO.out⟩
  · have hv : letterOf k = 0 := by unfold letterOf; split <;> first | rfl | omega
    have Hv := Lib.hid hv
    clear hv
    go_wp2_with fail
    go_ret
    exact ⟨by rw [Hv.out]; rfl, HB.out, (Only.refl g w).alloc _ |>.trans HO.out⟩
theorem conv_one (W : World) (g : Nat) (n : Int) (h : W.cell? ⟨g, 0, none⟩ = some (.int .u8 n)) : (convert 112 9 (.slice (some ⟨g, 0, none⟩) 1 1)).run Try.prog W = .ok (.string (str [UInt8.ofNat n.toNat])) W :=
  run_convert_bytes_arg W 112 5 Try.underlying112 Try.underlying5 g 0 1 1 [n] rfl (fun i hi => by cases i with | zero => exact h | succ i => exact absurd hi (by omega)) 9 Try.underlying9
set_option maxRecDepth 100000 in
theorem prefix_any (k ino : Nat) (hk : k < 256) (hi : ino < 4294967296) (w : World) :
    Calls Try.prog 29 #[.int .u8 (k : Nat), .int .u32 (ino : Nat)] w fun e w' => e = .returned (.string (str (prefixB k ino))) ∧ Below w.heap.size w w' := by
  have hL : LS (w.alloc (.cells #[.int .u32 0, .int .i32 0, .int .u32 0, .int .u8 0, .int .u8 0, .int .u8 0, .int .u8 0, .int .u8 0] 110)) w.heap.size false := Blk.new w _ _
  have HL := Lib.hid hL
  clear hL
  go_enter Try.func29, Try.ntmps29
  go_wp2_with fail
  refine (letter_any w.heap.size _ false k hk HL.out).mono ?_
  rintro e w1 ⟨rfl, hS, hO⟩
  have hB := below_only (below_alloc (Below.refl w.heap.size w) (.cells #[.int .u32 0, .int .i32 0, .int .u32 0, .int .u8 0, .int .u8 0, .int .u8 0, .int .u8 0, .int .u8 0] 110)) hO (Nat.le_refl _) (by simp)
  have HB := Lib.hid hB
  have hz := hB.size
  clear hS hO hB
  by_cases h0 : letterOf k = 0
  · have Hv := Lib.hid (show prefixB k ino = [] by unfold prefixB; rw [if_pos h0])
    rw [h0]
    clear h0
    go_wp2_with fail
    go_ret
    exact ⟨by rw [Hv.out]; rfl, HB.out⟩
  · have Hv := Lib.hid (show prefixB k ino = letterOf k :: be 4 ino by unfold prefixB; rw [if_neg h0])
    obtain ⟨c, hc⟩ : ∃ c, c = letterOf k := ⟨_, rfl⟩
    rw [← hc]
    rw [← hc] at h0
    have Hc := Lib.hid hc
    have hcn : ((c.toNat : Nat) : Int) ≠ 0 := by
      intro h; apply h0; apply UInt8.toNat_inj.1; simpa using h
    have hcn2 : (((c.toNat : Nat) : Int) == 0) = false := by simpa using hcn
    have hu : IntKind.u64.wrap (ino : Int) = (ino : Int) := by rw [IntKind.wrap_u64]; omega
    clear hc h0 hcn
    have hcv := conv_one
    go_wp2_with fail
    go_region_with (first | (go_at_call 30; refine (inum_4 ino hi _).mono ?_; rintro e w' ⟨rfl, hb⟩; have hcc := hb.cell (p := ⟨w1.heap.size, 0, none⟩)))
    all_goals
      go_wp2
      go_ret
      exact ⟨by rw [Hv.out, ← Hc.out]; rfl, by repeat (first | exact HB.out | apply below_drewN | apply below_drew | apply below_alloc | refine below_step ?_ (by assumption))⟩
end Go.Proofs.Ytoeiipkikpalaaa
