/- Contracts: keys compared; a key's place; item.Get. -/
import Derived.Test.YtoeiipkikpalaaaK4
import Derived.Test.YtoeiipkikpalaaaB2
import Derived.Test.YtoeiipkikpalaaaPa3
set_option linter.unusedVariables false
set_option linter.unusedSimpArgs false
namespace Go.Proofs.Ytoeiipkikpalaaa
open Go.RowKit
theorem compare_any (a b : Bs) (w : World) : Calls Try.prog 72 #[.string (str a), .string (str b)] w fun e w' => e = .returned (.int .i64 (cmpI a b)) ∧ w = w' := by
  have da : (a != a) = false := by simp
  have db : (b != b) = false := by simp
  have ea : (a == a) = true := by simp
  have eb : (b == b) = true := by simp
  cases h1 : lt a b
  · by_cases h2 : a = b
    · have Hv := Lib.hid (show cmpI a b = 0 by unfold cmpI; rw [h1, if_pos h2]; rfl)
      have h3 : Op.bytesLess a b = false := h1
      have h4 : (a == b) = true := by simp [h2]
      clear h1 h2
      go_enter Try.func72, Try.ntmps72
      go_wp2_with (go_at_call 84; go_in)
      go_ret
      exact ⟨by rw [Hv.out]; rfl, rfl⟩
    · have Hv := Lib.hid (show cmpI a b = 1 by unfold cmpI; rw [h1, if_neg h2]; rfl)
      have h3 : Op.bytesLess a b = false := h1
      have h4 : (a == b) = false := by simp [h2]
      clear h1 h2
      go_enter Try.func72, Try.ntmps72
      go_wp2_with (go_at_call 84; go_in)
      go_ret
      exact ⟨by rw [Hv.out]; rfl, rfl⟩
  · have Hv := Lib.hid (show cmpI a b = -1 by unfold cmpI; rw [h1]; rfl)
    have h3 : Op.bytesLess a b = true := h1
    clear h1
    go_enter Try.func72, Try.ntmps72
    go_wp2_with (go_at_call 84; go_in)
    go_ret
    exact ⟨by rw [Hv.out]; rfl, rfl⟩
theorem place1_any (k v t : Bs) (w : World) : Calls Try.prog 71 #[.agg #[.string (str k), .string (str v)], .string (str t)] w fun e w' => e = .returned (.int .i64 (cmpI k t)) ∧ Below w.heap.size w w' := by
  go_enter Try.func71, Try.ntmps71
  go_wp2_with (go_at_call 72; refine (compare_any k t _).mono ?_; rintro e w' ⟨rfl, rfl⟩)
  go_ret
  exact ⟨rfl, below_alloc (Below.refl _ _) _⟩
theorem cmpI_neg {a b : Bs} : cmpI a b < 0 ↔ lt a b = true := by
  unfold cmpI; cases lt a b <;> simp; split <;> omega
theorem cmpI_zero {a b : Bs} (h : lt a b = false) : cmpI a b = 0 ↔ a = b := by
  unfold cmpI; rw [h]; simp
set_option maxRecDepth 100000 in
theorem search_any (l : List It) (hr : Rise l) (hl : l.length ≤ 1048576) (t : Bs) (A : Option Addr) (c : Nat) (w : World) (hR : Rd w A (itVs l)) :
    Calls Try.prog 70 #[.slice A l.length c, .string (str t), .func (.func 71) #[] #[]] w fun e w' => e = .returned (.tuple #[.int .i64 (posL l t : Nat), .bool (hasL l t)]) ∧ Below w.heap.size w w' := by
  have HR := Lib.hid hR
  have Hr := Lib.hid hr
  have hpl := posL_le l t
  clear hR hr
  go_enter Try.func70, Try.ntmps70
  go_wp2_with fail
  go_loopw [9, 10] (fun i j wr => ∃ (a b : Nat), i = .int .i64 (a : Nat) ∧ j = .int .i64 (b : Nat) ∧ a ≤ posL l t ∧ posL l t ≤ b ∧ b ≤ l.length ∧ Hid (Below w.heap.size w wr)) (fun i j _ => (intOf j).toNat - (intOf i).toNat)
  case atStart => exact ⟨0, l.length, rfl, rfl, by omega, hpl, Nat.le_refl _, Lib.hid (Below.refl _ _)⟩
  case round =>
    obtain ⟨a, b, rfl, rfl, h1, h2, h3, hB⟩ := hrel
    by_cases hlt : a < b
    · obtain ⟨bb, off, rfl, k0, k1⟩ := (HR.out.below hB.out).item ((a + b) / 2) (by omega)
      obtain ⟨x, hx⟩ : ∃ x, x = l[(a + b) / 2]'(by omega) := ⟨_, rfl⟩
      rw [← hx] at k0 k1
      have hpx := posL_iff Hr.out t ((a + b) / 2) (by omega)
      rw [← hx] at hpx
      have Hx := Lib.hid hpx
      clear hx hpx
      have hpc := place1_any x.key x.val t wr
      have hz := cmpI_neg (a := x.key) (b := t)
      generalize cmpI x.key t = z at hpc hz
      have Hpc := Lib.hid hpc
      have Hz := Lib.hid hz
      clear hpc hz
      by_cases hlz : z < 0
      · go_wp2_with fail
        refine Hpc.out.mono ?_
        rintro e w' ⟨rfl, hb⟩
        have HB2 := Lib.hid (below_step hB.out hb)
        clear hb
        go_wp2_with fail
        go_roundw
        case rel => exact ⟨(a + b) / 2 + 1, b, by go_num, rfl, by have := Hx.out.1 (Hz.out.1 hlz); omega, h2, h3, HB2⟩
        case measure => simp [intOf]; omega
      · go_wp2_with fail
        refine Hpc.out.mono ?_
        rintro e w' ⟨rfl, hb⟩
        have HB2 := Lib.hid (below_step hB.out hb)
        clear hb
        go_wp2_with fail
        go_roundw
        case rel => exact ⟨a, (a + b) / 2, rfl, by go_num, h1, by have := mt Hx.out.2 (mt Hz.out.2 (by omega)); omega, by omega, HB2⟩
        case measure => simp [intOf]; omega
    · obtain rfl : a = posL l t := by omega
      by_cases hp : posL l t < l.length
      · obtain ⟨bb, off, rfl, k0, k1⟩ := (HR.out.below hB.out).item (posL l t) hp
        obtain ⟨x, hx⟩ : ∃ x, x = l[posL l t] := ⟨_, rfl⟩
        rw [← hx] at k0 k1
        have hnl : lt x.key t = false := by
          cases h : lt x.key t
          · rfl
          · rw [hx] at h; have := (posL_iff Hr.out t (posL l t) hp).1 h; omega
        have hh : hasL l t = decide (x.key = t) := by unfold hasL; rw [List.getElem?_eq_getElem hp, hx]
        have hpc := place1_any x.key x.val t wr
        have hz := cmpI_zero hnl
        generalize cmpI x.key t = z at hpc hz
        have Hpc := Lib.hid hpc
        have Hz := Lib.hid hz
        have Hh := Lib.hid hh
        clear hpc hz hh hx hnl
        go_wp2_with fail
        refine Hpc.out.mono ?_
        rintro e w' ⟨rfl, hb⟩
        have HB2 := Lib.hid (below_step hB.out hb)
        clear hb
        go_wp2_with fail
        go_ret2
        exact ⟨by rw [Hh.out, show decide (x.key = t) = (z == 0) from by rw [Bool.eq_iff_iff]; simp [Hz.out]]; rfl, HB2.out⟩
      · have Hh := Lib.hid (show hasL l t = false by unfold hasL; rw [List.getElem?_eq_none (by omega)])
        go_wp2_with fail
        go_ret2
        exact ⟨by rw [Hh.out]; rfl, hB.out⟩
theorem place_any (l : List It) (hr : Rise l) (hl : l.length ≤ 1048576) (t : Bs) (A : Option Addr) (c : Nat) (w : World) (hR : Rd w A (itVs l)) :
    Calls Try.prog 57 #[.slice A l.length c, .string (str t)] w fun e w' => e = .returned (.tuple #[.int .i64 (posL l t : Nat), .bool (hasL l t)]) ∧ Below w.heap.size w w' := by
  have HR := Lib.hid hR
  have Hr := Lib.hid hr
  clear hR hr
  have hmf : ∀ (fn : Fn) (first cap : Array Value) (w : World), (Instr.makeFunc fn first cap).run Try.prog w = .ok (.func fn first cap) w := fun _ _ _ _ => rfl
  go_enter Try.func57, Try.ntmps57
  go_wp2_with fail
  refine (search_any l Hr.out hl t A c _ HR.out).mono ?_
  rintro e w' ⟨rfl, hb⟩
  go_wp2_with fail
  go_ret2
  exact ⟨rfl, hb⟩
/-- What item.Get tells of a list that is right. -/
def getV (l : List It) (t : Bs) : Value := match getL l t with
  | some v => .tuple #[.string (str v), .int .i64 0]
  | none => .tuple #[.string (str []), .int .i64 5]
set_option maxRecDepth 100000 in
theorem get_any (l : List It) (hc : chk l = true) (hsm : Small l) (t : Bs) (A : Option Addr) (c : Nat) (w : World) (hR : Rd w A (itVs l)) :
    Calls Try.prog 39 #[.slice A l.length c, .string (str t)] w fun e w' => e = .returned (getV l t) ∧ Below w.heap.size w w' := by
  have hck := check_any l A c
  rw [show chkE l = 0 from by unfold chkE; rw [if_pos hc]] at hck
  have Hck := Lib.hid hck
  have HR := Lib.hid hR
  have Hr := Lib.hid (chk_rise hc)
  have hl := hsm.1
  have Hs := Lib.hid hsm
  clear hR hc hck hsm
  cases hh : hasL l t
  · have hv : getV l t = .tuple #[.string (str []), .int .i64 5] := by
      unfold hasL at hh
      have : getL l t = none := by
        unfold getL
        split
        · rename_i x hx; rw [hx] at hh; simp at hh; rw [if_neg hh]
        · rfl
      unfold getV; rw [this]
    have Hv := Lib.hid hv
    have hp := fun W => place_any l Hr.out hl t A c W
    rw [hh] at hp
    have Hp := Lib.hid hp
    clear hh hv hp
    go_enter Try.func39, Try.ntmps39
    go_wp2_with fail
    refine (Hck.out _ HR.out Hs.out).mono ?_
    rintro e w1 ⟨rfl, hb1⟩
    go_wp2_with fail
    refine (Hp.out _ (HR.out.below hb1)).mono ?_
    rintro e w2 ⟨rfl, hb2⟩
    go_wp2_with fail
    go_ret2
    exact ⟨by rw [Hv.out]; rfl, below_step hb1 hb2⟩
  · have hpl : posL l t < l.length := by
      unfold hasL at hh
      split at hh
      · rename_i x hx; exact (List.getElem?_eq_some_iff.1 hx).1
      · cases hh
    obtain ⟨x, hx⟩ : ∃ x, x = l[posL l t] := ⟨_, rfl⟩
    have hv : getV l t = .tuple #[.string (str x.val), .int .i64 0] := by
      unfold hasL at hh
      rw [List.getElem?_eq_getElem hpl, ← hx] at hh
      simp at hh
      unfold getV getL
      rw [List.getElem?_eq_getElem hpl, ← hx]
      simp [hh]
    have Hv := Lib.hid hv
    have Hx := Lib.hid hx
    have hp := fun W => place_any l Hr.out hl t A c W
    rw [hh] at hp
    have Hp := Lib.hid hp
    clear hh hv hp hx
    go_enter Try.func39, Try.ntmps39
    go_wp2_with fail
    refine (Hck.out _ HR.out Hs.out).mono ?_
    rintro e w1 ⟨rfl, hb1⟩
    have HB1 := Lib.hid hb1
    clear hb1
    go_wp2_with fail
    refine (Hp.out _ (HR.out.below HB1.out)).mono ?_
    rintro e w2 ⟨rfl, hb2⟩
    have HB2 := Lib.hid (below_step HB1.out hb2)
    clear hb2 HB1
    obtain ⟨bb, off, rfl, k0, k1⟩ := (HR.out.below HB2.out).item (posL l t) hpl
    rw [← Hx.out] at k0 k1
    go_wp2_with fail
    go_ret2
    exact ⟨by rw [Hv.out]; rfl, HB2.out⟩
end Go.Proofs.Ytoeiipkikpalaaa
