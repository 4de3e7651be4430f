/- dirs: Open, Inode, Entry, Next of a volume. -/
import Derived.Test.YtoeiipkikpalaaaD1
import Derived.Test.YtoeiipkikpalaaaPa6
set_option linter.unusedVariables false
set_option linter.unusedSimpArgs false
namespace Go.Proofs.Ytoeiipkikpalaaa
open Go.RowKit
/-- A volume that was opened and not yet looked through. -/
def opened (A : Option Addr) (n c : Nat) : Array Value := #[.slice A n c, .int .u32 0, .int .i32 0, .int .u32 0, .bool false, .slice none 0 0, .map none, .map none]
theorem open_any (A : Option Addr) (n c : Nat) (w : World) : Calls Try.prog 14 #[.slice A n c] w fun e w' => e = .returned (.pointer (some ⟨w.heap.size, 0, none⟩)) ∧ w' = w.alloc (.cells (opened A n c) 77) := by
  unfold opened
  go_enter Try.func14, Try.ntmps14
  go_wp2
  go_ret
  exact ⟨rfl, rfl⟩
theorem inode_any {v m1 m2 N : Nat} {it d z u r : Value} {s : PSt} {AA : Option Addr} {cc : Nat} (w : World) (h : VolSt w v m1 m2 N it d z u r s AA cc) (i : Nat) (hi : i < 4294967296) :
    Calls Try.prog 17 #[.pointer (some ⟨v, 0, none⟩), .int .u32 (i : Nat)] w fun e w' => e = .returned (.tuple #[.agg #[.int .u8 ((s.inoAt i).kind : Nat), .int .u16 ((s.inoAt i).mode : Nat), .int .u32 ((s.inoAt i).links : Nat), .int .u32 ((s.inoAt i).size : Nat), .string (str (s.inoAt i).target)], .bool (s.ino i).isSome]) ∧ Below w.heap.size w w' := by
  have h' := h.alloc (.cells #[.int .u8 0, .int .u16 0, .int .u32 0, .int .u32 0, .string ⟨#[]⟩] 37)
  have c6 := h'.blk.cell 6
  simp at c6
  have hl := h'.hasIno i hi
  clear h h'
  go_enter Try.func17, Try.ntmps17
  go_wp2
  refine bodyPost_ret (v := .tuple #[.agg #[.int .u8 ((s.inoAt i).kind : Nat), .int .u16 ((s.inoAt i).mode : Nat), .int .u32 ((s.inoAt i).links : Nat), .int .u32 ((s.inoAt i).size : Nat), .string (str (s.inoAt i).target)], .bool (s.ino i).isSome]) (by simp [results, Try.results17, go_sem]) rfl ?_
  exact ⟨rfl, below_alloc (below_alloc (Below.refl _ _) _) _⟩
theorem entL_key (l : List It) (d : Nat) (nm : Bs) : entL l d nm = if keyOk ⟨2, d, nm, 0⟩ then numE ((getL l (keyRaw ⟨2, d, nm, 0⟩)).getD []) else 0 := by
  unfold entL keyB; split
  · rename_i h; split at h
    · cases h
    · rename_i h2; rw [if_neg h2]
  · rename_i k h; split at h
    · rename_i h2; rw [if_pos h2]; cases h; rfl
    · cases h
theorem getL_len {l : List It} (hsm : Small l) {k v : Bs} (h : getL l k = some v) : v.length ≤ 1048576 := by
  unfold getL at h
  split at h
  · rename_i x hx
    split at h
    · cases h; exact (hsm.2 x (List.mem_of_getElem? hx)).2
    · cases h
  · cases h
set_option maxRecDepth 100000 in
theorem entry_any {v m1 m2 N c : Nat} {d z u r : Value} {s : PSt} {A AA : Option Addr} {cc : Nat} (l : List It) (hc : chk l = true) (hsm : Small l) (w : World) (h : VolSt w v m1 m2 N (.slice A l.length c) d z u r s AA cc) (hR : Rd w A (itVs l))
    (i : Nat) (hi : i < 4294967296) (nm : Bs) (hn : nm.length ≤ 1048576) :
    Calls Try.prog 24 #[.pointer (some ⟨v, 0, none⟩), .int .u32 (i : Nat), .string (str nm)] w fun e w' => e = .returned (.int .u32 (entL l i nm : Nat)) ∧ Below w.heap.size w w' := by
  have HE := Lib.hid (entL_key l i nm)
  have HV := Lib.hid h
  have HR := Lib.hid hR
  have HS := Lib.hid hsm
  have HC := Lib.hid hc
  clear h hR hsm hc
  cases hk : keyOk ⟨2, i, nm, 0⟩
  · rw [hk] at HE
    have hkk := fun W => key_bad 2 i 0 nm (by omega) hi (by omega) hn hk W
    have HK := Lib.hid hkk
    clear hkk hk
    go_enter Try.func24, Try.ntmps24
    go_wp2_with fail
    refine (HK.out _).mono ?_
    rintro e w1 ⟨rfl, hb⟩
    go_wp2_with fail
    go_ret
    exact ⟨by rw [HE.out]; rfl, hb⟩
  · rw [hk] at HE
    have hkk := fun W => key_ok 2 i 0 nm (by omega) hi (by omega) hn hk W
    have HK := Lib.hid hkk
    obtain ⟨key, hkey⟩ : ∃ key, key = keyRaw ⟨2, i, nm, 0⟩ := ⟨_, rfl⟩
    rw [← hkey] at HK HE
    clear hkk hk hkey
    cases hg : getL l key with
    | none =>
      have hgv := fun W hR => get_any l HC.out HS.out key A c W hR
      rw [show getV l key = .tuple #[.string (str []), .int .i64 5] by unfold getV; rw [hg]] at hgv
      rw [hg] at HE
      have HG := Lib.hid hgv
      clear hgv hg
      go_enter Try.func24, Try.ntmps24
      go_wp2_with fail
      refine (HK.out _).mono ?_
      rintro e w1 ⟨rfl, hb⟩
      have c0 := (HV.out.below hb).blk.cell 0
      simp at c0
      have HR1 := Lib.hid (HR.out.below hb)
      have HB := Lib.hid hb
      clear hb
      go_wp2_with fail
      refine (HG.out _ HR1.out).mono ?_
      rintro e w2 ⟨rfl, hb2⟩
      have HB2 := Lib.hid (below_step HB.out hb2)
      clear hb2
      go_wp2_with fail
      refine (number_any [] (by simp) _).mono ?_
      rintro e w3 ⟨rfl, nq, rfl⟩
      go_wp2_with fail
      go_ret
      exact ⟨by rw [HE.out]; rfl, below_drewN HB2.out _⟩
    | some vl =>
      have hvl := getL_len HS.out hg
      have hgv := fun W hR => get_any l HC.out HS.out key A c W hR
      rw [show getV l key = .tuple #[.string (str vl), .int .i64 0] by unfold getV; rw [hg]] at hgv
      rw [hg] at HE
      have HG := Lib.hid hgv
      clear hgv hg
      go_enter Try.func24, Try.ntmps24
      go_wp2_with fail
      refine (HK.out _).mono ?_
      rintro e w1 ⟨rfl, hb⟩
      have c0 := (HV.out.below hb).blk.cell 0
      simp at c0
      have HR1 := Lib.hid (HR.out.below hb)
      have HB := Lib.hid hb
      clear hb
      go_wp2_with fail
      refine (HG.out _ HR1.out).mono ?_
      rintro e w2 ⟨rfl, hb2⟩
      have HB2 := Lib.hid (below_step HB.out hb2)
      clear hb2
      go_wp2_with fail
      refine (number_any vl (by omega) _).mono ?_
      rintro e w3 ⟨rfl, nq, rfl⟩
      go_wp2_with fail
      go_ret
      exact ⟨by rw [HE.out]; rfl, below_drewN HB2.out _⟩
set_option maxRecDepth 100000 in
theorem vnext_any {v m1 m2 N : Nat} {it d z u r : Value} {s : PSt} {AA : Option Addr} {cc n : Nat} (w : World) (h : VolSt w v m1 m2 N it d z u r s AA cc) (hok : s.Ok n) (hn : n ≤ 1048576) (hfree : s.ino (nextN s) = none) :
    Calls Try.prog 19 #[.pointer (some ⟨v, 0, none⟩)] w fun e w' => e = .returned (.int .u32 (nextN s : Nat)) ∧ Below w.heap.size w w' := by
  have HV := Lib.hid h
  have hb := next_bounds s
  have hlen := hok.1
  have Hf := Lib.hid hfree
  clear h hok hfree
  go_enter Try.func19, Try.ntmps19
  go_wp2_with fail
  go_loopw [3] (fun x wr => ∃ (f j : Nat), x = .int .u32 (j : Nat) ∧ j + f = s.all.length + 3 ∧ Hid (nextF s f j = nextN s) ∧ Hid (Below w.heap.size w wr)) (fun x _ => s.all.length + 3 - (intOf x).toNat)
  case atStart => exact ⟨s.all.length + 1, 2, rfl, by omega, Lib.hid rfl, Lib.hid (Below.refl _ _)⟩
  case round =>
    obtain ⟨f, j, rfl, hj, hF, hB⟩ := hrel
    have hV := HV.out.below hB.out
    have c6 := hV.blk.cell 6
    simp at c6
    have hl := hV.hasIno j (by omega)
    cases hs : (s.ino j).isSome
    · have he := Lib.hid ((nextF_stop (f := f) hs).symm.trans hF.out)
      rw [hs] at hl
      clear hs hV
      go_wp2_with fail
      go_ret
      exact ⟨by rw [← he.out]; rfl, below_alloc hB.out _⟩
    · rw [hs] at hl
      cases f with
      | zero =>
        exfalso
        have hF2 := hF.out
        rw [nextF] at hF2
        rw [hF2, Hf.out] at hs
        cases hs
      | succ f =>
        have hF2 := Lib.hid ((nextF_step hs).symm.trans hF.out)
        clear hs hV
        go_wp2_with fail
        go_roundw
        case rel => exact ⟨f, j + 1, by go_num, by omega, hF2, Lib.hid (below_alloc hB.out _)⟩
        case measure => simp [intOf]; omega
end Go.Proofs.Ytoeiipkikpalaaa
