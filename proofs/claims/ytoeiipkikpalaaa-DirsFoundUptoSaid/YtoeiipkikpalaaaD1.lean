/- dirs: what a volume's block holds; rooted. -/
import Derived.Test.YtoeiipkikpalaaaB3
import Derived.Test.YtoeiipkikpalaaaK12
import Derived.Test.YtoeiipkikpalaaaK11
set_option linter.unusedVariables false
set_option linter.unusedSimpArgs false
namespace Go.Proofs.Ytoeiipkikpalaaa
open Go.RowKit
def ktV (x : Kt) : List Value := [.int .u8 (x.k.kind : Nat), .int .u32 (x.k.ino : Nat), .string (str x.k.name), .int .u32 (x.k.chunk : Nat), .string (str x.v)]
def ktVs (l : List Kt) : List Value := l.flatMap ktV
theorem ktVs_length (l : List Kt) : (ktVs l).length = l.length * 5 := by
  induction l with
  | nil => rfl
  | cons x l ih => simp only [ktVs, List.flatMap_cons, List.length_append] at ih ⊢; rw [ih]; simp [ktV]; omega
theorem ktVs_get (l : List Kt) (i : Nat) (h : i < l.length) (j : Nat) (hj : j < 5) : (ktVs l)[i * 5 + j]? = (ktV (l[i]'h))[j]? := by
  induction l generalizing i with
  | nil => simp at h
  | cons x l ih =>
    cases i with
    | zero => simp only [ktVs, List.flatMap_cons, Nat.zero_mul, Nat.zero_add, List.getElem_cons_zero]; rw [List.getElem?_append_left (by simp [ktV]; omega)]
    | succ i =>
      have := ih i (by simpa using h)
      simp only [ktVs, List.flatMap_cons, List.getElem_cons_succ] at this ⊢
      rw [List.getElem?_append_right (by simp [ktV]; omega), ← this]
      congr 1
      simp [ktV]; omega
/-- What is read of the i-th one. -/
theorem Rd.kept {w : World} {A : Option Addr} {l : List Kt} (h : Rd w A (ktVs l)) (i : Nat) (hi : i < l.length) :
    ∃ b off, A = some ⟨b, off, none⟩ ∧ w.cell? ⟨b, off + i * 5, none⟩ = some (.int .u8 ((l[i]'hi).k.kind : Nat)) ∧ w.cell? ⟨b, off + i * 5 + 1, none⟩ = some (.int .u32 ((l[i]'hi).k.ino : Nat)) ∧
      w.cell? ⟨b, off + i * 5 + 2, none⟩ = some (.string (str (l[i]'hi).k.name)) ∧ w.cell? ⟨b, off + i * 5 + 3, none⟩ = some (.int .u32 ((l[i]'hi).k.chunk : Nat)) ∧ w.cell? ⟨b, off + i * 5 + 4, none⟩ = some (.string (str (l[i]'hi).v)) := by
  have hl := ktVs_length l
  have hne : ktVs l ≠ [] := by intro e; rw [e] at hl; simp at hl; omega
  obtain ⟨b, off, hA, hc⟩ := h hne
  have key : ∀ j, j < 5 → w.cell? ⟨b, off + i * 5 + j, none⟩ = (ktV (l[i]'hi))[j]? := by
    intro j hj
    rw [← ktVs_get l i hi j hj, ← hc (i * 5 + j) (by rw [hl]; omega), Nat.add_assoc]
  exact ⟨b, off, hA, key 0 (by omega), key 1 (by omega), key 2 (by omega), key 3 (by omega), key 4 (by omega)⟩
def inoV (n : Ino) : Value := .agg #[.int .u8 (n.kind : Nat), .int .u16 (n.mode : Nat), .int .u32 (n.links : Nat), .int .u32 (n.size : Nat), .string (str n.target)]
def upV (p : Nat × Nat) : Value := .agg #[.int .i64 (p.1 : Nat), .int .u32 (p.2 : Nat)]
/-- A volume's block, and what it leads to. h: the cells of its list and of its Once; r: whether it is right. -/
structure VolSt (w : World) (v m1 m2 N : Nat) (it d z u r : Value) (s : PSt) (AA : Option Addr) (cc : Nat) : Prop where
  blk : Blk w v #[it, d, z, u, r, .slice AA s.all.length cc, .map (some m1), .map (some m2)] 77
  cap : s.all.length ≤ cc
  rd : Rd w AA (ktVs s.all)
  ino : MapF w m1 N (fun i => (s.ino i).map inoV)
  up : MapF w m2 N (fun i => (s.up i).map upV)
theorem VolSt.below {w w' : World} {v m1 m2 N : Nat} {it d z u r : Value} {s : PSt} {AA : Option Addr} {cc : Nat} (h : VolSt w v m1 m2 N it d z u r s AA cc) (hb : Below w.heap.size w w') : VolSt w' v m1 m2 N it d z u r s AA cc :=
  ⟨h.blk.below hb, h.cap, h.rd.below hb, h.ino.below hb, h.up.below hb⟩
theorem VolSt.alloc {w : World} {v m1 m2 N : Nat} {it d z u r : Value} {s : PSt} {AA : Option Addr} {cc : Nat} (h : VolSt w v m1 m2 N it d z u r s AA cc) (o : Obj) : VolSt (w.alloc o) v m1 m2 N it d z u r s AA cc :=
  h.below (below_alloc (Below.refl _ _) o)
theorem VolSt.drewN {w : World} {v m1 m2 N : Nat} {it d z u r : Value} {s : PSt} {AA : Option Addr} {cc : Nat} (h : VolSt w v m1 m2 N it d z u r s AA cc) (k : Nat) : VolSt (w.drewN k) v m1 m2 N it d z u r s AA cc :=
  h.below (below_drewN (Below.refl _ _) k)
theorem VolSt.drew {w : World} {v m1 m2 N : Nat} {it d z u r : Value} {s : PSt} {AA : Option Addr} {cc : Nat} (h : VolSt w v m1 m2 N it d z u r s AA cc) : VolSt w.drew v m1 m2 N it d z u r s AA cc :=
  h.below (below_drew (Below.refl _ _))
theorem zero_ino (w : World) : (zeroValue 37).run Try.prog w = .ok (inoV inoZ) w := by
  simp [go_sem, inoV, inoZ]; rfl
theorem zero_up (w : World) : (zeroValue 96).run Try.prog w = .ok (upV (0, 0)) w := by
  simp [go_sem, upV]
theorem getD_map {α : Type _} (o : Option α) (g : α → Value) (z : α) : (o.map g).getD (g z) = g (o.getD z) := by cases o <;> rfl
/-- Looking a directory up. -/
theorem VolSt.lookUp {w : World} {v m1 m2 N : Nat} {it d z u r : Value} {s : PSt} {AA : Option Addr} {cc : Nat} (h : VolSt w v m1 m2 N it d z u r s AA cc) (i : Nat) (hi : i < 4294967296) :
    (Instr.lookup 75 (.map (some m2)) (.int .u32 (i : Nat)) false).run Try.prog w = .ok (.agg #[.int .i64 ((s.upAt i).1 : Nat), .int .u32 ((s.upAt i).2 : Nat)]) w := by
  rw [h.up.look Try.underlying75 (zero_up w) i hi, getD_map]; rfl
theorem VolSt.lookIno {w : World} {v m1 m2 N : Nat} {it d z u r : Value} {s : PSt} {AA : Option Addr} {cc : Nat} (h : VolSt w v m1 m2 N it d z u r s AA cc) (i : Nat) (hi : i < 4294967296) :
    (Instr.lookup 74 (.map (some m1)) (.int .u32 (i : Nat)) false).run Try.prog w = .ok (.agg #[.int .u8 ((s.inoAt i).kind : Nat), .int .u16 ((s.inoAt i).mode : Nat), .int .u32 ((s.inoAt i).links : Nat), .int .u32 ((s.inoAt i).size : Nat), .string (str (s.inoAt i).target)]) w := by
  rw [h.ino.look Try.underlying74 (zero_ino w) i hi, getD_map]; rfl
theorem VolSt.hasIno {w : World} {v m1 m2 N : Nat} {it d z u r : Value} {s : PSt} {AA : Option Addr} {cc : Nat} (h : VolSt w v m1 m2 N it d z u r s AA cc) (i : Nat) (hi : i < 4294967296) :
    (Instr.lookup 74 (.map (some m1)) (.int .u32 (i : Nat)) true).run Try.prog w = .ok (.tuple #[.agg #[.int .u8 ((s.inoAt i).kind : Nat), .int .u16 ((s.inoAt i).mode : Nat), .int .u32 ((s.inoAt i).links : Nat), .int .u32 ((s.inoAt i).size : Nat), .string (str (s.inoAt i).target)], .bool (s.ino i).isSome]) w := by
  rw [h.ino.look_ok Try.underlying74 (zero_ino w) i hi, getD_map]
  simp; rfl
theorem below_set {B : Nat} {w W : World} (h : Below B w W) {g : Nat} (hg : B ≤ g) (i : Nat) (x : Value) : Below B w (W.setCell ⟨g, i, none⟩ x) :=
  ⟨h.os, h.tape, h.output, by simpa [World.setCell] using h.size, fun k hk => (Below.heap_setCell W ⟨g, i, none⟩ x k (by simp; omega)).trans (h.block k hk)⟩
theorem dir_in (a b : Int) (w : World) : (Instr.field 96 (.agg #[.int .i64 a, .int .u32 b]) 1).run Try.prog w = .ok (.int .u32 b) w := by kernel_rfl
theorem dir_entries (a b : Int) (w : World) : (Instr.field 96 (.agg #[.int .i64 a, .int .u32 b]) 0).run Try.prog w = .ok (.int .i64 a) w := by kernel_rfl
theorem inode_kind (a b c d : Int) (x : ByteArray) (w : World) : (Instr.field 37 (.agg #[.int .u8 a, .int .u16 b, .int .u32 c, .int .u32 d, .string x]) 0).run Try.prog w = .ok (.int .u8 a) w := by kernel_rfl
set_option maxRecDepth 100000 in
theorem rooted_any {v m1 m2 N : Nat} {it d z u r : Value} {s : PSt} {AA : Option Addr} {cc n : Nat} (w : World) (h : VolSt w v m1 m2 N it d z u r s AA cc) (hok : s.Ok n) (hn : n ≤ 1048576) (i : Nat) (hi : i < 4294967296) :
    Calls Try.prog 38 #[.pointer (some ⟨v, 0, none⟩), .int .u32 (i : Nat)] w fun e w' => e = .returned (.bool (rootN s s.all.length i)) ∧ w' = w := by
  have c5 := h.blk.cell 5
  have c7 := h.blk.cell 7
  simp at c5 c7
  have hl := h.lookUp
  have hlen := hok.1
  have hup := fun j => (Ok_upAt hok j).2
  have Hup := Lib.hid hup
  have HL := Lib.hid hl
  obtain ⟨L, hL⟩ : ∃ L, L = s.all.length := ⟨_, rfl⟩
  rw [← hL] at c5 hlen
  rw [← hL]
  have hfd := dir_in
  clear hup hl h hok
  go_enter Try.func38, Try.ntmps38
  go_wp2_with fail
  rw [← hL]
  clear hL
  go_loopw [1, 10] (fun x y wr => ∃ (j k : Nat), x = .int .u32 (j : Nat) ∧ y = .int .i64 (k : Nat) ∧ k ≤ L ∧ j < 4294967296 ∧ wr = w ∧ Hid (rootN s L i = rootN s (L - k) j)) (fun _ y _ => L - (intOf y).toNat)
  case atStart => exact ⟨i, 0, rfl, rfl, by omega, hi, rfl, Lib.hid rfl⟩
  case round =>
    obtain ⟨j, k, rfl, rfl, hk, hj, rfl, hS⟩ := hrel
    by_cases hkL : k < L
    · by_cases hj1 : j = 1
      · subst hj1
        have hv : rootN s L i = true := by
          rw [hS.out, show L - k = (L - k - 1) + 1 by omega, rootN, if_pos rfl]
        have Hv := Lib.hid hv
        clear hv
        go_wp2_with fail
        go_ret
        exact ⟨by rw [Hv.out]; rfl, rfl⟩
      · have hn2 : rootN s L i = rootN s (L - (k + 1)) (s.upAt j).2 := by
          rw [hS.out, show L - k = (L - (k + 1)) + 1 by omega, rootN, if_neg hj1]
        have Hn := Lib.hid hn2
        have hll := HL.out j hj
        have hu := Hup.out j
        clear hn2 hS
        have hj1' : ((j : Int) == 1) = false := by simpa using (show ¬ (j : Int) = 1 by omega)
        go_wp2_with fail
        go_roundw
        case rel => exact ⟨_, k + 1, rfl, by go_num, by omega, hu, by first | rfl | trivial, Hn⟩
        case measure => simp [intOf]; omega
    · have hkk : k = L := by omega
      subst hkk
      have hv : rootN s k i = (j == 1) := by rw [hS.out, Nat.sub_self]; rfl
      have Hv := Lib.hid hv
      clear hv hS
      go_wp2_with fail
      go_ret
      exact ⟨by rw [Hv.out]; exact ret_bool (by rw [Bool.eq_iff_iff]; simp; omega), rfl⟩
end Go.Proofs.Ytoeiipkikpalaaa
