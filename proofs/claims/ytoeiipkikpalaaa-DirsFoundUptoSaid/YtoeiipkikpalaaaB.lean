/- What every walk of this seat uses: how texts of plain bytes are spelled, draws, and what is kept below a block. -/
import Derived.Test.YtoeiipkikpalaaaPa
import Derived.Test.YtoeiipkikpalaaaProg
import Derived.WalkKit
import Derived.Outline
import Derived.Deep.LoopGhost
import Derived.BigQuiet
import Derived.Deep.QuietTactic
import Derived.WalkLawsBesides
import Derived.WalkSpells
import Derived.Deep.DeepCutAuto
import Derived.Deep.CutBlock
import Derived.Lib.Hide
import Derived.Handy
import Derived.Laws.BitsAllLaws
import Derived.Deep.AppendLies
import Derived.Maps.AppendAt
set_option linter.unusedVariables false
set_option linter.unusedSimpArgs false
namespace Go.Proofs.Ytoeiipkikpalaaa
open Go.RowKit
attribute [go_sem] str_size str_toList str_data str_extract str_get str_append be_length
/-- Some orders were drawn, and nothing else. -/
def Qt (w w' : World) : Prop := ∃ n, w' = w.drewN n
theorem Qt.below {w w' : World} (h : Qt w w') : Below w.heap.size w w' := by
  obtain ⟨n, rfl⟩ := h
  exact ⟨rfl, rfl, rfl, Nat.le_refl _, fun _ _ => rfl⟩
theorem Qt.refl (w : World) : Qt w w := ⟨0, rfl⟩
theorem Qt.drew {w w' : World} (h : Qt w w') (n : Nat) : Qt w (w'.drewN n) := by
  obtain ⟨m, rfl⟩ := h
  exact ⟨m + n, World.drewN_drewN ..⟩
/-! ### one block, known whole; only one block has turned -/
def Blk (w : World) (g : Nat) (cs : Array Value) (t : TypeId) : Prop := w.heap[g]? = some (.cells cs t (0, 0))
def Only (g : Nat) (w w' : World) : Prop := w.grownBy w' (some g)
theorem Blk.lt {w : World} {g : Nat} {cs : Array Value} {t : TypeId} (h : Blk w g cs t) : g < w.heap.size := (Array.getElem?_eq_some_iff.1 h).1
theorem Blk.cell {w : World} {g : Nat} {cs : Array Value} {t : TypeId} (h : Blk w g cs t) (i : Nat) : w.cell? ⟨g, i, none⟩ = cs[i]? := by
  simp only [World.cell?, Blk] at h ⊢
  rw [h]; rfl
theorem Blk.frozen {w : World} {g : Nat} {cs : Array Value} {t : TypeId} (h : Blk w g cs t) (i : Nat) : w.frozen? ⟨g, i, none⟩ = false := by
  simp only [World.frozen?, Blk] at h ⊢
  rw [h]; simp
theorem Blk.set {w : World} {g : Nat} {cs : Array Value} {t : TypeId} (h : Blk w g cs t) (i : Nat) (v : Value) : Blk (w.setCell ⟨g, i, none⟩ v) g (cs.setIfInBounds i v) t := by
  simp only [Blk, World.setCell, Array.getElem?_modify] at h ⊢
  rw [h]; simp
theorem Blk.drewN {w : World} {g : Nat} {cs : Array Value} {t : TypeId} (h : Blk w g cs t) (n : Nat) : Blk (w.drewN n) g cs t := h
theorem Blk.drew {w : World} {g : Nat} {cs : Array Value} {t : TypeId} (h : Blk w g cs t) : Blk w.drew g cs t := h
theorem Blk.kept {w w' : World} {g B : Nat} {cs : Array Value} {t : TypeId} (h : Blk w g cs t) (hb : Below B w w') (hg : g < B) : Blk w' g cs t := (hb.block g hg).trans h
theorem Blk.below {w w' : World} {g : Nat} {cs : Array Value} {t : TypeId} (h : Blk w g cs t) (hb : Below w.heap.size w w') : Blk w' g cs t := h.kept hb h.lt
theorem Blk.only {w w' : World} {g k : Nat} {cs : Array Value} {t : TypeId} (h : Blk w g cs t) (ho : Only k w w') (hne : g ≠ k) : Blk w' g cs t :=
  (ho.block g h.lt (fun e => hne (by injection e))).trans h
theorem Blk.alloc {w : World} {g : Nat} {cs : Array Value} {t : TypeId} (h : Blk w g cs t) (o : Obj) : Blk (w.alloc o) g cs t := (Below.heap_alloc w o g h.lt).trans h
theorem Blk.new (w : World) (cs : Array Value) (t : TypeId) : Blk (w.alloc (.cells cs t)) w.heap.size cs t := heap_alloc_new w _
theorem Only.refl (g : Nat) (w : World) : Only g w w := World.grownBy.refl w _
theorem Only.trans {g : Nat} {a b c : World} (h : Only g a b) (k : Only g b c) : Only g a c := World.grownBy.trans h k
theorem Only.drewN {g : Nat} {a w : World} (h : Only g a w) (n : Nat) : Only g a (w.drewN n) := ⟨h.os, h.tape, h.output, h.size, h.block⟩
theorem Only.drew {g : Nat} {a w : World} (h : Only g a w) : Only g a w.drew := ⟨h.os, h.tape, h.output, h.size, h.block⟩
theorem Only.alloc {g : Nat} {a w : World} (h : Only g a w) (o : Obj) : Only g a (w.alloc o) := World.grownBy.trans h (World.grownBy_alloc w o _)
theorem Only.set {g : Nat} {a w : World} (h : Only g a w) (i : Nat) (v : Value) : Only g a (w.setCell ⟨g, i, none⟩ v) :=
  ⟨h.os, h.tape, h.output, by simpa [World.setCell] using h.size, fun i hi hne => (Below.heap_setCell w _ v i (by rintro rfl; exact hne rfl)).trans (h.block i hi hne)⟩
theorem Only.setNew {g k : Nat} {a w : World} (h : Only g a w) (hk : a.heap.size ≤ k) (i : Nat) (v : Value) : Only g a (w.setCell ⟨k, i, none⟩ v) :=
  ⟨h.os, h.tape, h.output, by simpa [World.setCell] using h.size, fun i hi hne => (Below.heap_setCell w _ v i (by rintro rfl; exact absurd hi (Nat.not_lt.2 hk))).trans (h.block i hi hne)⟩
theorem Only.below {g : Nat} {a w w' : World} (h : Only g a w) (hb : Below w.heap.size w w') : Only g a w' :=
  World.grownBy.trans h ⟨hb.os, hb.tape, hb.output, hb.size, fun i hi _ => hb.block i hi⟩
theorem Only.of_below {g : Nat} {w w' : World} (hb : Below w.heap.size w w') : Only g w w' := (Only.refl g w).below hb
theorem below_only {B g : Nat} {a w w' : World} (h : Below B a w) (ho : Only g w w') (hg : B ≤ g) (hB : B ≤ w.heap.size) : Below B a w' :=
  h.grown ho hB (fun k hk => by cases hk; exact hg)
theorem below_then {B : Nat} {w w1 w2 : World} (h : Below B w w1) (hB : B ≤ w1.heap.size) (k : Below w1.heap.size w1 w2) : Below B w w2 :=
  h.trans ⟨k.os, k.tape, k.output, k.size, fun i hi => k.block i (Nat.lt_of_lt_of_le hi hB)⟩
theorem below_alloc {w W : World} (h : Below w.heap.size w W) (o : Obj) : Below w.heap.size w (W.alloc o) := h.alloc h.size o
theorem below_drewN {B : Nat} {w W : World} (h : Below B w W) (n : Nat) : Below B w (W.drewN n) := ⟨h.os, h.tape, h.output, h.size, h.block⟩
theorem below_drew {B : Nat} {w W : World} (h : Below B w W) : Below B w W.drew := ⟨h.os, h.tape, h.output, h.size, h.block⟩
/-- The cells from A on hold vs. -/
def Rd (w : World) (A : Option Addr) (vs : List Value) : Prop := vs ≠ [] → ∃ b off, A = some ⟨b, off, none⟩ ∧ ∀ i, i < vs.length → w.cell? ⟨b, off + i, none⟩ = vs[i]?
theorem Rd.nil (w : World) (A : Option Addr) : Rd w A [] := fun h => absurd rfl h
theorem Rd.lt {w : World} {A : Option Addr} {vs : List Value} (h : Rd w A vs) {b off : Nat} (hA : A = some ⟨b, off, none⟩) (hne : vs ≠ []) : b < w.heap.size := by
  obtain ⟨b', off', e, hc⟩ := h hne
  rw [hA] at e
  cases e
  have h0 := hc 0 (List.length_pos_iff.2 hne)
  have hl := List.length_pos_iff.2 hne
  rw [List.getElem?_eq_getElem hl] at h0
  exact World.block_lt_of_cell? w _ h0
theorem Rd.below {w w' : World} {A : Option Addr} {vs : List Value} (h : Rd w A vs) (hb : Below w.heap.size w w') : Rd w' A vs := fun hne => by
  obtain ⟨b, off, e, hc⟩ := h hne
  have hlt := h.lt e hne
  exact ⟨b, off, e, fun i hi => (hb.cell (p := ⟨b, off + i, none⟩) hlt).trans (hc i hi)⟩
theorem Rd.only {w w' : World} {A : Option Addr} {vs : List Value} {g : Nat} (h : Rd w A vs) (ho : Only g w w') (hg : ∀ b off, A = some ⟨b, off, none⟩ → vs ≠ [] → b ≠ g) : Rd w' A vs := fun hne => by
  obtain ⟨b, off, e, hc⟩ := h hne
  have hlt := h.lt e hne
  exact ⟨b, off, e, fun i hi => (World.cell?_of_block (ho.block b hlt (fun k => hg b off e hne (by injection k)))).trans (hc i hi)⟩
def itV (x : It) : List Value := [.string (str x.key), .string (str x.val)]
def itVs (l : List It) : List Value := l.flatMap itV
theorem itVs_length (l : List It) : (itVs l).length = l.length * 2 := by
  induction l with
  | nil => rfl
  | cons x l ih => rw [List.length_cons, show itVs (x :: l) = .string (str x.key) :: .string (str x.val) :: itVs l from rfl, List.length_cons, List.length_cons, ih]; omega
theorem itVs_key (l : List It) (i : Nat) (h : i < l.length) : (itVs l)[i * 2]? = some (.string (str (l[i]'h).key)) := by
  induction l generalizing i with
  | nil => simp at h
  | cons x l ih =>
    cases i with
    | zero => rfl
    | succ i =>
      have e : (i + 1) * 2 = i * 2 + 1 + 1 := by omega
      rw [e]
      exact ih i (by simpa using h)
theorem itVs_val (l : List It) (i : Nat) (h : i < l.length) : (itVs l)[i * 2 + 1]? = some (.string (str (l[i]'h).val)) := by
  induction l generalizing i with
  | nil => simp at h
  | cons x l ih =>
    cases i with
    | zero => rfl
    | succ i =>
      have e : (i + 1) * 2 + 1 = i * 2 + 1 + 1 + 1 := by omega
      rw [e]
      exact ih i (by simpa using h)
theorem Rd.item {w : World} {A : Option Addr} {l : List It} (h : Rd w A (itVs l)) (i : Nat) (hi : i < l.length) :
    ∃ b off, A = some ⟨b, off, none⟩ ∧ w.cell? ⟨b, off + i * 2, none⟩ = some (.string (str (l[i]'hi).key)) ∧ w.cell? ⟨b, off + i * 2 + 1, none⟩ = some (.string (str (l[i]'hi).val)) := by
  obtain ⟨b, off, e, hc⟩ := h (by intro h; have := congrArg List.length h; rw [itVs_length] at this; simp at this; omega)
  have k0 := hc (i * 2) (by rw [itVs_length]; omega)
  have k1 := hc (i * 2 + 1) (by rw [itVs_length]; omega)
  rw [itVs_key l i hi] at k0
  rw [itVs_val l i hi, ← Nat.add_assoc] at k1
  exact ⟨b, off, e, k0, k1⟩
theorem str_lit (l : Bs) : Value.string (str l) = Value.string ⟨l.toArray⟩ := rfl
theorem or_byte (n b : Nat) (hb : b < 256) (hn : n < 2 ^ 56) : bits .or .u64 (IntKind.u64.wrap ((n : Int) * 256)) (IntKind.u64.wrap (b : Int)) = ((n * 256 + b : Nat) : Int) := by
  have e1 : IntKind.u64.wrap ((n : Int) * 256) = ((n * 256 : Nat) : Int) := by rw [IntKind.wrap_u64]; omega
  have e2 : IntKind.u64.wrap (b : Int) = ((b : Nat) : Int) := by rw [IntKind.wrap_u64]; omega
  rw [e1, e2, u64_or_nat _ _ (by omega) (by omega)]
  congr 1
  have : n * 256 = 2 ^ 8 * n := by omega
  rw [this]
  exact (Nat.two_pow_add_eq_or_of_lt (i := 8) (by omega) n).symm
theorem or_byte' (n b : Nat) (hb : b < 256) (hn : n < 2 ^ 56) : bits .or .u64 (IntKind.u64.wrap ((n : Int) * 256)) (b : Int) = ((n * 256 + b : Nat) : Int) := by
  have e2 : IntKind.u64.wrap (b : Int) = ((b : Nat) : Int) := by rw [IntKind.wrap_u64]; omega
  rw [← or_byte n b hb hn, e2]
theorem conv_new {P : Program} {src e dst : TypeId} (hs : P.underlying src = some (.slice e)) (he : P.underlying e = some (.int .u8)) (hd : P.underlying dst = some .string) (w : World) (xs : List Int) (c : Nat) :
    (convert src dst (.slice (some ⟨w.heap.size, 0, none⟩) xs.length c)).run P (w.alloc (.cells (xs.map (Value.int .u8)).toArray e)) = .ok (.string (strOfNums xs)) (w.alloc (.cells (xs.map (Value.int .u8)).toArray e)) := by
  refine run_convert_bytes_arg _ src e hs he w.heap.size 0 xs.length c xs rfl (fun i hi => ?_) dst hd
  rw [World.cell?_alloc_at _ _ _ _ rfl]
  simp [hi, List.getD_eq_getElem?_getD]
theorem ret_u64 {a b : Int} (h : a = b) : Value.int .u64 a = Value.int .u64 b := by rw [h]
end Go.Proofs.Ytoeiipkikpalaaa
