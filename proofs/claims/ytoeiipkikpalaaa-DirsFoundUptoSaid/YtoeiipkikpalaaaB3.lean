/- Maps by numbers, known as functions: what the block of a map of uint32 holds. -/
import Derived.Test.YtoeiipkikpalaaaB2
import Derived.Test.YtoeiipkikpalaaaPa4
import Derived.Maps.OwnSet
set_option linter.unusedVariables false
set_option linter.unusedSimpArgs false
namespace Go.Proofs.Ytoeiipkikpalaaa
open Go.RowKit
open Go.Maps (Keyed)
/-- How an element reads: as itself. -/
def selfElem (v : Value) : Option (DataW Value × List MemPlace) := some (.held v, [])
theorem u32_keyed : Keyed Try.prog 25 := Maps.int_keyed Try.underlying25
theorem u32_wf (i : Nat) (h : i < 4294967296) : (Lit.int .u32 (i : Nat)).wf = true := by
  simp [Lit.wf, show IntKind.u32.min = 0 from rfl, show IntKind.u32.max = 4294967295 from rfl]
  try omega
theorem u32_key (i : Nat) (h : i < 4294967296) : keyOf Try.prog 25 (.int .u32 (i : Nat)) = some (.int .u32 (i : Nat)) := Maps.keyOf_int_mk Try.underlying25 (u32_wf i h)
/-- Block b of w is a map of at most n numbers, which has at i what f tells. -/
def MapF (w : World) (b n : Nat) (f : Nat → Option Value) : Prop :=
  ∃ D : DataW Value, w.ownsMap Try.prog 25 selfElem b n D ∧ ∀ i, i < 4294967296 → Maps.has D (.int .u32 (i : Nat)) = (f i).isSome ∧ ∀ z, D.atKey (.int .u32 (i : Nat)) (.held z) = .held ((f i).getD z)
theorem updF_map {α β : Type _} (g : α → β) (f : Nat → Option α) (i : Nat) (x : α) : (fun j => (updF f i (some x) j).map g) = updF (fun j => (f j).map g) i (some (g x)) := by
  funext j; unfold updF; split <;> rfl
theorem MapF.made (w : World) : MapF (w.alloc (.map #[] 0)) w.heap.size 0 (fun _ => none) :=
  ⟨_, World.ownsMap_made w _ _ _, fun i _ => ⟨rfl, fun z => rfl⟩⟩
theorem MapF.lt {w : World} {b n : Nat} {f} (h : MapF w b n f) : b < w.heap.size := by obtain ⟨D, hD, _⟩ := h; exact hD.lt
theorem MapF.mono {w : World} {b n m : Nat} {f} (h : MapF w b n f) (hn : n ≤ m) : MapF w b m f := by obtain ⟨D, hD, h⟩ := h; exact ⟨D, hD.mono hn, h⟩
theorem MapF.kept {w w' : World} {b n B : Nat} {f} (h : MapF w b n f) (hb : Below B w w') (hB : b < B) : MapF w' b n f := by
  obtain ⟨D, ⟨es, clock, k1, k2⟩, h⟩ := h
  exact ⟨D, ⟨es, clock, (hb.block b hB).trans k1, k2⟩, h⟩
theorem MapF.below {w w' : World} {b n : Nat} {f} (h : MapF w b n f) (hb : Below w.heap.size w w') : MapF w' b n f := h.kept hb h.lt
theorem MapF.only {w w' : World} {b n g : Nat} {f} (h : MapF w b n f) (ho : Only g w w') (hne : b ≠ g) : MapF w' b n f := by
  obtain ⟨D, hD, h⟩ := h
  exact ⟨D, hD.kept ho (fun e => hne (by injection e)), h⟩
theorem MapF.grown {w w' : World} {b n : Nat} {row : Option Nat} {f} (h : MapF w b n f) (ho : w.grownBy w' row) (hne : some b ≠ row) : MapF w' b n f := by
  obtain ⟨D, hD, h⟩ := h
  exact ⟨D, hD.kept ho hne, h⟩
theorem MapF.alloc {w : World} {b n : Nat} {f} (h : MapF w b n f) (o : Obj) : MapF (w.alloc o) b n f := by obtain ⟨D, hD, h⟩ := h; exact ⟨D, hD.alloc o, h⟩
theorem MapF.drewN {w : World} {b n : Nat} {f} (h : MapF w b n f) (k : Nat) : MapF (w.drewN k) b n f := h
theorem MapF.drew {w : World} {b n : Nat} {f} (h : MapF w b n f) : MapF w.drew b n f := h
theorem MapF.set {w : World} {b n g : Nat} {f} (h : MapF w b n f) (hne : b ≠ g) (i : Nat) (v : Value) : MapF (w.setCell ⟨g, i, none⟩ v) b n f := by
  obtain ⟨D, hD, h⟩ := h
  exact ⟨D, hD.setCell (a := ⟨g, i, none⟩) hne v, h⟩
theorem held_inj {a b : Value} {x y : List MemPlace} (h : (some (DataW.held a, x) : Option (DataW Value × List MemPlace)) = some (.held b, y)) : a = b := by
  injection h with h; injection h with h _; injection h
/-- 'm[i]'. -/
theorem MapF.look {w : World} {b n : Nat} {f} (h : MapF w b n f) {t e : TypeId} (ht : (Try.prog).underlying t = some (.map 25 e)) {z : Value} (hz : (zeroValue e).run Try.prog w = .ok z w) (i : Nat) (hi : i < 4294967296) :
    (Instr.lookup t (.map (some b)) (.int .u32 (i : Nat)) false).run Try.prog w = .ok ((f i).getD z) w := by
  obtain ⟨D, hD, h⟩ := h
  obtain ⟨v, ps, hr, hv⟩ := hD.lookup u32_keyed ht hz (zd := .held z) (zp := []) rfl (u32_key i hi)
  rw [(h i hi).2 z] at hv
  rw [hr, held_inj hv]
/-- 'm[i]', and whether it is there. -/
theorem MapF.look_ok {w : World} {b n : Nat} {f} (h : MapF w b n f) {t e : TypeId} (ht : (Try.prog).underlying t = some (.map 25 e)) {z : Value} (hz : (zeroValue e).run Try.prog w = .ok z w) (i : Nat) (hi : i < 4294967296) :
    (Instr.lookup t (.map (some b)) (.int .u32 (i : Nat)) true).run Try.prog w = .ok (.tuple #[(f i).getD z, .bool (f i).isSome]) w := by
  obtain ⟨D, hD, h⟩ := h
  obtain ⟨v, ps, hr, hv⟩ := hD.look_ok u32_keyed ht hz (zd := .held z) (zp := []) rfl (u32_key i hi)
  rw [(h i hi).2 z] at hv
  rw [hr, held_inj hv, (h i hi).1]
theorem lit_ne {i j : Nat} (h : i ≠ j) : (Lit.int .u32 (i : Nat)) ≠ .int .u32 (j : Nat) := by
  intro e; injection e with _ e; exact h (by omega)
/-- 'm[i] = v', at the operation. -/
theorem map_put {ops : Array Oper} {rest : List Oper} {o : Oper} {a : Act} {Q : Exit → Act → World → Prop} (w : World) (hg : o.guard = none) (m x v : Operand) (t e : TypeId) (hop : o.op = Op.mapUpdate t m x v)
    (ht : (Try.prog).underlying t = some (.map 25 e)) (b n : Nat) (f : Nat → Option Value) (hm : a.eval m = .map (some b)) (h : MapF w b n f) (hn : n < maxLen) (i : Nat) (hi : i < 4294967296) (val : Value) (hx : a.eval x = .int .u32 (i : Nat)) (hv : a.eval v = val)
    (hK : ∀ w', MapF w' b (n + 1) (updF f i (some val)) → Only b w w' → wpList Try.prog ops Q rest (a.put o.dst undef) w') :
    wpList Try.prog ops Q (o :: rest) a w := by
  obtain ⟨D, hD, hf⟩ := h
  refine wpList_mapUpdate_own w hg m x v t hop 25 e u32_keyed ht selfElem b n D hm hD hn _ val _ hx hv (u32_key i hi) (.held val) [] rfl ?_
  intro w' h1 h2
  refine hK w' ⟨_, h1, fun j hj => ?_⟩ h2
  by_cases hij : j = i
  · subst hij
    have hk : WideAt.IsKeyLit (.int .u32 (j : Nat)) := by simp [WideAt.IsKeyLit]
    refine ⟨?_, fun z => ?_⟩
    · rw [Maps.has_put_same hD.isMap hk]; simp [updF]
    · rw [Maps.atKey_put_same hD.isMap hk]; simp [updF]
  · refine ⟨?_, fun z => ?_⟩
    · rw [Maps.has_put_other (lit_ne hij), (hf j hj).1]; simp [updF, hij]
    · rw [Maps.atKey_put_other (lit_ne hij), (hf j hj).2 z]; simp [updF, hij]
end Go.Proofs.Ytoeiipkikpalaaa
