/- More on maps known as functions, and rows of the call's own beside them. -/
import Derived.Test.YtoeiipkikpalaaaB3
import Derived.Deep.AppendLies
import Derived.Deep.RegionLaw
set_option linter.unusedVariables false
set_option linter.unusedSimpArgs false
namespace Go.Proofs.Ytoeiipkikpalaaa
open Go.RowKit
/-- .. at a step of a region that draws. -/
theorem step_put {ops : Array Oper} {o : Oper} {a : Act} {K : Act → World → Prop} {Q : Exit → Act → World → Prop} {E : Prop} (w : World) (hgd : o.guard = none) (m x v : Operand) (t e : TypeId) (hop : o.op = Op.mapUpdate t m x v)
    (ht : (Try.prog).underlying t = some (.map 25 e)) (b n : Nat) (f : Nat → Option Value) (hm : a.eval m = .map (some b)) (h : MapF w b n f) (hn : n < maxLen) (i : Nat) (hi : i < 4294967296) (val : Value) (hx : a.eval x = .int .u32 (i : Nat)) (hv : a.eval v = val)
    (hK : ∀ w', MapF w' b (n + 1) (updF f i (some val)) → Only b w w' → K (a.put o.dst undef) w') :
    if Region.wanted o (yielded ops a.tmps) = true then Oper.wp Try.prog o a w K Q else E := by
  have hw : Region.wanted o (yielded ops a.tmps) = true := by simp [Region.wanted, hgd]
  rw [if_pos hw]
  obtain ⟨D, hD, hf⟩ := h
  obtain ⟨w', hrun, h1, h2⟩ := hD.update u32_keyed ht hn (u32_key i hi) (val := val) (d := .held val) (ps := []) rfl
  unfold Oper.wp
  simp [execOp, hop, hm, hx, hv, hrun, Result.andThen]
  refine hK w' ⟨_, h1, fun j hj => ?_⟩ h2
  by_cases hij : j = i
  · subst hij
    have hk : WideAt.IsKeyLit (.int .u32 (j : Nat)) := by simp [WideAt.IsKeyLit]
    refine ⟨?_, fun z => ?_⟩
    · rw [Maps.has_put_same hD.isMap hk]; simp [updF]
    · rw [Maps.atKey_put_same hD.isMap hk]; simp [updF]
  · refine ⟨?_, fun z => ?_⟩
    · rw [Maps.has_put_other (lit_ne hij), (hf j hj).1]; simp [updF, hij]
    · rw [Maps.atKey_put_other (lit_ne hij), (hf j hj).2 z]; simp [updF, hij]
/-- 'm[i] = v', its run. -/
theorem MapF.put {w : World} {b n : Nat} {f : Nat → Option Value} (h : MapF w b n f) {t e : TypeId} (ht : (Try.prog).underlying t = some (.map 25 e)) (hn : n < maxLen) (i : Nat) (hi : i < 4294967296) (val : Value) :
    ∃ w', (Instr.mapUpdate t (.map (some b)) (.int .u32 (i : Nat)) val).run Try.prog w = .ok () w' ∧ MapF w' b (n + 1) (updF f i (some val)) ∧ Only b w w' := by
  obtain ⟨D, hD, hf⟩ := h
  obtain ⟨w', hrun, h1, h2⟩ := hD.update u32_keyed ht hn (u32_key i hi) (val := val) (d := .held val) (ps := []) rfl
  refine ⟨w', hrun, ⟨_, h1, fun j hj => ?_⟩, h2⟩
  by_cases hij : j = i
  · subst hij
    have hk : WideAt.IsKeyLit (.int .u32 (j : Nat)) := by simp [WideAt.IsKeyLit]
    refine ⟨?_, fun z => ?_⟩
    · rw [Maps.has_put_same hD.isMap hk]; simp [updF]
    · rw [Maps.atKey_put_same hD.isMap hk]; simp [updF]
  · refine ⟨?_, fun z => ?_⟩
    · rw [Maps.has_put_other (lit_ne hij), (hf j hj).1]; simp [updF, hij]
    · rw [Maps.atKey_put_other (lit_ne hij), (hf j hj).2 z]; simp [updF, hij]
theorem MapF.keep {w w' : World} {b n B : Nat} {f} (h : MapF w b n f) (hb : Below B w w') (hB : b < B) : MapF w' b n f := h.kept hb hB
theorem Only.keep {g B : Nat} {a w w' : World} (h : Only g a w) (hb : Below B w w') (hB : a.heap.size ≤ B) : Only g a w' :=
  ⟨hb.os.trans h.os, hb.tape.trans h.tape, hb.output.trans h.output, Nat.le_trans h.size hb.size, fun i hi hne => (hb.block i (Nat.lt_of_lt_of_le hi hB)).trans (h.block i hi hne)⟩
theorem ownsMap_ne {w : World} {b n g : Nat} {f} {cs : Array Value} {t : TypeId} (h : MapF w b n f) (k : Blk w g cs t) : b ≠ g := by
  rintro rfl
  obtain ⟨D, ⟨es, cl, h1, _⟩, _⟩ := h
  rw [Blk, h1] at k
  cases k
/-- Growth of a row that lies from B on. -/
theorem below_grown {w w' : World} {B : Nat} {row : Option Nat} (h : w.grownBy w' row) (hr : ∀ g, row = some g → B ≤ g) (hB : B ≤ w.heap.size) : Below B w w' :=
  ⟨h.os, h.tape, h.output, h.size, fun i hi => h.block i (Nat.lt_of_lt_of_le hi hB) (fun e => absurd (hr i e.symm) (by omega))⟩
/-- An append of one element to a row of the call's own, at a step of a region that draws. -/
theorem step_app {P : Program} {ops : Array Oper} {o : Oper} {a : Act} {K : Act → World → Prop} {Q : Exit → Act → World → Prop} {E : Prop} (w : World) (hgd : o.guard = none) (s x : Operand) (t : TypeId)
    (ho : o.op = .call { callee := .builtin .append, args := #[s, x], argTypes := #[t, t] })
    (base : Nat) (e : TypeId) (z : Value) (size bytes : Nat) (ht : P.underlying t = some (.slice e)) (hinfo : (P.info? e).map (fun i => (i.zero, i.size, i.bytes)) = some (some z, size, bytes)) (hz : z.cells.size = size) (hsz : 0 < size) (hb1 : bytes ≤ 4096)
    (v : Value) (n : Nat) (xs : List Value) (cs : Array Value) (hcs : cs.size = size) (h1 : ∀ u ∈ cs.toList, u.oneCell' = true) (hs : a.eval s = v) (g : Nat) (hx : a.eval x = .slice (some ⟨g, 0, none⟩) 1 1)
    (hg : Blk w g cs e) (hown : w.ownsRow base e size v n xs) (hbase : base ≤ w.heap.size) (hl : n ≤ 2097152)
    (h : ∀ g' cap w1, w1.ownsRow base e size (.slice (some ⟨g', 0, none⟩) (n + 1) cap) (n + 1) (xs ++ cs.toList) → Below base w w1 → w.grownBy w1 v.ownBlock → K (a.put o.dst (.slice (some ⟨g', 0, none⟩) (n + 1) cap)) w1) :
    if Region.wanted o (yielded ops a.tmps) = true then Oper.wp P o a w K Q else E := by
  obtain ⟨i0, hi, hzz⟩ := Option.map_eq_some_iff.1 hinfo
  simp only [Prod.mk.injEq] at hzz
  obtain ⟨hz0, hz1, hz2⟩ := hzz
  have hbytes : (n + 1) * bytes ≤ 2097153 * 4096 := Nat.mul_le_mul (by omega) hb1
  refine step_append_lies w hgd s x t ho base e i0 z size bytes ht hi hz0 hz1 hz2 hz hsz v n xs hs hown ⟨g, 0, none⟩ 1 1 cs.toList hx (by simp [hcs]) (World.news_of_block hg) h1 (by omega) (by simp only [maxLen]; omega) (by omega) hbase _ rfl ?_
  intro g' cap w1 hown1 hg1 hat hlt
  exact h g' cap w1 hown1 (below_grown hg1 (fun k hk => (hown.lt k hk).1) hbase) hg1
theorem below_app {B : Nat} {W w' : World} {o : Obj} (h : Below B (W.alloc o).drew w') (hB : B ≤ W.heap.size) : Below B W w' :=
  ⟨h.os, h.tape, h.output, Nat.le_trans (by simp) h.size, fun i hi => (h.block i hi).trans (Below.heap_alloc W o i (by omega))⟩
theorem own_only {w w' : World} {base g : Nat} {e : TypeId} {size : Nat} {v : Value} {n : Nat} {xs : List Value} (h : w.ownsRow base e size v n xs) (ho : Only g w w') (hg : g < base) : w'.ownsRow base e size v n xs := by
  refine h.kept ho ?_
  cases hk : v.ownBlock with
  | none => exact .inl rfl
  | some k =>
    right
    intro e
    injection e with e
    have := (h.lt k hk).1
    omega
theorem Blk.grown {w w' : World} {g : Nat} {row : Option Nat} {cs : Array Value} {t : TypeId} (h : Blk w g cs t) (hg : w.grownBy w' row) (hne : ∀ k, row = some k → k < g) : Blk w' g cs t :=
  (hg.block g h.lt (fun e => by have := hne g e.symm; omega)).trans h
theorem grown_app {W w' : World} {o : Obj} {row : Option Nat} (h : ((W.alloc o).drew).grownBy w' row) : W.grownBy w' row :=
  World.grownBy.trans (World.grownBy_alloc W o row) ⟨h.os, h.tape, h.output, h.size, h.block⟩
end Go.Proofs.Ytoeiipkikpalaaa
