/- More for the walks: an append of one element (of however many cells) to a slice of the call's own; texts' bounds. -/
import Derived.Test.YtoeiipkikpalaaaB
set_option linter.unusedVariables false
set_option linter.unusedSimpArgs false
namespace Go.Proofs.Ytoeiipkikpalaaa
open Go.RowKit
section
variable {P : Program} {ops : Array Oper} {rest : List Oper} {o : Oper} {a : Act} {Q : Exit → Act → World → Prop}
theorem app_cells {w0 W : World} (base : Nat) (hgd : o.guard = none) (s x : Operand) (t e : TypeId) (z : Value) (size bytes : Nat)
    (ho : o.op = .call { callee := .builtin .append, args := #[s, x], argTypes := #[t, t] })
    (ht : P.underlying t = some (.slice e)) (hinfo : (P.info? e).map (fun i => (i.zero, i.size, i.bytes)) = some (some z, size, bytes)) (hz : z.cells.size = size) (hsz : 0 < size) (hb1 : bytes ≤ 4096)
    (v : Value) (n : Nat) (xs : List Value) (cs : Array Value) (hcs : cs.size = size) (h1 : ∀ u ∈ cs.toList, u.oneCell' = true) (hs : a.eval s = v) (hx : a.eval x = .slice (some ⟨W.heap.size, 0, none⟩) 1 1)
    (HO : W.ownsRow base e size v n xs) (HB : Below base w0 W) (hbase : base ≤ W.heap.size) (hl : n ≤ 2097152)
    (h : ∀ v1 w1, w1.ownsRow base e size v1 (n + 1) (xs ++ cs.toList) → Below base w0 w1 → W.grownBy w1 v.ownBlock → (v1.ownBlock = v.ownBlock ∨ ∃ b, v1.ownBlock = some b ∧ W.heap.size ≤ b) → wpList P ops Q rest (a.put o.dst v1) w1) :
    wpList P ops Q (o :: rest) a (W.alloc (.cells cs e)) := by
  obtain ⟨i0, hi, hzz⟩ := Option.map_eq_some_iff.1 hinfo
  simp only [Prod.mk.injEq] at hzz
  obtain ⟨hz0, hz1, hz2⟩ := hzz
  have hbytes : (n + 1) * bytes ≤ 2097153 * 4096 := Nat.mul_le_mul (by omega) hb1
  have hbase2 : base ≤ (W.alloc (.cells cs e)).heap.size := by simp; omega
  refine wpList_append_own_at (W.alloc (.cells cs e)) hgd s x t ho base e i0 z size bytes ht hi hz0 hz1 hz2 hz hsz v n xs hs (HO.alloc _) ⟨W.heap.size, 0, none⟩ 1 1 cs.toList hx (by simp [hcs])
    (World.news_of_block (cs := cs) (t := e) (fr := (0, 0)) (heap_alloc_new W _)) h1 (by simp only [maxLen]; omega) (by omega) hbase2 ?_
  intro v1 w1 hown hg _ hat
  refine h v1 w1 hown ((HB.alloc hbase _).grown hg hbase2 (fun k hk => (HO.lt k hk).1)) (World.grownBy.trans (World.grownBy_alloc W _ _) hg) ?_
  rcases hat with hat | hat
  · exact .inl hat
  · exact .inr ⟨_, hat, by simp⟩
end
theorem own_nil (W : World) (base : Nat) (e : TypeId) (size : Nat) : W.ownsRow base e size (.slice none 0 0) 0 [] := ⟨by simp, .inl ⟨rfl, rfl⟩⟩
/-- An owned row reads as its cells. -/
theorem own_rd {w : World} {base n : Nat} {e : TypeId} {size : Nat} {v : Value} {xs : List Value} (h : w.ownsRow base e size v n xs) : ∃ A c, v = .slice A n c ∧ n ≤ c ∧ Rd w A xs := by
  rcases h.2 with ⟨rfl, rfl⟩ | ⟨g, cap, cur, rfl, hb, hg, hnc, hcm, hcs, htake⟩
  · have hx : xs = [] := List.eq_nil_of_length_eq_zero (by simpa using h.1)
    subst hx
    exact ⟨none, 0, rfl, Nat.le_refl _, Rd.nil _ _⟩
  · refine ⟨_, cap, rfl, hnc, fun _ => ⟨g, 0, rfl, fun i hi => ?_⟩⟩
    rw [Nat.zero_add, h.cellAt i (by rw [← h.1]; exact hi)]
/-- .. and lies in a block from base on. -/
theorem own_ge {w : World} {base n : Nat} {e : TypeId} {size : Nat} {v : Value} {xs : List Value} (h : w.ownsRow base e size v n xs) {b off c : Nat} (hv : v = .slice (some ⟨b, off, none⟩) n c) : base ≤ b := by
  subst hv
  exact (h.lt b rfl).1
theorem own_below {w w1 : World} {base : Nat} {e : TypeId} {size : Nat} {v : Value} {n : Nat} {xs : List Value} (h : w.ownsRow base e size v n xs) (hb : Below w.heap.size w w1) : w1.ownsRow base e size v n xs :=
  h.kept (row := none) ⟨hb.os, hb.tape, hb.output, hb.size, fun i hi _ => hb.block i hi⟩ (by cases v.ownBlock <;> simp)
theorem own_drewN {w : World} {base : Nat} {e : TypeId} {size : Nat} {v : Value} {n : Nat} {xs : List Value} (h : w.ownsRow base e size v n xs) (k : Nat) : (w.drewN k).ownsRow base e size v n xs := h
theorem below_step {w w1 w2 : World} (h : Below w.heap.size w w1) (k : Below w1.heap.size w1 w2) : Below w.heap.size w w2 := below_then h h.size k
/-- A block known whole, and what was there below w's heap as it was. -/
def St (w W : World) (g : Nat) (cs : Array Value) (t : TypeId) : Prop := Blk W g cs t ∧ Below w.heap.size w W
theorem St.step {w W W' : World} {g : Nat} {cs : Array Value} {t : TypeId} (h : St w W g cs t) (hb : Below W.heap.size W W') : St w W' g cs t := ⟨h.1.below hb, below_then h.2 h.2.size hb⟩
theorem St.only {w W W' : World} {g k : Nat} {cs : Array Value} {t : TypeId} (h : St w W g cs t) (ho : Only k W W') (hk : w.heap.size ≤ k) (hne : g ≠ k) : St w W' g cs t := ⟨h.1.only ho hne, below_only h.2 ho hk h.2.size⟩
theorem St.alloc {w W : World} {g : Nat} {cs : Array Value} {t : TypeId} (h : St w W g cs t) (o : Obj) : St w (W.alloc o) g cs t := ⟨h.1.alloc o, below_alloc h.2 o⟩
theorem St.set {w W : World} {g : Nat} {cs : Array Value} {t : TypeId} (h : St w W g cs t) (hg : w.heap.size ≤ g) (i : Nat) (v : Value) : St w (W.setCell ⟨g, i, none⟩ v) g (cs.setIfInBounds i v) t := ⟨h.1.set i v, h.2.setCell hg v⟩
theorem St.drew {w W : World} {g : Nat} {cs : Array Value} {t : TypeId} (h : St w W g cs t) : St w W.drew g cs t := ⟨h.1, below_drew h.2⟩
theorem St.drewN {w W : World} {g : Nat} {cs : Array Value} {t : TypeId} (h : St w W g cs t) (n : Nat) : St w (W.drewN n) g cs t := ⟨h.1, below_drewN h.2 n⟩
theorem St.cell {w W : World} {g : Nat} {cs : Array Value} {t : TypeId} (h : St w W g cs t) (i : Nat) : W.cell? ⟨g, i, none⟩ = cs[i]? := h.1.cell i
theorem St.new (w : World) (cs : Array Value) (t : TypeId) : St w (w.alloc (.cells cs t)) w.heap.size cs t := ⟨Blk.new w cs t, below_alloc (Below.refl _ _) _⟩
end Go.Proofs.Ytoeiipkikpalaaa
