/- An append of a slice that is read (nil, empty or not) to a row of the call's own; a row of the call's own made empty with room. -/
import Derived.Test.YtoeiipkikpalaaaB2
import Derived.Lib.AppendZerosOnto
set_option linter.unusedVariables false
set_option linter.unusedSimpArgs false
namespace Go.Proofs.Ytoeiipkikpalaaa
open Go.RowKit
section
variable {P : Program} {ops : Array Oper} {rest : List Oper} {o : Oper} {a : Act} {Q : Exit → Act → World → Prop}
theorem run_app_nil {w : World} (base : Nat) (t ty e : TypeId) (i : TypeInfo) (size : Nat) (ht : P.underlying t = some (.slice e)) (hi : P.info? e = some i)
    (v : Value) (n : Nat) (xs : List Value) (hown : w.ownsRow base e size v n xs) (c : Nat) : (Builtin.append_ #[t, t] ty #[v, .slice none 0 c]).run P w = .ok v w := by
  rcases hown.2 with ⟨rfl, rfl⟩ | ⟨g, cap, cur, rfl, _, _, hnc, _⟩
  · simp [Builtin.append_, run_underlying ht, sizeOf, typeInfo, hi, Builtin.lenOf, Builtin.firstCells]
  · simp [Builtin.append_, run_underlying ht, sizeOf, typeInfo, hi, Builtin.lenOf, Builtin.firstCells, hnc, storeCells]
theorem run_app_rd {W : World} (base : Nat) (t ty e : TypeId) (z : Value) (size bytes : Nat)
    (ht : P.underlying t = some (.slice e)) (hinfo : (P.info? e).map (fun i => (i.zero, i.size, i.bytes)) = some (some z, size, bytes)) (hz : z.cells.size = size) (hsz : 0 < size) (hb1 : bytes ≤ 4096)
    (v : Value) (n : Nat) (xs : List Value) (HO : W.ownsRow base e size v n xs) (hbase : base ≤ W.heap.size)
    (A : Option Addr) (m c : Nat) (news : List Value) (hn : news.length = m * size) (hr : Rd W A news) (h1 : ∀ u ∈ news, u.oneCell' = true) (hl : n + m ≤ 4194304) :
    ∃ v1 w1, (Builtin.append_ #[t, t] ty #[v, .slice A m c]).run P W = .ok v1 w1 ∧ w1.ownsRow base e size v1 (n + m) (xs ++ news) ∧ W.grownBy w1 v.ownBlock ∧ (v1.ownBlock = v.ownBlock ∨ v1.ownBlock = some W.heap.size) := by
  obtain ⟨i0, hi, hzz⟩ := Option.map_eq_some_iff.1 hinfo
  simp only [Prod.mk.injEq] at hzz
  obtain ⟨hz0, hz1, hz2⟩ := hzz
  have hbytes : (n + m) * bytes ≤ 4194304 * 4096 := Nat.mul_le_mul hl hb1
  rcases Nat.eq_zero_or_pos m with h0 | h0
  · subst h0
    have hnil : news = [] := List.eq_nil_of_length_eq_zero (by simpa using hn)
    subst hnil
    rcases A with _ | ad
    · exact ⟨v, W, run_app_nil base t ty e i0 size ht hi v n xs HO c, by simpa using HO, World.grownBy.refl W _, .inl rfl⟩
    · obtain ⟨v', w', hrun, h2, h3, _, h5⟩ := run_append_own_at (P := P) W base t ty e i0 z size bytes ht hi hz0 hz1 hz2 hz hsz v n xs HO ad 0 c [] (by simp) (by simp) (by simp) (by simp only [maxLen]; omega) (by omega) hbase
      exact ⟨v', w', hrun, h2, h3, h5⟩
  · obtain ⟨b, off, rfl, hc⟩ := hr (by intro h; rw [h] at hn; have := Nat.mul_pos h0 hsz; rw [← hn] at this; simp at this)
    obtain ⟨v', w', hrun, h2, h3, _, h5⟩ := run_append_own_at (P := P) W base t ty e i0 z size bytes ht hi hz0 hz1 hz2 hz hsz v n xs HO ⟨b, off, none⟩ m c news hn (fun j u hu => by
      have hj := (List.getElem?_eq_some_iff.1 hu).1
      rw [show (⟨b, off, none⟩ : Addr).add j = ⟨b, off + j, none⟩ by unfold Addr.add; split <;> simp_all, hc j hj, hu]) h1 (by simp only [maxLen]; omega) (by omega) hbase
    exact ⟨v', w', hrun, h2, h3, h5⟩
theorem app_rd {w0 W : World} (base : Nat) (hgd : o.guard = none) (s x : Operand) (t e : TypeId) (z : Value) (size bytes : Nat)
    (ho : o.op = .call { callee := .builtin .append, args := #[s, x], argTypes := #[t, t] })
    (ht : P.underlying t = some (.slice e)) (hinfo : (P.info? e).map (fun i => (i.zero, i.size, i.bytes)) = some (some z, size, bytes)) (hz : z.cells.size = size) (hsz : 0 < size) (hb1 : bytes ≤ 4096)
    (v : Value) (n : Nat) (xs : List Value) (hs : a.eval s = v) (HO : W.ownsRow base e size v n xs) (HB : Below base w0 W) (hbase : base ≤ W.heap.size)
    (A : Option Addr) (m c : Nat) (news : List Value) (hx : a.eval x = .slice A m c) (hn : news.length = m * size) (hr : Rd W A news) (h1 : ∀ u ∈ news, u.oneCell' = true) (hl : n + m ≤ 4194304)
    (h : ∀ v1 w1, w1.ownsRow base e size v1 (n + m) (xs ++ news) → Below base w0 w1 → W.grownBy w1 v.ownBlock → (v1.ownBlock = v.ownBlock ∨ v1.ownBlock = some W.heap.size) → wpList P ops Q rest (a.put o.dst v1) w1) :
    wpList P ops Q (o :: rest) a W := by
  obtain ⟨v1, w1, hrun, h2, h3, h4⟩ := run_app_rd (P := P) base t o.type e z size bytes ht hinfo hz hsz hb1 v n xs HO hbase A m c news hn hr h1 hl
  exact Lib.wpList_append_run W hgd s x t t ho v _ hs hx v1 w1 hrun (h v1 w1 h2 (HB.grown h3 hbase (fun k hk => (HO.lt k hk).1)) h3 h4)
end
theorem own_room {W : World} (base : Nat) (e : TypeId) (size n cap : Nat) (cells : Array Value) (hcs : cells.size = cap * size) (hcap : cap ≤ maxLen) (hb : base ≤ W.heap.size) :
    (W.alloc (.cells cells e)).ownsRow base e size (.slice (some ⟨W.heap.size, 0, none⟩) 0 cap) 0 [] :=
  ⟨by simp, .inr ⟨W.heap.size, cap, cells, rfl, hb, heap_alloc_new W _, Nat.zero_le _, hcap, hcs, by simp⟩⟩
end Go.Proofs.Ytoeiipkikpalaaa
