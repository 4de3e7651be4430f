/- An append of a slice that is read, at a step of a region that draws its order. -/
import Derived.Test.YtoeiipkikpalaaaB6
import Derived.Deep.RegionLaw
set_option linter.unusedVariables false
set_option linter.unusedSimpArgs false
namespace Go.Proofs.Ytoeiipkikpalaaa
open Go.RowKit
theorem step_app_rd {P : Program} {ops : Array Oper} {o : Oper} {a : Act} {K : Act → World → Prop} {Q : Exit → Act → World → Prop} {E : Prop} (w : World) (hgd : o.guard = none) (s x : Operand) (t : TypeId)
    (ho : o.op = .call { callee := .builtin .append, args := #[s, x], argTypes := #[t, t] })
    (base : Nat) (e : TypeId) (z : Value) (size bytes : Nat) (ht : P.underlying t = some (.slice e)) (hinfo : (P.info? e).map (fun i => (i.zero, i.size, i.bytes)) = some (some z, size, bytes)) (hz : z.cells.size = size) (hsz : 0 < size) (hb1 : bytes ≤ 4096)
    (v : Value) (n : Nat) (xs : List Value) (hs : a.eval s = v) (A : Option Addr) (m c : Nat) (hx : a.eval x = .slice A m c) (news : List Value) (hn : news.length = m * size) (h1 : ∀ u ∈ news, u.oneCell' = true) (hl : n + m ≤ 4194304)
    (hown : w.ownsRow base e size v n xs) (hbase : base ≤ w.heap.size) (hr : Rd w A news)
    (h : ∀ A1 c1 w1, n + m ≤ c1 → w1.ownsRow base e size (.slice A1 (n + m) c1) (n + m) (xs ++ news) → w.grownBy w1 v.ownBlock → K (a.put o.dst (.slice A1 (n + m) c1)) w1) :
    if Region.wanted o (yielded ops a.tmps) = true then Oper.wp P o a w K Q else E := by
  have hw : Region.wanted o (yielded ops a.tmps) = true := by simp [Region.wanted, hgd]
  rw [if_pos hw]
  obtain ⟨v1, w1, hrun, h2, h3, _⟩ := run_app_rd (P := P) base t o.type e z size bytes ht hinfo hz hsz hb1 v n xs hown hbase A m c news hn hr h1 hl
  obtain ⟨A1, c1, rfl, hc, _⟩ := own_rd h2
  exact Lib.wp_append_run w s x t t ho v _ hs hx _ w1 hrun (h A1 c1 w1 hc h2 h3)
/-- .. whose run is known. -/
theorem step_run {P : Program} {ops : Array Oper} {o : Oper} {a : Act} {K : Act → World → Prop} {Q : Exit → Act → World → Prop} {E : Prop} (w : World) (hgd : o.guard = none) (s x : Operand) (t : TypeId)
    (ho : o.op = .call { callee := .builtin .append, args := #[s, x], argTypes := #[t, t] }) (v vx : Value) (hs : a.eval s = v) (hx : a.eval x = vx) {v' : Value} {w' : World} (hrun : (Builtin.append_ #[t, t] o.type #[v, vx]).run P w = .ok v' w')
    (h : K (a.put o.dst v') w') : if Region.wanted o (yielded ops a.tmps) = true then Oper.wp P o a w K Q else E := by
  have hw : Region.wanted o (yielded ops a.tmps) = true := by simp [Region.wanted, hgd]
  rw [if_pos hw]
  exact Lib.wp_append_run w s x t t ho v vx hs hx v' w' hrun h
/-- A row with no element and no room, in a block of its own. -/
def Empty (w : World) (g : Nat) (e : TypeId) : Prop := Blk w g #[] e
theorem Empty.own {w : World} {g : Nat} {e : TypeId} (h : Empty w g e) {base : Nat} (hb : base ≤ g) (size : Nat) : w.ownsRow base e size (.slice (some ⟨g, 0, none⟩) 0 0) 0 [] :=
  ⟨by simp, .inr ⟨g, 0, #[], rfl, hb, h, Nat.le_refl _, by simp [maxLen], by simp, by simp⟩⟩
theorem Rd.one {w : World} {g : Nat} {x : Value} {t : TypeId} (h : Blk w g #[x] t) : Rd w (some ⟨g, 0, none⟩) [x] := by
  intro _
  refine ⟨g, 0, rfl, fun i hi => ?_⟩
  have := h.cell i
  rw [Nat.zero_add, this]; simp
end Go.Proofs.Ytoeiipkikpalaaa
