/- dirs: the law 'DirsFound', in plain words; names with one more. -/
import Derived.Test.YtoeiipkikpalaaaD15
import Derived.Test.YtoeiipkikpalaaaB7
set_option linter.unusedVariables false
set_option linter.unusedSimpArgs false
namespace Go.Proofs.Ytoeiipkikpalaaa
open Go.RowKit
theorem dfound {l : List It} {names : List Bs} {at' : Nat} {es : List En} (h1 : dwalkE l names true = (at', 0)) (h2 : dlistE l at' = (es, 0)) :
    (∀ e ∈ es, dwalkE l (names ++ [e.name]) false = (e.ino, 0) ∧ (dgetE l e.ino).2 = 0 ∧ (dgetE l e.ino).1.kind = e.kind ∧ e.ino < 4294967296 ∧ e.name.length ≤ 1048576) ∧
    es.Pairwise (fun a b => lt a.name b.name = true) ∧
    ∀ nm, (es.any fun e => decide (e.name = nm)) = decide ((dwalkE l (names ++ [nm]) false).2 = 0) := by
  unfold dwalkE at h1
  unfold dlistE at h2
  cases hv : vol l with
  | none => rw [hv] at h1; cases h1
  | some s =>
    rw [hv] at h1 h2
    simp only at h1 h2
    have hV := vol_vl hv
    have hat : (walkN s l true 8 names 1).1 = at' := by rw [h1]
    have hok : (walkN s l true 8 names 1).2 = 0 := by rw [h1]
    have hlt := (walk_there hV (by omega) hV.has_root hok).2
    rw [hat] at hlt
    cases hs : s.ino at' with
    | none => rw [hs] at h2; cases h2
    | some n =>
      rw [hs] at h2
      simp only at h2
      split at h2
      · rename_i hk
        have hes : es = lsL s at' := by injection h2 with h2 _; exact h2.symm
        have hk1 : (s.inoAt (walkN s l true 8 names 1).1).kind = 1 := by rw [hat]; unfold PSt.inoAt; rw [hs]; exact hk
        have hone := fun nm => found_one (s := s) (l := l) (names := names) hok hk1 nm
        rw [hat] at hone
        have hw : ∀ nm, dwalkE l (names ++ [nm]) false = if entL l at' nm = 0 then (0, 5) else (entL l at' nm, 0) := by
          intro nm; unfold dwalkE; rw [hv]; exact hone nm
        subst hes
        refine ⟨fun e he => ?_, lsL_rise hV at', fun nm => ?_⟩
        · obtain ⟨g1, g2, _, _, g5, g6, _, g8⟩ := ls_law hV he
          have hd := dget_there hv g1
          refine ⟨by rw [hw, g8, if_neg g5], by rw [hd], by rw [hd]; exact g2, g6, ?_⟩
          obtain ⟨x, hx, hk2, _, rfl⟩ := lsL_mem he
          have hko := (hV.fd.ok x hx).1
          obtain ⟨⟨kd, ino, nm, ch⟩, v⟩ := x
          simp only at hk2
          subst hk2
          simp [keyOk, nameOk] at hko
          show nm.length ≤ 1048576
          omega
        · rw [found_is hV hlt nm, hw]
          by_cases h0 : entL l at' nm = 0
          · rw [if_pos h0]; simp [h0]
          · rw [if_neg h0]; simp [h0]
      · cases h2
/-- Names, and one more behind them, in a row of the call's own. -/
theorem names_one {w W : World} (hW : Below w.heap.size w W) {g : Nat} (hg : w.heap.size ≤ g) {k : Nat} {nm : Bs} (hE : Empty W g 9) (hK : Blk W k #[.string (str nm)] 9) (hgk : k ≠ g) {names : List Bs} {NA : Option Addr} {nc : Nat} (hN : Rd w NA (nameVs names)) (hl : names.length ≤ 1048576) (ty ty2 : TypeId) :
    ∃ A1 c1 w1 A2 c2 w2, (Builtin.append_ #[23, 23] ty #[.slice (some ⟨g, 0, none⟩) 0 0, .slice NA names.length nc]).run Try.prog W = .ok (.slice A1 names.length c1) w1 ∧
      (Builtin.append_ #[23, 23] ty2 #[.slice A1 names.length c1, .slice (some ⟨k, 0, none⟩) 1 1]).run Try.prog w1 = .ok (.slice A2 (names.length + 1) c2) w2 ∧
      names.length + 1 ≤ c2 ∧ Rd w2 A2 (nameVs (names ++ [nm])) ∧ Below w.heap.size w w2 ∧ Below w.heap.size w w1 := by
  have ho := hE.own hg 1
  have hbs := hW.size
  obtain ⟨v1, w1, hrun, h2, h3, h4⟩ := run_app_rd (P := Try.prog) w.heap.size 23 ty 9 (.string ⟨#[]⟩) 1 16 Try.underlying23 info_string rfl (by decide) (by decide) _ 0 [] ho hbs NA names.length nc (nameVs names) (by rw [nameVs_len]; omega) (hN.below hW) (nameVs_one names) (by omega)
  obtain ⟨A1, c1, rfl, hc1, _⟩ := own_rd h2
  have hb1 := hW.grown h3 hbs (fun j hj => (ho.lt j hj).1)
  have hK1 : Blk w1 k #[.string (str nm)] 9 := (h3.block k hK.lt (fun e => hgk (by injection e))).trans hK
  simp only [Nat.zero_add, List.nil_append] at hrun h2 hc1
  obtain ⟨v2, w2, hrun2, g2, g3, g4⟩ := run_app_rd (P := Try.prog) w.heap.size 23 ty2 9 (.string ⟨#[]⟩) 1 16 Try.underlying23 info_string rfl (by decide) (by decide) _ names.length (nameVs names) h2 hb1.size (some ⟨k, 0, none⟩) 1 1 [.string (str nm)] (by simp) (Rd.one hK1) (by intro u hu; simp at hu; subst hu; rfl) (by omega)
  obtain ⟨A2, c2, rfl, hc2, hr2⟩ := own_rd g2
  exact ⟨A1, c1, w1, A2, c2, w2, hrun, hrun2, hc2, by rw [nameVs_app]; exact hr2, hb1.grown g3 hb1.size (fun j hj => (h2.lt j hj).1), hb1⟩
/-- .. the one more laid in a block of its own behind the names. -/
theorem names_one' {w W : World} (hW : Below w.heap.size w W) {g : Nat} (hg : w.heap.size ≤ g) (nm : Bs) (hE : Empty W g 9) {names : List Bs} {NA : Option Addr} {nc : Nat} (hN : Rd w NA (nameVs names)) (hl : names.length ≤ 1048576) (ty ty2 : TypeId) :
    ∃ A1 c1 w1 A2 c2 w2, (Builtin.append_ #[23, 23] ty #[.slice (some ⟨g, 0, none⟩) 0 0, .slice NA names.length nc]).run Try.prog W = .ok (.slice A1 names.length c1) w1 ∧
      (Builtin.append_ #[23, 23] ty2 #[.slice A1 names.length c1, .slice (some ⟨w1.heap.size, 0, none⟩) 1 1]).run Try.prog (w1.alloc (.cells #[.string (str nm)] 9)) = .ok (.slice A2 (names.length + 1) c2) w2 ∧
      names.length + 1 ≤ c2 ∧ Rd w2 A2 (nameVs (names ++ [nm])) ∧ Below w.heap.size w w2 ∧ Below w.heap.size w w1 := by
  have ho := hE.own hg 1
  have hbs := hW.size
  obtain ⟨v1, w1, hrun, h2, h3, h4⟩ := run_app_rd (P := Try.prog) w.heap.size 23 ty 9 (.string ⟨#[]⟩) 1 16 Try.underlying23 info_string rfl (by decide) (by decide) _ 0 [] ho hbs NA names.length nc (nameVs names) (by rw [nameVs_len]; omega) (hN.below hW) (nameVs_one names) (by omega)
  obtain ⟨A1, c1, rfl, hc1, _⟩ := own_rd h2
  have hb1 := hW.grown h3 hbs (fun j hj => (ho.lt j hj).1)
  simp only [Nat.zero_add, List.nil_append] at hrun h2 hc1
  have hb2 := below_alloc hb1 (.cells #[.string (str nm)] 9)
  have h2' := own_below h2 (below_alloc (Below.refl _ _) (.cells #[.string (str nm)] 9))
  obtain ⟨v2, w2, hrun2, g2, g3, g4⟩ := run_app_rd (P := Try.prog) w.heap.size 23 ty2 9 (.string ⟨#[]⟩) 1 16 Try.underlying23 info_string rfl (by decide) (by decide) _ names.length (nameVs names) h2' hb2.size (some ⟨w1.heap.size, 0, none⟩) 1 1 [.string (str nm)] (by simp) (Rd.one (Blk.new _ _ _)) (by intro u hu; simp at hu; subst hu; rfl) (by omega)
  obtain ⟨A2, c2, rfl, hc2, hr2⟩ := own_rd g2
  exact ⟨A1, c1, w1, A2, c2, w2, hrun, hrun2, hc2, by rw [nameVs_app]; exact hr2, hb2.grown g3 hb2.size (fun j hj => (h2'.lt j hj).1), hb1⟩
end Go.Proofs.Ytoeiipkikpalaaa
