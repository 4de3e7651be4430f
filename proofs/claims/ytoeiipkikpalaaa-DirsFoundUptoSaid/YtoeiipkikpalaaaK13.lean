/- Contracts: slices.Grow and slices.Concat of texts. -/
import Derived.Test.YtoeiipkikpalaaaK5
import Derived.Test.YtoeiipkikpalaaaB6
set_option linter.unusedVariables false
set_option linter.unusedSimpArgs false
namespace Go.Proofs.Ytoeiipkikpalaaa
open Go.RowKit
theorem nameVs_len (l : List Bs) : (nameVs l).length = l.length := by simp [nameVs]
theorem nameVs_app (a b : List Bs) : nameVs (a ++ b) = nameVs a ++ nameVs b := by simp [nameVs]
theorem nameVs_one (l : List Bs) : ∀ u ∈ nameVs l, u.oneCell' = true := by
  intro u hu; unfold nameVs at hu; obtain ⟨s, _, rfl⟩ := List.mem_map.1 hu; rfl
/-- A nil slice grown: a row of the call's own, with no text. -/
theorem grow_nil (n : Nat) (hn : n ≤ 4194304) (w : World) :
    Calls Try.prog 43 #[.slice none 0 0, .int .i64 (n : Int)] w fun e w' => ∃ v, e = .returned v ∧ w'.ownsRow w.heap.size 9 1 v 0 [] ∧ Below w.heap.size w w' := by
  rcases Nat.eq_zero_or_pos n with h0 | h0
  · subst h0
    go_enter Try.func43, Try.ntmps43
    go_wp2
    go_ret
    exact ⟨_, rfl, own_nil _ _ _ _, Below.refl _ _⟩
  · obtain ⟨i0, hi, hzz⟩ := Option.map_eq_some_iff.1 info_string
    simp only [Prod.mk.injEq] at hzz
    obtain ⟨hz0, hz1, hz2⟩ := hzz
    have hold : (Builtin.firstCells i0.size 0 (.slice none 0 0)).run Try.prog w.drew = .ok ([] : List Value).toArray w.drew := by rw [hz1]; exact run_firstCells_none w.drew 1 0 0 0
    have hbig : n * 16 ≤ 4194304 * 16 := Nat.mul_le_mul_right _ hn
    have hrz := fun ty => Lib.run_append_grow_zeros w 23 3 ty 9 i0 _ .i64 .i64 Try.underlying23 Try.underlying3 hi hz0 none 0 0 [] hold n h0 (by omega) (by omega) (by omega) (by rw [hz2]; omega) (by rw [hz2]; exact growslice_fits (by omega) (by omega))
    simp only [Nat.zero_add] at hrz
    have hG := grownCap_ge w n 0 9
    have hG2 := grownCap_le_maxLen w n 0 9 (by unfold maxLen; omega)
    obtain ⟨G, hGG⟩ : ∃ G, G = grownCap w n 0 9 := ⟨_, rfl⟩
    rw [← hGG] at hrz hG hG2
    have hG3 : G ≤ 9223372036854775807 := by unfold maxLen at hG2; omega
    have Hi := Lib.hid hz1
    have Hg2 := Lib.hid hG2
    clear hz1 hz2 hz0 hi hold hG2 hGG
    go_enter Try.func43, Try.ntmps43
    go_wp2_with (at_builtin; refine Lib.wpList_append_run _ rfl _ _ _ _ rfl _ _ rfl rfl _ _ (hrz _) ?_)
    all_goals
      go_ret
      refine ⟨_, rfl, ?_, ?_⟩
      · refine own_room (W := w.drew) w.heap.size 9 1 0 G _ ?_ Hg2.out (Nat.le_refl _)
        simp [size_zeroCells, Value.cells]; omega
      · exact below_alloc (below_drew (Below.refl _ _)) _
set_option maxRecDepth 100000 in
/-- Two lists of texts, one behind the other. -/
theorem concat_any (a b : List Bs) (ha : a.length ≤ 2097152) (hb : b.length ≤ 2097152) (v1 v2 : Value) (g : Nat) (w : World) (hB : Blk w g #[v1, v2] 23) (h1 : StrsAt w v1 a) (h2 : StrsAt w v2 b) :
    Calls Try.prog 26 #[.slice (some ⟨g, 0, none⟩) 2 2] w fun e w' => ∃ v, e = .returned v ∧ StrsAt w' v (a ++ b) ∧ Below w.heap.size w w' := by
  obtain ⟨A1, c1, rfl, hc1, hr1⟩ := h1
  obtain ⟨A2, c2, rfl, hc2, hr2⟩ := h2
  have k0 := hB.cell 0
  have k1 := hB.cell 1
  simp at k0 k1
  have HB := Lib.hid hB
  have R1 := Lib.hid hr1
  have R2 := Lib.hid hr2
  have hlt := hB.lt
  clear hB hr1 hr2
  obtain ⟨na, hna⟩ : ∃ na, na = a.length := ⟨_, rfl⟩
  obtain ⟨nb, hnb⟩ : ∃ nb, nb = b.length := ⟨_, rfl⟩
  rw [← hna] at k0 ha hc1
  rw [← hnb] at k1 hb hc2
  have Hna := Lib.hid hna
  have Hnb := Lib.hid hnb
  clear hna hnb
  go_enter Try.func26, Try.ntmps26
  go_wp2_with fail
  go_loop [3, 11] (fun s i => (s = .int .i64 0 ∧ i = .int .i64 0) ∨ (s = .int .i64 (na : Nat) ∧ i = .int .i64 1) ∨ (s = .int .i64 ((na + nb : Nat) : Int) ∧ i = .int .i64 2)) (fun _ i => 2 - (intOf i).toNat)
  case atStart => exact .inl ⟨rfl, rfl⟩
  case round =>
    rcases hrel with ⟨rfl, rfl⟩ | ⟨rfl, rfl⟩ | ⟨rfl, rfl⟩
    · go_wp2_with fail
      go_round
      case rel => exact .inr (.inl ⟨rfl, rfl⟩)
      case measure => simp [intOf]
    · go_wp2_with fail
      go_round
      case rel => exact .inr (.inr ⟨by go_num, rfl⟩)
      case measure => simp [intOf]
    · go_wp2_with fail
      refine (grow_nil (na + nb) (by omega) _).mono ?_
      rintro e w1 ⟨v, rfl, hown, hbel⟩
      obtain ⟨A, c, rfl, _, _⟩ := own_rd hown
      have HO := Lib.hid hown
      have HBl := Lib.hid hbel
      have HK := Lib.hid (HB.out.below hbel)
      have S1 := Lib.hid (R1.out.below hbel)
      have S2 := Lib.hid (R2.out.below hbel)
      have hsz := hbel.size
      have HT1 := Lib.hid (fun (b off : Nat) (h : A1 = some ⟨b, off, none⟩) (hne : nameVs a ≠ []) => R1.out.lt h hne)
      have HT2 := Lib.hid (fun (b' off : Nat) (h : A2 = some ⟨b', off, none⟩) (hne : nameVs b ≠ []) => R2.out.lt h hne)
      clear hown hbel k0 k1
      go_wp2_with fail
      go_loopw [6, 27] (fun s i wr => ∃ k : Nat, i = .int .i64 (k : Nat) ∧ k ≤ 2 ∧ ∃ v xs, v = s ∧ Hid (xs = if k = 0 then [] else if k = 1 then a else a ++ b) ∧ Hid (wr.ownsRow w.heap.size 9 1 v xs.length (nameVs xs)) ∧ Hid (Below w.heap.size w wr)) (fun _ i _ => 2 - (intOf i).toNat)
      case atStart => exact ⟨0, rfl, by omega, _, [], rfl, Lib.hid rfl, HO, HBl⟩
      case round =>
        obtain ⟨k, rfl, hk, v, xs, rfl, hX, hO, hBw⟩ := hrel
        have hKw := HB.out.below hBw.out
        have k0 := hKw.cell 0
        have k1 := hKw.cell 1
        simp at k0 k1
        rw [← Hna.out] at k0
        rw [← Hnb.out] at k1
        have T1 := Lib.hid (R1.out.below hBw.out)
        have T2 := Lib.hid (R2.out.below hBw.out)
        have hbs := hBw.out.size
        have hxl : xs.length ≤ na + nb := by rw [hX.out, Hna.out, Hnb.out]; split <;> (try split) <;> simp
        clear hKw
        have hn1 := Lib.hid (show (nameVs a).length = na * 1 by rw [nameVs_len, Hna.out, Nat.mul_one])
        have hn2 := Lib.hid (show (nameVs b).length = nb * 1 by rw [nameVs_len, Hnb.out, Nat.mul_one])
        have hcase : k = 0 ∨ k = 1 ∨ k = 2 := by omega
        rcases hcase with rfl | rfl | rfl
        · have hx0 : xs = [] := by rw [hX.out]; rfl
          subst hx0
          obtain ⟨v1, w2, hrun, hown, hg2, _⟩ := run_app_rd (P := Try.prog) w.heap.size 23 23 9 (.string ⟨#[]⟩) 1 16 Try.underlying23 info_string rfl (by decide) (by decide) v 0 [] hO.out hbs A1 na c1 (nameVs a) hn1.out T1.out (nameVs_one a) (by omega)
          have hbel := hBw.out.grown hg2 hbs (fun k hk => (hO.out.lt k hk).1)
          have HN := Lib.hid (And.intro hown hbel)
          clear hown hbel hg2
          go_wp2_with (at_builtin; refine Lib.wpList_append_run _ rfl _ _ _ _ rfl _ _ rfl rfl _ _ hrun ?_)
          go_roundw
          case rel => exact ⟨1, by go_num, by omega, v1, a, rfl, Lib.hid rfl, Lib.hid (by simpa [Hna.out] using HN.out.1), Lib.hid HN.out.2⟩
          case measure => simp [intOf]
        · have hx0 : xs = a := by rw [hX.out]; rfl
          subst hx0
          obtain ⟨v1, w2, hrun, hown, hg2, _⟩ := run_app_rd (P := Try.prog) w.heap.size 23 23 9 (.string ⟨#[]⟩) 1 16 Try.underlying23 info_string rfl (by decide) (by decide) v xs.length (nameVs xs) hO.out hbs A2 nb c2 (nameVs b) hn2.out T2.out (nameVs_one b) (by have := Hna.out; omega)
          have hbel := hBw.out.grown hg2 hbs (fun k hk => (hO.out.lt k hk).1)
          have HN := Lib.hid (And.intro hown hbel)
          clear hown hbel hg2
          go_wp2_with (at_builtin; refine Lib.wpList_append_run _ rfl _ _ _ _ rfl _ _ rfl rfl _ _ hrun ?_)
          go_roundw
          case rel => exact ⟨2, by go_num, by omega, v1, xs ++ b, rfl, Lib.hid rfl, Lib.hid (by rw [nameVs_app, List.length_append, ← Hnb.out]; exact HN.out.1), Lib.hid HN.out.2⟩
          case measure => simp [intOf]
        · have hx0 : xs = a ++ b := by rw [hX.out]; rfl
          subst hx0
          obtain ⟨A', c', rfl, hcc, hrd⟩ := own_rd hO.out
          have Hfin := Lib.hid (show StrsAt wr (.slice A' (a ++ b).length c') (a ++ b) from ⟨A', c', rfl, hcc, hrd⟩)
          clear hrd
          go_wp2_with fail
          go_ret
          exact ⟨_, rfl, Hfin.out, hBw.out⟩
end Go.Proofs.Ytoeiipkikpalaaa
