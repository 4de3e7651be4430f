/- dirs: the law 'DirsRoot', walked. -/
import Derived.Test.YtoeiipkikpalaaaD14
set_option linter.unusedVariables false
set_option linter.unusedSimpArgs false
namespace Go.Proofs.Ytoeiipkikpalaaa
open Go.RowKit
theorem parsed_of {l : List It} {s : PSt} (hv : vol l = some s) : parsed l = some s := by
  unfold vol at hv
  split at hv; · cases hv
  split at hv
  · rename_i s1 h1 _; cases hv; exact h1
  · cases hv
theorem all_len {l : List It} {s : PSt} (hv : vol l = some s) : s.all.length = l.length := by
  have := congrArg List.length (vol_vl hv).fd.its
  simpa using this
/-- What the law asks of each entry that is listed. -/
structure EnOk (l : List It) (nx : Nat) (e : En) : Prop where
  lt : e.ino < 4294967296
  get : (dgetE l e.ino).2 = 0
  kind : (dgetE l e.ino).1.kind = e.kind
  root : e.ino ≠ 1
  free : e.ino ≠ nx
theorem droot_list {l : List It} {s : PSt} (hv : vol l = some s) (i : Nat) : ∀ e ∈ (dlistE l i).1, EnOk l (nextN s) e := by
  unfold dlistE
  rw [hv]
  simp only
  cases hs : s.ino i with
  | none => simp
  | some n =>
    simp only
    split
    · intro e he
      obtain ⟨h1, h2, h3, h4, h5, h6, _, _⟩ := ls_law (vol_vl hv) he
      have := dget_there hv h1
      exact ⟨h6, by rw [this], by rw [this]; exact h2, h3, h4⟩
    · simp
theorem droot_err {l : List It} {s : PSt} (hv : vol l = some s) (i : Nat) : (dlistE l i).2 = 0 ↔ ((dgetE l i).2 = 0 ∧ (dgetE l i).1.kind = 1) := by
  unfold dlistE dgetE
  rw [hv]
  simp only
  cases hs : s.ino i with
  | none => simp
  | some n =>
    simp only
    split
    · rename_i h; simp [h]
    · rename_i h; simp [h]
theorem droot_free {l : List It} {s : PSt} (hv : vol l = some s) : dgetE l (nextN s) = (inoZ, 5) := by
  unfold dgetE; rw [hv]; simp only; rw [next_free (vol_vl hv)]
theorem dlist_len {l : List It} (hsm : Small l) (i : Nat) : (dlistE l i).1.length ≤ 1048576 := by
  unfold dlistE
  cases hv : vol l with
  | none => simp
  | some s =>
    simp only
    cases hs : s.ino i with
    | none => simp
    | some n =>
      simp only
      split
      · have := lsOf_len s i s.all
        have h2 := all_len hv
        have h3 := hsm.1
        unfold lsL; simp only; omega
      · simp
theorem dlist_err_lt (l : List It) (i : Nat) : (dlistE l i).2 < 256 := by
  unfold dlistE
  split
  · simp
  · split
    · simp
    · split <;> simp
theorem dgetE_err_lt (l : List It) (i : Nat) : (dgetE l i).2 < 256 := by
  unfold dgetE
  split
  · simp
  · split <;> simp
set_option maxRecDepth 100000 in
theorem root_walk (l : List It) (hsm : Small l) (A : Option Addr) (c : Nat) (i : Nat) (hi : i < 4294967296) (w : World) (hR : Rd w A (itVs l)) :
    Calls Try.prog 5 #[.slice A l.length c, .int .u32 (i : Nat)] w fun e w' => e = .returned (.bool true) ∧ Below w.heap.size w w' := by
  have HR := Lib.hid hR
  have hw0 := fun W hr => dwalk_any l hsm A c W hr [] none 0 (by simp) (Rd.nil _ _) (by simp) (by simp) false
  have hnx := fun W hr => dnext_any l hsm A c W hr
  have hli := fun W hr => dlist_any l hsm A c W hr i hi
  have hgi := fun W hr => dget_any l hsm A c W hr i hi
  have hck := fun W hr => dcheck_any l hsm A c W hr
  have hgn := fun j hj W hr => dget_any l hsm A c W hr j hj
  have hel := dlist_len hsm i
  have heb := dlist_err_lt l i
  have hgb := dgetE_err_lt l i
  have hgk := dgetE_kind hsm i
  cases hv : vol l with
  | none =>
    rw [show dwalkE l [] false = (0, 9) by unfold dwalkE; rw [hv]] at hw0
    rw [show dErr l = 9 by unfold dErr; rw [hv]; rfl] at hck
    have HW := Lib.hid hw0
    have HC := Lib.hid hck
    clear hw0 hnx hli hgi hck hgn hel heb hgb hv hR hsm
    go_enter Try.func5, Try.ntmps5
    go_wp2_with fail
    refine (lives_any _).mono ?_
    rintro e w1 ⟨rfl, hb⟩
    have HB1 := Lib.hid hb
    clear hb
    go_wp2_with fail
    refine (HW.out _ (HR.out.below HB1.out)).mono ?_
    rintro e w2 ⟨rfl, hb⟩
    have HB2 := Lib.hid (below_step HB1.out hb)
    clear hb HB1
    go_wp2_with fail
    refine (HC.out _ (HR.out.below HB2.out)).mono ?_
    rintro e w3 ⟨rfl, hb⟩
    have HB3 := Lib.hid (below_step HB2.out hb)
    clear hb HB2
    go_wp2_with fail
    go_ret
    exact ⟨rfl, HB3.out⟩
  | some s =>
    have hnb := next_bounds s
    have hal := all_len hv
    have hll := hsm.1
    have hes := droot_list hv i
    have her := droot_err hv i
    obtain ⟨nx, hnxx⟩ : ∃ nx, nx = nextN s := ⟨_, rfl⟩
    have hfree := droot_free hv
    rw [← hnxx] at hnb hes hfree
    rw [show dwalkE l [] false = (1, 0) by unfold dwalkE; rw [hv]; exact walkN_nil ..] at hw0
    rw [show dnextE l = (nx, 0) by unfold dnextE; rw [hv, hnxx]] at hnx
    have hgx := hgn nx (by omega)
    rw [hfree] at hgx
    obtain ⟨p, hp⟩ : ∃ p, p = dlistE l i := ⟨_, rfl⟩
    rw [← hp] at hli hes her hel heb
    obtain ⟨q, hq⟩ : ∃ q, q = dgetE l i := ⟨_, rfl⟩
    rw [← hq] at hgi her hgb hgk
    obtain ⟨es, er⟩ := p
    simp only at hli hes her hel heb
    unfold getT at hgi hgx
    have HW := Lib.hid hw0
    have HX := Lib.hid hnx
    have HL := Lib.hid hli
    have HG := Lib.hid hgi
    have HGX := Lib.hid hgx
    have HGN := Lib.hid hgn
    have HES := Lib.hid hes
    have HER := Lib.hid her
    have hnx1 : 1 < nx := by omega
    have hnx2 : nx < 4294967296 := by omega
    clear hw0 hnx hli hgi hck hgn hv hR hsm hes her hfree hgx hp hq hnxx hnb hal hll
    go_enter Try.func5, Try.ntmps5
    go_wp2_with fail
    refine (lives_any _).mono ?_
    rintro e w1 ⟨rfl, hb⟩
    have HB1 := Lib.hid hb
    clear hb
    go_wp2_with fail
    refine (HW.out _ (HR.out.below HB1.out)).mono ?_
    rintro e w2 ⟨rfl, hb⟩
    have HB2 := Lib.hid (below_step HB1.out hb)
    clear hb HB1
    go_wp2_with fail
    refine (HX.out _ (HR.out.below HB2.out)).mono ?_
    rintro e w3 ⟨rfl, hb⟩
    have HB3 := Lib.hid (below_step HB2.out hb)
    clear hb HB2
    go_wp2_with fail
    refine (HGX.out _ (HR.out.below HB3.out)).mono ?_
    rintro e w4 ⟨rfl, hb⟩
    have HB4 := Lib.hid (below_alloc (below_step HB3.out hb) (.cells #[.int .u8 ((inoZ.kind : Nat) : Int), .int .u16 ((inoZ.mode : Nat) : Int), .int .u32 ((inoZ.links : Nat) : Int), .int .u32 ((inoZ.size : Nat) : Int), .string (str inoZ.target)] 37))
    clear hb HB3
    go_wp2_with fail
    refine (HL.out _ (HR.out.below HB4.out)).mono ?_
    rintro e w5 ⟨x, rfl, ⟨EA, ec, rfl, her⟩, hb⟩
    have HE := Lib.hid her
    have HB5 := Lib.hid (below_step HB4.out hb)
    clear hb HB4 her
    go_wp2_with fail
    go_loopw [54] (fun t wr => ∃ k : Nat, t = .int .i64 (k : Nat) ∧ k ≤ es.length ∧ Hid (Below w5.heap.size w5 wr)) (fun t _ => es.length - (intOf t).toNat)
    case atStart => exact ⟨0, rfl, by omega, Lib.hid (Below.refl _ _)⟩
    case round =>
      obtain ⟨k, rfl, hk, hB⟩ := hrel
      have HB6 := Lib.hid (below_then HB5.out HB5.out.size hB.out)
      by_cases hkL : k < es.length
      · obtain ⟨b, off, rfl, k0, k1, k2⟩ := (HE.out.below hB.out).entry k hkL
        have hen := HES.out (es[k]'hkL) (List.getElem_mem hkL)
        obtain ⟨y, hy⟩ : ∃ y, y = es[k]'hkL := ⟨_, rfl⟩
        rw [← hy] at k0 k1 k2 hen
        obtain ⟨g1, g2, g3, g4, g5⟩ := hen
        have hg := HGN.out y.ino g1
        obtain ⟨d, hd⟩ : ∃ d, d = dgetE l y.ino := ⟨_, rfl⟩
        rw [← hd] at hg g2 g3
        unfold getT at hg
        rw [g2, g3] at hg
        have Hg := Lib.hid hg
        have e1 : ((y.kind : Int) != (y.kind : Int)) = false := by simp
        have e2 : ((y.ino : Int) == 1) = false := by simpa using (show ¬ (y.ino : Int) = 1 by omega)
        have e3 : ((y.ino : Int) == (nx : Int)) = false := by simpa using (show ¬ (y.ino : Int) = nx by omega)
        clear hg hd hy g2 g3 g4 g5
        go_wp2_with fail
        have HB7 := Lib.hid (below_alloc HB6.out (.cells #[.string (str y.name), .int .u32 (y.ino : Nat), .int .u8 (y.kind : Nat)] 34))
        have hn0 := Blk.new wr #[.string (str y.name), .int .u32 (y.ino : Nat), .int .u8 (y.kind : Nat)] 34
        have hB7 := below_alloc hB.out (.cells #[.string (str y.name), .int .u32 (y.ino : Nat), .int .u8 (y.kind : Nat)] 34)
        refine (Hg.out _ (HR.out.below HB7.out)).mono ?_
        rintro e w8 ⟨rfl, hb⟩
        have q1 := (hn0.below hb).cell 1
        have q2 := (hn0.below hb).cell 2
        have l8 := (hn0.below hb).lt
        simp at q1 q2
        have HB8 := Lib.hid (below_step hB7 hb)
        clear hb hn0 hB7 HB6
        go_wp2_with fail
        go_roundw
        case rel => exact ⟨k + 1, by go_num, by omega, Lib.hid (below_alloc HB8.out _)⟩
        case measure => simp [intOf]; omega
      · go_wp2_with fail
        refine (HG.out _ (HR.out.below HB6.out)).mono ?_
        rintro e w9 ⟨rfl, hb⟩
        have HB9 := Lib.hid (below_step HB6.out hb)
        clear hb HB6
        by_cases hz : er = 0
        · obtain ⟨z1, z2⟩ := HER.out.1 hz
          rw [z1, z2, hz]
          clear z1 z2 hz
          go_wp2_with fail
          go_ret
          exact ⟨rfl, below_alloc HB9.out _⟩
        · have ez : ((er : Int) == 0) = false := by simpa using (show ¬ (er : Int) = 0 by omega)
          by_cases hq0 : q.2 = 0
          · have hqk : ¬ q.1.kind = 1 := fun h => hz (HER.out.2 ⟨hq0, h⟩)
            have e4 : ((q.1.kind : Int) == 1) = false := by simpa using (show ¬ (q.1.kind : Int) = 1 by omega)
            rw [hq0]
            clear hqk hq0 hz
            go_wp2_with fail
            go_ret
            exact ⟨rfl, below_alloc HB9.out _⟩
          · have e4 : ((q.2 : Int) == 0) = false := by simpa using (show ¬ (q.2 : Int) = 0 by omega)
            clear hq0 hz
            go_wp2_with fail
            go_ret
            exact ⟨rfl, below_alloc HB9.out _⟩
end Go.Proofs.Ytoeiipkikpalaaa
