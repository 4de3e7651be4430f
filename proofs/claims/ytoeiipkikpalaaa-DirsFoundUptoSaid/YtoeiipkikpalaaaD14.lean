/- dirs: the law 'DirsLinks', walked. -/
import Derived.Test.YtoeiipkikpalaaaD13
set_option linter.unusedVariables false
set_option linter.unusedSimpArgs false
namespace Go.Proofs.Ytoeiipkikpalaaa
open Go.RowKit
theorem dlinks (l : List It) (names : List Bs) :
    ((dwalkE l names true).2 = 0 → (dgetE l (dwalkE l names true).1).2 = 0 ∧ (dgetE l (dwalkE l names true).1).1.kind ≠ 3 ∧ (dwalkE l names false).2 = 0) ∧
    ((dwalkE l names false).2 ≠ 0 → (dwalkE l names true).2 = (dwalkE l names false).2) ∧
    ((dwalkE l names false).2 = 0 → (dgetE l (dwalkE l names false).1).2 = 0 ∧ ((dgetE l (dwalkE l names false).1).1.kind ≠ 3 → dwalkE l names true = dwalkE l names false)) := by
  unfold dwalkE
  cases hv : vol l with
  | none => simp
  | some s =>
    simp only
    obtain ⟨h1, h2, h3⟩ := links_law (vol_vl hv) names
    refine ⟨fun h => ?_, h2, fun h => ?_⟩
    · obtain ⟨g1, g2, g3⟩ := h1 h
      rw [dget_there hv g1]
      exact ⟨rfl, g2, g3⟩
    · obtain ⟨g1, g2⟩ := h3 h
      rw [dget_there hv g1]
      exact ⟨rfl, g2⟩
theorem dgetE_kind {l : List It} (hsm : Small l) (i : Nat) : (dgetE l i).1.kind < 256 := by
  unfold dgetE
  cases hv : vol l with
  | none => simp [inoZ]
  | some s =>
    simp only
    cases hs : s.ino i with
    | none => simp [inoZ]
    | some n =>
      simp only
      have hp : ∀ (l m : List It) (s s' : PSt), (∀ x ∈ l, x.key.length ≤ 1048576 ∧ x.val.length ≤ 1048576) → s.Ok m.length → parseL s l = some s' → s'.Ok (m.length + l.length) := by
        intro l
        induction l with
        | nil => intro m s s' _ h e; simp only [parseL] at e; cases e; simpa using h
        | cons x l ih =>
          intro m s s' hx h e
          simp only [parseL] at e
          split at e; · cases e
          rename_i s1 h1
          have h2 := pstep_ok h (hx x (by simp)).1 (hx x (by simp)).2 h1
          have := ih (x :: m) s1 s' (fun y hy => hx y (List.mem_cons_of_mem _ hy)) (by simpa using h2) e
          simp only [List.length_cons] at this ⊢
          rw [show m.length + (l.length + 1) = m.length + 1 + l.length by omega]; exact this
      have hs2 : parsed l = some s := by
        unfold vol at hv
        split at hv; · cases hv
        split at hv
        · rename_i s1 h1 _; cases hv; exact h1
        · cases hv
      have hs3 : parseL PSt.zero l = some s := by
        unfold parsed at hs2
        split at hs2; · cases hs2
        split at hs2
        · rename_i s1 h1 _; cases hs2; exact h1
        · cases hs2
      have := hp l [] PSt.zero s hsm.2 Ok_zero hs3
      exact (this.2.2.1 i n hs).1
set_option maxRecDepth 100000 in
theorem links_walk (l : List It) (hsm : Small l) (A : Option Addr) (c : Nat) (names : List Bs) (NA : Option Addr) (nc : Nat) (hnc : names.length ≤ nc) (_hcm : nc ≤ 9223372036854775807) (hnl : names.length ≤ 1048576) (hnm : ∀ x ∈ names, x.length ≤ 1048576)
    (w : World) (hR : Rd w A (itVs l)) (hnr : Rd w NA (nameVs names)) :
    Calls Try.prog 4 #[.slice A l.length c, .slice NA names.length nc] w fun e w' => e = .returned (.bool true) ∧ Below w.heap.size w w' := by
  have HR := Lib.hid hR
  have HN := Lib.hid hnr
  have HW1 := Lib.hid (fun W hr hn => dwalk_any l hsm A c W hr names NA nc hnc hn hnl hnm true)
  have HW2 := Lib.hid (fun W hr hn => dwalk_any l hsm A c W hr names NA nc hnc hn hnl hnm false)
  have hd := dlinks l names
  have hla := dwalkE_lt l names true
  have hlb := dwalkE_lt l names false
  obtain ⟨a, ha⟩ : ∃ a, a = dwalkE l names true := ⟨_, rfl⟩
  obtain ⟨b, hb⟩ : ∃ b, b = dwalkE l names false := ⟨_, rfl⟩
  rw [← ha] at HW1 hd hla
  rw [← hb] at HW2 hd hlb
  obtain ⟨a1, a2⟩ := a
  obtain ⟨b1, b2⟩ := b
  simp only at HW1 HW2 hd hla hlb
  have hga := fun W hr => dget_any l hsm A c W hr a1 hla
  have hgb := fun W hr => dget_any l hsm A c W hr b1 hlb
  have hkb := dgetE_kind hsm b1
  have hka := dgetE_kind hsm a1
  obtain ⟨p, hp⟩ : ∃ p, p = dgetE l a1 := ⟨_, rfl⟩
  obtain ⟨q, hq⟩ : ∃ q, q = dgetE l b1 := ⟨_, rfl⟩
  rw [← hp] at hga hd hka
  rw [← hq] at hgb hd hkb
  unfold getT at hga hgb
  have HGA := Lib.hid hga
  have HGB := Lib.hid hgb
  have Hd := Lib.hid hd
  clear ha hb hp hq hga hgb hd hR hnr hnm hsm
  by_cases hz : a2 = 0
  · obtain ⟨d1, d2, d3⟩ := Hd.out.1 hz
    obtain ⟨d4, d5⟩ := Hd.out.2.2 d3
    rw [hz] at HW1
    rw [d1] at HGA
    rw [d3] at HW2
    rw [d4] at HGB
    have e3 : ((p.1.kind : Int) == 3) = false := by simpa using (show ¬ (p.1.kind : Int) = 3 by omega)
    have hD5 := Lib.hid d5
    have hz2 := Lib.hid hz
    have hb2 := Lib.hid d3
    clear d1 d2 d3 d4 d5 Hd hz
    go_enter Try.func4, Try.ntmps4
    go_wp2_with fail
    refine (lives_any _).mono ?_
    rintro e w1 ⟨rfl, hb⟩
    have HB1 := Lib.hid hb
    clear hb
    go_wp2_with fail
    refine (HW1.out _ (HR.out.below HB1.out) (HN.out.below HB1.out)).mono ?_
    rintro e w2 ⟨rfl, hb⟩
    have HB2 := Lib.hid (below_step HB1.out hb)
    clear hb HB1
    go_wp2_with fail
    refine (HW2.out _ (HR.out.below HB2.out) (HN.out.below HB2.out)).mono ?_
    rintro e w3 ⟨rfl, hb⟩
    have HB3 := Lib.hid (below_step HB2.out hb)
    clear hb HB2
    go_wp2_with fail
    refine (HGA.out _ (HR.out.below HB3.out)).mono ?_
    rintro e w4 ⟨rfl, hb⟩
    have HB4 := Lib.hid (below_step HB3.out hb)
    clear hb HB3
    go_wp2_with fail
    have HB5 := Lib.hid (below_alloc HB4.out (.cells #[.int .u8 (p.1.kind : Nat), .int .u16 (p.1.mode : Nat), .int .u32 (p.1.links : Nat), .int .u32 (p.1.size : Nat), .string (str p.1.target)] 37))
    refine (HGB.out _ (HR.out.below HB5.out)).mono ?_
    rintro e w6 ⟨rfl, hb⟩
    have HB6 := Lib.hid (below_step HB5.out hb)
    clear hb HB5 HB4
    by_cases hk : q.1.kind = 3
    · have e4 : ((q.1.kind : Int) == 3) = true := by rw [hk]; rfl
      clear hk
      go_wp2_with fail
      go_ret
      exact ⟨rfl, below_alloc HB6.out _⟩
    · have e4 : ((q.1.kind : Int) == 3) = false := by simpa using (show ¬ (q.1.kind : Int) = 3 by omega)
      have hab := hD5.out hk
      have e5 : ((a1 : Int) == (b1 : Int)) = true := by
        have : a1 = b1 := congrArg Prod.fst hab
        rw [this]; simp
      clear hk hab
      go_wp2_with fail
      go_ret
      exact ⟨rfl, below_alloc HB6.out _⟩
  · have e1 : ((a2 : Int) == 0) = false := by simpa using (show ¬ (a2 : Int) = 0 by omega)
    by_cases hz2 : b2 = 0
    · obtain ⟨d4, d5⟩ := Hd.out.2.2 hz2
      have hk : q.1.kind = 3 := by
        by_cases hk : q.1.kind = 3
        · exact hk
        · have := congrArg Prod.snd (d5 hk)
          simp only at this
          omega
      have e4 : ((q.1.kind : Int) == 3) = true := by rw [hk]; rfl
      rw [hz2] at HW2
      rw [d4] at HGB
      clear d4 d5 hk hz2 hz Hd
      go_enter Try.func4, Try.ntmps4
      go_wp2_with fail
      refine (lives_any _).mono ?_
      rintro e w1 ⟨rfl, hb⟩
      have HB1 := Lib.hid hb
      clear hb
      go_wp2_with fail
      refine (HW1.out _ (HR.out.below HB1.out) (HN.out.below HB1.out)).mono ?_
      rintro e w2 ⟨rfl, hb⟩
      have HB2 := Lib.hid (below_step HB1.out hb)
      clear hb HB1
      go_wp2_with fail
      refine (HW2.out _ (HR.out.below HB2.out) (HN.out.below HB2.out)).mono ?_
      rintro e w3 ⟨rfl, hb⟩
      have HB3 := Lib.hid (below_step HB2.out hb)
      clear hb HB2
      go_wp2_with fail
      refine (HGB.out _ (HR.out.below HB3.out)).mono ?_
      rintro e w6 ⟨rfl, hb⟩
      have HB6 := Lib.hid (below_step HB3.out hb)
      clear hb HB3
      go_wp2_with fail
      go_ret
      exact ⟨rfl, below_alloc HB6.out _⟩
    · have hab := Hd.out.2.1 hz2
      have e2 : ((b2 : Int) != 0) = true := by rw [bne_iff_ne]; omega
      have e3 : ((a2 : Int) == (b2 : Int)) = true := by rw [hab]; simp
      clear hab hz hz2 Hd
      go_enter Try.func4, Try.ntmps4
      go_wp2_with fail
      refine (lives_any _).mono ?_
      rintro e w1 ⟨rfl, hb⟩
      have HB1 := Lib.hid hb
      clear hb
      go_wp2_with fail
      refine (HW1.out _ (HR.out.below HB1.out) (HN.out.below HB1.out)).mono ?_
      rintro e w2 ⟨rfl, hb⟩
      have HB2 := Lib.hid (below_step HB1.out hb)
      clear hb HB1
      go_wp2_with fail
      refine (HW2.out _ (HR.out.below HB2.out) (HN.out.below HB2.out)).mono ?_
      rintro e w3 ⟨rfl, hb⟩
      have HB3 := Lib.hid (below_step HB2.out hb)
      clear hb HB2
      go_wp2_with fail
      go_ret
      exact ⟨rfl, HB3.out⟩
end Go.Proofs.Ytoeiipkikpalaaa
