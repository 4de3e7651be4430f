/- dirs: Walk and List. -/
import Derived.Test.YtoeiipkikpalaaaD9
import Derived.Test.YtoeiipkikpalaaaD10
set_option linter.unusedVariables false
set_option linter.unusedSimpArgs false
namespace Go.Proofs.Ytoeiipkikpalaaa
open Go.RowKit
def dwalkE (l : List It) (names : List Bs) (fo : Bool) : Nat × Nat := match vol l with
  | none => (0, 9)
  | some s => walkN s l fo 8 names 1
theorem dwalk_any (l : List It) (hsm : Small l) (A : Option Addr) (c : Nat) (w : World) (hR : Rd w A (itVs l)) (names : List Bs) (NA : Option Addr) (nc : Nat) (hnc : names.length ≤ nc) (hnr : Rd w NA (nameVs names)) (hnl : names.length ≤ 1048576) (hnm : ∀ x ∈ names, x.length ≤ 1048576) (fo : Bool) :
    Calls Try.prog 8 #[.slice A l.length c, .slice NA names.length nc, .bool fo] w fun e w' => e = .returned (.tuple #[.int .u32 ((dwalkE l names fo).1 : Nat), .int .i64 ((dwalkE l names fo).2 : Nat)]) ∧ Below w.heap.size w w' := by
  have hr := Lib.hid (opened_right l hsm A c w hR)
  have HR := Lib.hid hR
  have HN := Lib.hid hnr
  have HM := Lib.hid hnm
  have HS := Lib.hid hsm
  clear hR hnr hnm hsm
  go_enter Try.func8, Try.ntmps8
  go_wp2_with fail
  refine (open_any A l.length c _).mono ?_
  rintro e w1 ⟨rfl, rfl⟩
  go_wp2_with fail
  refine hr.out.mono ?_
  rintro e w2 ⟨rfl, hb, hvo⟩
  cases hv : vol l with
  | none =>
    have hd := Lib.hid (show dwalkE l names fo = (0, 9) by unfold dwalkE; rw [hv])
    clear hv hvo
    go_wp2_with fail
    go_ret2
    exact ⟨by rw [hd.out]; rfl, hb⟩
  | some s =>
    have hd := Lib.hid (show dwalkE l names fo = walkN s l fo 8 names 1 by unfold dwalkE; rw [hv])
    obtain ⟨m1, m2, AA, cc, hV, hok⟩ := hvo s hv
    have hw := Lib.hid (vwalk_any l (vol_vl hv).chk HS.out w2 hV hok (HR.out.below hb) names NA nc hnc (HN.out.below hb) hnl HM.out fo)
    clear hv hvo hV hok
    go_wp2_with fail
    refine hw.out.mono ?_
    rintro e w3 ⟨rfl, hb3⟩
    have HB := Lib.hid (below_step hb hb3)
    clear hb3 hb
    go_wp2_with fail
    go_ret2
    exact ⟨by rw [hd.out]; rfl, HB.out⟩
def dlistE (l : List It) (i : Nat) : List En × Nat := match vol l with
  | none => ([], 9)
  | some s => match s.ino i with
    | none => ([], 5)
    | some n => if n.kind = 1 then (lsL s i, 0) else ([], 12)
theorem EnAt.nil (w : World) : EnAt w (.slice none 0 0) [] := ⟨none, 0, rfl, Rd.nil _ _⟩
theorem EnAt.below {w w' : World} {v : Value} {l : List En} (h : EnAt w v l) (hb : Below w.heap.size w w') : EnAt w' v l := by
  obtain ⟨A, c, e, hr⟩ := h
  exact ⟨A, c, e, hr.below hb⟩
set_option maxRecDepth 100000 in
theorem dlist_any (l : List It) (hsm : Small l) (A : Option Addr) (c : Nat) (w : World) (hR : Rd w A (itVs l)) (i : Nat) (hi : i < 4294967296) :
    Calls Try.prog 9 #[.slice A l.length c, .int .u32 (i : Nat)] w fun e w' => ∃ x, e = .returned (.tuple #[x, .int .i64 ((dlistE l i).2 : Nat)]) ∧ EnAt w' x (dlistE l i).1 ∧ Below w.heap.size w w' := by
  have hr := Lib.hid (opened_right l hsm A c w hR)
  have hll := hsm.1
  clear hR hsm
  go_enter Try.func9, Try.ntmps9
  go_wp2_with fail
  refine (open_any A l.length c _).mono ?_
  rintro e w1 ⟨rfl, rfl⟩
  go_wp2_with fail
  refine hr.out.mono ?_
  rintro e w2 ⟨rfl, hb, hvo⟩
  have HB := Lib.hid hb
  cases hv : vol l with
  | none =>
    have hd := Lib.hid (show dlistE l i = ([], 9) by unfold dlistE; rw [hv])
    clear hv hvo hb
    go_wp2_with fail
    go_ret2
    exact ⟨_, by rw [hd.out]; rfl, by rw [hd.out]; exact EnAt.nil _, HB.out⟩
  | some s =>
    obtain ⟨m1, m2, AA, cc, hV, hok⟩ := hvo s hv
    have Hin := Lib.hid (inode_any w2 hV i hi)
    have HV := Lib.hid hV
    have HO := Lib.hid hok
    have hkb := (Ok_inoAt hok i).1
    clear hb hvo hr hV hok
    obtain ⟨ii, hii⟩ : ∃ ii, ii = s.inoAt i := ⟨_, rfl⟩
    rw [← hii] at Hin hkb
    cases hs : s.ino i with
    | none =>
      have hd := Lib.hid (show dlistE l i = ([], 5) by unfold dlistE; rw [hv]; simp only; rw [hs])
      rw [hs] at Hin
      clear hs hv hii
      go_wp2_with fail
      refine Hin.out.mono ?_
      rintro e w3 ⟨rfl, hb3⟩
      have HB3 := Lib.hid (below_step HB.out hb3)
      clear hb3 Hin
      go_wp2_with fail
      go_ret2
      exact ⟨_, by rw [hd.out]; rfl, by rw [hd.out]; exact EnAt.nil _, below_alloc HB3.out _⟩
    | some nn =>
      have hnn : ii = nn := by rw [hii]; unfold PSt.inoAt; rw [hs]; rfl
      rw [hs] at Hin
      by_cases hk : ii.kind = 1
      · have hd := Lib.hid (show dlistE l i = (lsL s i, 0) by unfold dlistE; rw [hv]; simp only; rw [hs]; simp only; rw [if_pos (by rw [← hnn]; exact hk)])
        have ek : ((ii.kind : Int) != 1) = false := by rw [hk]; rfl
        clear hs hv hii hnn hk
        go_wp2_with fail
        refine Hin.out.mono ?_
        rintro e w3 ⟨rfl, hb3⟩
        have HB3 := Lib.hid (below_alloc (below_step HB.out hb3) (.cells #[.int .u8 (ii.kind : Nat), .int .u16 (ii.mode : Nat), .int .u32 (ii.links : Nat), .int .u32 (ii.size : Nat), .string (str ii.target)] 37))
        have hl := Lib.hid (vlist_any _ ((HV.out.below hb3).alloc (.cells #[.int .u8 (ii.kind : Nat), .int .u16 (ii.mode : Nat), .int .u32 (ii.links : Nat), .int .u32 (ii.size : Nat), .string (str ii.target)] 37)) HO.out hll i hi)
        clear hb3 Hin
        go_wp2_with fail
        refine hl.out.mono ?_
        rintro e w4 ⟨x, rfl, hx, hb4⟩
        have HB4 := Lib.hid (below_step HB3.out hb4)
        have HX := Lib.hid hx
        clear hb4 hx
        go_wp2_with fail
        go_ret2
        exact ⟨_, by rw [hd.out]; rfl, by rw [hd.out]; exact HX.out, HB4.out⟩
      · have hd := Lib.hid (show dlistE l i = ([], 12) by unfold dlistE; rw [hv]; simp only; rw [hs]; simp only; rw [if_neg (by rw [← hnn]; exact hk)])
        have ek : ((ii.kind : Int) != 1) = true := by rw [bne_iff_ne]; omega
        clear hs hv hii hnn hk
        go_wp2_with fail
        refine Hin.out.mono ?_
        rintro e w3 ⟨rfl, hb3⟩
        have HB3 := Lib.hid (below_step HB.out hb3)
        clear hb3 Hin
        go_wp2_with fail
        go_ret2
        exact ⟨_, by rw [hd.out]; rfl, by rw [hd.out]; exact EnAt.nil _, below_alloc HB3.out _⟩
end Go.Proofs.Ytoeiipkikpalaaa
