/- dirs: the law 'DirsWay', walked. -/
import Derived.Test.YtoeiipkikpalaaaD12
set_option linter.unusedVariables false
set_option linter.unusedSimpArgs false
namespace Go.Proofs.Ytoeiipkikpalaaa
open Go.RowKit
theorem dwalkE_lt (l : List It) (names : List Bs) (fo : Bool) : (dwalkE l names fo).1 < 4294967296 := by
  unfold dwalkE
  cases hv : vol l with
  | none => simp
  | some s =>
    simp only
    by_cases h : (walkN s l fo 8 names 1).2 = 0
    · exact (walk_there (vol_vl hv) (by omega) (vol_vl hv).has_root h).2
    · rw [walk_ok_ne h]; omega
theorem dwalkE_err_lt (l : List It) (names : List Bs) (fo : Bool) : (dwalkE l names fo).2 < 256 := by
  unfold dwalkE
  cases hv : vol l with
  | none => simp
  | some s =>
    simp only
    fun_induction walkN s l fo 8 names 1 <;> first | omega | assumption | skip
    rename_i h
    unfold splitB
    split
    · simp
    · split
      · simp
      · split
        · simp
        · split <;> simp
theorem dget_there {l : List It} {s : PSt} (hv : vol l = some s) {i : Nat} (h : (s.ino i).isSome = true) : dgetE l i = (s.inoAt i, 0) := by
  unfold dgetE
  rw [hv]
  simp only
  cases hs : s.ino i with
  | none => rw [hs] at h; cases h
  | some n => simp [PSt.inoAt, hs]
theorem kind_there {s : PSt} {i : Nat} (h : (s.inoAt i).kind ≠ 0) : (s.ino i).isSome = true := by
  obtain ⟨n, hn, _⟩ := inoAt_some h
  rw [hn]; rfl
theorem dway {l : List It} {names : List Bs} {n : Nat} (hn : n < names.length) (hw : (dwalkE l names false).2 = 0) :
    (dwalkE l (names.take n) true).2 = 0 ∧ (dgetE l (dwalkE l (names.take n) true).1).2 = 0 ∧ (dgetE l (dwalkE l (names.take n) true).1).1.kind = 1 := by
  unfold dwalkE at hw ⊢
  cases hv : vol l with
  | none => rw [hv] at hw; simp at hw
  | some s =>
    rw [hv] at hw
    simp only at hw ⊢
    obtain ⟨h1, h2⟩ := way hn hw
    rw [dget_there hv (kind_there (by rw [h2]; decide))]
    exact ⟨h1, rfl, h2⟩
theorem Rd.take {w : World} {A : Option Addr} {l : List Bs} (h : Rd w A (nameVs l)) (n : Nat) : Rd w A (nameVs (l.take n)) := by
  intro hne
  obtain ⟨b, off, e, hc⟩ := h (by intro h0; apply hne; unfold nameVs at h0 ⊢; rw [List.map_eq_nil_iff] at h0; rw [h0]; simp)
  refine ⟨b, off, e, fun i hi => ?_⟩
  have hi2 : i < n ∧ i < l.length := by simp [nameVs] at hi; omega
  rw [hc i (by simp [nameVs]; omega)]
  simp [nameVs, hi2.1]
set_option maxRecDepth 100000 in
theorem way_walk (l : List It) (hsm : Small l) (A : Option Addr) (c : Nat) (names : List Bs) (NA : Option Addr) (nc : Nat) (hnc : names.length ≤ nc) (hcm : nc ≤ 9223372036854775807) (hnl : names.length ≤ 1048576) (hnm : ∀ x ∈ names, x.length ≤ 1048576) (n : Int) (h0 : -9223372036854775808 ≤ n) (h1 : n ≤ 9223372036854775807)
    (w : World) (hR : Rd w A (itVs l)) (hnr : Rd w NA (nameVs names)) :
    Calls Try.prog 6 #[.slice A l.length c, .slice NA names.length nc, .int .i64 n] w fun e w' => e = .returned (.bool true) ∧ Below w.heap.size w w' := by
  have HR := Lib.hid hR
  have HN := Lib.hid hnr
  have HM := Lib.hid hnm
  have HS := Lib.hid hsm
  clear hR hnr hnm hsm
  by_cases hneg : n < 0
  · go_enter Try.func6, Try.ntmps6
    go_wp2_with fail
    refine (lives_any _).mono ?_
    rintro e w1 ⟨rfl, hb⟩
    go_wp2_with fail
    go_ret
    exact ⟨rfl, hb⟩
  · obtain ⟨m, rfl⟩ := Int.eq_ofNat_of_zero_le (show 0 ≤ n by omega)
    by_cases hge : names.length ≤ m
    · go_enter Try.func6, Try.ntmps6
      go_wp2_with fail
      refine (lives_any _).mono ?_
      rintro e w1 ⟨rfl, hb⟩
      go_wp2_with fail
      go_ret
      exact ⟨rfl, hb⟩
    · have hlt : m < names.length := by omega
      have htk : (names.take m).length = m := by rw [List.length_take]; omega
      obtain ⟨e1, he1⟩ : ∃ e1, e1 = (dwalkE l names false).2 := ⟨_, rfl⟩
      have He1 := Lib.hid he1
      have hlt1 := dwalkE_lt l (names.take m) true
      have hw1 := fun W hr hn => dwalk_any l HS.out A c W hr names NA nc hnc hn hnl HM.out false
      rw [← he1] at hw1
      have hw2 := fun W hr hn => dwalk_any l HS.out A c W hr (names.take m) NA nc (by omega) hn (by omega) (fun x hx => HM.out x (List.mem_of_mem_take hx)) true
      rw [htk] at hw2
      obtain ⟨p, hp⟩ : ∃ p, p = dwalkE l (names.take m) true := ⟨_, rfl⟩
      rw [← hp] at hw2 hlt1
      have hg := fun W hr => dget_any l HS.out A c W hr p.1 hlt1
      have HW1 := Lib.hid hw1
      have HW2 := Lib.hid hw2
      have Hp := Lib.hid hp
      have HG := Lib.hid hg
      clear hw1 hw2 hp hg he1 htk
      by_cases hz : e1 = 0
      · have hd := dway hlt (by rw [← He1.out]; exact hz)
        rw [← Hp.out] at hd
        obtain ⟨d1, d2, d3⟩ := hd
        obtain ⟨q, hq⟩ : ∃ q, q = dgetE l p.1 := ⟨_, rfl⟩
        rw [← hq] at HG d2 d3
        unfold getT at HG
        rw [d1] at HW2
        rw [d2, d3] at HG
        rw [hz] at HW1
        clear d1 d2 d3 hz hq
        go_enter Try.func6, Try.ntmps6
        go_wp2_with fail
        refine (lives_any _).mono ?_
        rintro e w1 ⟨rfl, hb⟩
        have HB1 := Lib.hid hb
        clear hb
        go_wp2_with fail
        refine (HW1.out _ (HR.out.below HB1.out) (HN.out.below HB1.out)).mono ?_
        rintro e w2 ⟨rfl, hb⟩
        have HB2 := Lib.hid (below_step HB1.out hb)
        clear hb HB1
        go_wp2_with fail
        refine (HW2.out _ (HR.out.below HB2.out) ((HN.out.below HB2.out).take m)).mono ?_
        rintro e w3 ⟨rfl, hb⟩
        have HB3 := Lib.hid (below_step HB2.out hb)
        clear hb HB2
        go_wp2_with fail
        refine (HG.out _ (HR.out.below HB3.out)).mono ?_
        rintro e w4 ⟨rfl, hb⟩
        have HB4 := Lib.hid (below_step HB3.out hb)
        clear hb HB3
        go_wp2_with fail
        go_ret
        exact ⟨rfl, below_alloc HB4.out _⟩
      · have ez : ((e1 : Int) != 0) = true := by rw [bne_iff_ne]; omega
        clear hz
        go_enter Try.func6, Try.ntmps6
        go_wp2_with fail
        refine (lives_any _).mono ?_
        rintro e w1 ⟨rfl, hb⟩
        have HB1 := Lib.hid hb
        clear hb
        go_wp2_with fail
        refine (HW1.out _ (HR.out.below HB1.out) (HN.out.below HB1.out)).mono ?_
        rintro e w2 ⟨rfl, hb⟩
        have HB2 := Lib.hid (below_step HB1.out hb)
        clear hb HB1
        go_wp2_with fail
        go_ret
        exact ⟨rfl, HB2.out⟩
end Go.Proofs.Ytoeiipkikpalaaa
