/- dirs: going along names. -/
import Derived.Test.YtoeiipkikpalaaaD8
import Derived.Test.YtoeiipkikpalaaaK13
set_option linter.unusedVariables false
set_option linter.unusedSimpArgs false
namespace Go.Proofs.Ytoeiipkikpalaaa
open Go.RowKit
theorem walkN_a {s : PSt} {l : List It} {fo : Bool} {f : Nat} {nm : Bs} {r : List Bs} {a : Nat} (h : (s.inoAt a).kind ≠ 1) : walkN s l fo f (nm :: r) a = (0, 12) := by rw [walkN_cons, if_pos h]
theorem walkN_b {s : PSt} {l : List It} {fo : Bool} {f : Nat} {nm : Bs} {r : List Bs} {a : Nat} (h : (s.inoAt a).kind = 1) (h2 : entL l a nm = 0) : walkN s l fo f (nm :: r) a = (0, 5) := by rw [walkN_cons, if_neg (by simp [h]), if_pos h2]
theorem walkN_c {s : PSt} {l : List It} {fo : Bool} {f : Nat} {nm : Bs} {r : List Bs} {a : Nat} (h : (s.inoAt a).kind = 1) (h2 : entL l a nm ≠ 0) (h3 : (s.inoAt (entL l a nm)).kind ≠ 3 ∨ (r = [] ∧ fo = false)) :
    walkN s l fo f (nm :: r) a = walkN s l fo f r (entL l a nm) := by rw [walkN_cons, if_neg (by simp [h]), if_neg h2, if_pos h3]
theorem walkN_d {s : PSt} {l : List It} {fo : Bool} {nm : Bs} {r : List Bs} {a : Nat} (h : (s.inoAt a).kind = 1) (h2 : entL l a nm ≠ 0) (h3 : (s.inoAt (entL l a nm)).kind = 3) (h4 : ¬ (r = [] ∧ fo = false)) :
    walkN s l fo 0 (nm :: r) a = (0, 15) := by rw [walkN_cons, if_neg (by simp [h]), if_neg h2, if_neg (by rintro (h5 | h5); exact h5 h3; exact h4 h5)]
theorem walkN_e {s : PSt} {l : List It} {fo : Bool} {g : Nat} {nm : Bs} {r : List Bs} {a : Nat} (h : (s.inoAt a).kind = 1) (h2 : entL l a nm ≠ 0) (h3 : (s.inoAt (entL l a nm)).kind = 3) (h4 : ¬ (r = [] ∧ fo = false)) :
    walkN s l fo (g + 1) (nm :: r) a = if (splitB (s.inoAt (entL l a nm)).target).2 = 0 then walkN s l fo g ((splitB (s.inoAt (entL l a nm)).target).1 ++ r) 1 else (0, (splitB (s.inoAt (entL l a nm)).target).2) := by
  rw [walkN_cons, if_neg (by simp [h]), if_neg h2, if_neg (by rintro (h5 | h5); exact h5 h3; exact h4 h5)]
theorem splitB_len (p : Bs) : (splitB p).1.length ≤ 257 := by
  unfold splitB
  split
  · simp
  · split
    · simp
    · split
      · simp
      · split
        · rename_i l h; have := splitF_len _ _ _ h; simp only; omega
        · simp
theorem splitF_mem (f : Nat) (r : Bs) : ∀ l, splitF f r = some l → ∀ x ∈ l, x.length ≤ 24 := by
  induction f generalizing r with
  | zero => intro l h; simp [splitF] at h
  | succ f ih =>
    intro l h
    unfold splitF at h
    split at h
    · rename_i hn
      have hx : (cutB r 47).1.length ≤ 24 := by unfold nameOk at hn; simp at hn; omega
      split at h
      · obtain ⟨l', h', rfl⟩ := Option.map_eq_some_iff.1 h
        intro x hx'
        rcases List.mem_cons.1 hx' with rfl | hx'
        · exact hx
        · exact ih _ _ h' x hx'
      · cases h; intro x hx'; simp at hx'; subst hx'; exact hx
    · cases h
theorem splitB_mem (p : Bs) : ∀ x ∈ (splitB p).1, x.length ≤ 24 := by
  unfold splitB
  split
  · simp
  · split
    · simp
    · split
      · simp
      · split
        · rename_i l h; exact splitF_mem _ _ _ h
        · simp
/-- How much is to be gone at most: links left, then names. -/
def walkMs (k n : Nat) : Nat := 2097152 * (8 - k) + n
def sliceLen : Value → Nat
  | .slice _ n _ => n
  | _ => 0
theorem Rd.names_hd {w : World} {A : Option Addr} {nm : Bs} {r : List Bs} (h : Rd w A (nameVs (nm :: r))) : ∃ b off, A = some ⟨b, off, none⟩ ∧ w.cell? ⟨b, off, none⟩ = some (.string (str nm)) := by
  obtain ⟨b, off, e, hc⟩ := h (by simp [nameVs])
  exact ⟨b, off, e, by simpa [nameVs] using hc 0 (by simp [nameVs])⟩
theorem Rd.names_tl {w : World} {b off : Nat} {nm : Bs} {r : List Bs} (h : Rd w (some ⟨b, off, none⟩) (nameVs (nm :: r))) : Rd w (some ⟨b, off + 1, none⟩) (nameVs r) := by
  intro hne
  obtain ⟨b', off', e, hc⟩ := h (by simp [nameVs])
  cases e
  refine ⟨b, off + 1, rfl, fun i hi => ?_⟩
  have := hc (i + 1) (by simp [nameVs] at hi ⊢; omega)
  rw [show off + 1 + i = off + (i + 1) by omega, this]
  simp [nameVs]
theorem slice_tl {w : World} {b off c1 : Nat} {nm : Bs} {rs : List Bs} (h : rs.length + 1 ≤ c1) (hr : Rd w (some ⟨b, off, none⟩) (nameVs (nm :: rs))) :
    ∃ A2, (∀ W : World, (Instr.slice 23 (.slice (some ⟨b, off, none⟩) (rs.length + 1) c1) (some (.int .i64 1)) none none).run Try.prog W = .ok (.slice A2 rs.length (c1 - 1)) W) ∧ Rd w A2 (nameVs rs) := by
  by_cases hcap : c1 = 1
  · have hr0 : rs = [] := List.eq_nil_of_length_eq_zero (by omega)
    subst hr0; subst hcap
    exact ⟨some ⟨b, off, none⟩, fun W => by simp [go_sem, sliced], Rd.nil _ _⟩
  · refine ⟨some ⟨b, off + 1, none⟩, fun W => ?_, hr.names_tl⟩
    simp [go_sem, sliced, hcap]
    intro hh; omega
set_option maxRecDepth 100000 in
set_option maxHeartbeats 4000000 in
theorem vwalk_any {v m1 m2 N c n : Nat} {d z u r : Value} {s : PSt} {A AA : Option Addr} {cc : Nat} (l : List It) (hc : chk l = true) (hsm : Small l) (w : World) (h : VolSt w v m1 m2 N (.slice A l.length c) d z u r s AA cc) (hok : s.Ok n) (hR : Rd w A (itVs l))
    (names : List Bs) (NA : Option Addr) (nc : Nat) (hnc : names.length ≤ nc) (hnr : Rd w NA (nameVs names)) (hnl : names.length ≤ 1048576) (hnm : ∀ x ∈ names, x.length ≤ 1048576) (fo : Bool) :
    Calls Try.prog 16 #[.pointer (some ⟨v, 0, none⟩), .slice NA names.length nc, .bool fo] w fun e w' => e = .returned (.tuple #[.int .u32 ((walkN s l fo 8 names 1).1 : Nat), .int .i64 ((walkN s l fo 8 names 1).2 : Nat)]) ∧ Below w.heap.size w w' := by
  have HV := Lib.hid h
  have HR := Lib.hid hR
  have HC := Lib.hid hc
  have HS := Lib.hid hsm
  have HO := Lib.hid hok
  have HN := Lib.hid hnr
  have HM := Lib.hid hnm
  have hik := inode_kind
  clear h hR hc hsm hok hnr hnm
  go_enter Try.func16, Try.ntmps16
  go_wp2_with fail
  go_loopw [1, 8, 9] (fun s1 s8 s9 wr => ∃ (ns : List Bs) (a k : Nat) (A1 : Option Addr) (c1 : Nat), s1 = .slice A1 ns.length c1 ∧ ns.length ≤ c1 ∧ s8 = .int .u32 (a : Nat) ∧ a < 4294967296 ∧ s9 = .int .i64 (k : Nat) ∧ k ≤ 8 ∧ ns.length ≤ 1048576 + 257 * k ∧
      Hid (walkN s l fo (8 - k) ns a = walkN s l fo 8 names 1) ∧ Hid (Rd wr A1 (nameVs ns)) ∧ Hid (∀ x ∈ ns, x.length ≤ 1048576) ∧ Hid (Below w.heap.size w wr)) (fun s1 _ s9 _ => walkMs (intOf s9).toNat (sliceLen s1))
  case atStart => exact ⟨names, 1, 0, NA, nc, rfl, hnc, rfl, by omega, rfl, by omega, by omega, Lib.hid rfl, HN, HM, Lib.hid (Below.refl _ _)⟩
  case round =>
    clear HN HM
    obtain ⟨ns, a, k, A1, c1, rfl, hc1, rfl, ha, rfl, hk, hnl1, hW, hR1, hM1, hB⟩ := hrel
    have hV := HV.out.below hB.out
    have c6 := hV.blk.cell 6
    simp at c6
    cases ns with
    | nil =>
      have hd := Lib.hid ((walkN_nil s l fo (8 - k) a).symm.trans hW.out)
      clear hV
      go_wp2_with fail
      go_ret2
      exact ⟨by rw [← hd.out]; rfl, hB.out⟩
    | cons nm rs =>
      have hl1 := hV.lookIno a ha
      obtain ⟨ia, hia⟩ : ∃ ia, ia = s.inoAt a := ⟨_, rfl⟩
      rw [← hia] at hl1
      have hiab := Ok_inoAt HO.out a
      rw [← hia] at hiab
      have hkb := hiab.1
      obtain ⟨b, off, rfl, e0⟩ := hR1.out.names_hd
      have hnmb := hM1.out nm (by simp)
      have hlen : (nm :: rs).length = rs.length + 1 := by simp
      rw [hlen] at hc1 hnl1 ⊢
      clear hV hiab
      by_cases hk1 : ia.kind = 1
      · have ek : ((ia.kind : Int) != 1) = false := by rw [hk1]; rfl
        have Hk1 := Lib.hid (show (s.inoAt a).kind = 1 by rw [← hia]; exact hk1)
        clear hk1 hia
        have hen := entry_any l HC.out HS.out wr (HV.out.below hB.out) (HR.out.below hB.out) a ha nm hnmb
        have hel := entL_lt l a nm
        obtain ⟨t, ht⟩ : ∃ t, t = entL l a nm := ⟨_, rfl⟩
        rw [← ht] at hen hel
        have Hen := Lib.hid hen
        have Ht := Lib.hid ht
        clear hen ht
        by_cases ht0 : t = 0
        · have hd := Lib.hid ((walkN_b Hk1.out (by rw [← Ht.out]; exact ht0)).symm.trans hW.out)
          subst ht0
          go_wp2_with fail
          refine Hen.out.mono ?_
          rintro e w1 ⟨rfl, hb⟩
          have HB1 := Lib.hid (below_step hB.out hb)
          clear hb
          go_wp2_with fail
          go_ret2
          exact ⟨by rw [← hd.out]; rfl, HB1.out⟩
        · have et : ((t : Int) == 0) = false := by simpa using (show ¬ (t : Int) = 0 by omega)
          have Ht0 := Lib.hid (show entL l a nm ≠ 0 by rw [← Ht.out]; exact ht0)
          clear ht0
          go_wp2_with fail
          refine Hen.out.mono ?_
          rintro e w1 ⟨rfl, hb⟩
          have HB1 := Lib.hid (below_step hB.out hb)
          obtain ⟨A2, hsl, hr2⟩ := slice_tl hc1 (hR1.out.below hb)
          have HR3 := Lib.hid hr2
          clear hr2
          clear hb Hen c6 hl1 e0
          have hV1 := HV.out.below HB1.out
          have c6 := hV1.blk.cell 6
          simp at c6
          have hl2 := hV1.lookIno t hel
          obtain ⟨it, hit⟩ : ∃ it, it = s.inoAt t := ⟨_, rfl⟩
          rw [← hit] at hl2
          have hiab := Ok_inoAt HO.out t
          rw [← hit] at hiab
          have hkb2 := hiab.1
          have htb := hiab.2.2.2.2
          have Hit := Lib.hid hit
          clear hit hV1 hiab
          have Hlen : Hid (rs = [] ∨ 0 < rs.length) := Lib.hid (by cases rs <;> simp)
          have HM2 := Lib.hid (fun x hx => hM1.out x (List.mem_cons_of_mem _ hx))
          by_cases hk3 : it.kind = 3
          · have ek3 : ((it.kind : Int) != 3) = false := by rw [hk3]; rfl
            have Hk3 := Lib.hid (show (s.inoAt (entL l a nm)).kind = 3 by rw [← Ht.out, ← Hit.out]; exact hk3)
            clear hk3
            by_cases hbe : rs = [] ∧ fo = false
            · have hd := Lib.hid ((walkN_c (f := 8 - k) Hk1.out Ht0.out (Or.inr hbe)).symm.trans hW.out)
              rw [← Ht.out] at hd
              obtain ⟨rfl, rfl⟩ := hbe
              simp only [List.length_nil, Nat.zero_add] at hsl hc1 hnl1
              go_wp2_with fail
              go_roundw
              case rel => exact ⟨[], t, k, _, _, rfl, by simp, rfl, hel, rfl, hk, by simp, hd, Lib.hid (HR3.out.below (below_alloc (Below.refl _ _) _)), HM2, Lib.hid (below_alloc HB1.out _)⟩
              case measure => simp [intOf, sliceLen, walkMs]
            · have hg : (((rs.length : Int) == 0) = false) ∨ (rs = [] ∧ fo = true) := by
                rcases Hlen.out with h0 | h0
                · right
                  refine ⟨h0, ?_⟩
                  cases fo
                  · exact absurd ⟨h0, rfl⟩ hbe
                  · rfl
                · left; simpa using (show ¬ (rs.length : Int) = 0 by omega)
              have Hbe := Lib.hid hbe
              clear hbe
              by_cases hk8 : k = 8
              · have hd := hW.out
                rw [show 8 - k = 0 by omega, walkN_d Hk1.out Ht0.out Hk3.out Hbe.out] at hd
                have Hd := Lib.hid hd
                clear hd
                rcases hg with e3 | ⟨rfl, rfl⟩
                all_goals
                  try simp only [List.length_nil, Nat.zero_add] at hsl hc1 hnl1
                  go_wp2_with fail
                  go_ret2
                  exact ⟨by rw [← Hd.out]; rfl, below_alloc HB1.out _⟩
              · have hd := hW.out
                rw [show 8 - k = (8 - (k + 1)) + 1 by omega, walkN_e Hk1.out Ht0.out Hk3.out Hbe.out, ← Ht.out, ← Hit.out] at hd
                have hsp := split_any it.target htb
                have hspl := splitB_len it.target
                have Hsm := Lib.hid (splitB_mem it.target)
                obtain ⟨sp, hspp⟩ : ∃ sp, sp = splitB it.target := ⟨_, rfl⟩
                unfold SplitPost at hsp
                rw [← hspp] at hsp hd hspl Hsm
                have Hsp := Lib.hid hsp
                have Hd := Lib.hid hd
                clear hsp hd hspp
                rcases hg with e3 | ⟨rfl, rfl⟩
                · go_wp2_with fail
                  refine (Hsp.out _).mono ?_
                  rintro e w2 ⟨v2, rfl, ⟨A5, c5, rfl, h5, hst⟩, hb2⟩
                  have HB2 := Lib.hid (below_step (below_alloc HB1.out _) hb2)
                  have HR4 := Lib.hid ((HR3.out.below (below_alloc (Below.refl _ _) _)).below hb2)
                  have Hst := Lib.hid hst
                  clear hst hb2
                  by_cases hw0 : sp.2 = 0
                  · have hd2 := Hd.out
                    rw [if_pos hw0] at hd2
                    have Hd2 := Lib.hid hd2
                    have ew : ((sp.2 : Int) != 0) = false := by rw [hw0]; rfl
                    clear hd2 hw0 Hd
                    go_wp2_with fail
                    refine (concat_any sp.1 (rs : List Bs) (by omega) (by first | omega | simp) (.slice A5 sp.1.length c5) (.slice A2 (rs : List Bs).length (c1 - 1)) w2.heap.size _ (Blk.new w2 _ _) ⟨A5, c5, rfl, h5, Hst.out.below (below_alloc (Below.refl _ _) _)⟩ ⟨A2, c1 - 1, rfl, by first | omega | simp, HR4.out.below (below_alloc (Below.refl _ _) _)⟩).mono ?_
                    rintro e w3 ⟨v3, rfl, ⟨A6, c6', rfl, h6, h7⟩, hb3⟩
                    have H7 := Lib.hid h7
                    have HB3 := Lib.hid (below_step (below_alloc HB2.out _) hb3)
                    have hcl : (sp.1 ++ (rs : List Bs)).length = sp.1.length + (rs : List Bs).length := List.length_append
                    clear h7 hb3
                    go_wp2_with fail
                    go_roundw
                    case rel => exact ⟨sp.1 ++ (rs : List Bs), 1, k + 1, _, _, by rw [hcl], h6, rfl, by omega, by go_num, by omega, by simp at hnl1 ⊢; omega, Hd2, H7, Lib.hid (fun x hx => by
                      rcases List.mem_append.1 hx with hx | hx
                      · have := Hsm.out x hx; omega
                      · exact HM2.out x hx), HB3⟩
                    case measure => simp [intOf, sliceLen, walkMs] at hnl1 ⊢; omega
                  · have hd2 := Hd.out
                    rw [if_neg hw0] at hd2
                    have Hd2 := Lib.hid hd2
                    have ew : ((sp.2 : Int) != 0) = true := by rw [bne_iff_ne]; omega
                    clear hd2 hw0 Hd
                    go_wp2_with fail
                    go_ret2
                    exact ⟨by rw [← Hd2.out]; rfl, HB2.out⟩
                · simp only [List.length_nil, Nat.zero_add] at hsl hc1 hnl1
                  go_wp2_with fail
                  refine (Hsp.out _).mono ?_
                  rintro e w2 ⟨v2, rfl, ⟨A5, c5, rfl, h5, hst⟩, hb2⟩
                  have HB2 := Lib.hid (below_step (below_alloc HB1.out _) hb2)
                  have HR4 := Lib.hid ((HR3.out.below (below_alloc (Below.refl _ _) _)).below hb2)
                  have Hst := Lib.hid hst
                  clear hst hb2
                  by_cases hw0 : sp.2 = 0
                  · have hd2 := Hd.out
                    rw [if_pos hw0] at hd2
                    have Hd2 := Lib.hid hd2
                    have ew : ((sp.2 : Int) != 0) = false := by rw [hw0]; rfl
                    clear hd2 hw0 Hd
                    go_wp2_with fail
                    refine (concat_any sp.1 ([] : List Bs) (by omega) (by first | omega | simp) (.slice A5 sp.1.length c5) (.slice A2 ([] : List Bs).length (c1 - 1)) w2.heap.size _ (Blk.new w2 _ _) ⟨A5, c5, rfl, h5, Hst.out.below (below_alloc (Below.refl _ _) _)⟩ ⟨A2, c1 - 1, rfl, by first | omega | simp, HR4.out.below (below_alloc (Below.refl _ _) _)⟩).mono ?_
                    rintro e w3 ⟨v3, rfl, ⟨A6, c6', rfl, h6, h7⟩, hb3⟩
                    have H7 := Lib.hid h7
                    have HB3 := Lib.hid (below_step (below_alloc HB2.out _) hb3)
                    have hcl : (sp.1 ++ ([] : List Bs)).length = sp.1.length + ([] : List Bs).length := List.length_append
                    clear h7 hb3
                    go_wp2_with fail
                    go_roundw
                    case rel => exact ⟨sp.1 ++ ([] : List Bs), 1, k + 1, _, _, by rw [List.append_nil], h6, rfl, by omega, by go_num, by omega, by simp at hnl1 ⊢; omega, Hd2, H7, Lib.hid (fun x hx => by
                      rcases List.mem_append.1 hx with hx | hx
                      · have := Hsm.out x hx; omega
                      · exact HM2.out x hx), HB3⟩
                    case measure => simp [intOf, sliceLen, walkMs] at hnl1 ⊢; omega
                  · have hd2 := Hd.out
                    rw [if_neg hw0] at hd2
                    have Hd2 := Lib.hid hd2
                    have ew : ((sp.2 : Int) != 0) = true := by rw [bne_iff_ne]; omega
                    clear hd2 hw0 Hd
                    go_wp2_with fail
                    go_ret2
                    exact ⟨by rw [← Hd2.out]; rfl, HB2.out⟩
          · have ek3 : ((it.kind : Int) != 3) = true := by rw [bne_iff_ne]; omega
            have hd := Lib.hid ((walkN_c (f := 8 - k) Hk1.out Ht0.out (Or.inl (by rw [← Ht.out, ← Hit.out]; exact hk3))).symm.trans hW.out)
            rw [← Ht.out] at hd
            clear hk3
            go_wp2_with fail
            go_roundw
            case rel => exact ⟨rs, t, k, _, _, rfl, by omega, rfl, hel, rfl, hk, by omega, hd, Lib.hid (HR3.out.below (below_alloc (Below.refl _ _) _)), HM2, Lib.hid (below_alloc HB1.out _)⟩
            case measure => simp [intOf, sliceLen, walkMs]
      · have ek : ((ia.kind : Int) != 1) = true := by rw [bne_iff_ne]; omega
        have hd := Lib.hid ((walkN_a (by rw [← hia]; exact hk1)).symm.trans hW.out)
        clear hk1 hia
        go_wp2_with fail
        go_ret2
        exact ⟨by rw [← hd.out]; rfl, hB.out⟩
end Go.Proofs.Ytoeiipkikpalaaa
