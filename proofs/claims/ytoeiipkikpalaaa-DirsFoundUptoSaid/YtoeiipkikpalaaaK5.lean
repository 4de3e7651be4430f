/- Contracts: path.Split. -/
import Derived.Test.YtoeiipkikpalaaaK4
import Derived.Test.YtoeiipkikpalaaaB2
set_option linter.unusedVariables false
set_option linter.unusedSimpArgs false
namespace Go.Proofs.Ytoeiipkikpalaaa
open Go.RowKit
/-- v is a slice of texts. -/
def StrsAt (w : World) (v : Value) (l : List Bs) : Prop := ∃ A c, v = .slice A l.length c ∧ l.length ≤ c ∧ Rd w A (nameVs l)
/-- What Split tells. -/
def SplitPost (p : Bs) (w : World) (e : Ending) (w' : World) : Prop := ∃ v, e = .returned (.tuple #[v, .int .i64 ((splitB p).2 : Nat)]) ∧ StrsAt w' v (splitB p).1 ∧ Below w.heap.size w w'
theorem StrsAt.nil (w : World) : StrsAt w (.slice none 0 0) [] := ⟨none, 0, rfl, Nat.le_refl _, Rd.nil _ _⟩
theorem splitF_len (f : Nat) (r : Bs) : ∀ l, splitF f r = some l → l.length ≤ f := by
  induction f generalizing r with
  | zero => intro l h; simp [splitF] at h
  | succ f ih =>
    intro l h
    unfold splitF at h
    split at h
    · split at h
      · obtain ⟨l', h', rfl⟩ := Option.map_eq_some_iff.1 h
        have := ih _ l' h'
        simp; omega
      · cases h; simp
    · cases h
theorem cutB_lt (s : Bs) (c : UInt8) (h : (cutB s c).2.2 = true) : (cutB s c).2.1.length < s.length := by
  unfold cutB at h ⊢
  split
  · rename_i hc
    have h2 : (s.takeWhile (· != c)).length + (s.dropWhile (· != c)).length = s.length := by rw [← List.length_append, List.takeWhile_append_dropWhile]
    have h0 : 0 < s.length := by
      cases s with
      | nil => simp at hc
      | cons => simp
    simp only [List.length_drop]
    omega
  · rename_i hc; rw [if_neg hc] at h; cases h
theorem info_string : (Try.prog.info? 9).map (fun i => (i.zero, i.size, i.bytes)) = some (some (.string ⟨#[]⟩), 1, 16) := by kernel_rfl
/-- What holds of the rest and the names that were taken, when k rounds at most are to come. -/
def SplitInv (p : Bs) (k : Nat) (r : Bs) (l : List Bs) : Prop := splitF (p.length + 1) p.tail = (splitF k r).map (l ++ ·) ∧ r.length < k ∧ l.length + k ≤ p.length + 1
set_option maxRecDepth 100000 in
set_option maxHeartbeats 800000 in
theorem split_any (p : Bs) (hp : p.length ≤ 1048576) (w : World) : Calls Try.prog 25 #[.string (str p)] w (SplitPost p w) := by
  by_cases h1 : 256 < p.length
  · have Hv := Lib.hid (show splitB p = ([], 2) by unfold splitB; rw [if_pos h1])
    go_enter Try.func25, Try.ntmps25
    go_wp2
    go_step3
    go_wp2
    rw [Exit.noGoto_ret]
    go_ret2
    exact ⟨.slice none 0 0, by rw [Hv.out]; rfl, by rw [Hv.out]; exact StrsAt.nil _, Below.refl _ _⟩
  · cases h2 : List.isPrefixOf [47] p
    · have Hv := Lib.hid (show splitB p = ([], 10) by unfold splitB; rw [if_neg h1, h2]; rfl)
      have hc := cutPrefix_any p [47]
      rw [h2] at hc
      have Hc := Lib.hid hc
      clear hc h2
      go_enter Try.func25, Try.ntmps25
      go_wp2_with fail
      go_step3
      go_wp2_with fail
      refine (Hc.out _).mono ?_
      rintro e w' ⟨rfl, rfl⟩
      go_wp2_with fail
      rw [Exit.noGoto_ret]
      go_ret2
      exact ⟨.slice none 0 0, by rw [Hv.out]; rfl, by rw [Hv.out]; exact StrsAt.nil _, Below.refl _ _⟩
    · have hc := cutPrefix_any p [47]
      rw [h2, if_pos rfl, show ([47] : Bs).length = 1 from rfl, List.drop_one] at hc
      have Hc := Lib.hid hc
      clear hc
      by_cases h3 : p.tail = []
      · have Hv := Lib.hid (show splitB p = ([], 0) by unfold splitB; rw [if_neg h1, h2, if_pos h3]; rfl)
        have d1 : (p.tail).isEmpty = true := by simp only [h3]; rfl
        have d2 : (p.tail == []) = true := by simp only [h3]; rfl
        clear h2 h3
        go_enter Try.func25, Try.ntmps25
        go_wp2_with fail
        go_step3
        go_wp2_with fail
        refine (Hc.out _).mono ?_
        rintro e w' ⟨rfl, rfl⟩
        go_wp2_with fail
        rw [Exit.noGoto_ret]
        go_ret2
        exact ⟨.slice none 0 0, by rw [Hv.out]; rfl, by rw [Hv.out]; exact StrsAt.nil _, Below.refl _ _⟩
      · have d1 : p.tail.isEmpty = false := by simp [List.isEmpty_eq_false_iff]; exact h3
        have d2 : (p.tail == []) = false := by rw [beq_eq_false_iff_ne]; exact h3
        have hB : splitB p = match splitF (p.length + 1) p.tail with
            | some l => (l, 0)
            | none => ([], 10) := by unfold splitB; rw [if_neg h1, h2, if_neg h3]; rfl
        have HB := Lib.hid hB
        clear h2 h3 hB
        go_enter Try.func25, Try.ntmps25
        go_wp2_with fail
        go_step3
        go_wp2_with fail
        refine (Hc.out _).mono ?_
        rintro e w' ⟨rfl, rfl⟩
        clear Hc
        go_wp2_with fail
        go_step3
        go_wp2_with fail
        go_loopg [4, 6] (p.length + 1) (fun k r o wr => ∃ (rest : Bs) (l : List Bs), r = .string (str rest) ∧ Hid (SplitInv p k rest l) ∧ Hid (wr.ownsRow w.heap.size 9 1 o l.length (nameVs l)) ∧ Hid (Below w.heap.size w wr))
        case atStart => exact ⟨p.tail, [], rfl, Lib.hid ⟨by simp, by simp; omega, by simp⟩, Lib.hid (own_nil _ _ _ _), Lib.hid (Below.refl _ _)⟩
        case round =>
          obtain ⟨rest, l, rfl, hI, hO, hB⟩ := hrel
          have hrl : rest.length ≤ 2000000 := by have := hI.out.2; omega
          have hll : l.length ≤ 2000000 := by have := hI.out.2.2; omega
          go_wp2_with fail
          refine (cut_any rest 47 (by omega) _).mono ?_
          rintro e w' ⟨rfl, n, rfl⟩
          go_wp2_with fail
          have hcl : (cutB rest 47).1.length ≤ 2000000 := by
            unfold cutB; split
            · exact Nat.le_trans (List.takeWhile_sublist _).length_le hrl
            · exact hrl
          refine (name_any (cutB rest 47).1 (by omega) _).mono ?_
          rintro e w' ⟨rfl, n2, rfl⟩
          cases hN : nameOk (cutB rest 47).1
          · have HN := Lib.hid hN
            clear hN
            go_wp2_with fail
            rw [Exit.noGoto_ret]
            go_ret2
            have hf : splitB p = ([], 10) := by
              rw [HB.out, hI.out.1]
              cases gk with
              | zero => rfl
              | succ k => rw [splitF, HN.out]; rfl
            exact ⟨.slice none 0 0, by rw [hf]; rfl, by rw [hf]; exact StrsAt.nil _, below_drewN hB.out _⟩
          · have HN := Lib.hid hN
            clear hN
            have hsz := hB.out.size
            have h1c : ∀ u ∈ (#[.string (str (cutB rest 47).1)] : Array Value).toList, u.oneCell' = true := by intro u hu; simp at hu; subst hu; rfl
            have H1c := Lib.hid h1c
            clear h1c
            cases hA : (cutB rest 47).2.2
            · have HA := Lib.hid hA
              clear hA
              go_wp2_with (at_builtin; refine app_cells (w0 := w) w.heap.size rfl _ _ 23 9 (.string ⟨#[]⟩) 1 16 rfl Try.underlying23 info_string rfl (by decide) (by decide) _ l.length (nameVs l) #[.string (str (cutB rest 47).1)] rfl H1c.out rfl rfl (own_drewN hO.out _) (below_drewN hB.out _) hsz (by omega) ?_)
              intro v1 w1 hown hb1 hg hat
              have Ho := Lib.hid hown
              have Hb := Lib.hid hb1
              clear hg hat hown hb1
              go_wp2_with fail
              rw [Exit.noGoto_ret]
              go_ret2
              have hf : splitB p = (l ++ [(cutB rest 47).1], 0) := by
                rw [HB.out, hI.out.1]
                cases gk with
                | zero => have := hI.out.2.1; omega
                | succ k => rw [splitF, HN.out, HA.out]; rfl
              obtain ⟨A, c, hv, hc, hr⟩ := own_rd Ho.out
              exact ⟨v1, by rw [hf]; rfl, by rw [hf]; exact ⟨A, c, by simpa using hv, by simpa using hc, by simpa [nameVs] using hr⟩, Hb.out⟩
            · have HA := Lib.hid hA
              clear hA
              go_wp2_with (at_builtin; refine app_cells (w0 := w) w.heap.size rfl _ _ 23 9 (.string ⟨#[]⟩) 1 16 rfl Try.underlying23 info_string rfl (by decide) (by decide) _ l.length (nameVs l) #[.string (str (cutB rest 47).1)] rfl H1c.out rfl rfl (own_drewN hO.out _) (below_drewN hB.out _) hsz (by omega) ?_)
              intro v1 w1 hown hb1 hg hat
              have Ho := Lib.hid hown
              have Hb := Lib.hid hb1
              clear hg hat hown hb1
              go_wp2_with fail
              cases gk with
              | zero => have := hI.out.2.1; omega
              | succ k =>
                go_roundg k
                case measure => omega
                case rel =>
                  refine ⟨(cutB rest 47).2.1, l ++ [(cutB rest 47).1], rfl, Lib.hid ⟨?_, ?_, ?_⟩, Lib.hid (by simpa [nameVs] using Ho.out), Lib.hid Hb.out⟩
                  · rw [hI.out.1, splitF, HN.out, HA.out]
                    simp only [if_true, Option.map_map]
                    congr 1
                    funext x
                    simp
                  · have h2 : (cutB rest 47).2.1.length < rest.length := cutB_lt rest 47 HA.out
                    have := hI.out.2.1
                    omega
                  · have := hI.out.2.2
                    simp; omega
end Go.Proofs.Ytoeiipkikpalaaa
