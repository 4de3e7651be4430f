/- Contracts: names and paths. -/
import Derived.Test.YtoeiipkikpalaaaK2
set_option linter.unusedVariables false
set_option linter.unusedSimpArgs false
namespace Go.Proofs.Ytoeiipkikpalaaa
open Go.RowKit
theorem indexByte_iff (l : Bs) (c : UInt8) : decide (0 ≤ Lib.indexByte l c) = l.contains c := by
  induction l with
  | nil => simp [Lib.indexByte]
  | cons b l ih =>
    have hge := Lib.indexByte_ge l c
    unfold Lib.indexByte
    by_cases hb : b = c
    · simp [hb]
    · have h1 : (b == c) = false := by simp [hb]
      have h2 : (c == b) = false := by simp; exact fun h => hb h.symm
      rw [List.contains_cons, h2, Bool.false_or, ← ih, h1]
      simp only [Bool.false_eq_true, if_false]
      split
      · rename_i h; simp at h; rw [h]
      · rename_i h; simp at h
        rw [decide_eq_decide]; omega
theorem contains_any (s : Bs) (c : UInt8) (w : World) :
    Calls Try.prog 47 #[.string (str s), .string ⟨#[c]⟩] w fun e w' => e = .returned (.bool (s.contains c)) ∧ w = w' := by
  refine (Try.strings_Contains_one (str s) c w).mono ?_
  rintro e w' ⟨rfl, rfl⟩
  exact ⟨by rw [str_data, indexByte_iff], rfl⟩
theorem name_any (s : Bs) (hm : s.length ≤ 9223372036854775807) (w : World) :
    Calls Try.prog 42 #[.string (str s)] w fun e w' => e = .returned (.bool (nameOk s)) ∧ Qt w w' := by
  by_cases h1 : s = []
  · have Hv := Lib.hid (show nameOk s = false by simp [nameOk, h1])
    have d1 : s.isEmpty = true := by simp [h1]
    have d2 : (s == []) = true := by simp [h1]
    clear h1
    go_enter Try.func42, Try.ntmps42
    go_wp2_with fail
    go_ret
    exact ⟨by rw [Hv.out]; first | rfl | (simp; done) | (simp; omega), by first | exact Qt.refl _ | exact ⟨_, rfl⟩⟩
  · have d1 : s.isEmpty = false := by simp [h1]
    have d2 : (s == []) = false := by simp [h1]
    by_cases h2 : s.length ≤ 24
    · cases h3 : s.contains 47
      · cases h4 : s.contains 0
        · have Hv := Lib.hid (show nameOk s = (decide (s ≠ [46]) && decide (s ≠ [46, 46])) by simp only [nameOk, h2, h3, h4]; simp [h1])
          have H3 := Lib.hid h3
          have H4 := Lib.hid h4
          clear h1 h3 h4
          by_cases h5 : s = [46]
          · have Hw := Lib.hid (show (decide (s ≠ [46]) && decide (s ≠ [46, 46])) = false by simp [h5])
            have d5 : (s == [46]) = true := by simp [h5]
            have d6 : (s != [46]) = false := by simp [h5]
            clear h5
            go_enter Try.func42, Try.ntmps42
            go_wp2_with fail
            refine (contains_any s 47 _).mono ?_; rintro e w' ⟨rfl, rfl⟩; rw [H3.out]
            go_wp2_with fail
            refine (contains_any s 0 _).mono ?_; rintro e w' ⟨rfl, rfl⟩; rw [H4.out]
            go_wp2_with fail
            go_ret
            exact ⟨by rw [Hv.out, Hw.out]; first | rfl | (simp; done) | (simp; omega), by first | exact Qt.refl _ | exact ⟨_, rfl⟩⟩
          · have d5 : (s == [46]) = false := by simp [h5]
            have d6 : (s != [46]) = true := by simp [h5]
            have Hw := Lib.hid (show (decide (s ≠ [46]) && decide (s ≠ [46, 46])) = (s != [46, 46]) by rw [bne, show (s == [46, 46]) = decide (s = [46, 46]) from by rw [Bool.eq_iff_iff]; simp]; simp [h5])
            clear h5
            go_enter Try.func42, Try.ntmps42
            go_wp2_with fail
            refine (contains_any s 47 _).mono ?_; rintro e w' ⟨rfl, rfl⟩; rw [H3.out]
            go_wp2_with fail
            refine (contains_any s 0 _).mono ?_; rintro e w' ⟨rfl, rfl⟩; rw [H4.out]
            go_wp2_with fail
            go_ret
            exact ⟨by rw [Hv.out, Hw.out]; first | rfl | (simp; done) | (simp; omega), by first | exact Qt.refl _ | exact ⟨_, rfl⟩⟩
        · have Hv := Lib.hid (show nameOk s = false by simp only [nameOk, h4]; simp)
          have H3 := Lib.hid h3
          have H4 := Lib.hid h4
          clear h1 h3 h4
          go_enter Try.func42, Try.ntmps42
          go_wp2_with fail
          refine (contains_any s 47 _).mono ?_; rintro e w' ⟨rfl, rfl⟩; rw [H3.out]
          go_wp2_with fail
          refine (contains_any s 0 _).mono ?_; rintro e w' ⟨rfl, rfl⟩; rw [H4.out]
          go_wp2_with fail
          go_ret
          exact ⟨by rw [Hv.out]; first | rfl | (simp; done) | (simp; omega), by first | exact Qt.refl _ | exact ⟨_, rfl⟩⟩
      · have Hv := Lib.hid (show nameOk s = false by simp only [nameOk, h3]; simp)
        have H3 := Lib.hid h3
        clear h1 h3
        go_enter Try.func42, Try.ntmps42
        go_wp2_with fail
        refine (contains_any s 47 _).mono ?_; rintro e w' ⟨rfl, rfl⟩; rw [H3.out]
        go_wp2_with fail
        go_ret
        exact ⟨by rw [Hv.out]; first | rfl | (simp; done) | (simp; omega), by first | exact Qt.refl _ | exact ⟨_, rfl⟩⟩
    · have Hv := Lib.hid (show nameOk s = false by simp only [nameOk, h2]; simp)
      clear h1
      go_enter Try.func42, Try.ntmps42
      go_wp2_with fail
      go_ret
      exact ⟨by rw [Hv.out]; first | rfl | (simp; done) | (simp; omega), by first | exact Qt.refl _ | exact ⟨_, rfl⟩⟩
theorem cutB_index (s : Bs) (c : UInt8) : Lib.indexByte s c = if s.contains c then ((s.takeWhile (· != c)).length : Int) else -1 := by
  induction s with
  | nil => simp [Lib.indexByte]
  | cons b l ih =>
    unfold Lib.indexByte
    by_cases hb : b = c
    · subst hb; simp
    · have h2 : (c == b) = false := by simp; exact fun h => hb h.symm
      have h1 : (b == c) = false := by simp [hb]
      have h3 : (b != c) = true := by simp [hb]
      rw [List.contains_cons, h2, Bool.false_or, ih, h1, List.takeWhile_cons, h3]
      cases l.contains c <;> simp
      try omega
theorem takeWhile_drop (s : Bs) (c : UInt8) : s.drop (s.takeWhile (· != c)).length = s.dropWhile (· != c) := by
  induction s with
  | nil => rfl
  | cons b l ih =>
    by_cases hb : (b != c) = true
    · simp [List.takeWhile_cons, List.dropWhile_cons, hb, ih]
    · simp [List.takeWhile_cons, List.dropWhile_cons, hb]
theorem takeWhile_take (s : Bs) (c : UInt8) : s.take (s.takeWhile (· != c)).length = s.takeWhile (· != c) := by
  induction s with
  | nil => rfl
  | cons b l ih =>
    by_cases hb : (b != c) = true
    · simp [List.takeWhile_cons, hb, ih]
    · simp [List.takeWhile_cons, hb]
theorem cut_any (s : Bs) (c : UInt8) (hm : s.length ≤ 9223372036854775806) (w : World) :
    Calls Try.prog 41 #[.string (str s), .string ⟨#[c]⟩] w fun e w' => e = .returned (.tuple #[.string (str (cutB s c).1), .string (str (cutB s c).2.1), .bool (cutB s c).2.2]) ∧ Qt w w' := by
  have hix := Try.stringslite_Index_one (str s) c
  have hci := cutB_index s c
  cases hc : s.contains c
  · have Hv := Lib.hid (show cutB s c = (s, [], false) by unfold cutB; rw [hc]; rfl)
    have hii : Lib.indexByte (str s).data.toList c = -1 := by rw [str_data, hci, hc]; rfl
    rw [hii] at hix
    have Hx := Lib.hid hix
    clear hix hii hci hc
    go_enter Try.func41, Try.ntmps41
    go_wp2_with (first | (go_at_call 59; go_in))
    refine (Hx.out _).mono ?_
    rintro e w' ⟨rfl, rfl⟩
    go_wp2
    go_ret3
    exact ⟨by rw [Hv.out]; rfl, by first | exact Qt.refl _ | exact ⟨_, rfl⟩⟩
  · have Hv := Lib.hid (show cutB s c = (s.takeWhile (· != c), (s.dropWhile (· != c)).drop 1, true) by unfold cutB; rw [hc]; rfl)
    obtain ⟨j, hj⟩ : ∃ j, j = (s.takeWhile (· != c)).length := ⟨_, rfl⟩
    have hii : Lib.indexByte (str s).data.toList c = (j : Nat) := by rw [str_data, hci, hc, hj]; rfl
    have hjl : j < s.length := by
      have h1 := Lib.indexByte_ge s c
      rw [hj]
      have h2 : (s.takeWhile (· != c)).length + (s.dropWhile (· != c)).length = s.length := by rw [← List.length_append, List.takeWhile_append_dropWhile]
      have h3 : s.dropWhile (· != c) ≠ [] := by
        intro h
        have h4 : c ∈ s := by simpa using hc
        have h5 := List.takeWhile_append_dropWhile (p := (· != c)) (l := s)
        rw [h, List.append_nil] at h5
        rw [← h5] at h4
        have := (List.all_takeWhile (p := (· != c)) (l := s))
        rw [List.all_eq_true] at this
        have := this c h4
        simp at this
      have := List.length_pos_iff.2 h3
      omega
    rw [hii] at hix
    have e1 : s.take j = s.takeWhile (· != c) := by rw [hj]; exact takeWhile_take s c
    have e2 : s.drop (j + 1) = (s.dropWhile (· != c)).drop 1 := by rw [← List.drop_drop, hj, takeWhile_drop]
    have E1 := Lib.hid e1; have E2 := Lib.hid e2; have Hx := Lib.hid hix
    clear hix hii hci hc hj e1 e2
    go_enter Try.func41, Try.ntmps41
    go_wp2_with (first | (go_at_call 59; go_in))
    refine (Hx.out _).mono ?_
    rintro e w' ⟨rfl, rfl⟩
    go_wp2
    have q1 : (0 : Int) ≤ (j : Int) := by omega
    have q2 : (j : Int) ≤ (s.length : Int) := by omega
    have q3 : (j : Int) + 1 ≤ (s.length : Int) := by omega
    have q4 : IntKind.i64.wrap ((j : Int) + 1) = (j : Int) + 1 := IntWalk.i64_in _ (by omega)
    go_quiet (fail)
    go_wp2
    go_ret3
    exact ⟨by rw [Hv.out, ← E1.out, ← E2.out]; first | rfl | (simp; done), by first | exact Qt.refl _ | exact ⟨_, rfl⟩⟩
end Go.Proofs.Ytoeiipkikpalaaa
