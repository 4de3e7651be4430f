/- Contracts: texts as bytes (pack.Text, TakeText), and inode's taker. -/
import Derived.Test.YtoeiipkikpalaaaK1
set_option linter.unusedVariables false
set_option linter.unusedSimpArgs false
namespace Go.Proofs.Ytoeiipkikpalaaa
open Go.RowKit
theorem text_any (t : Bs) (ht : t.length < 65536) (w : World) :
    Calls Try.prog 32 #[.string (str t)] w fun e w' => e = .returned (.tuple #[.string (str (be 2 t.length ++ t)), .int .i64 0]) ∧ Below w.heap.size w w' := by
  go_enter Try.func32, Try.ntmps32
  go_wp2_with fail
  refine (pn_any t.length 2 (.inr (.inl rfl)) ht _).mono ?_
  rintro e w1 ⟨rfl, hb⟩
  go_wp2
  go_ret2
  exact ⟨rfl, hb⟩
/-- The error of a text that is not there. -/
def moreE (b : Bool) : Int := if b then 3 else 0
theorem tt_any (s : Bs) (hm : s.length ≤ 9223372036854775807) (w : World) :
    Calls Try.prog 83 #[.string (str s)] w fun e w' => e = .returned (.tuple #[.string (str (tkT s).1), .string (str (tkT s).2.1), .int .i64 (moreE (tkT s).2.2)]) ∧ Qt w w' := by
  by_cases h2 : s.length < 2
  · have Hv := Lib.hid (show tkT s = ([], [], true) by unfold tkT; rw [if_pos (.inl h2)])
    go_enter Try.func83, Try.ntmps83
    go_wp2_with fail
    refine (tn_short s 2 (by omega) (by omega) h2 _).mono ?_
    rintro e w' ⟨rfl, n, rfl⟩
    go_wp2
    go_ret3
    exact ⟨by rw [Hv.out]; rfl, _, rfl⟩
  · by_cases h3 : s.length - 2 < beNat (s.take 2)
    · have Hv := Lib.hid (show tkT s = ([], [], true) by unfold tkT; rw [if_pos (.inr h3)])
      go_enter Try.func83, Try.ntmps83
      go_wp2_with fail
      refine (tn_ok s 2 (by omega) (by omega) (by omega) hm _).mono ?_
      rintro e w' ⟨rfl, n, rfl⟩
      go_wp2
      go_ret3
      exact ⟨by rw [Hv.out]; rfl, _, rfl⟩
    · have Hv := Lib.hid (show tkT s = ((s.drop 2).take (beNat (s.take 2)), (s.drop 2).drop (beNat (s.take 2)), false) by unfold tkT; rw [if_neg (by omega)])
      have e1 : (s.drop 2).take (s.length - 2) = s.drop 2 := List.take_of_length_le (by simp)
      go_enter Try.func83, Try.ntmps83
      go_wp2_with fail
      refine (tn_ok s 2 (by omega) (by omega) (by omega) hm _).mono ?_
      rintro e w' ⟨rfl, n, rfl⟩
      have hb := beNat_lt (s.take 2)
      have hl2 : (s.take 2).length = 2 := by rw [List.length_take]; omega
      rw [hl2] at hb
      clear hl2
      go_wp2
      go_quiet (fail)
      go_wp2
      go_ret3
      exact ⟨by rw [Hv.out]; simp [moreE], (Qt.drew ⟨n, rfl⟩ _)⟩
/-- inode's taker: what is left, and whether something was not there. -/
def Tkr (w : World) (g : Nat) (l : Bs) (b : Bool) : Prop := Blk w g #[.string (str l), .bool b] 134
theorem tnum_any (l : Bs) (b : Bool) (k : Nat) (h1 : 1 ≤ k) (h8 : k ≤ 8) (hm : l.length ≤ 9223372036854775807) (g : Nat) (w : World) (H : Tkr w g l b) :
    Calls Try.prog 67 #[.pointer (some ⟨g, 0, none⟩), .int .i64 (k : Int)] w fun e w' => e = .returned (.int .u64 ((tkN l k).1 : Nat)) ∧ Tkr w' g (tkN l k).2.1 (b || (tkN l k).2.2) ∧ Only g w w' := by
  have c0 := Blk.cell H 0
  have c1 := Blk.cell H 1
  have f0 := Blk.frozen H 0
  have f1 := Blk.frozen H 1
  simp at c0 c1
  have H := Lib.hid H
  by_cases hk : l.length < k
  · have Hv := Lib.hid (show tkN l k = (0, [], true) by unfold tkN; rw [if_pos hk])
    cases b
    all_goals
      go_enter Try.func67, Try.ntmps67
      go_wp2_with fail
      refine (tn_short l k h1 h8 hk _).mono ?_
      rintro e w' ⟨rfl, n, rfl⟩
      go_wp2
      go_ret
      exact ⟨by rw [Hv.out]; rfl, by rw [Hv.out]; exact ((H.out.drewN n).set 0 _).set 1 _, (((Only.refl g w).drewN n).set 0 _).set 1 _⟩
  · have Hv := Lib.hid (show tkN l k = (beNat (l.take k), l.drop k, false) by unfold tkN; rw [if_neg hk])
    cases b
    all_goals
      go_enter Try.func67, Try.ntmps67
      go_wp2_with fail
      refine (tn_ok l k h1 h8 (by omega) hm _).mono ?_
      rintro e w' ⟨rfl, n, rfl⟩
      go_wp2
      go_ret
      exact ⟨by rw [Hv.out]; rfl, by rw [Hv.out]; exact ((H.out.drewN n).set 0 _).set 1 _, (((Only.refl g w).drewN n).set 0 _).set 1 _⟩
theorem ttext_any (l : Bs) (b : Bool) (hm : l.length ≤ 9223372036854775807) (g : Nat) (w : World) (H : Tkr w g l b) :
    Calls Try.prog 68 #[.pointer (some ⟨g, 0, none⟩)] w fun e w' => e = .returned (.string (str (tkT l).1)) ∧ Tkr w' g (tkT l).2.1 (b || (tkT l).2.2) ∧ Only g w w' := by
  have c0 := Blk.cell H 0
  have c1 := Blk.cell H 1
  have f0 := Blk.frozen H 0
  have f1 := Blk.frozen H 1
  simp at c0 c1
  have H := Lib.hid H
  cases b
  all_goals
    rcases hv : (tkT l).2.2 with _ | _
    all_goals
      have Hv := Lib.hid hv
      have hc := tt_any l hm w
      rw [hv, show moreE _ = _ from rfl] at hc
      clear hv
      have Hc := Lib.hid hc; clear hc
      go_enter Try.func68, Try.ntmps68
      go_wp2_with fail
      refine Hc.out.mono ?_
      rintro e w' ⟨rfl, n, rfl⟩
      go_wp2
      go_ret
      exact ⟨rfl, ((H.out.drewN n).set 0 _).set 1 _, (((Only.refl g w).drewN n).set 0 _).set 1 _⟩
end Go.Proofs.Ytoeiipkikpalaaa
