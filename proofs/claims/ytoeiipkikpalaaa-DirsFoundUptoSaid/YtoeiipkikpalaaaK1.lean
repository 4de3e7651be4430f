/- Contracts: numbers and texts as bytes (package pack), and dirs.number. -/
import Derived.Test.YtoeiipkikpalaaaB
import Derived.Test.YtoeiipkikpalaaaShelf
set_option linter.unusedVariables false
set_option linter.unusedSimpArgs false
namespace Go.Proofs.Ytoeiipkikpalaaa
open Go.RowKit
theorem tn_short (s : Bs) (k : Nat) (h1 : 1 ≤ k) (h8 : k ≤ 8) (hs : s.length < k) (w : World) :
    Calls Try.prog 44 #[.string (str s), .int .i64 (k : Int)] w fun e w' => e = .returned (.tuple #[.int .u64 0, .string (str []), .int .i64 3]) ∧ Qt w w' := by
  go_enter Try.func44, Try.ntmps44
  go_wp2
  go_ret3
  exact ⟨rfl, 0, rfl⟩
theorem tn_ok (s : Bs) (k : Nat) (h1 : 1 ≤ k) (h8 : k ≤ 8) (hs : k ≤ s.length) (hm : s.length ≤ 9223372036854775807) (w : World) :
    Calls Try.prog 44 #[.string (str s), .int .i64 (k : Int)] w fun e w' => e = .returned (.tuple #[.int .u64 (beNat (s.take k) : Nat), .string (str (s.drop k)), .int .i64 0]) ∧ Qt w w' := by
  go_enter Try.func44, Try.ntmps44
  go_wp2
  go_loop [7, 22] (fun n i => ∃ j : Nat, j ≤ k ∧ n = .int .u64 (beNat (s.take j) : Nat) ∧ i = .int .i64 (j : Nat)) (fun _ i => k - (intOf i).toNat)
  case atStart => exact ⟨0, Nat.zero_le _, rfl, rfl⟩
  case round =>
    obtain ⟨j, hj, rfl, rfl⟩ := hrel
    by_cases hlt : j < k
    · have hb := bt_lt s j
      go_wp2
      go_round
      case rel =>
        refine ⟨j + 1, by omega, ?_, by go_num⟩
        rw [take_snoc s j (by omega), beNat_snoc]
        have hl : (s.take j).length ≤ 7 := by rw [List.length_take]; omega
        have h2 : beNat (s.take j) < 2 ^ 56 := Nat.lt_of_lt_of_le (beNat_lt _) (Nat.le_trans (Nat.pow_le_pow_right (by decide) hl) (by decide))
        rw [or_byte' _ _ hb h2]
      case measure => simp [intOf]; omega
    · obtain rfl : j = k := by omega
      go_wp2
      go_quiet (fail)
      go_wp2
      go_ret3
      exact ⟨rfl, _, rfl⟩
theorem number_any (s : Bs) (hm : s.length ≤ 9223372036854775807) (w : World) :
    Calls Try.prog 27 #[.string (str s)] w fun e w' => e = .returned (.int .u32 (numE s : Nat)) ∧ Qt w w' := by
  by_cases h4 : s.length < 4
  · have hn : numE s = 0 := by unfold numE; rw [if_neg (by omega)]
    have Hn := Lib.hid hn; clear hn
    go_enter Try.func27, Try.ntmps27
    go_wp2_with fail
    refine (tn_short s 4 (by omega) (by omega) h4 _).mono ?_
    rintro e w' ⟨rfl, n, rfl⟩
    go_wp2
    go_ret
    exact ⟨by rw [Hn.out]; rfl, _, rfl⟩
  · by_cases h5 : s.length = 4
    · have e1 : s.take 4 = s := List.take_of_length_le (by omega)
      have e2 : s.drop 4 = [] := List.drop_eq_nil_of_le (by omega)
      have hlt : beNat s < 4294967296 := by have := beNat_lt s; rw [h5] at this; exact this
      have hn : numE s = if 2 ≤ beNat s then beNat s else 0 := by unfold numE; simp [h5]
      have Hn := Lib.hid hn; clear hn
      have hc := tn_ok s 4 (by omega) (by omega) (by omega) hm w
      rw [e1, e2] at hc
      have Hc := Lib.hid hc; have H5 := Lib.hid h5; clear hc h5 e1 e2
      go_enter Try.func27, Try.ntmps27
      go_wp2_with fail
      refine (Hc.out).mono ?_
      rintro e w' ⟨rfl, n, rfl⟩
      by_cases h2 : 2 ≤ beNat s
      · go_wp2
        all_goals go_ret
        all_goals exact ⟨by rw [Hn.out, if_pos h2]; first | rfl | (congr 2; rw [IntKind.wrap_u32]; omega), _, rfl⟩
      · go_wp2
        all_goals go_ret
        all_goals exact ⟨by rw [Hn.out, if_neg h2]; rfl, _, rfl⟩
    · have hn : numE s = 0 := by unfold numE; rw [if_neg (by omega)]
      have Hn := Lib.hid hn; clear hn
      have hd : (s.drop 4 == []) = false := by
        rw [beq_eq_false_iff_ne]; intro h; have := congrArg List.length h; simp at this; omega
      have hd2 : (s.drop 4).isEmpty = false := by rw [List.isEmpty_eq_false_iff]; intro h; have := congrArg List.length h; simp at this; omega
      go_enter Try.func27, Try.ntmps27
      go_wp2_with fail
      refine (tn_ok s 4 (by omega) (by omega) (by omega) hm w).mono ?_
      rintro e w' ⟨rfl, n, rfl⟩
      go_wp2
      all_goals go_ret
      all_goals exact ⟨by rw [Hn.out]; rfl, _, rfl⟩
theorem itemright_any (k v : Bs) (hk : k.length ≤ 9223372036854775807) (hv : v.length ≤ 9223372036854775807) (w : World) :
    Calls Try.prog 69 #[.string (str k), .string (str v)] w fun e w' => e = .returned (.bool (itOk k v)) ∧ Qt w w' := by
  by_cases h1 : k = []
  · have Hn := Lib.hid (show itOk k v = false by simp [itOk, h1])
    have hd : k.isEmpty = true := by simp [h1]
    have hd2 : (k == []) = true := by simp [h1]
    clear h1
    go_enter Try.func69, Try.ntmps69
    go_wp2
    go_ret
    exact ⟨by rw [Hn.out]; first | rfl | (simp; done) | (simp; omega), by first | exact Qt.refl _ | exact ⟨_, rfl⟩⟩
  · have hd : k.isEmpty = false := by simp [h1]
    have hd2 : (k == []) = false := by simp [h1]
    by_cases h2 : k.length ≤ 48
    · by_cases h3 : v.length ≤ 160
      · have Hn := Lib.hid (show itOk k v = true by simp [itOk, h1, h2, h3])
        clear h1
        go_enter Try.func69, Try.ntmps69
        go_wp2
        go_ret
        exact ⟨by rw [Hn.out]; first | rfl | (simp; done) | (simp; omega), by first | exact Qt.refl _ | exact ⟨_, rfl⟩⟩
      · have Hn := Lib.hid (show itOk k v = false by simp [itOk, h3])
        clear h1
        go_enter Try.func69, Try.ntmps69
        go_wp2
        go_ret
        exact ⟨by rw [Hn.out]; first | rfl | (simp; done) | (simp; omega), by first | exact Qt.refl _ | exact ⟨_, rfl⟩⟩
    · have Hn := Lib.hid (show itOk k v = false by simp [itOk, h2])
      clear h1
      go_enter Try.func69, Try.ntmps69
      go_wp2
      go_ret
      exact ⟨by rw [Hn.out]; first | rfl | (simp; done) | (simp; omega), by first | exact Qt.refl _ | exact ⟨_, rfl⟩⟩
theorem bitLenAux_le (f x m : Nat) (h : x < 2 ^ m) : Lib.bitLenAux f x ≤ m := by
  induction f generalizing x m with
  | zero => simp [Lib.bitLenAux]
  | succ f ih =>
    unfold Lib.bitLenAux
    split
    · omega
    · cases m with
      | zero => simp at h; omega
      | succ m =>
        have := ih (x / 2) m (by rw [Nat.pow_succ] at h; omega)
        omega
theorem bitLen_le (n k : Nat) (h : n < 256 ^ k) : Lib.bitLen n ≤ 8 * k := bitLenAux_le 64 n (8 * k) (by rw [show (256 : Nat) = 2 ^ 8 from rfl, ← Nat.pow_mul] at h; exact h)
def U64 (n : Nat) : Prop := n < 18446744073709551616
theorem U64.of {n k : Nat} (h8 : k ≤ 8) (hn : n < 256 ^ k) : U64 n := by
  have : 256 ^ k ≤ 256 ^ 8 := Nat.pow_le_pow_right (by decide) h8
  have e : (256 : Nat) ^ 8 = 18446744073709551616 := by decide
  unfold U64; omega
theorem len64 (n : Nat) (h : U64 n) (w : World) : Calls Try.prog 61 #[.int .u64 (n : Int)] w fun e w' => e = .returned (.int .i64 (Lib.bitLen n : Nat)) ∧ w = w' := by
  unfold U64 at h
  refine (Try.bits_Len64 (n : Int) w (by omega) (by omega)).mono ?_
  rintro e w' ⟨rfl, rfl⟩
  exact ⟨by rw [Int.toNat_natCast], rfl⟩
set_option maxRecDepth 100000 in
theorem pn_1 (n : Nat) (hn : n < 256 ^ 1) (w : World) :
    Calls Try.prog 46 #[.int .u64 (n : Int), .int .i64 1] w fun e w' => e = .returned (.tuple #[.string (str (be 1 n)), .int .i64 0]) ∧ Below w.heap.size w w' := by
  have h64 : U64 n := U64.of (by decide : 1 ≤ 8) hn
  have hb := bitLen_le n 1 hn
  have hmk : ∀ w, (Instr.makeSlice 112 (.int .i64 1) (.int .i64 1)).run Try.prog w = .ok (.slice (some ⟨w.heap.size, 0, none⟩) 1 1) (w.alloc (.cells #[.int .u8 0] 5)) := fun _ => by kernel_rfl
  have hcv := fun (a : Int) => conv_new (P := Try.prog) (src := 112) Try.underlying112 Try.underlying5 Try.underlying9 w [a] 1
  simp only [List.length_cons, List.length_nil, List.map_cons, List.map_nil] at hcv
  have hv : strOfNums [(n : Int) % 256] = str (be 1 n) := by
    simp only [strOfNums, str, be, List.map_cons, List.map_nil, List.nil_append]
    congr 2
    simp only [List.cons.injEq, and_true]
    (apply UInt8.toNat_inj.1; rw [UInt8.toNat_ofNat', UInt8.toNat_ofNat']; omega)
  have Hv := Lib.hid hv; clear hv
  have Hn := Lib.hid hn; clear hn
  go_enter Try.func46, Try.ntmps46
  go_wp2_with fail
  refine (len64 n h64 _).mono ?_
  rintro e w' ⟨rfl, rfl⟩
  go_wp2_with fail
  go_rounds 2
  rw [← Hv.out]
  go_ret2
  exact ⟨rfl, (Below.refl _ _).alloc (Nat.le_refl _) _⟩
set_option maxRecDepth 100000 in
theorem pn_2 (n : Nat) (hn : n < 256 ^ 2) (w : World) :
    Calls Try.prog 46 #[.int .u64 (n : Int), .int .i64 2] w fun e w' => e = .returned (.tuple #[.string (str (be 2 n)), .int .i64 0]) ∧ Below w.heap.size w w' := by
  have h64 : U64 n := U64.of (by decide : 2 ≤ 8) hn
  have hb := bitLen_le n 2 hn
  have hmk : ∀ w, (Instr.makeSlice 112 (.int .i64 2) (.int .i64 2)).run Try.prog w = .ok (.slice (some ⟨w.heap.size, 0, none⟩) 2 2) (w.alloc (.cells #[.int .u8 0, .int .u8 0] 5)) := fun _ => by kernel_rfl
  have hcv := fun (a b : Int) => conv_new (P := Try.prog) (src := 112) Try.underlying112 Try.underlying5 Try.underlying9 w [a, b] 2
  simp only [List.length_cons, List.length_nil, List.map_cons, List.map_nil] at hcv
  have hv : strOfNums [(n : Int) / 256 % 256, (n : Int) % 256] = str (be 2 n) := by
    simp only [strOfNums, str, be, List.map_cons, List.map_nil, List.nil_append, List.cons_append]
    congr 2
    simp only [List.cons.injEq, and_true]
    refine ⟨?_, ?_⟩ <;> (apply UInt8.toNat_inj.1; rw [UInt8.toNat_ofNat', UInt8.toNat_ofNat']; omega)
  have Hv := Lib.hid hv; clear hv
  have Hn := Lib.hid hn; clear hn
  go_enter Try.func46, Try.ntmps46
  go_wp2_with fail
  refine (len64 n h64 _).mono ?_
  rintro e w' ⟨rfl, rfl⟩
  go_wp2_with fail
  go_rounds 3
  rw [← Hv.out]
  go_ret2
  exact ⟨rfl, (Below.refl _ _).alloc (Nat.le_refl _) _⟩
set_option maxRecDepth 100000 in
theorem pn_4 (n : Nat) (hn : n < 256 ^ 4) (w : World) :
    Calls Try.prog 46 #[.int .u64 (n : Int), .int .i64 4] w fun e w' => e = .returned (.tuple #[.string (str (be 4 n)), .int .i64 0]) ∧ Below w.heap.size w w' := by
  have h64 : U64 n := U64.of (by decide : 4 ≤ 8) hn
  have hb := bitLen_le n 4 hn
  have hmk : ∀ w, (Instr.makeSlice 112 (.int .i64 4) (.int .i64 4)).run Try.prog w = .ok (.slice (some ⟨w.heap.size, 0, none⟩) 4 4) (w.alloc (.cells #[.int .u8 0, .int .u8 0, .int .u8 0, .int .u8 0] 5)) := fun _ => by kernel_rfl
  have hcv := fun (a b c d : Int) => conv_new (P := Try.prog) (src := 112) Try.underlying112 Try.underlying5 Try.underlying9 w [a, b, c, d] 4
  simp only [List.length_cons, List.length_nil, List.map_cons, List.map_nil] at hcv
  have hv : strOfNums [(n : Int) / 16777216 % 256, (n : Int) / 65536 % 256, (n : Int) / 256 % 256, (n : Int) % 256] = str (be 4 n) := by
    simp only [strOfNums, str, be, List.map_cons, List.map_nil, List.nil_append, List.cons_append]
    congr 2
    simp only [List.cons.injEq, and_true]
    refine ⟨?_, ?_, ?_, ?_⟩ <;> (apply UInt8.toNat_inj.1; rw [UInt8.toNat_ofNat', UInt8.toNat_ofNat']; omega)
  have Hv := Lib.hid hv; clear hv
  have Hn := Lib.hid hn; clear hn
  go_enter Try.func46, Try.ntmps46
  go_wp2_with fail
  refine (len64 n h64 _).mono ?_
  rintro e w' ⟨rfl, rfl⟩
  go_wp2_with fail
  go_rounds 5
  rw [← Hv.out]
  go_ret2
  exact ⟨rfl, (Below.refl _ _).alloc (Nat.le_refl _) _⟩
/-- A width that is asked for here. -/
def Wd (k : Nat) : Prop := k = 1 ∨ k = 2 ∨ k = 4
theorem pn_any (n k : Nat) (hk : Wd k) (hn : n < 256 ^ k) (w : World) :
    Calls Try.prog 46 #[.int .u64 (n : Int), .int .i64 (k : Int)] w fun e w' => e = .returned (.tuple #[.string (str (be k n)), .int .i64 0]) ∧ Below w.heap.size w w' := by
  rcases hk with rfl | rfl | rfl
  · exact pn_1 n hn w
  · exact pn_2 n hn w
  · exact pn_4 n hn w
theorem inum_any (n k : Nat) (hk : Wd k) (hn : n < 256 ^ k) (w : World) :
    Calls Try.prog 30 #[.int .u64 (n : Int), .int .i64 (k : Int)] w fun e w' => e = .returned (.string (str (be k n))) ∧ Below w.heap.size w w' := by
  have Hn := Lib.hid hn; have Hk := Lib.hid hk; clear hn hk
  go_enter Try.func30, Try.ntmps30
  go_wp2_with fail
  refine (pn_any n k Hk.out Hn.out _).mono ?_
  rintro e w1 ⟨rfl, hb⟩
  go_wp2
  go_ret
  exact ⟨rfl, hb⟩
end Go.Proofs.Ytoeiipkikpalaaa
