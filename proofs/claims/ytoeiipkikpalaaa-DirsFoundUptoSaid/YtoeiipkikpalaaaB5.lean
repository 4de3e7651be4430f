/- Arguments: lists of items, lists of names, as they come in. -/
import Derived.Test.YtoeiipkikpalaaaB4
import Derived.Test.YtoeiipkikpalaaaK4
import Derived.Test.YtoeiipkikpalaaaRows
import Derived.Deep.SlicePairs
import Derived.SliceStrings
import Derived.ProofKit
import Derived.OpenShut
import Derived.JoinedCond
import Derived.ShutString
import Derived.ChangeOld
set_option linter.unusedVariables false
set_option linter.unusedSimpArgs false
namespace Go.Proofs.Ytoeiipkikpalaaa
open Go.RowKit Go.ChangeShapes Go.WideShapes Go.ChangeAt Go.Deep
theorem add_pl (b off j : Nat) : (⟨b, off, none⟩ : Addr).add j = ⟨b, off + j, none⟩ := by unfold Addr.add; split <;> simp_all
def strB (v : Value) : Bs := match v with
  | .string s => s.data.toList
  | _ => []
theorem bulk_one {H : Type} (d : DataW H) : 1 ≤ Rows.uptoBulk d := by
  cases d with
  | lit l => cases l <;> simp [Rows.uptoBulk]
  | nil => simp [Rows.uptoBulk]
  | ptr d => simp [Rows.uptoBulk]
  | slice elems spare => simp [Rows.uptoBulk]
  | agg parts => simp [Rows.uptoBulk]
  | iface t d => simp [Rows.uptoBulk]
  | map entries => simp [Rows.uptoBulk]
  | held h => simp [Rows.uptoBulk]
theorem bulk_part {H : Type} {d : DataW H} {l : List (DataW H)} (h : d ∈ l) : Rows.uptoBulk d ≤ Rows.uptoBulkAll l := by
  induction l with
  | nil => cases h
  | cons x r ih =>
    simp only [Rows.uptoBulkAll]
    rcases List.mem_cons.1 h with e | e
    · subst e; omega
    · have := ih e; omega
theorem bulk_len {H : Type} (l : List (DataW H)) : l.length ≤ Rows.uptoBulkAll l := by
  induction l with
  | nil => simp [Rows.uptoBulkAll]
  | cons x r ih => have := bulk_one x; simp only [Rows.uptoBulkAll, List.length_cons]; omega
theorem bulk_slice {H : Type} (elems spare : List (DataW H)) : Rows.uptoBulkAll elems ≤ Rows.uptoBulk (.slice elems spare) := by
  simp only [Rows.uptoBulk]
  omega
theorem bulk_string {H : Type} (bytes : Bs) : Rows.uptoBulk (DataW.lit (H := H) (.string bytes)) = bytes.length + 1 := by simp [Rows.uptoBulk]
theorem int64_of {n : Int} (h : (Lit.int .i64 n).wf = true) : -9223372036854775808 ≤ n ∧ n ≤ 9223372036854775807 := by
  simp [Lit.wf, IntKind.min, IntKind.max, IntKind.signed, IntKind.bits] at h
  omega
theorem u32_of {n : Int} (h : (Lit.int .u32 n).wf = true) : ∃ i : Nat, n = (i : Nat) ∧ i < 4294967296 := by
  simp [Lit.wf, IntKind.min, IntKind.max, IntKind.signed, IntKind.bits] at h
  exact ⟨n.toNat, by omega, by omega⟩
theorem u16_of {n : Int} (h : (Lit.int .u16 n).wf = true) : ∃ i : Nat, n = (i : Nat) ∧ i < 65536 := by
  simp [Lit.wf, IntKind.min, IntKind.max, IntKind.signed, IntKind.bits] at h
  exact ⟨n.toNat, by omega, by omega⟩
theorem u8_of {n : Int} (h : (Lit.int .u8 n).wf = true) : ∃ i : Nat, n = (i : Nat) ∧ i < 256 := by
  simp [Lit.wf, IntKind.min, IntKind.max, IntKind.signed, IntKind.bits] at h
  exact ⟨n.toNat, by omega, by omega⟩
section
variable {H : Type} {enc : TypeId × Value → H} {W : World}
theorem cells_slice {a : Option Addr} {len cap : Nat} {a' : Option Addr} {len' cap' : Nat} (h : (Value.slice a len cap).cells.toList = [.slice a' len' cap']) : a = a' ∧ len = len' ∧ cap = cap' := by
  simp [Value.cells] at h
  exact h
set_option maxRecDepth 100000 in
/-- A list of items, as an argument. -/
theorem open_items {base : Nat} {v : Value} {d : DataW H} {p : List MemPlace} (hv : Value.okWide Try.prog W .any base 22 v) (h : DataW.Trod enc Try.prog W 0 (fun _ => true) true 22 v d p) :
    ∃ (A : Option Addr) (l : List It) (c : Nat), v = .slice A l.length c ∧ Rd W A (itVs l) ∧ l.length ≤ Rows.uptoBulk d ∧ ∀ x ∈ l, x.key.length ≤ Rows.uptoBulk d ∧ x.val.length ≤ Rows.uptoBulk d := by
  obtain ⟨a, len, cap, rfl⟩ := okWide_slice Try.underlying22 hv
  obtain ⟨fuel, hf⟩ := h
  rcases open_slice_pairs Try.underlying22 Try.underlying61 (by kernel_rfl) rfl rfl (by kernel_rfl) (by kernel_rfl) hf with ⟨hcs, _⟩ | ⟨a', len', cap', m, n, V0, V1, D0, D1, P0, P1, hcs, hb, hl, hm, hmm, hx, hi⟩
  · obtain ⟨rfl, rfl, rfl⟩ := cells_slice hcs
    exact ⟨none, [], 0, rfl, Rd.nil _ _, by simp, by simp⟩
  · obtain ⟨rfl, rfl, rfl⟩ := cells_slice hcs
    simp only [if_true] at hmm
    subst hmm
    have each : ∀ i, i < m → V0 i = .string (str (strB (V0 i))) ∧ V1 i = .string (str (strB (V1 i))) ∧ D0 i = .lit (.string (strB (V0 i))) ∧ D1 i = .lit (.string (strB (V1 i))) := by
      intro i him
      obtain ⟨_, _, g0, g1⟩ := hi i him
      obtain ⟨s0, e0, f0, _⟩ := DataW.trod_string Try.underlying9 g0
      obtain ⟨s1, e1, f1, _⟩ := DataW.trod_string Try.underlying9 g1
      simp only [List.cons.injEq, and_true] at e0 e1
      simp only [Prod.mk.injEq] at f0 f1
      rw [e0, e1, f0.1, f1.1]
      exact ⟨rfl, rfl, rfl, rfl⟩
    have hxd := congrArg Prod.fst hx
    simp only at hxd
    refine ⟨some a', (List.range len).map (fun i => ⟨strB (V0 i), strB (V1 i)⟩), m, by simp, ?_, ?_, ?_⟩
    · intro hne
      have hpos : 0 < len := by
        rcases Nat.eq_zero_or_pos len with h0 | h0
        · subst h0; exact absurd rfl hne
        · exact h0
      obtain ⟨b, off, spot⟩ := a'
      have hspot : spot = none := by simpa [Addr.add] using World.cell?_spot (hi 0 (by omega)).1
      subst hspot
      refine ⟨b, off, rfl, fun i hil => ?_⟩
      rw [itVs_length, List.length_map, List.length_range] at hil
      obtain ⟨c0, c1, _, _⟩ := hi (i / 2) (by omega)
      obtain ⟨e0, e1, _, _⟩ := each (i / 2) (by omega)
      have hlen : i / 2 < ((List.range len).map (fun i => (⟨strB (V0 i), strB (V1 i)⟩ : It))).length := by simp; omega
      rw [add_pl] at c0 c1
      rcases Nat.mod_two_eq_zero_or_one i with h2 | h2
      · have ei : i = i / 2 * 2 := by omega
        have := itVs_key _ (i / 2) hlen
        rw [← ei] at this c0
        rw [c0, this, e0]; simp
      · have ei : i = i / 2 * 2 + 1 := by omega
        have := itVs_val _ (i / 2) hlen
        rw [← ei] at this c1
        rw [c1, this, e1]; simp
    · rw [hxd]
      have h1 := bulk_len ((List.range len).map fun i => DataW.agg [D0 i, D1 i])
      have h2 := bulk_slice ((List.range len).map fun i => DataW.agg [D0 i, D1 i]) ((List.range (m - len)).map fun j => DataW.agg [D0 (len + j), D1 (len + j)])
      simp only [List.length_map, List.length_range] at h1 ⊢
      omega
    · intro x hx'
      obtain ⟨i, hil, rfl⟩ := List.mem_map.1 hx'
      rw [List.mem_range] at hil
      obtain ⟨_, _, e2, e3⟩ := each i (by omega)
      have h1 := bulk_part (d := DataW.agg [D0 i, D1 i]) (l := (List.range len).map fun i => DataW.agg [D0 i, D1 i]) (List.mem_map.2 ⟨i, List.mem_range.2 hil, rfl⟩)
      have h2 := bulk_slice ((List.range len).map fun i => DataW.agg [D0 i, D1 i]) ((List.range (m - len)).map fun j => DataW.agg [D0 (len + j), D1 (len + j)])
      rw [hxd]
      rw [e2, e3] at h1
      simp only [Rows.uptoBulk, Rows.uptoBulkAll] at h1
      simp only
      omega
def strVs (l : List Bs) : List Value := l.map (fun s => .string (str s))
set_option maxRecDepth 100000 in
/-- A list of names, as an argument. -/
theorem open_names {base : Nat} {v : Value} {d : DataW H} {p : List MemPlace} (hv : Value.okWide Try.prog W .any base 23 v) (h : DataW.Trod enc Try.prog W 0 (fun _ => true) true 23 v d p) :
    ∃ (A : Option Addr) (l : List Bs) (c : Nat), v = .slice A l.length c ∧ Rd W A (strVs l) ∧ l.length ≤ c ∧ l.length ≤ Rows.uptoBulk d ∧ ∀ x ∈ l, x.length ≤ Rows.uptoBulk d := by
  obtain ⟨a, len, cap, rfl⟩ := okWide_slice Try.underlying23 hv
  obtain ⟨fuel, hf⟩ := h
  rcases open_strings Try.underlying23 Try.underlying9 (by kernel_rfl) hf with ⟨hcs, _⟩ | ⟨a', len', cap', ss, hcs, hb, hl, hm, hlen, hx, hcell, hws⟩
  · obtain ⟨rfl, rfl, rfl⟩ := cells_slice hcs
    exact ⟨none, [], 0, rfl, Rd.nil _ _, by simp, by simp, by simp⟩
  · obtain ⟨rfl, rfl, rfl⟩ := cells_slice hcs
    simp only [if_true] at hlen
    have hxd := congrArg Prod.fst hx
    simp only at hxd
    have hbulk : ∀ i, i < len → (ss.getD i ByteArray.empty).data.toList.length + 1 ≤ Rows.uptoBulk d := by
      intro i hi
      rw [hxd]
      have hm : DataW.lit (H := H) (.string (ss.getD i ByteArray.empty).data.toList) ∈ strs (ss.take len) := by
        unfold strs
        refine List.mem_map.2 ⟨ss.getD i ByteArray.empty, ?_, rfl⟩
        rw [List.mem_take_iff_getElem]
        refine ⟨i, by omega, ?_⟩
        simp [List.getD_eq_getElem?_getD, List.getElem?_eq_getElem (show i < ss.length by omega)]
      have h1 := bulk_part hm
      have h2 := bulk_slice (strs (H := H) (ss.take len)) (strs (ss.drop len))
      rw [bulk_string] at h1
      omega
    refine ⟨some a', (List.range len).map (fun i => (ss.getD i ByteArray.empty).data.toList), cap, by simp, ?_, by simp; omega, ?_, ?_⟩
    · intro hne
      have hpos : 0 < len := by
        rcases Nat.eq_zero_or_pos len with h0 | h0
        · subst h0; exact absurd rfl hne
        · exact h0
      obtain ⟨b, off, spot⟩ := a'
      have hspot : spot = none := by simpa [Addr.add] using World.cell?_spot (hcell 0 (by omega))
      subst hspot
      refine ⟨b, off, rfl, fun i hil => ?_⟩
      simp only [strVs, List.length_map, List.length_range] at hil
      have c0 := hcell i (by omega)
      rw [add_pl] at c0
      rw [c0]
      simp [strVs, hil, str]
    · rw [hxd]
      have h1 := bulk_len (strs (H := H) (ss.take len))
      have h2 := bulk_slice (strs (H := H) (ss.take len)) (strs (ss.drop len))
      have h3 : (strs (H := H) (ss.take len)).length = len := by simp [strs]; omega
      simp only [List.length_map, List.length_range]
      omega
    · intro x hx'
      obtain ⟨i, hil, rfl⟩ := List.mem_map.1 hx'
      rw [List.mem_range] at hil
      have := hbulk i hil
      omega
set_option maxRecDepth 100000 in
theorem names_cap {A : Option Addr} {n c : Nat} {d : DataW H} {p : List MemPlace} (h : DataW.Trod enc Try.prog W 0 (fun _ => true) true 23 (.slice A n c) d p) : c ≤ 9223372036854775807 := by
  obtain ⟨fuel, hf⟩ := h
  rcases open_strings Try.underlying23 Try.underlying9 (by kernel_rfl) hf with ⟨hcs, _⟩ | ⟨a', len', cap', ss, hcs, hb, hl, hm, hlen, hx, hcell, hws⟩
  · obtain ⟨_, _, rfl⟩ := cells_slice hcs
    omega
  · obtain ⟨_, _, rfl⟩ := cells_slice hcs
    simpa [maxLen] using hm
end
end Go.Proofs.Ytoeiipkikpalaaa
