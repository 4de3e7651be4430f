/-
  cambiumlaw14.DirsFound: what a listing holds is what is found by name: for every input whose values and letters are at most 1048576 (the second form, 'DirsFoundUptoSaid'), the law returns true and the input reads as it did.
-/
import Derived.Test.YtoeiipkikpalaaaD17
import Derived.Test.YtoeiipkikpalaaaB5
import Derived.Below
set_option linter.unusedVariables false
set_option linter.unusedSimpArgs false
namespace Go.Proofs.Ytoeiipkikpalaaa
open Go.RowKit Go.ChangeShapes Go.WideShapes Go.ChangeAt
open Go.ChangeMaps (open_string shut_string)
theorem dirsFoundOwn : ownKnob Try.prog.godebug = none := by kernel_rfl
theorem dirsFoundLaid : laidOutB Try.prog = true := by kernel_rfl
set_option maxRecDepth 100000 in
theorem dirsFound_contract (H : Type) (enc : TypeId × Value → H) (W : World) (base : Nat) (args : Array Value) (ds gs : List (DataW H)) (before : List MemPlace)
    (hval : ∀ (j : Nat) t v, Try.f3.params[j]? = some t → args[j]? = some v → Value.okWide Try.prog W .any base t v)
    (hW : DataW.Whole enc Try.prog Try.f3.params.toList Rows.dirsFoundSpec.vars false W args.toList ds gs before)
    (hk : Rows.uptoBulkAll (ds ++ gs) ≤ 1048576) :
    Calls Try.prog 3 args W fun e W' => ∃ v, e = .returned v ∧ Rows.dirsFoundSpec.post enc Try.prog Try.f3 false true false false W args v W' := by
  have hW' := hW
  obtain ⟨p, q, hA0, hV, rfl, hfz, hnd⟩ := hW
  have hA : DataW.TrodAll enc Try.prog W 0 (fun _ => true) true Try.f3.params.toList args.toList ds p := hA0
  rw [Try.params3] at hA hval
  obtain ⟨v0, vs0, d0, ds0, p0, q0, hargs, rfl, rfl, h0, r0⟩ := trodAll_cons hA
  obtain ⟨v1, vs1, d1, ds1, p1, q1, rfl, rfl, rfl, h1, r1⟩ := trodAll_cons r0
  obtain ⟨v2, vs2, d2, ds2, p2, q2, rfl, rfl, rfl, h2, r2⟩ := trodAll_cons r1
  obtain ⟨rfl, rfl, rfl⟩ := trodAll_nil r2
  obtain rfl : args = #[v0, v1, v2] := by cases args; simp_all
  obtain ⟨rfl, rfl⟩ := trodVars_none hV
  have k0 := h0
  have lt0 : ∀ x ∈ p0, x.block < W.heap.size := by obtain ⟨m, hm⟩ := k0; exact DataW.trod_lt m _ _ _ hm
  obtain ⟨A0, l0, c0, rfl, hR0, hl0, hlm0⟩ := open_items (hval 0 22 v0 rfl rfl) h0
  have k1 := h1
  have lt1 : ∀ x ∈ p1, x.block < W.heap.size := by obtain ⟨m, hm⟩ := k1; exact DataW.trod_lt m _ _ _ hm
  obtain ⟨NA1, s1, nc1, rfl, hN1, hnc1, hnl1, hnm1⟩ := open_names (hval 1 23 v1 rfl rfl) h1
  have hcm1 : nc1 ≤ 9223372036854775807 := names_cap h1
  obtain ⟨b2, rfl, rfl, rfl, y2⟩ := open_string Try.underlying9 (hval 2 9 v2 rfl rfl) h2
  obtain ⟨s2, rfl⟩ := str_exists b2
  clear hA0
  simp only [List.append_nil] at hW' hk
  simp only [Rows.uptoBulkAll] at hk
  have hsm0 : Small l0 := ⟨by omega, fun x hx => by have := hlm0 x hx; omega⟩
  have hsl1 : s1.length ≤ 1048576 := by omega
  have hsn1 : ∀ x ∈ s1, x.length ≤ 1048576 := fun x hx => by have := hnm1 x hx; omega
  have hbk0 := bulk_one d0
  have hnn : s1.length + 1 ≤ 1048576 := by omega
  have hs2 : s2.length ≤ 1048576 := by simp only [Rows.uptoBulk, str_data] at hk; omega
  refine (found_walk l0 hsm0 A0 c0 s1 NA1 nc1 hnc1 hcm1 hsl1 hsn1 s2 hs2 hnn W hR0 hN1).mono fun e W' ⟨he, bel⟩ => ?_
  subst he
  exact ⟨_, rfl, _, _, _, [], _, [], hW', trodAll_mk1 (shut_bool Try.underlying4 _), (trodAll_cons_mk (Below.trod dirsFoundLaid (by kernel_rfl) (of_decide_eq_true (by kernel_rfl)) k0 bel lt0) (trodAll_cons_mk (Below.trod dirsFoundLaid (by kernel_rfl) (of_decide_eq_true (by kernel_rfl)) k1 bel lt1) (trodAll_cons_mk (shut_string Try.underlying9 y2) trodAll_mk0))), rfl, bel.frame _, fun h => by cases h⟩
set_option maxRecDepth 100000 in
theorem dirsFound_lifted (os : Os) (started : os.Started) (H : Type) (enc : TypeId × Value → H) (F : Stop.Interp) :
    ReturnsInHanded {} Try.checked os 3 .any ((Rows.OpenSpec.upto Rows.dirsFoundSpec).pre6 enc Try.prog Try.f3 Rows.dirsFoundUptoRow.domain false) (((Rows.OpenSpec.upto Rows.dirsFoundSpec).at F).post enc Try.prog Try.f3 false true false false) := by
  refine returnsInHanded_of_cond (C := Try.checked) (s := Rows.OpenSpec.upto Rows.dirsFoundSpec) (k := Rows.uptoSmall) rfl dirsFoundOwn started (by kernel_rfl) Try.func3
    (OpenSpec.witness (enc := enc) (C := Try.checked) (s := Rows.OpenSpec.upto Rows.dirsFoundSpec) (k := Rows.uptoSmall) rfl false ⟨#[], #[.slice none 0 0, .slice none 0 0, .string ByteArray.empty], []⟩ 8 (by kernel_rfl) (by kernel_rfl) (by kernel_rfl)
      (x := ([.nil, .nil, .lit (.string [])], [], [])) (by kernel_rfl) rfl (by kernel_rfl)) ?_
  intro W base args ds gs before hval hW _ hk _
  exact dirsFound_contract H enc W base args ds gs before hval hW (of_decide_eq_true hk)
theorem dirsFound_upto : Rows.DirsFoundUptoSaid :=
  OpenClaim.holds_of_cond 3 Try.f3 rfl rfl rfl rfl rfl rfl rfl ⟨rfl, rfl, rfl, rfl, rfl⟩ rfl rfl rfl rfl rfl (by kernel_rfl) Try.func3 (by kernel_rfl)
    (of_decide_eq_true (by kernel_rfl)) (by unfold Func.isWrapper; first | (rw [if_pos (by decide +kernel)]; kernel_rfl) | (rw [if_neg (by decide +kernel)]; exact ⟨rfl, rfl⟩))
    (fun os started H enc _ F => dirsFound_lifted os started H enc F)
#print axioms dirsFound_upto
end Go.Proofs.Ytoeiipkikpalaaa
