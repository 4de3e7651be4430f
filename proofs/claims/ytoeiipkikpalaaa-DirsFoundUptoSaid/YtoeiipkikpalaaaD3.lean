/- dirs: misfits, and looking for one. -/
import Derived.Test.YtoeiipkikpalaaaD2
set_option linter.unusedVariables false
set_option linter.unusedSimpArgs false
namespace Go.Proofs.Ytoeiipkikpalaaa
open Go.RowKit
theorem misfits_any {v m1 m2 N : Nat} {it d z u r : Value} {s : PSt} {AA : Option Addr} {cc n : Nat} (w : World) (h : VolSt w v m1 m2 N it d z u r s AA cc) (hok : s.Ok n) (kd ino ch : Nat) (nm vl : Bs)
    (hkd : kd < 256) (hino : ino < 4294967296) (hch : ch < 4294967296) (hvl : vl.length ≤ 1048576) :
    Calls Try.prog 37 #[.pointer (some ⟨v, 0, none⟩), .agg #[.int .u8 (kd : Nat), .int .u32 (ino : Nat), .string (str nm), .int .u32 (ch : Nat), .string (str vl)]] w fun e w' => e = .returned (.bool (!fitsB s ⟨⟨kd, ino, nm, ch⟩, vl⟩)) ∧ Below w.heap.size w w' := by
  have hf := fits_any (w.alloc (.cells #[.int .u8 (kd : Nat), .int .u32 (ino : Nat), .string (str nm), .int .u32 (ch : Nat), .string (str vl)] 84)) (h.alloc _) hok kd ino ch nm vl hkd hino hch hvl
  have HF := Lib.hid hf
  clear hf h
  go_enter Try.func37, Try.ntmps37
  go_wp2_with fail
  refine HF.out.mono ?_
  rintro e w1 ⟨rfl, hb⟩
  have HB := Lib.hid (below_step (below_alloc (Below.refl w.heap.size w) _) hb)
  clear hb HF
  go_wp2_with fail
  go_ret
  exact ⟨rfl, HB.out⟩
/-- Where the first item is that does not fit, or -1. -/
def missI (s : PSt) : Int := if s.all.all (fitsB s) then -1 else ((s.all.takeWhile (fitsB s)).length : Nat)
theorem missI_all {s : PSt} (h : ∀ j (hj : j < s.all.length), fitsB s (s.all[j]'hj) = true) : missI s = -1 := by
  unfold missI
  rw [if_pos]
  rw [List.all_eq_true]
  intro x hx
  obtain ⟨j, hj, rfl⟩ := List.getElem_of_mem hx
  exact h j hj
theorem takeWhile_at {α : Type _} (p : α → Bool) (l : List α) : ∀ i (hi : i < l.length), (∀ j (hj : j < i), p (l[j]'(by omega)) = true) → p (l[i]'hi) = false → (l.takeWhile p).length = i := by
  induction l with
  | nil => intro i hi; simp at hi
  | cons x l ih =>
    intro i hi h1 h2
    cases i with
    | zero => simp at h2; simp [List.takeWhile_cons, h2]
    | succ i =>
      have h0 := h1 0 (by omega)
      simp at h0 h2
      rw [List.takeWhile_cons, if_pos h0, List.length_cons, ih i (by simpa using hi) (fun j hj => by have := h1 (j + 1) (by omega); simpa using this) h2]
theorem missI_at {s : PSt} (i : Nat) (hi : i < s.all.length) (h1 : ∀ j (hj : j < i), fitsB s (s.all[j]'(by omega)) = true) (h2 : fitsB s (s.all[i]'hi) = false) : missI s = (i : Nat) := by
  unfold missI
  rw [if_neg, takeWhile_at _ _ i hi h1 h2]
  intro h
  rw [List.all_eq_true] at h
  rw [h _ (List.getElem_mem hi)] at h2
  cases h2
theorem missI_iff (s : PSt) : decide (0 ≤ missI s) = !s.all.all (fitsB s) := by
  unfold missI
  split
  · rename_i h; rw [h]; rfl
  · rename_i h
    have : s.all.all (fitsB s) = false := by simpa using h
    rw [this]; simp
set_option maxRecDepth 100000 in
theorem index_any {v m1 m2 N : Nat} {it d z u r : Value} {s : PSt} {AA : Option Addr} {cc n : Nat} (w : World) (h : VolSt w v m1 m2 N it d z u r s AA cc) (hok : s.Ok n) (hn : n ≤ 1048576) :
    Calls Try.prog 55 #[.slice AA s.all.length cc, .func (.func 37) #[.pointer (some ⟨v, 0, none⟩)] #[]] w fun e w' => e = .returned (.int .i64 (missI s)) ∧ Below w.heap.size w w' := by
  have hlen := hok.1
  obtain ⟨L, hL⟩ : ∃ L, L = s.all.length := ⟨_, rfl⟩
  rw [← hL] at hlen
  rw [← hL]
  have HL := Lib.hid hL
  have HV := Lib.hid h
  have HO := Lib.hid hok
  clear h hok hL
  go_enter Try.func55, Try.ntmps55
  go_wp2_with fail
  go_loopw [8] (fun t wr => ∃ i : Nat, t = .int .i64 (i : Nat) ∧ i ≤ L ∧ Hid (∀ j (hj : j < s.all.length), j < i → fitsB s (s.all[j]'hj) = true) ∧ Hid (Below w.heap.size w wr)) (fun t _ => L - (intOf t).toNat)
  case atStart => exact ⟨0, rfl, by omega, Lib.hid (by omega), Lib.hid (Below.refl _ _)⟩
  case round =>
    obtain ⟨i, rfl, hi, hF, hB⟩ := hrel
    by_cases hiL : i < L
    · have hi' : i < s.all.length := by rw [← HL.out]; exact hiL
      have hV := HV.out.below hB.out
      obtain ⟨b, off, rfl, k0, k1, k2, k3, k4⟩ := hV.rd.kept i hi'
      obtain ⟨y, hy⟩ : ∃ y, y = s.all[i]'hi' := ⟨_, rfl⟩
      rw [← hy] at k0 k1 k2 k3 k4
      have hb5 := HO.out.2.1 y (by rw [hy]; exact List.getElem_mem hi')
      have hm := misfits_any wr hV HO.out y.k.kind y.k.ino y.k.chunk y.k.name y.v hb5.1 hb5.2.1 hb5.2.2.1 hb5.2.2.2.2
      have Hm := Lib.hid hm
      have Hy := Lib.hid hy
      have Hi := Lib.hid hi'
      clear hm hy hV hb5
      go_wp2_with fail
      refine Hm.out.mono ?_
      rintro e w1 ⟨rfl, hb1⟩
      have HB1 := Lib.hid (below_step hB.out hb1)
      clear hb1 k0 k1 k2 k3 k4
      obtain ⟨f, hf⟩ : ∃ f, f = fitsB s ⟨⟨y.k.kind, y.k.ino, y.k.name, y.k.chunk⟩, y.v⟩ := ⟨_, rfl⟩
      rw [← hf]
      have Hf := Lib.hid hf
      clear hf
      cases f
      · have hv := Lib.hid (missI_at i Hi.out (fun j hj => hF.out j (by have := Hi.out; omega) hj) (by rw [← Hy.out]; exact Hf.out.symm))
        go_wp2_with fail
        go_ret
        exact ⟨by rw [hv.out]; rfl, HB1.out⟩
      · go_wp2_with fail
        go_roundw
        case rel =>
          refine ⟨i + 1, by go_num, by omega, Lib.hid ?_, HB1⟩
          intro j hj hji
          by_cases e : j = i
          · subst e; rw [← Hy.out]; exact Hf.out.symm
          · exact hF.out j hj (by omega)
        case measure => simp [intOf]; omega
    · have hii : i = L := by omega
      have hv := Lib.hid (missI_all (s := s) (fun j hj => hF.out j hj (by rw [hii, HL.out]; exact hj)))
      go_wp2_with fail
      go_ret
      exact ⟨by rw [hv.out]; rfl, hB.out⟩
theorem contains_any' {v m1 m2 N : Nat} {it d z u r : Value} {s : PSt} {AA : Option Addr} {cc n : Nat} (w : World) (h : VolSt w v m1 m2 N it d z u r s AA cc) (hok : s.Ok n) (hn : n ≤ 1048576) :
    Calls Try.prog 36 #[.slice AA s.all.length cc, .func (.func 37) #[.pointer (some ⟨v, 0, none⟩)] #[]] w fun e w' => e = .returned (.bool (!s.all.all (fitsB s))) ∧ Below w.heap.size w w' := by
  have hi := index_any w h hok hn
  have Hi := Lib.hid hi
  have He := Lib.hid (missI_iff s)
  clear hi h
  go_enter Try.func36, Try.ntmps36
  go_wp2_with fail
  refine Hi.out.mono ?_
  rintro e w1 ⟨rfl, hb⟩
  have HB := Lib.hid hb
  clear hb Hi
  go_wp2_with fail
  go_ret
  exact ⟨by rw [← He.out]; rfl, HB.out⟩
end Go.Proofs.Ytoeiipkikpalaaa
