/- dirs: what a directory has. -/
import Derived.Test.YtoeiipkikpalaaaD8
import Derived.Test.YtoeiipkikpalaaaB4
import Derived.BigRegion
import Derived.Deep.Cut
import Derived.Deep.CutRange
import Derived.Deep.DeepCutAuto
set_option linter.unusedVariables false
set_option linter.unusedSimpArgs false
namespace Go.Proofs.Ytoeiipkikpalaaa
open Go.RowKit
def enV (x : En) : List Value := [.string (str x.name), .int .u32 (x.ino : Nat), .int .u8 (x.kind : Nat)]
def enVs (l : List En) : List Value := l.flatMap enV
theorem enVs_length (l : List En) : (enVs l).length = l.length * 3 := by
  induction l with
  | nil => rfl
  | cons x l ih => simp only [enVs, List.flatMap_cons, List.length_append] at ih ⊢; rw [ih]; simp [enV]; omega
theorem enVs_get (l : List En) (i : Nat) (h : i < l.length) (j : Nat) (hj : j < 3) : (enVs l)[i * 3 + j]? = (enV (l[i]'h))[j]? := by
  induction l generalizing i with
  | nil => simp at h
  | cons x l ih =>
    cases i with
    | zero => simp only [enVs, List.flatMap_cons, Nat.zero_mul, Nat.zero_add, List.getElem_cons_zero]; rw [List.getElem?_append_left (by simp [enV]; omega)]
    | succ i =>
      have := ih i (by simpa using h)
      simp only [enVs, List.flatMap_cons, List.getElem_cons_succ] at this ⊢
      rw [List.getElem?_append_right (by simp [enV]; omega), ← this]
      congr 1
      simp [enV]; omega
theorem Rd.entry {w : World} {A : Option Addr} {l : List En} (h : Rd w A (enVs l)) (i : Nat) (hi : i < l.length) :
    ∃ b off, A = some ⟨b, off, none⟩ ∧ w.cell? ⟨b, off + i * 3, none⟩ = some (.string (str (l[i]'hi).name)) ∧ w.cell? ⟨b, off + i * 3 + 1, none⟩ = some (.int .u32 ((l[i]'hi).ino : Nat)) ∧ w.cell? ⟨b, off + i * 3 + 2, none⟩ = some (.int .u8 ((l[i]'hi).kind : Nat)) := by
  have hl := enVs_length l
  have hne : enVs l ≠ [] := by intro e; rw [e] at hl; simp at hl; omega
  obtain ⟨b, off, hA, hc⟩ := h hne
  have key : ∀ j, j < 3 → w.cell? ⟨b, off + i * 3 + j, none⟩ = (enV (l[i]'hi))[j]? := by
    intro j hj
    rw [← enVs_get l i hi j hj, ← hc (i * 3 + j) (by rw [hl]; omega), Nat.add_assoc]
  exact ⟨b, off, hA, key 0 (by omega), key 1 (by omega), key 2 (by omega)⟩
/-- v is a slice of entries. -/
def EnAt (w : World) (v : Value) (l : List En) : Prop := ∃ A c, v = .slice A l.length c ∧ Rd w A (enVs l)
theorem info_entry : (Try.prog.info? 34).map (fun i => (i.zero, i.size, i.bytes)) = some (some (.agg #[.string ⟨#[]⟩, .int .u32 0, .int .u8 0]), 3, 24) := by kernel_rfl
set_option maxRecDepth 100000 in
set_option maxHeartbeats 4000000 in
theorem vlist_any {v m1 m2 N n : Nat} {it d z u r : Value} {s : PSt} {AA : Option Addr} {cc : Nat} (w : World) (h : VolSt w v m1 m2 N it d z u r s AA cc) (hok : s.Ok n) (hn : n ≤ 1048576) (i0 : Nat) (hi0 : i0 < 4294967296) :
    Calls Try.prog 18 #[.pointer (some ⟨v, 0, none⟩), .int .u32 (i0 : Nat)] w fun e w' => ∃ x, e = .returned x ∧ EnAt w' x (lsL s i0) ∧ Below w.heap.size w w' := by
  have c5 := h.blk.cell 5
  simp at c5
  obtain ⟨L, hL⟩ : ∃ L, L = s.all.length := ⟨_, rfl⟩
  have hlen := hok.1
  rw [← hL] at c5 hlen
  have HL := Lib.hid hL
  have HV := Lib.hid h
  have HO := Lib.hid hok
  clear h hok hL
  go_enter Try.func18, Try.ntmps18
  go_wp2_with fail
  go_loopw [5, 14] (fun s5 t wr => ∃ (i : Nat) (x : Value), t = .int .i64 (i : Nat) ∧ i ≤ L ∧ x = s5 ∧ Hid (wr.ownsRow w.heap.size 34 3 x (lsOf s i0 (s.all.take i)).length (enVs (lsOf s i0 (s.all.take i)))) ∧ Hid (Below w.heap.size w wr)) (fun _ t _ => L - (intOf t).toNat)
  case atStart => exact ⟨0, _, rfl, by omega, rfl, Lib.hid (own_nil _ _ _ _), Lib.hid (Below.refl _ _)⟩
  case round =>
    clear c5
    obtain ⟨i, x, rfl, hi, rfl, hO, hB⟩ := hrel
    by_cases hiL : i < L
    · have hi' : i < s.all.length := by rw [← HL.out]; exact hiL
      have hV := HV.out.below hB.out
      obtain ⟨b, off, rfl, k0, k1, k2, k3, k4⟩ := hV.rd.kept i hi'
      have hst := lsOf_take s i0 s.all i hi'
      obtain ⟨y, hy⟩ : ∃ y, y = s.all[i]'hi' := ⟨_, rfl⟩
      rw [← hy] at k0 k1 k2 k3 k4 hst
      have hb5 := HO.out.2.1 y (by rw [hy]; exact List.getElem_mem hi')
      have hkd := hb5.1
      have hino := hb5.2.1
      have hvl := hb5.2.2.2.2
      obtain ⟨es, hes⟩ : ∃ es, es = lsOf s i0 (s.all.take i) := ⟨_, rfl⟩
      rw [← hes] at hO hst
      have hel : es.length ≤ 2097152 := by rw [hes]; have := lsOf_len s i0 (s.all.take i); rw [List.length_take] at this; omega
      have HV1 := Lib.hid (hV.alloc (.cells #[.int .u8 (y.k.kind : Nat), .int .u32 (y.k.ino : Nat), .string (str y.k.name), .int .u32 (y.k.chunk : Nat), .string (str y.v)] 84))
      have HO1 := Lib.hid (own_below hO.out (below_alloc (Below.refl _ _) (.cells #[.int .u8 (y.k.kind : Nat), .int .u32 (y.k.ino : Nat), .string (str y.k.name), .int .u32 (y.k.chunk : Nat), .string (str y.v)] 84)))
      have HK1 := Lib.hid (Blk.new wr #[.int .u8 (y.k.kind : Nat), .int .u32 (y.k.ino : Nat), .string (str y.k.name), .int .u32 (y.k.chunk : Nat), .string (str y.v)] 84)
      have HB1 := Lib.hid (below_alloc hB.out (.cells #[.int .u8 (y.k.kind : Nat), .int .u32 (y.k.ino : Nat), .string (str y.k.name), .int .u32 (y.k.chunk : Nat), .string (str y.v)] 84))
      have Hst := Lib.hid hst
      clear hV hb5 hst hes hy
      by_cases hin : y.k.kind = 2 ∧ y.k.ino = i0
      · have hIn : isIn i0 y = true := by unfold isIn; rw [hin.1, hin.2]; simp
        have Hst2 := Hst.out
        rw [hIn] at Hst2
        simp only [if_true] at Hst2
        have Hst3 := Lib.hid Hst2
        have e1 : ((y.k.kind : Int) == 2) = true := by rw [hin.1]; rfl
        have e2 : ((y.k.ino : Int) == (i0 : Int)) = true := by rw [hin.2]; simp
        clear Hst2 Hst hIn hin
        go_wp2_with fail
        refine (number_any y.v (by omega) _).mono ?_
        rintro e W ⟨rfl, nq, hW⟩
        have hVW : VolSt W v m1 m2 N it d z u r s (some ⟨b, off, none⟩) cc := by rw [hW]; exact HV1.out.drewN nq
        have hKW : Blk W wr.heap.size #[.int .u8 (y.k.kind : Nat), .int .u32 (y.k.ino : Nat), .string (str y.k.name), .int .u32 (y.k.chunk : Nat), .string (str y.v)] 84 := by rw [hW]; exact HK1.out.drewN nq
        have hOW : W.ownsRow w.heap.size 34 3 x es.length (enVs es) := by rw [hW]; exact own_drewN HO1.out nq
        have hBW : Below w.heap.size w W := by rw [hW]; exact below_drewN HB1.out nq
        clear hW HV1 HK1 HO1 HB1 k0 k1 k2 k3 k4
        have c6 := hVW.blk.cell 6
        have q2 := hKW.cell 2
        simp at c6 q2
        obtain ⟨q, hq⟩ : ∃ q, q = numE y.v := ⟨_, rfl⟩
        have hq32 : q < 4294967296 := by rw [hq]; exact numE_lt _
        rw [← hq]
        have hl1 := hVW.drew.lookIno q hq32
        have hik := inode_kind
        have hbs := hBW.size
        have l1 := hVW.blk.lt
        have l2 := hKW.lt
        have HO2 := Lib.hid hOW
        have HB2 := Lib.hid hBW
        have Hq := Lib.hid hq
        clear hVW hKW hOW hBW hq
        go_wp2_with fail
        go_region_law (first | (refine step_app _ rfl _ _ 29 rfl w.heap.size 34 _ 3 24 Try.underlying29 info_entry rfl (by decide) (by decide) x es.length (enVs es) #[.string (str y.k.name), .int .u32 (q : Nat), .int .u8 ((s.inoAt q).kind : Nat)] rfl (by intro u hu; simp at hu; rcases hu with rfl | rfl | rfl <;> rfl) rfl W.heap.size rfl (Blk.new W _ _) (own_below HO2.out (below_drew (below_alloc (Below.refl _ _) _))) (by simp; omega) hel ?_; intro g2 cap w2 hown hbel hgrow))
        all_goals
          go_wp2_with fail
          go_roundw
          case rel =>
            refine ⟨i + 1, _, by go_num, by omega, rfl, Lib.hid ?_, Lib.hid ?_⟩
            · rw [Hst3.out]
              simp only [List.length_append, List.length_singleton]
              rw [show enVs (es ++ [enOf s y]) = enVs es ++ [.string (str y.k.name), .int .u32 (q : Nat), .int .u8 ((s.inoAt q).kind : Nat)] by rw [Hq.out]; simp [enVs, enV, enOf]]
              assumption
            · exact HB2.out.trans (below_app (by assumption) hbs)
          case measure => simp [intOf]; omega
      · have hIn : isIn i0 y = false := by
          unfold isIn
          rw [Bool.and_eq_false_iff, beq_eq_false_iff_ne, beq_eq_false_iff_ne]
          by_cases h2 : y.k.kind = 2
          · right; exact fun h3 => hin ⟨h2, h3⟩
          · left; exact h2
        have Hst2 := Hst.out
        rw [hIn] at Hst2
        simp only [Bool.false_eq_true, if_false, List.append_nil] at Hst2
        have HOn := Lib.hid HO1.out
        rw [← Hst2] at HOn
        clear Hst2 Hst hIn
        have hcase : ((y.k.kind : Int) == 2) = false ∨ (((y.k.kind : Int) == 2) = true ∧ ((y.k.ino : Int) == (i0 : Int)) = false) := by
          by_cases h2 : y.k.kind = 2
          · right
            refine ⟨by rw [h2]; rfl, ?_⟩
            have : ¬ y.k.ino = i0 := fun h3 => hin ⟨h2, h3⟩
            simpa using (show ¬ (y.k.ino : Int) = (i0 : Int) by omega)
          · left; simpa using (show ¬ (y.k.kind : Int) = 2 by omega)
        clear hin
        rcases hcase with e1 | ⟨e1, e2⟩
        all_goals
          go_wp2_with fail
          go_roundw
          case rel => exact ⟨i + 1, x, by go_num, by omega, rfl, HOn, HB1⟩
          case measure => simp [intOf]; omega
    · have hii : s.all.take i = s.all := List.take_of_length_le (by rw [← HL.out]; omega)
      rw [hii] at hO
      obtain ⟨A, c, rfl, _, hrd⟩ := own_rd hO.out
      have Hf := Lib.hid (show EnAt wr (.slice A (lsL s i0).length c) (lsL s i0) from ⟨A, c, rfl, hrd⟩)
      clear hrd
      go_wp2_with fail
      go_ret
      exact ⟨_, rfl, Hf.out, hB.out⟩
end Go.Proofs.Ytoeiipkikpalaaa
