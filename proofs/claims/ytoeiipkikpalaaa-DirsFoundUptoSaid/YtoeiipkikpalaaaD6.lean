/- dirs: look. -/
import Derived.Test.YtoeiipkikpalaaaD3
import Derived.Test.YtoeiipkikpalaaaD4
import Derived.BigQuiet
set_option linter.unusedVariables false
set_option linter.unusedSimpArgs false
namespace Go.Proofs.Ytoeiipkikpalaaa
open Go.RowKit
/-- What looking through leaves. -/
def LookOut (w : World) (v : Nat) (it d z u : Value) (l : List It) (w' : World) : Prop :=
  Only v w w' ∧
  match vol l with
  | some s => ∃ m1 m2 AA cc, VolSt w' v m1 m2 l.length it d z u (.bool true) s AA cc ∧ s.Ok l.length ∧ (∀ b off, AA = some ⟨b, off, none⟩ → ktVs s.all ≠ [] → b ≠ v)
  | none => ∃ a b c, Blk w' v #[it, d, z, u, .bool false, a, b, c] 77
theorem LookOut.no {w w' : World} {v : Nat} {it d z u a b c : Value} {l : List It} (h : vol l = none) (ho : Only v w w') (hb : Blk w' v #[it, d, z, u, .bool false, a, b, c] 77) : LookOut w v it d z u l w' :=
  ⟨ho, by rw [h]; exact ⟨_, _, _, hb⟩⟩
theorem vol_none_p {l : List It} (h : parsed l = none) : vol l = none := by unfold vol; rw [h]
theorem vol_none_l {l : List It} {s : PSt} (h : parsed l = some s) (hl : lookOk s = false) : vol l = none := by unfold vol; rw [h]; simp only; rw [hl]; rfl
theorem vol_some {l : List It} {s : PSt} (h : parsed l = some s) (hl : lookOk s = true) : vol l = some s := by unfold vol; rw [h]; simp only; rw [hl]; rfl
theorem par_some' {w : World} {v : Nat} {it d z u r : Value} {l : List It} {e : Ending} {w' : World} {s : PSt} (hp : parsed l = some s) (h : ParseOut w v it d z u r l e w') :
    e = .returned (.bool true) ∧ Only v w w' ∧ ∃ m1 m2 AA cc, VolSt w' v m1 m2 l.length it d z u r s AA cc ∧ s.Ok l.length ∧ (∀ b off, AA = some ⟨b, off, none⟩ → ktVs s.all ≠ [] → b ≠ v) := by
  unfold ParseOut at h; rw [hp] at h; exact h
theorem par_none' {w : World} {v : Nat} {it d z u r : Value} {l : List It} {e : Ending} {w' : World} (hp : parsed l = none) (h : ParseOut w v it d z u r l e w') :
    e = .returned (.bool false) ∧ Only v w w' ∧ ∃ a b c, Blk w' v #[it, d, z, u, r, a, b, c] 77 := by
  unfold ParseOut at h; rw [hp] at h; exact h
theorem allL_take {α : Type _} (p : α → Bool) (l : List α) (i : Nat) (hi : i < l.length) (h : (l.take i).all p = true) (hp : p (l[i]'hi) = true) : (l.take (i + 1)).all p = true := by
  rw [← List.take_append_getElem hi, List.all_append, h]; simp [hp]
theorem allL_not {α : Type _} (p : α → Bool) (l : List α) (i : Nat) (hi : i < l.length) (hp : p (l[i]'hi) = false) : l.all p = false := by
  rw [← Bool.not_eq_true, List.all_eq_true]
  intro h
  rw [h _ (List.getElem_mem hi)] at hp
  cases hp
/-- The volume is right: its mark is set. -/
theorem VolSt.mark {w : World} {v m1 m2 N : Nat} {it d z u r : Value} {s : PSt} {AA : Option Addr} {cc : Nat} (h : VolSt w v m1 m2 N it d z u r s AA cc) (hA : ∀ b off, AA = some ⟨b, off, none⟩ → ktVs s.all ≠ [] → b ≠ v) (r' : Value) :
    VolSt (w.setCell ⟨v, 4, none⟩ r') v m1 m2 N it d z u r' s AA cc := by
  have hb := h.blk.set 4 r'
  have ho := (Only.refl v w).set 4 r'
  exact ⟨hb, h.cap, h.rd.only ho hA, h.ino.only ho (ownsMap_ne h.ino h.blk), h.up.only ho (ownsMap_ne h.up h.blk)⟩
set_option maxRecDepth 100000 in
set_option maxHeartbeats 4000000 in
theorem look_any (l : List It) (hsm : Small l) (A : Option Addr) (c : Nat) (v : Nat) (d z u : Value) (w : World)
    (hB : Blk w v #[.slice A l.length c, d, z, u, .bool false, .slice none 0 0, .map none, .map none] 77) (hR : Rd w A (itVs l)) (hA : ∀ b off, A = some ⟨b, off, none⟩ → itVs l ≠ [] → b ≠ v) :
    Calls Try.prog 23 #[.pointer (some ⟨v, 0, none⟩)] w fun e w' => e = .returned (.tuple #[]) ∧ LookOut w v (.slice A l.length c) d z u l w' := by
  have hp := fun W hb hr => parse_any l hsm A c v d z u (.bool false) W hb hr hA
  have HPp := Lib.hid hp
  have HB := Lib.hid hB
  have HR := Lib.hid hR
  have hln : l.length ≤ 1048576 := hsm.1
  clear hp hB hR hA hsm
  have hmf : ∀ (fn : Fn) (first cap : Array Value) (w : World), (Instr.makeFunc fn first cap).run Try.prog w = .ok (.func fn first cap) w := fun _ _ _ _ => rfl
  go_enter Try.func23, Try.ntmps23
  go_wp2_with fail
  refine (HPp.out _ HB.out HR.out).mono ?_
  rintro e w1 hPar
  cases hpp : parsed l with
  | none =>
    obtain ⟨rfl, hO, a, b, cc, hB1⟩ := par_none' hpp hPar
    have Hv := Lib.hid (LookOut.no (vol_none_p hpp) hO hB1)
    clear hPar hpp hO hB1 HPp HB HR
    go_wp2_with fail
    refine bodyPost_ret (v := .tuple #[]) (by simp [results, Try.results23, go_sem]) rfl ?_
    exact ⟨rfl, Hv.out⟩
  | some s =>
    obtain ⟨rfl, hO, m1, m2, AA, cc, hV, hok, hAA⟩ := par_some' hpp hPar
    have c5 := hV.blk.cell 5
    simp at c5
    have hfit := contains_any' w1 hV hok hln
    have Hpp := Lib.hid hpp
    have HO := Lib.hid hO
    have HV := Lib.hid hV
    have Hok := Lib.hid hok
    have HAA := Lib.hid hAA
    have HF := Lib.hid hfit
    have hsl := hok.1
    clear hPar hpp hO hV hok hAA hfit HPp HB HR
    obtain ⟨L, hL⟩ : ∃ L, L = s.all.length := ⟨_, rfl⟩
    rw [← hL] at c5 HF hsl
    have HL := Lib.hid hL
    clear hL
    cases hfa : s.all.all (fitsB s)
    · rw [hfa] at HF
      have hv := vol_none_l Hpp.out (by unfold lookOk; rw [hfa]; rfl)
      have Hv := Lib.hid hv
      clear hv hfa
      go_wp2_with fail
      refine HF.out.mono ?_
      rintro e w2 ⟨rfl, hb⟩
      have Hd := Lib.hid (LookOut.no Hv.out (HO.out.below hb) (HV.out.below hb).blk)
      clear hb
      go_wp2_with fail
      refine bodyPost_ret (v := .tuple #[]) (by simp [results, Try.results23, go_sem]) rfl ?_
      exact ⟨rfl, Hd.out⟩
    · rw [hfa] at HF
      have Hfa := Lib.hid hfa
      clear hfa
      go_wp2_with fail
      refine HF.out.mono ?_
      rintro e w2 ⟨rfl, hb⟩
      have HV2 := Lib.hid (HV.out.below hb)
      have HO2 := Lib.hid (HO.out.below hb)
      have c52 := HV2.out.blk.cell 5
      simp at c52
      rw [← HL.out] at c52
      clear hb HV HO HF c5
      go_wp2_with fail
      have hV2lt := HV2.out.blk.lt
      go_loopw [22] (fun t wr => ∃ i : Nat, t = .int .i64 (i : Nat) ∧ i ≤ L ∧ Hid ((s.all.take i).all (linkB s) = true) ∧ Hid (Below w2.heap.size w2 wr)) (fun t _ => L - (intOf t).toNat)
      case atStart => exact ⟨0, rfl, by omega, Lib.hid rfl, Lib.hid (Below.refl _ _)⟩
      case round =>
        clear c52
        obtain ⟨i, rfl, hi, hS, hB⟩ := hrel
        by_cases hiL : i < L
        · have hi' : i < s.all.length := by rw [← HL.out]; exact hiL
          have hV := HV2.out.below hB.out
          obtain ⟨b, off, rfl, k0, k1, k2, k3, k4⟩ := hV.rd.kept i hi'
          obtain ⟨y, hy⟩ : ∃ y, y = s.all[i]'hi' := ⟨_, rfl⟩
          rw [← hy] at k0 k1 k2 k3 k4
          have hb5 := Hok.out.2.1 y (by rw [hy]; exact List.getElem_mem hi')
          have Hb5 := Lib.hid hb5
          have hkd := hb5.1
          have hino := hb5.2.1
          have Hy := Lib.hid hy
          have Hi := Lib.hid hi'
          have HV := Lib.hid hV
          clear hy hV hb5
          by_cases hk1 : y.k.kind = 1
          · by_cases hi1 : y.k.ino = 1
            · have hl := Lib.hid (allL_take (linkB s) s.all i Hi.out hS.out (by rw [← Hy.out]; unfold linkB; rw [if_pos (Or.inr hi1)]))
              have e1 : ((y.k.kind : Int) != 1) = false := by rw [hk1]; rfl
              have e2 : ((y.k.ino : Int) == 1) = true := by rw [hi1]; rfl
              clear hk1 hi1
              go_wp2_with fail
              go_roundw
              case rel => exact ⟨i + 1, by go_num, by omega, hl, Lib.hid (hB.out.alloc hB.out.size _)⟩
              case measure => simp [intOf]; omega
            · have e1 : ((y.k.kind : Int) != 1) = false := by rw [hk1]; rfl
              have e2 : ((y.k.ino : Int) == 1) = false := by simpa using (show ¬ (y.k.ino : Int) = 1 by omega)
              have hlb : linkB s y = ((s.upAt y.k.ino).1 == (s.inoAt y.k.ino).links && ((s.inoAt y.k.ino).kind != 1 || rootN s s.all.length y.k.ino)) := by
                unfold linkB; rw [if_neg (by rintro (h | h); exact h hk1; exact hi1 h)]
              have Hlb := Lib.hid hlb
              have Hk1 := Lib.hid hk1
              have Hi1 := Lib.hid hi1
              clear hk1 hi1 hlb
              have h' := HV.out.alloc (.cells #[.int .u8 (y.k.kind : Nat), .int .u32 (y.k.ino : Nat), .string (str y.k.name), .int .u32 (y.k.chunk : Nat), .string (str y.v)] 84)
              have c6 := h'.blk.cell 6
              simp at c6
              have hh2 := h'.alloc (.cells #[.int .u8 0, .int .u16 0, .int .u32 0, .int .u32 0, .string ⟨#[]⟩] 37)
              have c6b := hh2.blk.cell 6
              simp at c6b
              have hl := h'.drew.lookIno y.k.ino hino
              have hl2 := hh2.drew.lookIno y.k.ino hino
              have HV1 := Lib.hid h'
              clear h' hh2
              go_wp2_with fail
              go_cut [4] (fun s4 wx => s4 = .pointer (some ⟨wr.heap.size + 1, 0, none⟩) ∧ wx = ((wr.alloc (.cells #[.int .u8 (y.k.kind : Nat), .int .u32 (y.k.ino : Nat), .string (str y.k.name), .int .u32 (y.k.chunk : Nat), .string (str y.v)] 84)).alloc (.cells #[.int .u8 ((s.inoAt y.k.ino).kind : Nat), .int .u16 ((s.inoAt y.k.ino).mode : Nat), .int .u32 ((s.inoAt y.k.ino).links : Nat), .int .u32 ((s.inoAt y.k.ino).size : Nat), .string (str (s.inoAt y.k.ino).target)] 37)).drew)
              case first =>
                go_region
                all_goals (go_wp2_with fail; go_meet; exact ⟨rfl, rfl⟩)
              case rest =>
              obtain ⟨rfl, hW⟩ := hcut
              obtain ⟨W, hWW⟩ : ∃ W, W = wc := ⟨_, rfl⟩
              rw [← hWW]
              rw [← hWW] at hW
              clear hWW hl hl2 c6 c6b
              have H3 : VolSt W v m1 m2 l.length (.slice A l.length c) d z u (.bool false) s (some ⟨b, off, none⟩) cc := by rw [hW]; exact (HV1.out.alloc _).drew
              have B3 : Below w2.heap.size w2 W := by rw [hW]; exact below_drew (below_alloc (below_alloc hB.out _) _)
              have K3 : Blk W wr.heap.size #[.int .u8 (y.k.kind : Nat), .int .u32 (y.k.ino : Nat), .string (str y.k.name), .int .u32 (y.k.chunk : Nat), .string (str y.v)] 84 := by rw [hW]; exact ((Blk.new wr _ _).alloc _).drew
              have I3 : Blk W (wr.heap.size + 1) #[.int .u8 ((s.inoAt y.k.ino).kind : Nat), .int .u16 ((s.inoAt y.k.ino).mode : Nat), .int .u32 ((s.inoAt y.k.ino).links : Nat), .int .u32 ((s.inoAt y.k.ino).size : Nat), .string (str (s.inoAt y.k.ino).target)] 37 := by
                rw [hW]
                have := Blk.new (wr.alloc (.cells #[.int .u8 (y.k.kind : Nat), .int .u32 (y.k.ino : Nat), .string (str y.k.name), .int .u32 (y.k.chunk : Nat), .string (str y.v)] 84)) #[.int .u8 ((s.inoAt y.k.ino).kind : Nat), .int .u16 ((s.inoAt y.k.ino).mode : Nat), .int .u32 ((s.inoAt y.k.ino).links : Nat), .int .u32 ((s.inoAt y.k.ino).size : Nat), .string (str (s.inoAt y.k.ino).target)] 37
                simpa [Blk] using this.drew
              have c7 := H3.blk.cell 7
              have q1 := K3.cell 1
              have j0 := I3.cell 0
              have j2 := I3.cell 2
              simp at c7 q1 j0 j2
              have hlu := fun k => (H3.drewN k).lookUp y.k.ino hino
              have hrt := fun k => rooted_any (W.drewN k) (H3.drewN k) Hok.out hln y.k.ino hino
              have Hrt := Lib.hid hrt
              have HB3 := Lib.hid B3
              have HD := Lib.hid (fun k hq => LookOut.no (l := l) (vol_none_l Hpp.out hq) (HO2.out.below (below_drewN B3 k)) (H3.drewN k).blk)
              have hup1 := (Ok_upAt Hok.out y.k.ino).1
              have hin := Ok_inoAt Hok.out y.k.ino
              have hik := hin.1
              have hils := hin.2.2.1
              have hw1 : IntKind.u64.wrap (((s.upAt y.k.ino).1 : Nat) : Int) = ((s.upAt y.k.ino).1 : Nat) := by rw [IntKind.wrap_u64]; omega
              have hw2 : IntKind.u64.wrap (((s.inoAt y.k.ino).links : Nat) : Int) = ((s.inoAt y.k.ino).links : Nat) := by rw [IntKind.wrap_u64]; omega
              have hfe := dir_entries
              clear hW H3 B3 K3 I3 hin hrt
              by_cases hA : (s.upAt y.k.ino).1 = (s.inoAt y.k.ino).links
              · have eA : ((((s.upAt y.k.ino).1 : Nat) : Int) != (((s.inoAt y.k.ino).links : Nat) : Int)) = false := by rw [hA]; simp
                by_cases hD : (s.inoAt y.k.ino).kind = 1
                · have eD : ((((s.inoAt y.k.ino).kind : Nat) : Int) == 1) = true := by rw [hD]; rfl
                  have hlr : linkB s y = rootN s s.all.length y.k.ino := by rw [Hlb.out, hA, hD]; simp
                  cases hr : rootN s s.all.length y.k.ino
                  · have hno : lookOk s = false := by
                      unfold lookOk
                      rw [allL_not (linkB s) s.all i Hi.out (by rw [← Hy.out, hlr, hr])]; simp
                    have Hno := Lib.hid hno
                    rw [hr] at Hrt
                    clear hno hlr hr hD hA
                    go_wp2_with fail
                    go_quiet ((go_at_call 38; exact Calls.quiet_of_same (Hrt.out _)))
                    all_goals
                      go_wp2_with fail
                      refine bodyPost_ret (v := .tuple #[]) (by simp [results, Try.results23, go_sem]) rfl ?_
                      exact ⟨rfl, HD.out _ Hno.out⟩
                  · have hl := Lib.hid (allL_take (linkB s) s.all i Hi.out hS.out (by rw [← Hy.out, hlr, hr]))
                    rw [hr] at Hrt
                    clear hlr hr hD hA
                    go_wp2_with fail
                    go_quiet ((go_at_call 38; exact Calls.quiet_of_same (Hrt.out _)))
                    all_goals
                      go_wp2_with fail
                      go_roundw
                      case rel => exact ⟨i + 1, by go_num, by omega, hl, Lib.hid (below_drewN HB3.out _)⟩
                      case measure => simp [intOf]; omega
                · have eD : ((((s.inoAt y.k.ino).kind : Nat) : Int) == 1) = false := by simpa using (show ¬ ((s.inoAt y.k.ino).kind : Int) = 1 by omega)
                  have hl := Lib.hid (allL_take (linkB s) s.all i Hi.out hS.out (by rw [← Hy.out, Hlb.out, hA]; simp [hD]))
                  clear hD hA
                  go_wp2_with fail
                  go_quiet (fail)
                  all_goals
                    go_wp2_with fail
                    go_roundw
                    case rel => exact ⟨i + 1, by go_num, by omega, hl, Lib.hid (below_drewN HB3.out _)⟩
                    case measure => simp [intOf]; omega
              · have eA : ((((s.upAt y.k.ino).1 : Nat) : Int) != (((s.inoAt y.k.ino).links : Nat) : Int)) = true := by rw [bne_iff_ne]; omega
                have hno : lookOk s = false := by
                  unfold lookOk
                  rw [allL_not (linkB s) s.all i Hi.out (by rw [← Hy.out, Hlb.out]; simp [hA])]; simp
                have Hno := Lib.hid hno
                clear hno hA
                go_wp2_with fail
                go_quiet (fail)
                all_goals
                  go_wp2_with fail
                  refine bodyPost_ret (v := .tuple #[]) (by simp [results, Try.results23, go_sem]) rfl ?_
                  exact ⟨rfl, HD.out _ Hno.out⟩
          · have hl := Lib.hid (allL_take (linkB s) s.all i Hi.out hS.out (by rw [← Hy.out]; unfold linkB; rw [if_pos (Or.inl hk1)]))
            have e1 : ((y.k.kind : Int) != 1) = true := by rw [bne_iff_ne]; omega
            clear hk1
            go_wp2_with fail
            go_roundw
            case rel => exact ⟨i + 1, by go_num, by omega, hl, Lib.hid (hB.out.alloc hB.out.size _)⟩
            case measure => simp [intOf]; omega
        · have hll : lookOk s = true := by
            have h1 := hS.out
            rw [List.take_of_length_le (by rw [← HL.out]; omega)] at h1
            unfold lookOk; rw [Hfa.out, h1]; rfl
          have hv := vol_some Hpp.out hll
          have hV := HV2.out.below hB.out
          have c4 := hV.blk.cell 4
          have f4 := hV.blk.frozen 4
          simp at c4
          have hfin : LookOut w v (.slice A l.length c) d z u l (wr.setCell ⟨v, 4, none⟩ (.bool true)) := by
            refine ⟨(HO2.out.below hB.out).set 4 _, ?_⟩
            rw [hv]
            exact ⟨m1, m2, AA, cc, hV.mark HAA.out _, Hok.out, HAA.out⟩
          have Hfin := Lib.hid hfin
          clear hfin hV hv hll
          go_wp2_with fail
          go_end0
          exact ⟨rfl, Hfin.out⟩
end Go.Proofs.Ytoeiipkikpalaaa
