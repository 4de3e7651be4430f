/- dirs: the law 'DirsFound', walked. -/
import Derived.Test.YtoeiipkikpalaaaD16
import Derived.BigQuiet
import Derived.Deep.RegionHeld3
import Derived.Deep.RegionHeldLaw
import Derived.Deep.Cut
import Derived.Deep.CutRange
import Derived.Deep.DeepCutAuto
set_option linter.unusedVariables false
set_option linter.unusedSimpArgs false
namespace Go.Proofs.Ytoeiipkikpalaaa
open Go.RowKit
theorem any_take {α : Type _} (p : α → Bool) (l : List α) (i : Nat) (hi : i < l.length) : (l.take (i + 1)).any p = ((l.take i).any p || p (l[i]'hi)) := by
  rw [← List.take_append_getElem hi, List.any_append]; simp
theorem pw_prev {es : List En} (h : es.Pairwise (fun a b => lt a.name b.name = true)) (i : Nat) (hi : i + 1 < es.length) : lt (es[i]'(by omega)).name (es[i + 1]'hi).name = true :=
  List.pairwise_iff_getElem.1 h i (i + 1) (by omega) hi (by omega)
/-- An append's run, behind a name that unification does not open. -/
structure AppRun (P : Program) (t ty : TypeId) (v vx : Value) (w : World) (v' : Value) (w' : World) : Prop where
  run : (Builtin.append_ #[t, t] ty #[v, vx]).run P w = .ok v' w'
theorem step_apprun {P : Program} {ops : Array Oper} {o : Oper} {a : Act} {K : Act → World → Prop} {Q : Exit → Act → World → Prop} {E : Prop} {w : World} {t : TypeId} {v vx : Value} {v' : Value} {w' : World} (hrun : AppRun P t o.type v vx w v' w') (hgd : o.guard = none) (s x : Operand)
    (ho : o.op = .call { callee := .builtin .append, args := #[s, x], argTypes := #[t, t] }) (hs : a.eval s = v) (hx : a.eval x = vx)
    (h : K (a.put o.dst v') w') : if Region.wanted o (yielded ops a.tmps) = true then Oper.wp P o a w K Q else E :=
  step_run w hgd s x t ho v vx hs hx hrun.run h
set_option maxRecDepth 100000 in
set_option maxHeartbeats 4000000 in
theorem found_walk (l : List It) (hsm : Small l) (A : Option Addr) (c : Nat) (names : List Bs) (NA : Option Addr) (nc : Nat) (hnc : names.length ≤ nc) (_hcm : nc ≤ 9223372036854775807) (hnl : names.length ≤ 1048576) (hnm : ∀ x ∈ names, x.length ≤ 1048576) (other : Bs) (ho : other.length ≤ 1048576)
    (hn2 : names.length + 1 ≤ 1048576) (w : World) (hR : Rd w A (itVs l)) (hnr : Rd w NA (nameVs names)) :
    Calls Try.prog 3 #[.slice A l.length c, .slice NA names.length nc, .string (str other)] w fun e w' => e = .returned (.bool true) ∧ Below w.heap.size w w' := by
  have HR := Lib.hid hR
  have HN := Lib.hid hnr
  have HW1 := Lib.hid (fun W hr hn => dwalk_any l hsm A c W hr names NA nc hnc hn hnl hnm true)
  have HWx := Lib.hid (fun (nm : Bs) (hnmx : nm.length ≤ 1048576) W hr NA2 nc2 (h2 : names.length + 1 ≤ nc2) hn => dwalk_any l hsm A c W hr (names ++ [nm]) NA2 nc2 (by rw [List.length_append, List.length_singleton]; exact h2) hn (by rw [List.length_append, List.length_singleton]; exact hn2) (fun x hx => by
    rcases List.mem_append.1 hx with hx | hx
    · exact hnm x hx
    · simp at hx; subst hx; exact hnmx) false)
  have hla := dwalkE_lt l names true
  have hle := dwalkE_err_lt l names true
  obtain ⟨a, ha⟩ : ∃ a, a = dwalkE l names true := ⟨_, rfl⟩
  rw [← ha] at HW1 hla hle
  obtain ⟨a1, a2⟩ := a
  simp only at HW1 hla hle
  have hli := fun W hr => dlist_any l hsm A c W hr a1 hla
  have hel := dlist_len hsm a1
  have heb := dlist_err_lt l a1
  obtain ⟨p, hp⟩ : ∃ p, p = dlistE l a1 := ⟨_, rfl⟩
  rw [← hp] at hli hel heb
  obtain ⟨es, er⟩ := p
  simp only at hli hel heb
  have HL := Lib.hid hli
  have HG := Lib.hid (fun j hj W hr => dget_any l hsm A c W hr j hj)
  have Ha := Lib.hid ha
  have Hp := Lib.hid hp
  clear hR hnr hnm hsm hli ha hp
  by_cases hz : a2 = 0 ∧ er = 0
  · obtain ⟨hz1, hz2⟩ := hz
    subst hz1; subst hz2
    obtain ⟨f1, f2, f3⟩ := dfound Ha.out.symm Hp.out.symm
    have F1 := Lib.hid f1
    have F2 := Lib.hid f2
    have F3 := Lib.hid f3
    clear f1 f2 f3 Ha Hp
    go_enter Try.func3, Try.ntmps3
    go_wp2_with fail
    refine (lives_any _).mono ?_
    rintro e w1 ⟨rfl, hb⟩
    have HB1 := Lib.hid hb
    clear hb
    go_wp2_with fail
    refine (HW1.out _ (HR.out.below HB1.out) (HN.out.below HB1.out)).mono ?_
    rintro e w2 ⟨rfl, hb⟩
    have HB2 := Lib.hid (below_step HB1.out hb)
    clear hb HB1
    go_wp2_with fail
    refine (HL.out _ (HR.out.below HB2.out)).mono ?_
    rintro e w5 ⟨x, rfl, ⟨EA, ec, rfl, her⟩, hb⟩
    have HE := Lib.hid her
    have HB5 := Lib.hid (below_step HB2.out hb)
    clear hb HB2 her
    go_wp2_with fail
    go_loopw [11, 42] (fun s t wr => ∃ k : Nat, t = .int .i64 (k : Nat) ∧ k ≤ es.length ∧ s = .bool ((es.take k).any fun e => decide (e.name = other)) ∧ Hid (Below w5.heap.size w5 wr)) (fun _ t _ => es.length - (intOf t).toNat)
    case atStart => exact ⟨0, rfl, by omega, rfl, Lib.hid (Below.refl _ _)⟩
    case round =>
      obtain ⟨k, rfl, hk, rfl, hB⟩ := hrel
      have HB6 := Lib.hid (below_then HB5.out HB5.out.size hB.out)
      obtain ⟨q, hq⟩ : ∃ q, q = (es.take k).any fun e => decide (e.name = other) := ⟨_, rfl⟩
      rw [← hq]
      by_cases hkL : k < es.length
      · obtain ⟨b, off, rfl, k0, k1, k2⟩ := (HE.out.below hB.out).entry k hkL
        obtain ⟨y, hy⟩ : ∃ y, y = es[k]'hkL := ⟨_, rfl⟩
        rw [← hy] at k0 k1 k2
        have hfy := F1.out y (by rw [hy]; exact List.getElem_mem hkL)
        have hany := any_take (fun e => decide (e.name = other)) es k hkL
        rw [← hy, ← hq] at hany
        have Hany := Lib.hid hany
        have Hfy := Lib.hid hfy
        have Hy := Lib.hid hy
        have HkL := Lib.hid hkL
        have hylt := hfy.2.2.2.1
        clear hy hany hfy hq
        go_wp2_with fail
        obtain ⟨W0, hW0⟩ : ∃ W0, W0 = wr.alloc (.cells #[.string (str y.name), .int .u32 (y.ino : Nat), .int .u8 (y.kind : Nat)] 34) := ⟨_, rfl⟩
        rw [← hW0]
        have hE0 : Blk W0 wr.heap.size #[.string (str y.name), .int .u32 (y.ino : Nat), .int .u8 (y.kind : Nat)] 34 := by rw [hW0]; exact Blk.new _ _ _
        have hB0 : Below w5.heap.size w5 W0 := by rw [hW0]; exact hB.out.alloc hB.out.size _
        have hwB0 : Below w.heap.size w W0 := by rw [hW0]; exact below_alloc HB6.out _
        have hR0 := HR.out.below hwB0
        have hN0 := HN.out.below hwB0
        clear hW0 k0 k1 k2
        have c0 := hE0.cell 0
        simp at c0
        have l0 := hE0.lt
        obtain ⟨A1, c1, w1, A2, c2, w2', h11, h12, hc12, hr12, hb12, hb11⟩ := names_one' (w := W0) (W := (W0.alloc (.cells #[] 9)).drew) (below_drew (below_alloc (Below.refl _ _) _)) (Nat.le_refl _) y.name ((Blk.new W0 #[] 9).drew) (nc := nc) hN0 hnl 23 23
        obtain ⟨A3, c3, w3, A4, c4, w4, h21, h22, hc22, hr22, hb22, hb21⟩ := names_one (w := W0) (W := ((W0.alloc (.cells #[] 9)).alloc (.cells #[.string (str y.name)] 9)).drew) (below_drew (below_alloc (below_alloc (Below.refl _ _) _) _)) (g := W0.heap.size) (Nat.le_refl _) (k := W0.heap.size + 1) (nm := y.name) (((Blk.new W0 #[] 9).alloc _).drew)
          (by have := (Blk.new (W0.alloc (.cells #[] 9)) #[.string (str y.name)] 9).drew; simpa [Blk] using this) (by omega) (nc := nc) hN0 hnl 23 23
        obtain ⟨A5, c5, w5', A6, c6, w6, h31, h32, hc32, hr32, hb32, hb31⟩ := names_one (w := W0) (W := ((W0.alloc (.cells #[.string (str y.name)] 9)).alloc (.cells #[] 9)).drew) (below_drew (below_alloc (below_alloc (Below.refl _ _) _) _)) (g := W0.heap.size + 1) (by omega) (k := W0.heap.size) (nm := y.name)
          (by have := (Blk.new (W0.alloc (.cells #[.string (str y.name)] 9)) #[] 9).drew; simpa [Blk, Empty] using this) (((Blk.new W0 #[.string (str y.name)] 9).alloc _).drew) (by omega) (nc := nc) hN0 hnl 23 23
        have hw1 := HWx.out y.name Hfy.out.2.2.2.2 w2' (hR0.below hb12) A2 c2 hc12 hr12
        have hw2 := HWx.out y.name Hfy.out.2.2.2.2 w4 (hR0.below hb22) A4 c4 hc22 hr22
        have hw3 := HWx.out y.name Hfy.out.2.2.2.2 w6 (hR0.below hb32) A6 c6 hc32 hr32
        rw [Hfy.out.1, show (names ++ [y.name]).length = names.length + 1 by simp] at hw1 hw2 hw3
        have x1 := (hE0.kept hb11 l0).cell 0
        have x2 := (hE0.kept hb12 l0).cell 0
        have x3 := (hE0.kept hb21 l0).cell 0
        have x4 := (hE0.kept hb22 l0).cell 0
        have x5 := (hE0.kept hb31 l0).cell 0
        have x6 := (hE0.kept hb32 l0).cell 0
        simp at x1 x2 x3 x4 x5 x6
        have Hw1 := Lib.hid hw1
        have Hw2 := Lib.hid hw2
        have Hw3 := Lib.hid hw3
        have G1 := Lib.hid hb12
        have G2 := Lib.hid hb22
        have G3 := Lib.hid hb32
        have m1 := (hE0.kept hb11 l0).lt
        have m3 := (hE0.kept hb21 l0).lt
        have m5 := (hE0.kept hb31 l0).lt
        have HE0 := Lib.hid hE0
        have HB0 := Lib.hid hB0
        have HwB0 := Lib.hid hwB0
        have H11 := Lib.hid (AppRun.mk h11)
        have H12 := Lib.hid (AppRun.mk h12)
        have H21 := Lib.hid (AppRun.mk h21)
        have H22 := Lib.hid (AppRun.mk h22)
        have H31 := Lib.hid (AppRun.mk h31)
        have H32 := Lib.hid (AppRun.mk h32)
        clear hw1 hw2 hw3 hb11 hb12 hb21 hb22 hb31 hb32 hE0 hB0 hwB0 hR0 hN0 hc12 hc22 hc32 hr12 hr22 hr32 h11 h12 h21 h22 h31 h32
        go_cut [14, 15] (fun s14 s15 wx => s14 = .int .u32 (y.ino : Nat) ∧ s15 = .int .i64 0 ∧ Hid (Below W0.heap.size W0 wx))
        case first =>
          go_region_held3 (fun w' => w'.cell? ⟨wr.heap.size, 0, none⟩ = some (.string (str y.name))) (first | assumption | go_keep)
            (first
              | (refine step_apprun H11.out (by rfl) _ _ (by rfl) (by rfl) (by rfl) ?_)
              | (refine step_apprun H12.out (by rfl) _ _ (by rfl) (by rfl) (by rfl) ?_)
              | (refine step_apprun H21.out (by rfl) _ _ (by rfl) (by rfl) (by rfl) ?_)
              | (refine step_apprun H22.out (by rfl) _ _ (by rfl) (by rfl) (by rfl) ?_)
              | (refine step_apprun H31.out (by rfl) _ _ (by rfl) (by rfl) (by rfl) ?_)
              | (refine step_apprun H32.out (by rfl) _ _ (by rfl) (by rfl) (by rfl) ?_)
              | (go_at_call 8; with_reducible (refine Hw1.out.mono ?_); rintro e w' ⟨rfl, hb⟩; have HBx := Lib.hid (below_step G1.out hb); have hx' := (HE0.out.kept HBx.out l0).cell 0; simp at hx')
              | (go_at_call 8; with_reducible (refine Hw2.out.mono ?_); rintro e w' ⟨rfl, hb⟩; have HBx := Lib.hid (below_step G2.out hb); have hx' := (HE0.out.kept HBx.out l0).cell 0; simp at hx')
              | (go_at_call 8; with_reducible (refine Hw3.out.mono ?_); rintro e w' ⟨rfl, hb⟩; have HBx := Lib.hid (below_step G3.out hb); have hx' := (HE0.out.kept HBx.out l0).cell 0; simp at hx'))
          all_goals (go_wp2_with fail; go_meet; exact ⟨rfl, rfl, by assumption⟩)
        case rest =>
        obtain ⟨rfl, rfl, hbx⟩ := hcut
        clear Hw1 Hw2 Hw3 G1 G2 G3 H11 H12 H21 H22 H31 H32 x1 x2 x3 x4 x5 x6 m1 m3 m5 c0
        have l1 : wr.heap.size < wc.heap.size := (HE0.out.kept hbx.out l0).lt
        have HEc := Lib.hid (HE0.out.kept hbx.out l0)
        obtain ⟨d, hd⟩ : ∃ d, d = dgetE l y.ino := ⟨_, rfl⟩
        have hg := HG.out y.ino hylt
        have g2 := Hfy.out.2.1
        have g3 := Hfy.out.2.2.1
        rw [← hd] at hg g2 g3
        unfold getT at hg
        rw [g2, g3] at hg
        have Hg := Lib.hid hg
        have HBc := Lib.hid (below_then HwB0.out HwB0.out.size hbx.out)
        have HB5c := Lib.hid (below_then HB0.out HB0.out.size hbx.out)
        clear hg hd g2 g3 hbx
        go_wp2_with fail
        refine (Hg.out _ (HR.out.below HBc.out)).mono ?_
        rintro e w8 ⟨rfl, hb⟩
        have HEd := Lib.hid (HEc.out.below hb)
        have l8 := HEd.out.lt
        have HB5d := Lib.hid (below_then HB5c.out HB5c.out.size hb)
        clear hb HBc HB5c HEc l1 l0
        obtain ⟨W, hW⟩ : ∃ W, W = w8.alloc (.cells #[.int .u8 (y.kind : Nat), .int .u16 (d.1.mode : Nat), .int .u32 (d.1.links : Nat), .int .u32 (d.1.size : Nat), .string (str d.1.target)] 37) := ⟨_, rfl⟩
        have hI : Blk W w8.heap.size #[.int .u8 (y.kind : Nat), .int .u16 (d.1.mode : Nat), .int .u32 (d.1.links : Nat), .int .u32 (d.1.size : Nat), .string (str d.1.target)] 37 := by rw [hW]; exact Blk.new _ _ _
        have hEW : Blk W wr.heap.size #[.string (str y.name), .int .u32 (y.ino : Nat), .int .u8 (y.kind : Nat)] 34 := by rw [hW]; exact HEd.out.alloc _
        have HBW : Hid (Below w5.heap.size w5 W) := Lib.hid (by rw [hW]; exact HB5d.out.alloc HB5d.out.size _)
        have hLW := HE.out.below HBW.out
        have i0 := hI.cell 0
        have n0 := hEW.cell 0
        have n1 := hEW.cell 1
        have n2 := hEW.cell 2
        simp at i0 n0 n1 n2
        have b1 : ((y.ino : Int) != (y.ino : Int)) = false := by simp
        have b2 : ((y.kind : Int) != (y.kind : Int)) = false := by simp
        clear hI hEW HEd HB5d
        cases k with
        | zero =>
          go_wp2_with fail
          rw [← hW]
          clear hW
          go_quiet (fail)
          all_goals
            cases q
            · go_wp2_with fail
              go_roundw
              case rel => exact ⟨1, by go_num, by omega, by rw [Hany.out]; exact congrArg Value.bool (by rw [Bool.eq_iff_iff]; simp), Lib.hid (below_drewN HBW.out _)⟩
              case measure => simp [intOf]; omega
            · go_wp2_with fail
              go_roundw
              case rel => exact ⟨1, by go_num, by omega, by rw [Hany.out]; rfl, Lib.hid (below_drewN HBW.out _)⟩
              case measure => simp [intOf]; omega
        | succ m =>
          obtain ⟨b', off', e', p0, _⟩ := hLW.entry m (by omega)
          cases e'
          obtain ⟨z, hz⟩ : ∃ z, z = es[m] := ⟨_, rfl⟩
          rw [← hz] at p0
          have hj0 : (0 : Int) < ((m : Int) + 1) := by omega
          have hj1 : (0 : Int) ≤ ((m : Int) + 1 - 1) := by omega
          have hl2 : Op.bytesLess z.name y.name = true := by have := pw_prev F2.out m HkL.out; rw [← hz, ← Hy.out] at this; exact this
          clear hz
          go_wp2_with fail
          rw [← hW]
          clear hW
          go_quiet (fail)
          all_goals
            cases q
            · go_wp2_with fail
              go_roundw
              case rel => exact ⟨m + 2, by go_num, by omega, by rw [Hany.out]; exact congrArg Value.bool (by rw [Bool.eq_iff_iff]; simp), Lib.hid (below_drewN HBW.out _)⟩
              case measure => simp [intOf]; omega
            · go_wp2_with fail
              go_roundw
              case rel => exact ⟨m + 2, by go_num, by omega, by rw [Hany.out]; rfl, Lib.hid (below_drewN HBW.out _)⟩
              case measure => simp [intOf]; omega
      · obtain rfl : k = es.length := by omega
        rw [List.take_length] at hq
        have hf := F3.out other
        rw [← hq] at hf
        obtain ⟨A1, c1, w1, A2, c2, w2', h11, h12, hc12, hr12, hb12, _⟩ := names_one' (w := wr) (W := wr.alloc (.cells #[] 9)) (below_alloc (Below.refl _ _) _) (Nat.le_refl _) other (Blk.new wr #[] 9) (nc := nc) (HN.out.below HB6.out) hnl 23 23
        have hw := HWx.out other ho w2' ((HR.out.below HB6.out).below hb12) A2 c2 hc12 hr12
        have hb := dwalkE_err_lt l (names ++ [other]) false
        obtain ⟨p, hp⟩ : ∃ p, p = dwalkE l (names ++ [other]) false := ⟨_, rfl⟩
        rw [← hp] at hw hf hb
        rw [show (names ++ [other]).length = names.length + 1 by simp] at hw
        have Hw := Lib.hid hw
        have Hf := Lib.hid hf
        have H11 := Lib.hid h11
        have H12 := Lib.hid h12
        have HB7 := Lib.hid (below_step HB6.out hb12)
        clear hw hf h11 h12 hb12 hr12 hc12 hp hq
        go_wp2_with (first | (at_builtin; refine Lib.wpList_append_run _ rfl _ _ _ _ rfl _ _ rfl rfl _ _ H11.out ?_) | (at_builtin; refine Lib.wpList_append_run _ rfl _ _ _ _ rfl _ _ rfl rfl _ _ H12.out ?_))
        refine Hw.out.mono ?_
        rintro e w9 ⟨rfl, hb⟩
        have HB9 := Lib.hid (below_step HB7.out hb)
        clear hb HB7
        go_wp2_with fail
        go_ret
        exact ⟨ret_bool (by rw [Hf.out, show ((p.2 : Int) == 0) = decide (p.2 = 0) by rw [Bool.eq_iff_iff]; simp]; simp), HB9.out⟩
  · by_cases hz1 : a2 = 0
    · have ez : ((er : Int) != 0) = true := by rw [bne_iff_ne]; omega
      rw [hz1] at HW1
      clear hz hz1 Ha Hp
      go_enter Try.func3, Try.ntmps3
      go_wp2_with fail
      refine (lives_any _).mono ?_
      rintro e w1 ⟨rfl, hb⟩
      have HB1 := Lib.hid hb
      clear hb
      go_wp2_with fail
      refine (HW1.out _ (HR.out.below HB1.out) (HN.out.below HB1.out)).mono ?_
      rintro e w2 ⟨rfl, hb⟩
      have HB2 := Lib.hid (below_step HB1.out hb)
      clear hb HB1
      go_wp2_with fail
      refine (HL.out _ (HR.out.below HB2.out)).mono ?_
      rintro e w5 ⟨x, rfl, ⟨EA, ec, rfl, her⟩, hb⟩
      have HB5 := Lib.hid (below_step HB2.out hb)
      clear hb HB2 her
      go_wp2_with fail
      go_ret
      exact ⟨rfl, HB5.out⟩
    · have ez : ((a2 : Int) != 0) = true := by rw [bne_iff_ne]; omega
      clear hz hz1 Ha Hp
      go_enter Try.func3, Try.ntmps3
      go_wp2_with fail
      refine (lives_any _).mono ?_
      rintro e w1 ⟨rfl, hb⟩
      have HB1 := Lib.hid hb
      clear hb
      go_wp2_with fail
      refine (HW1.out _ (HR.out.below HB1.out) (HN.out.below HB1.out)).mono ?_
      rintro e w2 ⟨rfl, hb⟩
      have HB2 := Lib.hid (below_step HB1.out hb)
      clear hb HB1
      go_wp2_with fail
      refine (HL.out _ (HR.out.below HB2.out)).mono ?_
      rintro e w5 ⟨x, rfl, ⟨EA, ec, rfl, her⟩, hb⟩
      have HB5 := Lib.hid (below_step HB2.out hb)
      clear hb HB2 her
      go_wp2_with fail
      go_ret
      exact ⟨rfl, HB5.out⟩
end Go.Proofs.Ytoeiipkikpalaaa
