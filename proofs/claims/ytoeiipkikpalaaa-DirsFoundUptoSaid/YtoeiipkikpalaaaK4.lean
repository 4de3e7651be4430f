/- Contracts: path.Split; lists of items checked. -/
import Derived.Test.YtoeiipkikpalaaaK3
set_option linter.unusedVariables false
set_option linter.unusedSimpArgs false
namespace Go.Proofs.Ytoeiipkikpalaaa
open Go.RowKit
theorem cutPrefix_any (s p : Bs) (w : World) :
    Calls Try.prog 40 #[.string (str s), .string (str p)] w fun e w' => e = .returned (.tuple #[.string (str (if p.isPrefixOf s then s.drop p.length else s)), .bool (p.isPrefixOf s)]) ∧ w = w' := by
  refine (Try.strings_CutPrefix (str s) (str p) w).mono ?_
  rintro e w' ⟨rfl, rfl⟩
  exact ⟨by rw [str_data, str_data]; rfl, rfl⟩
def nameVs (l : List Bs) : List Value := l.map fun s => .string (str s)
theorem itemright_is {k v : Bs} {b : Bool} (h : itOk k v = b) (hk : k.length ≤ 1048576) (hv : v.length ≤ 1048576) (w : World) :
    Calls Try.prog 69 #[.string (str k), .string (str v)] w fun e w' => e = .returned (.bool b) ∧ ∃ m, w' = w.drewN m := by
  subst h
  exact itemright_any k v (by omega) (by omega) w
def Small (l : List It) : Prop := l.length ≤ 1048576 ∧ ∀ x ∈ l, x.key.length ≤ 1048576 ∧ x.val.length ≤ 1048576
set_option maxRecDepth 100000 in
theorem check_any (l : List It) (A : Option Addr) (c : Nat) (w : World) (hr : Rd w A (itVs l)) (hsm : Small l) :
    Calls Try.prog 54 #[.slice A l.length c] w fun e w' => e = .returned (.int .i64 (chkE l)) ∧ Below w.heap.size w w' := by
  obtain ⟨hl, hs⟩ := hsm
  have Hr := Lib.hid hr
  have Hs := Lib.hid hs
  clear hr hs
  go_enter Try.func54, Try.ntmps54
  go_wp2
  go_loopw [7] (fun i wr => ∃ j : Nat, j ≤ l.length ∧ i = .int .i64 (j : Nat) ∧ Hid (∀ k, k < j → okAt l k = true) ∧ Below w.heap.size w wr) (fun i _ => l.length - (intOf i).toNat)
  case atStart => exact ⟨0, Nat.zero_le _, rfl, Lib.hid (fun k hk => absurd hk (by omega)), Below.refl _ _⟩
  case round =>
    obtain ⟨j, hj, rfl, hok, hb⟩ := hrel
    have Hb := Lib.hid hb
    have hsz := hb.size
    clear hb
    by_cases hlt : j < l.length
    · obtain ⟨b, off, rfl, k0, k1⟩ := (Hr.out.below Hb.out).item j hlt
      obtain ⟨x, hx⟩ : ∃ x, x = l[j] := ⟨_, rfl⟩
      rw [← hx] at k0 k1
      have hxs := Hs.out x (by rw [hx]; exact List.getElem_mem hlt)
      have hxe : l[j]? = some x := by rw [hx]; exact List.getElem?_eq_getElem hlt
      clear hx
      have hbl := World.block_lt_of_cell? _ _ k0
      cases hok1 : itOk x.key x.val
      · have Hv := Lib.hid (show chkE l = 4 from chkE_bad hlt (by unfold okAt; rw [hxe]; simp [hok1]))
        have Hxe := Lib.hid hxe
        have Ho := Lib.hid hok1
        clear hxe hok1
        go_wp2
        go_quiet ((go_at_call 69; exact Calls.quiet_of (itemright_is Ho.out hxs.1 hxs.2 _)))
        go_wp2
        go_ret
        exact ⟨by rw [Hv.out]; rfl, below_drewN ((Hb.out).alloc hsz _) _⟩
      · cases j with
        | zero =>
          have Ho := Lib.hid hok1
          have Hxe := Lib.hid hxe
          clear hxe hok1
          simp only [Nat.zero_mul, Nat.add_zero] at k0 k1
          go_wp2
          go_quiet ((go_at_call 69; exact Calls.quiet_of (itemright_is Ho.out hxs.1 hxs.2 _)))
          go_wp2
          go_roundw
          case rel =>
            refine ⟨1, by omega, rfl, Lib.hid (fun k hk => ?_), below_drewN ((Hb.out).alloc hsz _) _⟩
            obtain rfl : k = 0 := by omega
            unfold okAt; rw [Hxe.out]; simp [Ho.out]
          case measure => simp [intOf]; omega
        | succ m =>
          obtain ⟨b', off', e', k2, _⟩ := (Hr.out.below Hb.out).item m (by omega)
          cases e'
          obtain ⟨y, hy⟩ : ∃ y, y = l[m] := ⟨_, rfl⟩
          rw [← hy] at k2
          have hye : l[m]? = some y := by rw [hy]; exact List.getElem?_eq_getElem (by omega)
          clear hy
          have hj0 : (0 : Int) < ((m : Int) + 1) := by omega
          have hj1 : (0 : Int) ≤ ((m : Int) + 1 - 1) := by omega
          cases hlt2 : lt y.key x.key
          · have Hv := Lib.hid (show chkE l = 4 from chkE_bad hlt (by unfold okAt; rw [hxe]; simp [hye, hlt2]))
            have Ho := Lib.hid hok1
            have Hxe := Lib.hid hxe
            have Hye := Lib.hid hye
            clear hxe hok1 hye
            have hl2 : Op.bytesLess y.key x.key = false := hlt2
            clear hlt2
            go_wp2
            go_quiet ((go_at_call 69; exact Calls.quiet_of (itemright_is Ho.out hxs.1 hxs.2 _)))
            go_wp2
            go_ret
            exact ⟨by rw [Hv.out]; rfl, below_drewN ((Hb.out).alloc hsz _) _⟩
          · have Ho := Lib.hid hok1
            have Hxe := Lib.hid hxe
            have Hye := Lib.hid hye
            clear hxe hok1 hye
            have hl2 : Op.bytesLess y.key x.key = true := hlt2
            clear hlt2
            go_wp2
            go_quiet ((go_at_call 69; exact Calls.quiet_of (itemright_is Ho.out hxs.1 hxs.2 _)))
            go_wp2
            go_roundw
            case rel =>
              refine ⟨m + 2, by omega, by go_num, Lib.hid (fun k hk => ?_), below_drewN ((Hb.out).alloc hsz _) _⟩
              by_cases hk2 : k < m + 1
              · exact hok.out k hk2
              · obtain rfl : k = m + 1 := by omega
                unfold okAt; rw [Hxe.out]; simp [Ho.out, Hye.out]; exact hl2
            case measure => simp [intOf]; omega
    · go_wp2
      go_ret
      exact ⟨by rw [chkE_ok (fun i hi => hok.out i (by omega))]; rfl, Hb.out⟩
end Go.Proofs.Ytoeiipkikpalaaa
