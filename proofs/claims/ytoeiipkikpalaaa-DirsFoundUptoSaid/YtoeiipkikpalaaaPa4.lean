/- Volumes, in plain words: what is found when one is looked through. -/
import Derived.Test.YtoeiipkikpalaaaPa3
import Derived.Test.YtoeiipkikpalaaaPa2
set_option linter.unusedVariables false
set_option linter.unusedSimpArgs false
namespace Go.Proofs.Ytoeiipkikpalaaa
/-- An item, its key taken apart. -/
structure Kt where
  k : Ky
  v : Bs
  deriving DecidableEq
structure PSt where
  all : List Kt
  ino : Nat → Option Ino
  up : Nat → Option (Nat × Nat)
def updF {α : Type _} (f : Nat → α) (i : Nat) (x : α) : Nat → α := fun j => if j = i then x else f j
def PSt.zero : PSt := ⟨[], fun _ => none, fun _ => none⟩
def inoZ : Ino := ⟨0, 0, 0, 0, []⟩
def PSt.inoAt (s : PSt) (i : Nat) : Ino := (s.ino i).getD inoZ
def PSt.upAt (s : PSt) (i : Nat) : Nat × Nat := (s.up i).getD (0, 0)
def PSt.add (s : PSt) (k : Ky) (v : Bs) : PSt := { s with all := s.all ++ [⟨k, v⟩] }
def PSt.addI (s : PSt) (k : Ky) (v : Bs) (n : Ino) : PSt := { s with all := s.all ++ [⟨k, v⟩], ino := updF s.ino k.ino (some n) }
def PSt.addE (s : PSt) (k : Ky) (v : Bs) : PSt := { s with all := s.all ++ [⟨k, v⟩], up := updF s.up (numE v) (some ((s.upAt (numE v)).1 + 1, k.ino)) }
def pstep (s : PSt) (x : It) : Option PSt :=
  match parKey x.key with
  | none => none
  | some k =>
    if k.kind = 1 then
      match decIno x.val with
      | none => none
      | some n => some (s.addI k x.val n)
    else if k.kind = 2 then some (s.addE k x.val)
    else some (s.add k x.val)
def parseL : PSt → List It → Option PSt
  | s, [] => some s
  | s, x :: l => match pstep s x with
    | none => none
    | some s' => parseL s' l
def parsed (l : List It) : Option PSt := match parseL PSt.zero l with
  | none => none
  | some s => if chk l = true ∧ (s.inoAt 1).kind = 1 then some s else none
def fitsB (s : PSt) (x : Kt) : Bool :=
  if x.k.kind = 2 then (s.ino x.k.ino).isSome && (s.ino (numE x.v)).isSome && (s.inoAt x.k.ino).kind == 1
  else if x.k.kind = 3 then (s.ino x.k.ino).isSome && (s.inoAt x.k.ino).kind == 2 && decide (1 ≤ x.v.length) && decide (x.v.length ≤ 128) && bt x.v (x.v.length - 1) != 0 && decide (x.k.chunk * 128 + x.v.length ≤ (s.inoAt x.k.ino).size)
  else if x.k.kind = 4 then (s.ino x.k.ino).isSome && decide (x.v.length ≤ 64)
  else (s.ino x.k.ino).isSome
def rootN (s : PSt) : Nat → Nat → Bool
  | 0, i => i == 1
  | n + 1, i => if i = 1 then true else rootN s n (s.upAt i).2
def linkB (s : PSt) (x : Kt) : Bool :=
  if x.k.kind ≠ 1 ∨ x.k.ino = 1 then true
  else (s.upAt x.k.ino).1 == (s.inoAt x.k.ino).links && ((s.inoAt x.k.ino).kind != 1 || rootN s s.all.length x.k.ino)
def lookOk (s : PSt) : Bool := s.all.all (fitsB s) && s.all.all (linkB s)
/-- What is known of a volume, when it is right. -/
def vol (l : List It) : Option PSt := match parsed l with
  | none => none
  | some s => if lookOk s then some s else none
/-- Bounds that hold while one is looked through. -/
def PSt.Ok (s : PSt) (n : Nat) : Prop :=
  s.all.length ≤ n ∧ (∀ x ∈ s.all, x.k.kind < 256 ∧ x.k.ino < 4294967296 ∧ x.k.chunk < 4294967296 ∧ x.k.name.length ≤ 1048576 ∧ x.v.length ≤ 1048576) ∧
  (∀ i m, s.ino i = some m → m.kind < 256 ∧ m.mode < 65536 ∧ m.links < 4294967296 ∧ m.size < 4294967296 ∧ m.target.length ≤ 1048576) ∧
  (∀ i p, s.up i = some p → p.1 ≤ n ∧ p.2 < 4294967296)
theorem Ok_zero : PSt.zero.Ok 0 := ⟨Nat.le_refl _, by simp [PSt.zero], by simp [PSt.zero], by simp [PSt.zero]⟩
theorem parseL_app (s : PSt) (l r : List It) : parseL s (l ++ r) = match parseL s l with | none => none | some s' => parseL s' r := by
  induction l generalizing s with
  | nil => rfl
  | cons x l ih => simp only [List.cons_append, parseL]; cases pstep s x with
    | none => rfl
    | some s' => exact ih s'
theorem parseL_take (l : List It) (i : Nat) (hi : i < l.length) : parseL PSt.zero (l.take (i + 1)) = match parseL PSt.zero (l.take i) with | none => none | some s => pstep s (l[i]'hi) := by
  rw [← List.take_append_getElem hi, parseL_app]
  cases parseL PSt.zero (l.take i) with
  | none => rfl
  | some s => simp only [parseL]; cases pstep s (l[i]'hi) <;> rfl
theorem parseL_none (l : List It) (i : Nat) (h : parseL PSt.zero (l.take i) = none) : parseL PSt.zero l = none := by
  rw [← List.take_append_drop i l, parseL_app, h]
theorem numE_lt (s : Bs) : numE s < 4294967296 := by
  unfold numE; split
  · rename_i h; have := beNat_lt s; rw [h.1] at this; omega
  · omega
theorem numE_ne_one (s : Bs) : numE s ≠ 1 := by
  unfold numE; split
  · rename_i h; have := h.2; omega
  · omega
theorem parKey_ok {s : Bs} {k : Ky} (h : parKey s = some k) : k.kind < 5 ∧ k.ino < 4294967296 ∧ k.chunk < 4294967296 ∧ k.name.length ≤ s.length ∧ keyOk k = true ∧ keyRaw k = s := by
  unfold parKey at h
  split at h; · cases h
  split at h; · cases h
  split at h
  · rename_i hk
    split at h
    · rename_i hr
      have hk0 := hk
      have e : k = parN s := by simpa using h.symm
      subst e
      refine ⟨?_, ?_, ?_, ?_, hk0, hr⟩
      · unfold parN; have := kindOf_lt (bt s 0); split <;> simp <;> omega
      · unfold parN; have := tkN_lt s.tail 4; split <;> simpa [pA] using this
      · unfold parN; have := tkN_lt (pA s).2.1 4
        split
        · simpa [pB] using this
        · simp
      · unfold parN; have := tkN_len s.tail 4
        have h2 : s.tail.length ≤ s.length := by simp
        split
        · simp
        · simp only [pA]; omega
    · cases h
  · cases h
theorem decIno_ok {s : Bs} {n : Ino} (h : decIno s = some n) : n.kind < 256 ∧ n.mode < 65536 ∧ n.links < 4294967296 ∧ n.size < 4294967296 ∧ n.target.length ≤ s.length ∧ inoOk n = true := by
  unfold decIno at h
  split at h; · cases h
  split at h
  · split at h
    · rename_i hk
      have hk0 := hk
      have e : n = decN s := by simpa using h.symm
      subst e
      exact ⟨tkN_lt s 1, tkN_lt _ 2, tkN_lt _ 4, tkN_lt _ 4, dE_len s, hk0⟩
    · cases h
  · cases h
theorem pstep_ok {s s' : PSt} {n : Nat} {x : It} (hs : s.Ok n) (hk : x.key.length ≤ 1048576) (hv : x.val.length ≤ 1048576) (h : pstep s x = some s') : s'.Ok (n + 1) := by
  unfold pstep at h
  split at h; · cases h
  rename_i k hp
  obtain ⟨h1, h2, h3, h4, _, _⟩ := parKey_ok hp
  have hall : (s.all ++ [(⟨k, x.val⟩ : Kt)]).length ≤ n + 1 := by have := hs.1; simp; exact this
  have hb : ∀ y ∈ s.all ++ [(⟨k, x.val⟩ : Kt)], y.k.kind < 256 ∧ y.k.ino < 4294967296 ∧ y.k.chunk < 4294967296 ∧ y.k.name.length ≤ 1048576 ∧ y.v.length ≤ 1048576 := by
    intro y hy
    rcases List.mem_append.1 hy with hy | hy
    · exact hs.2.1 y hy
    · simp at hy; subst hy; exact ⟨by simp only; omega, h2, h3, by simp only; omega, hv⟩
  have hu : ∀ i p, s.up i = some p → p.1 ≤ n + 1 ∧ p.2 < 4294967296 := fun i p hp => ⟨Nat.le_succ_of_le (hs.2.2.2 i p hp).1, (hs.2.2.2 i p hp).2⟩
  split at h
  · split at h; · cases h
    rename_i m hm
    cases h
    refine ⟨hall, hb, ?_, hu⟩
    intro i q hq
    simp only [PSt.addI, updF] at hq
    split at hq
    · cases hq
      obtain ⟨g1, g2, g3, g4, g5, _⟩ := decIno_ok hm
      exact ⟨g1, g2, g3, g4, by omega⟩
    · exact hs.2.2.1 i q hq
  · split at h
    · cases h
      refine ⟨hall, hb, hs.2.2.1, ?_⟩
      intro i q hq
      simp only [PSt.addE, updF] at hq
      split at hq
      · cases hq
        refine ⟨?_, h2⟩
        simp only [PSt.upAt]
        cases hu0 : s.up (numE x.val) with
        | none => simp
        | some p => have := (hs.2.2.2 _ p hu0).1; simp; omega
      · exact hu i q hq
    · cases h
      exact ⟨hall, hb, hs.2.2.1, hu⟩
theorem Ok_upAt {s : PSt} {n : Nat} (h : s.Ok n) (i : Nat) : (s.upAt i).1 ≤ n ∧ (s.upAt i).2 < 4294967296 := by
  unfold PSt.upAt
  cases hu : s.up i with
  | none => simp
  | some p => simpa using h.2.2.2 i p hu
theorem Ok_inoAt {s : PSt} {n : Nat} (h : s.Ok n) (i : Nat) : (s.inoAt i).kind < 256 ∧ (s.inoAt i).mode < 65536 ∧ (s.inoAt i).links < 4294967296 ∧ (s.inoAt i).size < 4294967296 ∧ (s.inoAt i).target.length ≤ 1048576 := by
  unfold PSt.inoAt
  cases hu : s.ino i with
  | none => simp [inoZ]
  | some p => simpa using h.2.2.1 i p hu
end Go.Proofs.Ytoeiipkikpalaaa
