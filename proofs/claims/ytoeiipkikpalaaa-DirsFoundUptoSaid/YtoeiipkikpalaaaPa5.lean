/- Plain facts: what is known of a volume that is right; its entries; going along names; the laws of directories. -/
import Derived.Test.YtoeiipkikpalaaaPa4
set_option linter.unusedVariables false
set_option linter.unusedSimpArgs false
namespace Go.Proofs.Ytoeiipkikpalaaa
/-! ### keys are told apart -/
theorem letterOf_inj {a b : Nat} (ha : 1 ≤ a ∧ a ≤ 4) (hb : 1 ≤ b ∧ b ≤ 4) (h : letterOf a = letterOf b) : a = b := by
  obtain ⟨a1, a2⟩ := ha
  obtain ⟨b1, b2⟩ := hb
  have h1 : a = 1 ∨ a = 2 ∨ a = 3 ∨ a = 4 := by omega
  have h2 : b = 1 ∨ b = 2 ∨ b = 3 ∨ b = 4 := by omega
  rcases h1 with rfl | rfl | rfl | rfl <;> rcases h2 with rfl | rfl | rfl | rfl <;> first | rfl | (simp [letterOf] at h)
theorem keyOk_kind {k : Ky} (h : keyOk k = true) : 1 ≤ k.kind ∧ k.kind ≤ 4 := by
  unfold keyOk at h
  split at h <;> first | omega | cases h
theorem keyOk_ino {k : Ky} (h : keyOk k = true) : 0 < k.ino := by
  unfold keyOk at h
  split at h <;> first | (simp at h; omega) | cases h
theorem prefixB_eq {kd ino : Nat} (h : 1 ≤ kd ∧ kd ≤ 4) : prefixB kd ino = letterOf kd :: be 4 ino := by
  obtain ⟨a1, a2⟩ := h
  have h1 : kd = 1 ∨ kd = 2 ∨ kd = 3 ∨ kd = 4 := by omega
  unfold prefixB
  rcases h1 with rfl | rfl | rfl | rfl <;> rw [if_neg (by decide)]
theorem prefixB_len {kd ino : Nat} (h : 1 ≤ kd ∧ kd ≤ 4) : (prefixB kd ino).length = 5 := by rw [prefixB_eq h]; simp [be_length]
theorem prefixB_inj {a b i j : Nat} (ha : 1 ≤ a ∧ a ≤ 4) (hb : 1 ≤ b ∧ b ≤ 4) (hi : i < 4294967296) (hj : j < 4294967296) (h : prefixB a i = prefixB b j) : a = b ∧ i = j := by
  rw [prefixB_eq ha, prefixB_eq hb] at h
  injection h with h1 h2
  exact ⟨letterOf_inj ha hb h1, be_inj (w := 4) (by omega) (by omega) h2⟩
def keyTail (k : Ky) : Bs := if k.kind = 3 then be 4 k.chunk else k.name
theorem keyRaw_eq (k : Ky) : keyRaw k = prefixB k.kind k.ino ++ keyTail k := rfl
theorem keyRaw_inj {a b : Ky} (ha : keyOk a = true) (hb : keyOk b = true) (hai : a.ino < 4294967296) (hbi : b.ino < 4294967296) (h : keyRaw a = keyRaw b) : a = b := by
  have ka := keyOk_kind ha
  have kb := keyOk_kind hb
  rw [keyRaw_eq, keyRaw_eq] at h
  obtain ⟨h1, h2⟩ := List.append_inj h (by rw [prefixB_len ka, prefixB_len kb])
  obtain ⟨e1, e2⟩ := prefixB_inj ka kb hai hbi h1
  obtain ⟨k1, i1, n1, c1⟩ := a
  obtain ⟨k2, i2, n2, c2⟩ := b
  simp only at e1 e2
  subst e1; subst e2
  simp only [keyTail] at h2
  simp only at ka
  obtain ⟨a1, a2⟩ := ka
  have h3 : k1 = 1 ∨ k1 = 2 ∨ k1 = 3 ∨ k1 = 4 := by omega
  rcases h3 with rfl | rfl | rfl | rfl
  · simp [keyOk] at ha hb
    rw [ha.1.2, hb.1.2, ha.2, hb.2]
  · simp [keyOk] at ha hb h2
    rw [h2, ha.2, hb.2]
  · simp [keyOk] at ha hb h2
    rw [ha.1.2, hb.1.2, be_inj (w := 4) (by omega) (by omega) h2]
  · simp [keyOk] at ha hb h2
    rw [h2, ha.2, hb.2]
/-! ### what is kept by a key -/
theorem getL_iff {l : List It} (h : chk l = true) (k v : Bs) : getL l k = some v ↔ (⟨k, v⟩ : It) ∈ l := by
  have hr := chk_rise h
  constructor
  · intro hg
    unfold getL at hg
    split at hg
    · rename_i x hx
      split at hg
      · rename_i hk
        injection hg with hg
        subst hg; subst hk
        exact List.mem_of_getElem? hx
      · cases hg
    · cases hg
  · intro hm
    obtain ⟨i, hi, hx⟩ := List.mem_iff_getElem.1 hm
    have hp := posL_of hr i hi
    rw [hx] at hp
    simp only at hp
    unfold getL
    rw [hp, List.getElem?_eq_getElem hi, hx]
    simp
theorem getL_none {l : List It} (h : chk l = true) (k : Bs) : getL l k = none ↔ ∀ v, (⟨k, v⟩ : It) ∉ l := by
  constructor
  · intro hg v hm
    rw [(getL_iff h k v).2 hm] at hg
    cases hg
  · intro hn
    cases hg : getL l k with
    | none => rfl
    | some v => exact absurd ((getL_iff h k v).1 hg) (hn v)
/-! ### what was found when a volume was looked through -/
def Kt.it (x : Kt) : It := ⟨keyRaw x.k, x.v⟩
/-- What holds of what was found. -/
structure Fd (s : PSt) (l : List It) : Prop where
  its : s.all.map Kt.it = l
  ok : ∀ x ∈ s.all, keyOk x.k = true ∧ x.k.kind < 5 ∧ x.k.ino < 4294967296 ∧ x.k.chunk < 4294967296
  ino : ∀ i n, s.ino i = some n → ∃ x ∈ s.all, x.k.kind = 1 ∧ x.k.ino = i
theorem Fd.zero : Fd PSt.zero [] := ⟨rfl, by simp [PSt.zero], by simp [PSt.zero]⟩
theorem Fd.step {s s' : PSt} {l : List It} {x : It} (h : Fd s l) (hs : pstep s x = some s') : Fd s' (l ++ [x]) := by
  unfold pstep at hs
  split at hs; · cases hs
  rename_i k hp
  obtain ⟨h1, h2, h3, h4, h5, h6⟩ := parKey_ok hp
  have ha : (s.all ++ [(⟨k, x.val⟩ : Kt)]).map Kt.it = l ++ [x] := by
    rw [List.map_append, h.its]
    simp [Kt.it, h6]
  have hb : ∀ y ∈ s.all ++ [(⟨k, x.val⟩ : Kt)], keyOk y.k = true ∧ y.k.kind < 5 ∧ y.k.ino < 4294967296 ∧ y.k.chunk < 4294967296 := by
    intro y hy
    rcases List.mem_append.1 hy with hy | hy
    · exact h.ok y hy
    · simp at hy; subst hy; exact ⟨h5, h1, h2, h3⟩
  have hold : ∀ i n, s.ino i = some n → ∃ y ∈ s.all ++ [(⟨k, x.val⟩ : Kt)], y.k.kind = 1 ∧ y.k.ino = i := fun i n hn => by
    obtain ⟨y, hy, hk⟩ := h.ino i n hn
    exact ⟨y, List.mem_append_left _ hy, hk⟩
  split at hs
  · rename_i hk1
    split at hs; · cases hs
    cases hs
    refine ⟨ha, hb, ?_⟩
    intro i n hn
    simp only [PSt.addI, updF] at hn
    split at hn
    · rename_i e
      exact ⟨⟨k, x.val⟩, by simp [PSt.addI], hk1, e.symm⟩
    · exact hold i n hn
  · split at hs
    · cases hs; exact ⟨ha, hb, hold⟩
    · cases hs; exact ⟨ha, hb, hold⟩
theorem Fd.parse {l m : List It} {s s' : PSt} (h : Fd s m) (hs : parseL s l = some s') : Fd s' (m ++ l) := by
  induction l generalizing s m with
  | nil => simp only [parseL] at hs; cases hs; simpa using h
  | cons x l ih =>
    simp only [parseL] at hs
    split at hs; · cases hs
    rename_i s1 h1
    have := ih (h.step h1) hs
    simpa using this
/-- What holds of a right volume. -/
structure Vl (s : PSt) (l : List It) : Prop where
  fd : Fd s l
  chk : chk l = true
  root : (s.inoAt 1).kind = 1
  fits : ∀ x ∈ s.all, fitsB s x = true
  links : ∀ x ∈ s.all, linkB s x = true
theorem vol_vl {l : List It} {s : PSt} (h : vol l = some s) : Vl s l := by
  unfold vol at h
  split at h; · cases h
  rename_i s1 hp
  split at h
  · rename_i hl
    cases h
    unfold parsed at hp
    split at hp; · cases hp
    rename_i s2 hs
    split at hp
    · rename_i hc
      cases hp
      have hf := Fd.zero.parse hs
      rw [List.nil_append] at hf
      unfold lookOk at hl
      rw [Bool.and_eq_true, List.all_eq_true, List.all_eq_true] at hl
      exact ⟨hf, hc.1, hc.2, hl.1, hl.2⟩
    · cases hp
  · cases h
theorem inoAt_some {s : PSt} {i : Nat} (h : (s.inoAt i).kind ≠ 0) : ∃ n, s.ino i = some n ∧ s.inoAt i = n := by
  unfold PSt.inoAt at h ⊢
  cases hi : s.ino i with
  | none => rw [hi] at h; exact absurd rfl h
  | some n => exact ⟨n, rfl, rfl⟩
theorem Vl.has_root {s : PSt} {l : List It} (h : Vl s l) : (s.ino 1).isSome = true := by
  obtain ⟨n, hn, _⟩ := inoAt_some (s := s) (i := 1) (by rw [h.root]; decide)
  rw [hn]; rfl
theorem Vl.ino0 {s : PSt} {l : List It} (h : Vl s l) : s.ino 0 = none := by
  cases h0 : s.ino 0 with
  | none => rfl
  | some n =>
    obtain ⟨x, hx, _, hi⟩ := h.fd.ino 0 n h0
    have := keyOk_ino (h.fd.ok x hx).1
    omega
theorem Vl.mem {s : PSt} {l : List It} (h : Vl s l) {x : Kt} (hx : x ∈ s.all) : x.it ∈ l := by
  rw [← h.fd.its]; exact List.mem_map_of_mem hx
/-- An item with a key that may be is one that was found. -/
theorem Vl.find {s : PSt} {l : List It} (h : Vl s l) {k : Ky} {v : Bs} (hk : keyOk k = true) (hi : k.ino < 4294967296) (hm : (⟨keyRaw k, v⟩ : It) ∈ l) : (⟨k, v⟩ : Kt) ∈ s.all := by
  rw [← h.fd.its] at hm
  obtain ⟨x, hx, he⟩ := List.mem_map.1 hm
  unfold Kt.it at he
  injection he with e1 e2
  obtain ⟨o1, _, o3, _⟩ := h.fd.ok x hx
  have := keyRaw_inj o1 hk o3 hi e1
  obtain ⟨xk, xv⟩ := x
  simp only at this e2
  rw [← this, ← e2]; exact hx
/-! ### entries -/
/-- What a directory has by a name; 0: nothing. -/
def entL (l : List It) (d : Nat) (nm : Bs) : Nat := match keyB ⟨2, d, nm, 0⟩ with
  | none => 0
  | some k => numE ((getL l k).getD [])
theorem numE_nil : numE [] = 0 := rfl
theorem entL_lt (l : List It) (d : Nat) (nm : Bs) : entL l d nm < 4294967296 := by
  unfold entL; split
  · omega
  · exact numE_lt _
theorem entL_ne_one (l : List It) (d : Nat) (nm : Bs) : entL l d nm ≠ 1 := by
  unfold entL; split
  · omega
  · exact numE_ne_one _
theorem Vl.entry {s : PSt} {l : List It} (h : Vl s l) {d : Nat} {nm : Bs} (hd : d < 4294967296) (hn : entL l d nm ≠ 0) : ∃ v, (⟨⟨2, d, nm, 0⟩, v⟩ : Kt) ∈ s.all ∧ entL l d nm = numE v := by
  unfold entL at hn ⊢
  unfold keyB at hn ⊢
  cases hk : keyOk ⟨2, d, nm, 0⟩
  · rw [hk] at hn; simp at hn
  · rw [hk] at hn
    simp only [if_true] at hn ⊢
    cases hg : getL l (keyRaw ⟨2, d, nm, 0⟩) with
    | none => rw [hg] at hn; simp [numE_nil] at hn
    | some v => exact ⟨v, h.find hk hd ((getL_iff h.chk _ _).1 hg), rfl⟩
theorem Vl.entry_of {s : PSt} {l : List It} (h : Vl s l) {x : Kt} (hx : x ∈ s.all) (hk : x.k.kind = 2) : entL l x.k.ino x.k.name = numE x.v := by
  have ho := (h.fd.ok x hx).1
  obtain ⟨⟨kd, ino, nm, ch⟩, v⟩ := x
  simp only at hk ho ⊢
  subst hk
  have hch : ch = 0 := by simp [keyOk] at ho; exact ho.2
  subst hch
  unfold entL keyB
  rw [ho]
  simp only [if_true]
  rw [(getL_iff h.chk _ v).2 (h.mem hx)]
  rfl
theorem Vl.entry_fits {s : PSt} {l : List It} (h : Vl s l) {x : Kt} (hx : x ∈ s.all) (hk : x.k.kind = 2) : (s.ino x.k.ino).isSome = true ∧ (s.ino (numE x.v)).isSome = true ∧ (s.inoAt x.k.ino).kind = 1 := by
  have hf := h.fits x hx
  unfold fitsB at hf
  rw [if_pos hk] at hf
  simpa [Bool.and_eq_true, and_assoc] using hf
theorem Vl.ent_there {s : PSt} {l : List It} (h : Vl s l) {d : Nat} {nm : Bs} (hd : d < 4294967296) (hn : entL l d nm ≠ 0) : (s.ino (entL l d nm)).isSome = true := by
  obtain ⟨v, hv, he⟩ := h.entry hd hn
  rw [he]; exact (h.entry_fits hv rfl).2.1
/-! ### going along names -/
def walkN (s : PSt) (l : List It) (fo : Bool) (f : Nat) (names : List Bs) (at' : Nat) : Nat × Nat :=
  match names with
  | [] => (at', 0)
  | nm :: r =>
    if (s.inoAt at').kind ≠ 1 then (0, 12)
    else if entL l at' nm = 0 then (0, 5)
    else if (s.inoAt (entL l at' nm)).kind ≠ 3 ∨ (r = [] ∧ fo = false) then walkN s l fo f r (entL l at' nm)
    else match f with
      | 0 => (0, 15)
      | g + 1 => if (splitB (s.inoAt (entL l at' nm)).target).2 = 0 then walkN s l fo g ((splitB (s.inoAt (entL l at' nm)).target).1 ++ r) 1 else (0, (splitB (s.inoAt (entL l at' nm)).target).2)
termination_by (f, names.length)
theorem walkN_nil (s : PSt) (l : List It) (fo : Bool) (f a : Nat) : walkN s l fo f [] a = (a, 0) := by rw [walkN]
theorem walkN_cons (s : PSt) (l : List It) (fo : Bool) (f : Nat) (nm : Bs) (r : List Bs) (a : Nat) : walkN s l fo f (nm :: r) a =
    if (s.inoAt a).kind ≠ 1 then (0, 12)
    else if entL l a nm = 0 then (0, 5)
    else if (s.inoAt (entL l a nm)).kind ≠ 3 ∨ (r = [] ∧ fo = false) then walkN s l fo f r (entL l a nm)
    else match f with
      | 0 => (0, 15)
      | g + 1 => if (splitB (s.inoAt (entL l a nm)).target).2 = 0 then walkN s l fo g ((splitB (s.inoAt (entL l a nm)).target).1 ++ r) 1 else (0, (splitB (s.inoAt (entL l a nm)).target).2) := by
  rw [walkN.eq_def]
theorem walk_ok_ne {s : PSt} {l : List It} {fo : Bool} {f : Nat} {names : List Bs} {a : Nat} : (walkN s l fo f names a).2 ≠ 0 → (walkN s l fo f names a).1 = 0 := by
  fun_induction walkN s l fo f names a <;> simp_all
/-- Where one comes to is there. -/
theorem walk_there {s : PSt} {l : List It} (h : Vl s l) {fo : Bool} {f : Nat} {names : List Bs} {a : Nat} (ha : a < 4294967296) (hs : (s.ino a).isSome = true) (hok : (walkN s l fo f names a).2 = 0) :
    (s.ino (walkN s l fo f names a).1).isSome = true ∧ (walkN s l fo f names a).1 < 4294967296 := by
  revert ha hs hok
  fun_induction walkN s l fo f names a with
  | case1 => intro ha hs _; exact ⟨hs, ha⟩
  | case2 => intro _ _ hk; cases hk
  | case3 => intro _ _ hk; cases hk
  | case4 f a nm r h1 h2 h3 ih => intro ha hs hk; exact ih (entL_lt _ _ _) (h.ent_there ha h2) hk
  | case5 => intro _ _ hk; cases hk
  | case6 a nm r h1 h2 h3 g h4 ih => intro ha hs hk; exact ih (by omega) h.has_root hk
  | case7 a nm r h1 h2 h3 g h4 => intro _ _ hk; exact absurd hk h4
theorem walk_no_link {s : PSt} {l : List It} (h : Vl s l) {f : Nat} {names : List Bs} {a : Nat} (ha : (s.inoAt a).kind ≠ 3) (hok : (walkN s l true f names a).2 = 0) :
    (s.inoAt (walkN s l true f names a).1).kind ≠ 3 := by
  generalize hfo : true = fo at *
  revert ha hok
  fun_induction walkN s l fo f names a with
  | case1 => intro ha _; exact ha
  | case2 => intro _ hk; cases hk
  | case3 => intro _ hk; cases hk
  | case4 f a nm r h1 h2 h3 ih =>
    intro _ hk
    refine ih ?_ hk
    rcases h3 with h3 | ⟨_, h3⟩
    · exact h3
    · rw [← hfo] at h3; cases h3
  | case5 => intro _ hk; cases hk
  | case6 a nm r h1 h2 h3 g h4 ih => intro _ hk; exact ih (by rw [h.root]; decide) hk
  | case7 a nm r h1 h2 h3 g h4 => intro _ hk; exact absurd hk h4
/-- Following the last link or not: the same, but where a link is the last. -/
theorem walk_both {s : PSt} {l : List It} {f : Nat} {names : List Bs} {a : Nat} :
    ((walkN s l false f names a).2 ≠ 0 → walkN s l true f names a = walkN s l false f names a) ∧
    ((walkN s l false f names a).2 = 0 → (s.inoAt (walkN s l false f names a).1).kind ≠ 3 → walkN s l true f names a = walkN s l false f names a) := by
  generalize hfo : false = fo at *
  fun_induction walkN s l fo f names a with
  | case1 => exact ⟨fun h => absurd rfl h, fun _ _ => walkN_nil ..⟩
  | case2 f a nm r h1 => exact ⟨fun _ => by rw [walkN_cons, if_pos h1], fun h => (nomatch h)⟩
  | case3 f a nm r h1 h2 => exact ⟨fun _ => by rw [walkN_cons, if_neg h1, if_pos h2], fun h => (nomatch h)⟩
  | case4 f a nm r h1 h2 h3 ih =>
    subst hfo
    by_cases h4 : (s.inoAt (entL l a nm)).kind ≠ 3
    · rw [walkN_cons, if_neg h1, if_neg h2, if_pos (Or.inl h4)]; exact ih
    · have hr : r = [] := by rcases h3 with h3 | h3; exact absurd h3 h4; exact h3.1
      subst hr
      rw [walkN_nil]
      exact ⟨fun h => absurd rfl h, fun _ h => absurd h h4⟩
  | case5 a nm r h1 h2 h3 =>
    refine ⟨fun _ => ?_, fun h => (nomatch h)⟩
    rw [walkN_cons, if_neg h1, if_neg h2, if_neg]
    rintro (h | ⟨_, h⟩)
    · exact h3 (Or.inl h)
    · cases h
  | case6 a nm r h1 h2 h3 g h4 ih =>
    have : walkN s l true (g + 1) (nm :: r) a = walkN s l true g ((splitB (s.inoAt (entL l a nm)).target).1 ++ r) 1 := by
      rw [walkN_cons, if_neg h1, if_neg h2, if_neg]
      · simp only; rw [if_pos h4]
      · rintro (h | ⟨_, h⟩)
        · exact h3 (Or.inl h)
        · cases h
    rw [this]; exact ih
  | case7 a nm r h1 h2 h3 g h4 =>
    refine ⟨fun _ => ?_, fun h => absurd h h4⟩
    rw [walkN_cons, if_neg h1, if_neg h2, if_neg]
    · simp only; rw [if_neg h4]
    · rintro (h | ⟨_, h⟩)
      · exact h3 (Or.inl h)
      · cases h
/-- Going along more names: first along the first ones, following; then on. -/
theorem walk_more {s : PSt} {l : List It} {fo : Bool} {f : Nat} {p q : List Bs} (hq : q ≠ []) {a : Nat} :
    ((walkN s l true f p a).2 = 0 → ∃ g, walkN s l fo f (p ++ q) a = walkN s l fo g q (walkN s l true f p a).1) ∧
    ((walkN s l true f p a).2 ≠ 0 → walkN s l fo f (p ++ q) a = walkN s l true f p a) := by
  generalize ht : true = tr at *
  fun_induction walkN s l tr f p a with
  | case1 f a => exact ⟨fun _ => ⟨f, rfl⟩, fun h => absurd rfl h⟩
  | case2 f a nm r h1 => exact ⟨fun h => (nomatch h), fun _ => by rw [List.cons_append, walkN_cons, if_pos h1]⟩
  | case3 f a nm r h1 h2 => exact ⟨fun h => (nomatch h), fun _ => by rw [List.cons_append, walkN_cons, if_neg h1, if_pos h2]⟩
  | case4 f a nm r h1 h2 h3 ih =>
    have h4 : (s.inoAt (entL l a nm)).kind ≠ 3 := by
      rcases h3 with h3 | ⟨_, h3⟩
      · exact h3
      · rw [← ht] at h3; cases h3
    rw [List.cons_append, walkN_cons, if_neg h1, if_neg h2, if_pos (Or.inl h4)]; exact ih
  | case5 a nm r h1 h2 h3 =>
    refine ⟨fun h => (nomatch h), fun _ => ?_⟩
    rw [List.cons_append, walkN_cons, if_neg h1, if_neg h2, if_neg]
    rintro (h | ⟨h, _⟩)
    · exact h3 (Or.inl h)
    · exact hq (List.append_eq_nil_iff.1 h).2
  | case6 a nm r h1 h2 h3 g h4 ih =>
    have : walkN s l fo (g + 1) (nm :: (r ++ q)) a = walkN s l fo g (((splitB (s.inoAt (entL l a nm)).target).1 ++ r) ++ q) 1 := by
      rw [walkN_cons, if_neg h1, if_neg h2, if_neg]
      · simp only; rw [if_pos h4, List.append_assoc]
      · rintro (h | ⟨h, _⟩)
        · exact h3 (Or.inl h)
        · exact hq (List.append_eq_nil_iff.1 h).2
    rw [List.cons_append, this]; exact ih
  | case7 a nm r h1 h2 h3 g h4 =>
    refine ⟨fun h => absurd h h4, fun _ => ?_⟩
    rw [List.cons_append, walkN_cons, if_neg h1, if_neg h2, if_neg]
    · simp only; rw [if_neg h4]
    · rintro (h | ⟨h, _⟩)
      · exact h3 (Or.inl h)
      · exact hq (List.append_eq_nil_iff.1 h).2
end Go.Proofs.Ytoeiipkikpalaaa
