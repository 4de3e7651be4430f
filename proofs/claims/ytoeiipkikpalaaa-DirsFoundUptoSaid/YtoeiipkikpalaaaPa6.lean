/- Plain facts: what a directory has, the next number; the laws of directories, in plain words. -/
import Derived.Test.YtoeiipkikpalaaaPa5
set_option linter.unusedVariables false
set_option linter.unusedSimpArgs false
namespace Go.Proofs.Ytoeiipkikpalaaa
structure En where
  name : Bs
  ino : Nat
  kind : Nat
  deriving DecidableEq
def enOf (s : PSt) (x : Kt) : En := ⟨x.k.name, numE x.v, (s.inoAt (numE x.v)).kind⟩
def isIn (d : Nat) (x : Kt) : Bool := x.k.kind == 2 && x.k.ino == d
def lsOf (s : PSt) (d : Nat) (xs : List Kt) : List En := (xs.filter (isIn d)).map (enOf s)
def lsL (s : PSt) (d : Nat) : List En := lsOf s d s.all
theorem lsOf_take (s : PSt) (d : Nat) (xs : List Kt) (i : Nat) (hi : i < xs.length) : lsOf s d (xs.take (i + 1)) = lsOf s d (xs.take i) ++ (if isIn d (xs[i]'hi) then [enOf s (xs[i]'hi)] else []) := by
  rw [← List.take_append_getElem hi]
  unfold lsOf
  rw [List.filter_append, List.map_append]
  congr 1
  by_cases h : isIn d (xs[i]'hi) = true
  · simp [h]
  · simp [h]
theorem lsOf_len (s : PSt) (d : Nat) (xs : List Kt) : (lsOf s d xs).length ≤ xs.length := by
  unfold lsOf; rw [List.length_map]; exact List.length_filter_le _ _
theorem lsL_mem {s : PSt} {d : Nat} {e : En} (h : e ∈ lsL s d) : ∃ x ∈ s.all, x.k.kind = 2 ∧ x.k.ino = d ∧ e = enOf s x := by
  unfold lsL lsOf at h
  obtain ⟨x, hx, he⟩ := List.mem_map.1 h
  obtain ⟨hx, hk⟩ := List.mem_filter.1 hx
  unfold isIn at hk
  rw [Bool.and_eq_true, beq_iff_eq, beq_iff_eq] at hk
  exact ⟨x, hx, hk.1, hk.2, he.symm⟩
theorem lsL_of {s : PSt} {d : Nat} {x : Kt} (hx : x ∈ s.all) (h1 : x.k.kind = 2) (h2 : x.k.ino = d) : enOf s x ∈ lsL s d :=
  List.mem_map_of_mem (List.mem_filter.2 ⟨hx, by simp [isIn, h1, h2]⟩)
theorem lt_app (p a b : Bs) : lt (p ++ a) (p ++ b) = lt a b := by
  induction p with
  | nil => rfl
  | cons x p ih => rw [List.cons_append, List.cons_append, lt_cons, ih]; simp [UInt8.lt_irrefl]
/-- What a directory has is in the order of the names. -/
theorem lsL_rise {s : PSt} {l : List It} (h : Vl s l) (d : Nat) : (lsL s d).Pairwise (fun a b => lt a.name b.name = true) := by
  have h1 : l.Pairwise (fun a b => lt a.key b.key = true) := by
    rw [List.pairwise_iff_getElem]
    intro i j hi hj hij
    exact chk_rise h.chk i j hi hj hij
  rw [← h.fd.its, List.pairwise_map] at h1
  unfold lsL lsOf
  rw [List.pairwise_map]
  refine (h1.filter (isIn d)).imp_of_mem ?_
  intro a b ha hb hab
  have ka := (List.mem_filter.1 ha).2
  have kb := (List.mem_filter.1 hb).2
  unfold isIn at ka kb
  rw [Bool.and_eq_true, beq_iff_eq, beq_iff_eq] at ka kb
  simp only [Kt.it, keyRaw_eq, keyTail] at hab
  rw [ka.1, ka.2, kb.1, kb.2, lt_app] at hab
  simpa [enOf] using hab
/-! ### the next number -/
def nextF (s : PSt) : Nat → Nat → Nat
  | 0, n => n
  | f + 1, n => if (s.ino n).isSome then nextF s f (n + 1) else n
def nextN (s : PSt) : Nat := nextF s (s.all.length + 1) 2
theorem nextF_le (s : PSt) (f n : Nat) : n ≤ nextF s f n ∧ nextF s f n ≤ n + f := by
  induction f generalizing n with
  | zero => exact ⟨Nat.le_refl _, Nat.le_refl _⟩
  | succ f ih =>
    unfold nextF; split
    · have := ih (n + 1); omega
    · omega
theorem nextF_all (s : PSt) (f n : Nat) (h : s.ino (nextF s f n) ≠ none) : ∀ j, n ≤ j → j ≤ n + f → s.ino j ≠ none := by
  induction f generalizing n with
  | zero => intro j h1 h2; have : j = n := by omega
            subst this; exact h
  | succ f ih =>
    unfold nextF at h
    split at h
    · rename_i hs
      intro j h1 h2
      by_cases e : j = n
      · subst e; intro hc; rw [hc] at hs; cases hs
      · exact ih (n + 1) h j (by omega) (by omega)
    · rename_i hs
      exact absurd (by simpa using hs) h
theorem pigeon (L : List Nat) (n k : Nat) (h : ∀ j, n ≤ j → j < n + k → j ∈ L) : k ≤ L.length := by
  induction k generalizing L with
  | zero => omega
  | succ k ih =>
    have hm : n + k ∈ L := h (n + k) (by omega) (by omega)
    have := ih (L.erase (n + k)) (fun j h1 h2 => (List.mem_erase_of_ne (by omega)).2 (h j h1 (by omega)))
    rw [List.length_erase_of_mem hm] at this
    have := List.length_pos_of_mem hm
    omega
theorem next_free {s : PSt} {l : List It} (h : Vl s l) : s.ino (nextN s) = none := by
  cases hn : s.ino (nextN s) with
  | none => rfl
  | some n =>
    exfalso
    have ha := nextF_all s (s.all.length + 1) 2 (by unfold nextN at hn; rw [hn]; simp)
    have := pigeon (s.all.map (fun x => x.k.ino)) 2 (s.all.length + 2) (fun j h1 h2 => by
      have hj := ha j h1 (by omega)
      cases hs : s.ino j with
      | none => exact absurd hs hj
      | some m =>
        obtain ⟨x, hx, _, hi⟩ := h.fd.ino j m hs
        exact List.mem_map.2 ⟨x, hx, hi⟩)
    rw [List.length_map] at this
    omega
theorem next_bounds (s : PSt) : 2 ≤ nextN s ∧ nextN s ≤ s.all.length + 3 := by have := nextF_le s (s.all.length + 1) 2; unfold nextN; omega
theorem nextF_step {s : PSt} {f n : Nat} (h : (s.ino n).isSome = true) : nextF s (f + 1) n = nextF s f (n + 1) := by rw [nextF, if_pos h]
theorem nextF_stop {s : PSt} {f n : Nat} (h : (s.ino n).isSome = false) : nextF s f n = n := by
  cases f with
  | zero => rfl
  | succ f => rw [nextF, if_neg (by rw [h]; decide)]
/-! ### the laws -/
/-- Whoever gets along names gets along the first ones of them, to a directory. -/
theorem way {s : PSt} {l : List It} {names : List Bs} {n : Nat} (hn : n < names.length) (hw : (walkN s l false 8 names 1).2 = 0) :
    (walkN s l true 8 (names.take n) 1).2 = 0 ∧ (s.inoAt (walkN s l true 8 (names.take n) 1).1).kind = 1 := by
  have hq : names.drop n ≠ [] := by intro h; have := congrArg List.length h; simp at this; omega
  have hm := walk_more (s := s) (l := l) (fo := false) (f := 8) (p := names.take n) hq (a := 1)
  rw [List.take_append_drop] at hm
  by_cases h0 : (walkN s l true 8 (names.take n) 1).2 = 0
  · refine ⟨h0, ?_⟩
    obtain ⟨g, hg⟩ := hm.1 h0
    rw [hg] at hw
    obtain ⟨nm, r, e⟩ := List.exists_cons_of_ne_nil hq
    rw [e, walkN_cons] at hw
    by_cases hk : (s.inoAt (walkN s l true 8 (names.take n) 1).1).kind = 1
    · exact hk
    · rw [if_pos hk] at hw; cases hw
  · rw [hm.2 h0] at hw; exact absurd hw h0
/-- Where one comes to, following links, is no link. -/
theorem links_law {s : PSt} {l : List It} (h : Vl s l) (names : List Bs) :
    ((walkN s l true 8 names 1).2 = 0 → (s.ino (walkN s l true 8 names 1).1).isSome = true ∧ (s.inoAt (walkN s l true 8 names 1).1).kind ≠ 3 ∧ (walkN s l false 8 names 1).2 = 0) ∧
    ((walkN s l false 8 names 1).2 ≠ 0 → (walkN s l true 8 names 1).2 = (walkN s l false 8 names 1).2) ∧
    ((walkN s l false 8 names 1).2 = 0 → (s.ino (walkN s l false 8 names 1).1).isSome = true ∧ ((s.inoAt (walkN s l false 8 names 1).1).kind ≠ 3 → walkN s l true 8 names 1 = walkN s l false 8 names 1)) := by
  have hb := walk_both (s := s) (l := l) (f := 8) (names := names) (a := 1)
  refine ⟨fun h0 => ⟨(walk_there h (by omega) h.has_root h0).1, walk_no_link h (by rw [h.root]; decide) h0, ?_⟩, fun h0 => by rw [hb.1 h0], fun h0 => ⟨(walk_there h (by omega) h.has_root h0).1, hb.2 h0⟩⟩
  by_cases h1 : (walkN s l false 8 names 1).2 = 0
  · exact h1
  · rw [hb.1 h1] at h0; exact h0
/-- Each entry that is listed leads to an inode that is there, and its own; it is not the root, nor free. -/
theorem ls_law {s : PSt} {l : List It} (h : Vl s l) {d : Nat} {e : En} (he : e ∈ lsL s d) :
    (s.ino e.ino).isSome = true ∧ (s.inoAt e.ino).kind = e.kind ∧ e.ino ≠ 1 ∧ e.ino ≠ nextN s ∧ e.ino ≠ 0 ∧ e.ino < 4294967296 ∧ (s.inoAt d).kind = 1 ∧ entL l d e.name = e.ino := by
  obtain ⟨x, hx, h1, h2, rfl⟩ := lsL_mem he
  obtain ⟨f1, f2, f3⟩ := h.entry_fits hx h1
  refine ⟨f2, rfl, numE_ne_one _, ?_, ?_, numE_lt _, by rw [← h2]; exact f3, by rw [← h2]; exact h.entry_of hx h1⟩
  · intro hc
    simp only [enOf] at hc
    rw [hc, next_free h] at f2
    cases f2
  · intro hc
    simp only [enOf] at hc
    rw [hc, h.ino0] at f2
    cases f2
/-- A name more, behind names that lead to a directory. -/
theorem found_one {s : PSt} {l : List It} {names : List Bs} (h0 : (walkN s l true 8 names 1).2 = 0) (hk : (s.inoAt (walkN s l true 8 names 1).1).kind = 1) (nm : Bs) :
    walkN s l false 8 (names ++ [nm]) 1 = if entL l (walkN s l true 8 names 1).1 nm = 0 then (0, 5) else (entL l (walkN s l true 8 names 1).1 nm, 0) := by
  obtain ⟨g, hg⟩ := (walk_more (s := s) (l := l) (fo := false) (f := 8) (p := names) (q := [nm]) (by simp) (a := 1)).1 h0
  rw [hg, walkN_cons, if_neg (by rw [hk]; decide)]
  split
  · rfl
  · rw [if_pos (Or.inr ⟨rfl, rfl⟩), walkN_nil]
/-- A name is listed just when there is an entry of it. -/
theorem found_is {s : PSt} {l : List It} (h : Vl s l) {d : Nat} (hd : d < 4294967296) (nm : Bs) : (lsL s d).any (fun e => decide (e.name = nm)) = decide (entL l d nm ≠ 0) := by
  rw [Bool.eq_iff_iff, List.any_eq_true, decide_eq_true_iff]
  constructor
  · rintro ⟨e, he, hn⟩
    rw [decide_eq_true_iff] at hn
    obtain ⟨_, _, _, _, h5, _, _, h8⟩ := ls_law h he
    rw [← hn, h8]; exact h5
  · intro hn
    obtain ⟨v, hv, _⟩ := h.entry hd hn
    exact ⟨_, lsL_of hv rfl rfl, by simp [enOf]⟩
end Go.Proofs.Ytoeiipkikpalaaa
