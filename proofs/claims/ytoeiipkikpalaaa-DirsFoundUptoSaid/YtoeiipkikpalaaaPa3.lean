/- Plain facts: the order of keys; places in a list of items whose keys rise. -/
import Derived.Test.YtoeiipkikpalaaaPa2
set_option linter.unusedVariables false
set_option linter.unusedSimpArgs false
namespace Go.Proofs.Ytoeiipkikpalaaa
theorem lt_irrefl (a : Bs) : lt a a = false := by
  unfold lt
  induction a with
  | nil => rfl
  | cons x a ih => simp [Op.bytesLess, ih]
theorem lt_nil (a : Bs) : lt a [] = false := by cases a <;> rfl
theorem lt_cons (x y : UInt8) (a b : Bs) : lt (x :: a) (y :: b) = (decide (x < y) || (x == y && lt a b)) := rfl
theorem lt_asymm {a b : Bs} (h : lt a b = true) : lt b a = false := by
  induction a generalizing b with
  | nil => exact lt_nil _
  | cons x a ih =>
    cases b with
    | nil => rw [lt_nil] at h; cases h
    | cons y b =>
      rw [lt_cons] at h ⊢
      simp only [Bool.or_eq_true, decide_eq_true_eq, Bool.and_eq_true, beq_iff_eq] at h
      rcases h with h | ⟨rfl, h⟩
      · have h1 : ¬ y < x := UInt8.not_lt.2 (UInt8.le_of_lt h)
        have h2 : (y == x) = false := by rw [beq_eq_false_iff_ne]; rintro rfl; exact UInt8.lt_irrefl _ h
        simp [h1, h2]
      · simp [ih h, UInt8.lt_irrefl]
theorem lt_trans {a b c : Bs} (h1 : lt a b = true) (h2 : lt b c = true) : lt a c = true := by
  induction a generalizing b c with
  | nil =>
    cases c with
    | nil => rw [lt_nil] at h2; cases h2
    | cons z c => rfl
  | cons x a ih =>
    cases b with
    | nil => rw [lt_nil] at h1; cases h1
    | cons y b =>
      cases c with
      | nil => rw [lt_nil] at h2; cases h2
      | cons z c =>
        rw [lt_cons] at h1 h2 ⊢
        simp only [Bool.or_eq_true, decide_eq_true_eq, Bool.and_eq_true, beq_iff_eq] at h1 h2 ⊢
        rcases h1 with h1 | ⟨rfl, h1⟩
        · rcases h2 with h2 | ⟨rfl, h2⟩
          · exact .inl (UInt8.lt_trans h1 h2)
          · exact .inl h1
        · rcases h2 with h2 | ⟨rfl, h2⟩
          · exact .inl h2
          · exact .inr ⟨rfl, ih h1 h2⟩
theorem lt_total {a b : Bs} (h1 : lt a b = false) (h2 : lt b a = false) : a = b := by
  induction a generalizing b with
  | nil =>
    cases b with
    | nil => rfl
    | cons y b => cases h1
  | cons x a ih =>
    cases b with
    | nil => cases h2
    | cons y b =>
      rw [lt_cons] at h1 h2
      simp only [Bool.or_eq_false_iff, decide_eq_false_iff_not, Bool.and_eq_false_iff, beq_eq_false_iff_ne] at h1 h2
      have hxy : x = y := by
        apply UInt8.toNat_inj.1
        have h3 := h1.1; have h4 := h2.1
        rw [UInt8.lt_iff_toNat_lt] at h3 h4
        omega
      subst hxy
      have h3 : lt a b = false := by rcases h1.2 with h | h; exact absurd rfl h; exact h
      have h4 : lt b a = false := by rcases h2.2 with h | h; exact absurd rfl h; exact h
      rw [ih h3 h4]
/-- Below or the same, then below. -/
theorem lt_of_le_lt {a b c : Bs} (h1 : lt b a = false) (h2 : lt b c = true) : lt a c = true := by
  cases h : lt a b
  · have := lt_total h h1; subst this; exact h2
  · exact lt_trans h h2
theorem lt_of_lt_le {a b c : Bs} (h1 : lt a b = true) (h2 : lt c b = false) : lt a c = true := by
  cases h : lt b c
  · have := lt_total h h2; subst this; exact h1
  · exact lt_trans h1 h
/-- cmp.Compare of two texts. -/
def cmpI (a b : Bs) : Int := if lt a b then -1 else if a = b then 0 else 1
/-- The keys rise. -/
def Rise (l : List It) : Prop := ∀ i j (hi : i < l.length) (hj : j < l.length), i < j → lt (l[i]'hi).key (l[j]'hj).key = true
theorem rise_tail {x : It} {l : List It} (h : Rise (x :: l)) : Rise l := fun i j hi hj hij => h (i + 1) (j + 1) (by simpa using hi) (by simpa using hj) (by omega)
theorem chk_rise {l : List It} (h : chk l = true) : Rise l := by
  induction l with
  | nil => intro i j hi; simp at hi
  | cons x l ih =>
    cases l with
    | nil => intro i j hi hj hij; simp at hi hj; omega
    | cons y r =>
      simp only [chk, Bool.and_eq_true] at h
      have hr := ih h.2
      intro i j hi hj hij
      match i, j with
      | 0, 0 => omega
      | 0, 1 => exact h.1.2
      | 0, j + 2 => exact lt_trans h.1.2 (hr 0 (j + 1) (by simp) (by simpa using hj) (by omega))
      | i + 1, 0 => omega
      | i + 1, j + 1 => exact hr i j (by simpa using hi) (by simpa using hj) (by omega)
theorem chk_itOk {l : List It} (h : chk l = true) : ∀ x ∈ l, itOk x.key x.val = true := by
  induction l with
  | nil => simp
  | cons x l ih =>
    cases l with
    | nil => intro y hy; simp at hy; subst hy; exact h
    | cons z r =>
      simp only [chk, Bool.and_eq_true] at h
      intro y hy
      rcases List.mem_cons.1 hy with rfl | hy
      · exact h.1.1
      · exact ih h.2 y hy
/-- The place of a key: how many keys are below it. -/
def posL (l : List It) (t : Bs) : Nat := (l.takeWhile (fun x => lt x.key t)).length
theorem posL_le (l : List It) (t : Bs) : posL l t ≤ l.length := (List.takeWhile_sublist _).length_le
theorem posL_iff {l : List It} (h : Rise l) (t : Bs) (i : Nat) (hi : i < l.length) : lt (l[i]'hi).key t = true ↔ i < posL l t := by
  induction l generalizing i with
  | nil => simp at hi
  | cons x l ih =>
    unfold posL
    rw [List.takeWhile_cons]
    cases hx : lt x.key t
    · simp only [Bool.false_eq_true, if_false, List.length_nil, Nat.not_lt_zero, iff_false, Bool.not_eq_true]
      cases i with
      | zero => exact hx
      | succ i =>
        cases hc : lt (l[i]'(by simpa using hi)).key t
        · exact hc
        · have := lt_trans (h 0 (i + 1) (by simp) hi (by omega)) hc
          simp at this; rw [this] at hx; cases hx
    · simp only [if_true, List.length_cons]
      cases i with
      | zero => simp [hx]
      | succ i =>
        have := ih (rise_tail h) i (by simpa using hi)
        simp only [List.getElem_cons_succ]
        rw [this]; unfold posL; omega
/-- Is the key there? -/
def hasL (l : List It) (t : Bs) : Bool := match l[posL l t]? with
  | some x => decide (x.key = t)
  | none => false
/-- What is kept by a key. -/
def getL (l : List It) (t : Bs) : Option Bs := match l[posL l t]? with
  | some x => if x.key = t then some x.val else none
  | none => none
theorem posL_of {l : List It} (h : Rise l) (i : Nat) (hi : i < l.length) : posL l (l[i]'hi).key = i := by
  have h1 : ¬ i < posL l (l[i]'hi).key := fun hlt => by
    have := (posL_iff h (l[i]'hi).key i hi).2 hlt
    rw [lt_irrefl] at this; cases this
  by_cases h2 : posL l (l[i]'hi).key < i
  · have h3 := h (posL l (l[i]'hi).key) i (by omega) hi h2
    have := (posL_iff h (l[i]'hi).key _ (by omega)).1 h3
    omega
  · omega
end Go.Proofs.Ytoeiipkikpalaaa
