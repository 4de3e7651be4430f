/- Plain facts on bytes, big-endian numbers, keys and inodes, with no program in sight. -/
import Derived.Laws.Strings
import GoSem.Op.String
set_option linter.unusedVariables false
set_option linter.unusedSimpArgs false
namespace Go.Proofs.Ytoeiipkikpalaaa
abbrev Bs := List UInt8
/-- A text of the model out of its bytes. -/
def str (l : Bs) : ByteArray := ⟨l.toArray⟩
theorem str_data (l : Bs) : (str l).data.toList = l := by simp [str]
theorem str_size (l : Bs) : (str l).size = l.length := by simp [str, ByteArray.size]
theorem str_inj {a b : Bs} (h : str a = str b) : a = b := by rw [← str_data a, h, str_data]
theorem str_of (s : ByteArray) : str s.data.toList = s := rfl
theorem str_exists (s : ByteArray) : ∃ l, s = str l := ⟨s.data.toList, rfl⟩
theorem str_toList (l : Bs) : (str l).toList = l := by rw [ByteArray.toList_eq]; exact str_data l
theorem str_extract (l : Bs) (a b : Nat) : (str l).extract a b = str ((l.take b).drop a) := by
  apply ByteArray.ext
  simp [str, ByteArray.data_extract]
  rw [List.drop_take]
theorem str_append (a b : Bs) : str a ++ str b = str (a ++ b) := by
  apply ByteArray.ext
  simp [str]
def bt (l : Bs) (i : Nat) : UInt8 := l.getD i 0
theorem str_get (l : Bs) (i : Nat) (h : i < (str l).size) : (str l)[i]'h = bt l i := by
  have h' : i < l.length := by rwa [str_size] at h
  show (str l).data[i] = _
  simp [str, bt, List.getD_eq_getElem?_getD, h']
theorem bt_lt (l : Bs) (i : Nat) : (bt l i).toNat < 256 := UInt8.toNat_lt _

def beNat (l : Bs) : Nat := l.foldl (fun n b => n * 256 + b.toNat) 0
theorem beNat_nil : beNat [] = 0 := rfl
theorem beNat_snoc (l : Bs) (b : UInt8) : beNat (l ++ [b]) = beNat l * 256 + b.toNat := by simp [beNat]
theorem beNat_lt_aux (n : Nat) (l : Bs) : l.foldl (fun n b => n * 256 + b.toNat) n < (n + 1) * 256 ^ l.length := by
  induction l generalizing n with
  | nil => simp
  | cons b l ih =>
    refine Nat.lt_of_lt_of_le (ih _) ?_
    rw [List.length_cons, Nat.pow_succ, Nat.mul_comm (256 ^ _) 256, ← Nat.mul_assoc]
    refine Nat.mul_le_mul_right _ ?_
    have := b.toNat_lt
    show n * 256 + b.toNat + 1 ≤ (n + 1) * 256
    omega
theorem beNat_lt (l : Bs) : beNat l < 256 ^ l.length := by simpa [beNat] using beNat_lt_aux 0 l
theorem take_snoc (l : Bs) (k : Nat) (h : k < l.length) : l.take (k + 1) = l.take k ++ [bt l k] := by
  rw [List.take_succ_eq_append_getElem h]; simp [bt, List.getD_eq_getElem?_getD, h]

/-- A number's bytes of a width, the greatest first. -/
def be : Nat → Nat → Bs
  | 0, _ => []
  | w + 1, n => be w (n / 256) ++ [UInt8.ofNat n]
theorem be_length (w n : Nat) : (be w n).length = w := by
  induction w generalizing n with
  | zero => rfl
  | succ w ih => simp [be, ih]
theorem be_beNat_snoc (l : Bs) (b : UInt8) : be (l.length + 1) (beNat (l ++ [b])) = be l.length (beNat l) ++ [b] := by
  rw [be, beNat_snoc]
  have hb := b.toNat_lt
  have e1 : (beNat l * 256 + b.toNat) / 256 = beNat l := by omega
  have e2 : UInt8.ofNat (beNat l * 256 + b.toNat) = b := by
    apply UInt8.toNat_inj.1
    rw [UInt8.toNat_ofNat']
    omega
  rw [e1, e2]
theorem rev_ind {α : Type _} {p : List α → Prop} (h0 : p []) (hs : ∀ l b, p l → p (l ++ [b])) (l : List α) : p l := by
  rw [← List.reverse_reverse l]
  induction l.reverse with
  | nil => exact h0
  | cons b l ih => rw [List.reverse_cons]; exact hs _ _ ih
theorem be_beNat (l : Bs) : be l.length (beNat l) = l := by
  refine rev_ind (p := fun l => be l.length (beNat l) = l) rfl (fun l b ih => ?_) l
  rw [List.length_append, List.length_singleton, be_beNat_snoc, ih]
theorem beNat_be (w n : Nat) (h : n < 256 ^ w) : beNat (be w n) = n := by
  induction w generalizing n with
  | zero => simp at h; subst h; rfl
  | succ w ih =>
    rw [be, beNat_snoc, ih _ (by rw [Nat.pow_succ] at h; omega), UInt8.toNat_ofNat']
    omega
theorem be_inj {w n m : Nat} (hn : n < 256 ^ w) (hm : m < 256 ^ w) (h : be w n = be w m) : n = m := by
  rw [← beNat_be w n hn, h, beNat_be w m hm]

/-! ### names, keys, inodes -/
def nameOk (s : Bs) : Bool := decide (s ≠ []) && decide (s.length ≤ 24) && !s.contains 47 && !s.contains 0 && decide (s ≠ [46]) && decide (s ≠ [46, 46])
/-- What an entry names; 0: it is none. -/
def numE (s : Bs) : Nat := if s.length = 4 ∧ 2 ≤ beNat s then beNat s else 0
/-- A number taken: it, what is left, whether it was not there. -/
def tkN (l : Bs) (k : Nat) : Nat × Bs × Bool := if l.length < k then (0, [], true) else (beNat (l.take k), l.drop k, false)
def tkT (l : Bs) : Bs × Bs × Bool := if l.length < 2 ∨ l.length - 2 < beNat (l.take 2) then ([], [], true) else ((l.drop 2).take (beNat (l.take 2)), (l.drop 2).drop (beNat (l.take 2)), false)
theorem tkN_len (l : Bs) (k : Nat) : (tkN l k).2.1.length ≤ l.length := by unfold tkN; split <;> simp
theorem tkT_len (l : Bs) : (tkT l).2.1.length ≤ l.length := by unfold tkT; split <;> simp
theorem tkT_len1 (l : Bs) : (tkT l).1.length ≤ l.length := by
  unfold tkT; split
  · simp
  · simp [List.length_take]; omega
theorem tkN_lt (l : Bs) (k : Nat) : (tkN l k).1 < 256 ^ k := by
  unfold tkN; split
  · exact Nat.pow_pos (by decide)
  · refine Nat.lt_of_lt_of_le (beNat_lt _) (Nat.pow_le_pow_right (by decide) ?_)
    rw [List.length_take]; omega
/-- A text cut at the first byte c: what is ahead, what is behind, whether there is one. -/
def cutB (s : Bs) (c : UInt8) : Bs × Bs × Bool := if s.contains c then (s.takeWhile (· != c), (s.dropWhile (· != c)).drop 1, true) else (s, [], false)
/-- The names of a path behind its first slash. -/
def splitF : Nat → Bs → Option (List Bs)
  | 0, _ => none
  | f + 1, r => if nameOk (cutB r 47).1 then (if (cutB r 47).2.2 then (splitF f (cutB r 47).2.1).map ((cutB r 47).1 :: ·) else some [(cutB r 47).1]) else none
/-- path.Split: the names, or an error (2: too long, 10: no path). -/
def splitB (p : Bs) : List Bs × Nat :=
  if 256 < p.length then ([], 2)
  else if !(List.isPrefixOf [47] p) then ([], 10)
  else if p.tail = [] then ([], 0)
  else match splitF (p.length + 1) p.tail with
    | some l => (l, 0)
    | none => ([], 10)
/-- What may be an item. -/
def itOk (k v : Bs) : Bool := decide (k ≠ []) && decide (k.length ≤ 48) && decide (v.length ≤ 160)
structure Ky where
  kind : Nat
  ino : Nat
  name : Bs
  chunk : Nat
  deriving DecidableEq
structure Ino where
  kind : Nat
  mode : Nat
  links : Nat
  size : Nat
  target : Bs
  deriving DecidableEq
structure It where
  key : Bs
  val : Bs
  deriving DecidableEq
/-- Bytes before others. -/
def lt (a b : Bs) : Bool := Op.bytesLess a b
/-- item.Check: items that may be, their keys rising. -/
def chk : List It → Bool
  | [] => true
  | [x] => itOk x.key x.val
  | x :: y :: r => itOk x.key x.val && lt x.key y.key && chk (y :: r)
def okAt (l : List It) (i : Nat) : Bool := match l[i]? with
  | none => true
  | some x => itOk x.key x.val && (match i with
    | 0 => true
    | j + 1 => match l[j]? with
      | none => true
      | some y => lt y.key x.key)
theorem okAt_cons (x : It) (l : List It) (i : Nat) (h : 0 < i) : okAt (x :: l) (i + 1) = okAt l i := by
  obtain ⟨j, rfl⟩ : ∃ j, i = j + 1 := ⟨i - 1, by omega⟩
  rfl
theorem chk_iff (l : List It) : chk l = true ↔ ∀ i, i < l.length → okAt l i = true := by
  induction l with
  | nil => simp [chk]
  | cons x l ih =>
    cases l with
    | nil =>
      simp only [chk, List.length_cons, List.length_nil]
      constructor
      · intro h i hi
        obtain rfl : i = 0 := by omega
        simp [okAt, h]
      · intro h; have := h 0 (by omega); simpa [okAt] using this
    | cons y r =>
      simp only [chk, Bool.and_eq_true, ih]
      constructor
      · rintro ⟨⟨h1, h2⟩, h3⟩ i hi
        match i with
        | 0 => simp [okAt, h1]
        | 1 => have := h3 0 (by simp); simp [okAt] at this ⊢; exact ⟨this, h2⟩
        | i + 2 => rw [okAt_cons _ _ _ (by omega)]; exact h3 (i + 1) (by simp at hi ⊢; omega)
      · intro h
        have h0 := h 0 (by simp)
        have h1 := h 1 (by simp)
        simp [okAt] at h0 h1
        refine ⟨⟨h0, h1.2⟩, fun i hi => ?_⟩
        match i with
        | 0 => simp [okAt, h1.1]
        | i + 1 => rw [← okAt_cons x _ _ (by omega)]; exact h (i + 2) (by simp at hi ⊢; omega)
def chkE (l : List It) : Int := if chk l then 0 else 4
theorem chkE_ok {l : List It} (h : ∀ i, i < l.length → okAt l i = true) : chkE l = 0 := by unfold chkE; rw [if_pos ((chk_iff l).2 h)]
theorem chkE_bad {l : List It} {i : Nat} (hi : i < l.length) (h : okAt l i = false) : chkE l = 4 := by
  unfold chkE
  rw [if_neg]
  intro hc
  have := (chk_iff l).1 hc i hi
  rw [h] at this
  cases this
def letterOf : Nat → UInt8
  | 1 => 105
  | 2 => 100
  | 3 => 99
  | 4 => 120
  | _ => 0
def kindOf (b : UInt8) : Nat := if b = 105 then 1 else if b = 100 then 2 else if b = 99 then 3 else if b = 120 then 4 else 0
def keyOk (k : Ky) : Bool :=
  match k.kind with
  | 1 => decide (0 < k.ino) && decide (k.name = []) && decide (k.chunk = 0)
  | 2 => decide (0 < k.ino) && nameOk k.name && decide (k.chunk = 0)
  | 3 => decide (0 < k.ino) && decide (k.name = []) && decide (k.chunk < 512)
  | 4 => decide (0 < k.ino) && nameOk k.name && decide (k.chunk = 0)
  | _ => false
def prefixB (kind ino : Nat) : Bs := if letterOf kind = 0 then [] else letterOf kind :: be 4 ino
def keyRaw (k : Ky) : Bs := prefixB k.kind k.ino ++ (if k.kind = 3 then be 4 k.chunk else k.name)
def keyB (k : Ky) : Option Bs := if keyOk k then some (keyRaw k) else none
/-- What is read of a key's bytes; what is missing reads as 0. -/
def rawKey (s : Bs) : Ky :=
  if kindOf (bt s 0) = 3 then ⟨3, beNat ((s.drop 1).take 4), [], if (s.drop 5).length < 4 then 0 else beNat ((s.drop 5).take 4)⟩
  else ⟨kindOf (bt s 0), beNat ((s.drop 1).take 4), s.drop 5, 0⟩
def parseKey (s : Bs) : Option Ky := if s.length < 5 then none else if keyB (rawKey s) = some s then some (rawKey s) else none
def inoOk (n : Ino) : Bool :=
  match n.kind with
  | 1 => decide (n.links = 1) && decide (n.size = 0) && decide (n.target = [])
  | 2 => decide (0 < n.links) && decide (n.size ≤ 65536) && decide (n.target = [])
  | 3 => decide (0 < n.links) && decide (n.target ≠ []) && decide (n.target.length ≤ 64) && !n.target.contains 0 && decide (n.size = n.target.length)
  | _ => false
def inoB (n : Ino) : Bs := be 1 n.kind ++ be 2 n.mode ++ be 4 n.links ++ be 4 n.size ++ (be 2 n.target.length ++ n.target)
def rawIno (s : Bs) : Ino := ⟨beNat (s.take 1), beNat ((s.drop 1).take 2), beNat ((s.drop 3).take 4), beNat ((s.drop 7).take 4), (s.drop 13).take (beNat ((s.drop 11).take 2))⟩
def decodeIno (s : Bs) : Option Ino := if s.length < 13 then none else if beNat ((s.drop 11).take 2) = (s.drop 13).length ∧ inoOk (rawIno s) = true then some (rawIno s) else none
end Go.Proofs.Ytoeiipkikpalaaa
