/- What Check looks at, as plain functions on expressions and statements. No program in sight. -/
import Derived.Test.YtoejpjnicpajlaaData
namespace Go.Proofs.Ytoejpjnicpajlaa

/-- A word of the language's own. -/
def isWord (s : ByteArray) : Bool := s.toList == [105, 102] || s.toList == [101, 108, 115, 101] || s.toList == [114, 101, 112, 101, 97, 116] || s.toList == [112, 97, 114] || s.toList == [97, 110, 100]
theorem toList_eq (s : ByteArray) : s.toList = s.data.toList := by
  exact ByteArray.toList_eq s
theorem str_nil (s : ByteArray) : s.toList = [] ↔ s.size = 0 := by
  rw [toList_eq]
  have h : s.size = s.data.toList.length := by simp
  rw [h]
  exact List.length_eq_zero_iff.symm
theorem str_emp (s : ByteArray) : s.toList.isEmpty = decide (s.size = 0) := by
  rw [Bool.eq_iff_iff, List.isEmpty_iff, str_nil]
  simp
def lower (c : UInt8) : Bool := decide (97 ≤ c.toNat) && decide (c.toNat ≤ 122)
def isName (s : ByteArray) : Bool := decide (1 ≤ s.size) && decide (s.size ≤ 8) && !isWord s && s.data.toList.all lower

def noneE : Ex → Bool
  | .mk k n s ks => decide (k = 0) && decide (n = 0) && decide (s.size = 0) && decide (ks.length = 0)

/-- An expression's node by itself: its kind, number, name, how many kids. -/
def nodeE (k n : Int) (s : ByteArray) (nk : Nat) : Bool :=
  if k = 1 then decide (0 ≤ n) && decide (n ≤ 1000000000) && decide (s.size = 0) && decide (nk = 0)
  else if k = 2 then decide (n = 0) && isName s && decide (nk = 0)
  else if k = 3 ∨ k = 4 ∨ k = 5 then decide (n = 0) && decide (s.size = 0) && decide (nk = 2)
  else false

/-- A statement's node by itself: en: it has no expression. -/
def nodeS (k : Int) (nm : ByteArray) (en : Bool) (n : Int) (nb : Nat) : Bool :=
  if k = 1 ∨ k = 2 then isName nm && decide (n = 0) && decide (nb = 0) && !en
  else if k = 3 then decide (nm.size = 0) && decide (n = 0) && (decide (nb = 1) || decide (nb = 2)) && !en
  else if k = 4 then decide (nm.size = 0) && decide (0 ≤ n) && decide (n ≤ 1000) && decide (nb = 1) && en
  else if k = 5 then decide (nm.size = 0) && decide (n = 0) && decide (1 ≤ nb) && decide (nb ≤ 8) && en
  else false

/-! What size.expr, size.stat, size.block answer, and how far they count, where they answer yes. -/
mutual
def okET : Ex → Int → Bool
  | .mk k n s ks, at_ => if 51 < at_ then true else nodeE k n s ks.length && okETs ks (at_ + 1)
def okETs : List Ex → Int → Bool
  | [], _ => true
  | e :: es, at_ => okET e at_ && okETs es at_
end
mutual
def cntET : Ex → Int → Nat
  | .mk _ _ _ ks, at_ => if 51 < at_ then 1 else 1 + cntETs ks (at_ + 1)
def cntETs : List Ex → Int → Nat
  | [], _ => 0
  | e :: es, at_ => cntET e at_ + cntETs es at_
end
mutual
def dpET : Ex → Int → Int
  | .mk _ _ _ ks, at_ => if 51 < at_ then at_ else max at_ (dpETs ks (at_ + 1))
def dpETs : List Ex → Int → Int
  | [], _ => 0
  | e :: es, at_ => max (dpET e at_) (dpETs es at_)
end

/-- What a statement says of its expression, at the depth where it stands. -/
def exprS (k : Int) (nm : ByteArray) (e : Ex) (n : Int) (nb : Nat) (at_ : Int) : Bool :=
  if k = 1 ∨ k = 2 then isName nm && decide (n = 0) && decide (nb = 0) && okET e at_
  else if k = 3 then decide (nm.size = 0) && decide (n = 0) && (decide (nb = 1) || decide (nb = 2)) && okET e at_
  else if k = 4 then decide (nm.size = 0) && decide (0 ≤ n) && decide (n ≤ 1000) && decide (nb = 1) && noneE e
  else if k = 5 then decide (nm.size = 0) && decide (n = 0) && decide (1 ≤ nb) && decide (nb ≤ 8) && noneE e
  else false
def hasE (k : Int) : Bool := decide (k = 1) || decide (k = 2) || decide (k = 3)
mutual
def okST : St → Int → Bool
  | .mk k nm e n bs, at_ => if 51 < at_ then true else exprS k nm e n bs.length (at_ + 1) && okSTb bs (at_ + 1)
def okSTs : List St → Int → Bool
  | [], _ => true
  | s :: l, at_ => okST s at_ && okSTs l at_
def okSTb : List (List St) → Int → Bool
  | [], _ => true
  | l :: ls, at_ => okSTs l at_ && okSTb ls at_
end
mutual
def cntST : St → Int → Nat
  | .mk k _ e _ bs, at_ => if 51 < at_ then 1 else 1 + (if hasE k then cntET e (at_ + 1) else 0) + cntSTb bs (at_ + 1)
def cntSTs : List St → Int → Nat
  | [], _ => 0
  | s :: l, at_ => cntST s at_ + cntSTs l at_
def cntSTb : List (List St) → Int → Nat
  | [], _ => 0
  | l :: ls, at_ => cntSTs l at_ + cntSTb ls at_
end
mutual
def dpST : St → Int → Int
  | .mk k _ e _ bs, at_ => if 51 < at_ then at_ else max at_ (max (if hasE k then dpET e (at_ + 1) else 0) (dpSTb bs (at_ + 1)))
def dpSTs : List St → Int → Int
  | [], _ => 0
  | s :: l, at_ => max (dpST s at_) (dpSTs l at_)
def dpSTb : List (List St) → Int → Int
  | [], _ => 0
  | l :: ls, at_ => max (dpSTs l at_) (dpSTb ls at_)
end

mutual
theorem cntET_le : ∀ (e : Ex) (at_ : Int), cntET e at_ ≤ e.sz
  | .mk k n s ks, at_ => by
    have := cntETs_le ks (at_ + 1)
    simp only [cntET, Ex.sz]
    split <;> omega
theorem cntETs_le : ∀ (es : List Ex) (at_ : Int), cntETs es at_ ≤ Ex.szs es
  | [], _ => by simp [cntETs]
  | e :: es, at_ => by
    have := cntET_le e at_
    have := cntETs_le es at_
    simp only [cntETs, Ex.szs]
    omega
end
mutual
theorem cntST_le : ∀ (s : St) (at_ : Int), cntST s at_ ≤ s.sz
  | .mk k nm e n bs, at_ => by
    have := cntET_le e (at_ + 1)
    have := cntSTb_le bs (at_ + 1)
    simp only [cntST, St.sz]
    split
    · omega
    · split <;> omega
theorem cntSTs_le : ∀ (l : List St) (at_ : Int), cntSTs l at_ ≤ St.szs l
  | [], _ => by simp [cntSTs]
  | s :: l, at_ => by
    have := cntST_le s at_
    have := cntSTs_le l at_
    simp only [cntSTs, St.szs]
    omega
theorem cntSTb_le : ∀ (l : List (List St)) (at_ : Int), cntSTb l at_ ≤ St.szb l
  | [], _ => by simp [cntSTb]
  | s :: l, at_ => by
    have := cntSTs_le s at_
    have := cntSTb_le l at_
    simp only [cntSTb, St.szb]
    omega
end
end Go.Proofs.Ytoejpjnicpajlaa
