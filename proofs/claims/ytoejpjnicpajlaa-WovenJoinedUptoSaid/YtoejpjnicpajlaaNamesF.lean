/- The names of a program, as plain functions; maps by what they hold. -/
import Derived.Test.YtoejpjnicpajlaaData
import Derived.Maps.OwnOps
import Derived.Maps.OwnSet
namespace Go.Proofs.Ytoejpjnicpajlaa
open Go.RowKit Go.Maps

mutual
def rdE : Ex → List ByteArray
  | .mk k _ s ks => (if k = 2 then [s] else []) ++ rdEs ks
def rdEs : List Ex → List ByteArray
  | [] => []
  | e :: es => rdE e ++ rdEs es
end
mutual
def asS : St → List ByteArray
  | .mk k nm _ _ bs => (if k = 1 then [nm] else []) ++ asSb bs
def asSs : List St → List ByteArray
  | [] => []
  | s :: l => asS s ++ asSs l
def asSb : List (List St) → List ByteArray
  | [] => []
  | l :: ls => asSs l ++ asSb ls
end
mutual
def adS : St → List ByteArray
  | .mk k nm _ _ bs => (if k = 2 then [nm] else []) ++ adSb bs
def adSs : List St → List ByteArray
  | [] => []
  | s :: l => adS s ++ adSs l
def adSb : List (List St) → List ByteArray
  | [] => []
  | l :: ls => adSs l ++ adSb ls
end
mutual
def rdS : St → List ByteArray
  | .mk _ _ e _ bs => rdE e ++ rdSb bs
def rdSs : List St → List ByteArray
  | [] => []
  | s :: l => rdS s ++ rdSs l
def rdSb : List (List St) → List ByteArray
  | [] => []
  | l :: ls => rdSs l ++ rdSb ls
end
theorem rdEs_append (l r : List Ex) : rdEs (l ++ r) = rdEs l ++ rdEs r := by
  induction l with
  | nil => rfl
  | cons x l ih => simp only [List.cons_append, rdEs, ih, List.append_assoc]
theorem asSs_append (l r : List St) : asSs (l ++ r) = asSs l ++ asSs r := by
  induction l with
  | nil => rfl
  | cons x l ih => simp only [List.cons_append, asSs, ih, List.append_assoc]
theorem adSs_append (l r : List St) : adSs (l ++ r) = adSs l ++ adSs r := by
  induction l with
  | nil => rfl
  | cons x l ih => simp only [List.cons_append, adSs, ih, List.append_assoc]
theorem rdSs_append (l r : List St) : rdSs (l ++ r) = rdSs l ++ rdSs r := by
  induction l with
  | nil => rfl
  | cons x l ih => simp only [List.cons_append, rdSs, ih, List.append_assoc]
theorem asSb_append (l r : List (List St)) : asSb (l ++ r) = asSb l ++ asSb r := by
  induction l with
  | nil => rfl
  | cons x l ih => simp only [List.cons_append, asSb, ih, List.append_assoc]
theorem adSb_append (l r : List (List St)) : adSb (l ++ r) = adSb l ++ adSb r := by
  induction l with
  | nil => rfl
  | cons x l ih => simp only [List.cons_append, adSb, ih, List.append_assoc]
theorem rdSb_append (l r : List (List St)) : rdSb (l ++ r) = rdSb l ++ rdSb r := by
  induction l with
  | nil => rfl
  | cons x l ih => simp only [List.cons_append, rdSb, ih, List.append_assoc]

def key (s : ByteArray) : Lit := .string s.data.toList
theorem key_inj {a b : ByteArray} (h : key a = key b) : a = b := by
  obtain ⟨a⟩ := a
  obtain ⟨b⟩ := b
  simp only [key, Lit.string.injEq] at h
  congr 1
  exact Array.ext' h
theorem key_lit (s : ByteArray) : WideAt.IsKeyLit (key s) := trivial
end Go.Proofs.Ytoejpjnicpajlaa
