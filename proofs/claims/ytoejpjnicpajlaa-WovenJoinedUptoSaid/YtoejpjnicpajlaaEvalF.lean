/- What programs mean, as plain functions: expressions over 64 bits, statements over variables that may be missing. No program in sight. -/
import Derived.Test.YtoejpjnicpajlaaBeginF
import Derived.Test.YtoejpjnicpajlaaShF
import Derived.IntWalk
set_option linter.unusedVariables false
namespace Go.Proofs.Ytoejpjnicpajlaa
open Classical

/-- A program's variables. -/
abbrev Vs := ByteArray → Option Int
def val (f : Vs) (s : ByteArray) : Int := (f s).getD 0
noncomputable def setV (f : Vs) (s : ByteArray) (v : Int) : Vs := fun x => if s = x then some v else f x

abbrev w64 (x : Int) : Int := IntKind.i64.wrap x

/-- A node of two kids. -/
def opE (k x y : Int) : Int := if k = 3 then w64 (x + y) else if k = 4 then w64 (x - y) else w64 (x * y)
mutual
def evE : Ex → (ByteArray → Int) → Int
  | .mk k n s ks, g => if k = 1 then n else if k = 2 then g s else opE k ((evEs ks g).getD 0 0) ((evEs ks g).getD 1 0)
def evEs : List Ex → (ByteArray → Int) → List Int
  | [], _ => []
  | e :: es, g => evE e g :: evEs es g
end
theorem evEs_get : ∀ (ks : List Ex) (g : ByteArray → Int) (i : Nat), (evEs ks g)[i]? = (ks[i]?).map (evE · g)
  | [], _, _ => by simp [evEs]
  | e :: es, g, 0 => by simp [evEs]
  | e :: es, g, i + 1 => by simp [evEs, evEs_get es g i]

/-- n times, or until there was no step. -/
def rep (g : Vs → Vs × Nat) : Nat → Vs → Vs × Nat
  | 0, f => (f, 0)
  | n + 1, f => if (g f).2 = 0 then g f else ((rep g n (g f).1).1, (g f).2 + (rep g n (g f).1).2)

mutual
/-- What a statement makes of the variables, and how many steps it does. -/
noncomputable def denS : St → Vs → Vs × Nat
  | .mk k nm e n bs, f =>
    if k = 1 then (setV f nm (evE e (val f)), 1)
    else if k = 2 then (setV f nm (w64 (val f nm + evE e (val f))), 1)
    else if k = 3 then
      (match bs with
      | [] => (f, 1)
      | b :: r => if 0 < evE e (val f) then ((denSs b f).1, 1 + (denSs b f).2) else ((denBs r f).1, 1 + (denBs r f).2))
    else if k = 4 then
      (match bs with
      | [] => (f, 0)
      | b :: _ => rep (denSs b) n.toNat f)
    else denBs bs f
noncomputable def denSs : List St → Vs → Vs × Nat
  | [], f => (f, 0)
  | s :: l, f => ((denSs l (denS s f).1).1, (denS s f).2 + (denSs l (denS s f).1).2)
noncomputable def denBs : List (List St) → Vs → Vs × Nat
  | [], f => (f, 0)
  | b :: l, f => ((denBs l (denSs b f).1).1, (denSs b f).2 + (denBs l (denSs b f).1).2)
end

theorem denSs_append (l r : List St) (f : Vs) : denSs (l ++ r) f = ((denSs r (denSs l f).1).1, (denSs l f).2 + (denSs r (denSs l f).1).2) := by
  induction l generalizing f with
  | nil => simp [denSs]
  | cons s l ih => simp only [List.cons_append, denSs, ih, Nat.add_assoc]
theorem denBs_append (l r : List (List St)) (f : Vs) : denBs (l ++ r) f = ((denBs r (denBs l f).1).1, (denBs l f).2 + (denBs r (denBs l f).1).2) := by
  induction l generalizing f with
  | nil => simp [denBs]
  | cons s l ih => simp only [List.cons_append, denBs, ih, Nat.add_assoc]
theorem denBs_one (b : List St) (f : Vs) : denBs [b] f = denSs b f := by simp [denBs]
theorem denSs_one (s : St) (f : Vs) : denSs [s] f = denS s f := by simp [denSs]

theorem okEs_mem {ks : List Ex} (h : okEs ks = true) {e : Ex} (he : e ∈ ks) : okE e = true := by
  induction ks with
  | nil => simp at he
  | cons x l ih =>
    simp only [okEs, Bool.and_eq_true] at h
    rcases List.mem_cons.1 he with rfl | h1
    · exact h.1
    · exact ih h.2 h1
theorem w64_i64 (z : Int) : I64 (w64 z) := by
  unfold w64
  rw [IntKind.wrap_i64]
  unfold I64
  omega
theorem opE_i64 (k x y : Int) : I64 (opE k x y) := by
  unfold opE
  split
  · exact w64_i64 _
  · split <;> exact w64_i64 _
end Go.Proofs.Ytoejpjnicpajlaa
