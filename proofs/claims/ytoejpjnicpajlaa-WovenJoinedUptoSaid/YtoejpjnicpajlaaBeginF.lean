/- Variables, as plain data and in memory; maps of numbers by what they hold; what Begin makes. -/
import Derived.Test.YtoejpjnicpajlaaCheckF
import Derived.Test.YtoejpjnicpajlaaNamesF
set_option linter.unusedVariables false
namespace Go.Proofs.Ytoejpjnicpajlaa
open Go.RowKit Go.Maps

abbrev Vr := ByteArray × Int

/-- From (b, o) on lie these variables, two cells each. -/
def RepVs (w : World) : List Vr → Nat → Nat → Prop
  | [], _, _ => True
  | v :: l, b, o => w.cell? ⟨b, o, none⟩ = some (.string v.1) ∧ w.cell? ⟨b, o + 1, none⟩ = some (.int .i64 v.2) ∧ v.1.size ≤ maxLen ∧ I64 v.2 ∧ RepVs w l b (o + 2)
def RepVl (w : World) (B : Nat) (l : List Vr) (a : Option Addr) (len cap : Nat) : Prop := SlOk a len cap l.length ∧ (l = [] ∨ ∃ b o, a = some ⟨b, o, none⟩ ∧ b < B ∧ RepVs w l b o)
theorem RepVs.keep {w w' : World} {B : Nat} (ag : Agree B w w') : ∀ (l : List Vr) (b o : Nat), b < B → RepVs w l b o → RepVs w' l b o
  | [], _, _, _, _ => trivial
  | v :: l, b, o, hb, ⟨h0, h1, h2, h3, h4⟩ => ⟨(ag.cell (p := ⟨b, o, none⟩) hb).trans h0, (ag.cell (p := ⟨b, o + 1, none⟩) hb).trans h1, h2, h3, RepVs.keep ag l b (o + 2) hb h4⟩
theorem RepVl.keep {w w' : World} {B B' : Nat} (ag : Agree B w w') (hB : B ≤ B') {l : List Vr} {a : Option Addr} {len cap : Nat} (h : RepVl w B l a len cap) : RepVl w' B' l a len cap := by
  refine ⟨h.1, ?_⟩
  rcases h.2 with h0 | ⟨b, o, ha, hb, hr⟩
  · exact .inl h0
  · exact .inr ⟨b, o, ha, by omega, RepVs.keep ag l b o hb hr⟩
theorem RepVs.get {w : World} : ∀ (l : List Vr) (b o i : Nat) (v : Vr), RepVs w l b o → l[i]? = some v → w.cell? ⟨b, o + i * 2, none⟩ = some (.string v.1) ∧ w.cell? ⟨b, o + i * 2 + 1, none⟩ = some (.int .i64 v.2) ∧ v.1.size ≤ maxLen ∧ I64 v.2
  | [], _, _, _, _, _, h => by simp at h
  | v :: l, b, o, 0, v', h, hi => by
    simp only [List.getElem?_cons_zero, Option.some.injEq] at hi
    subst hi
    exact ⟨by simpa using h.1, by simpa using h.2.1, h.2.2.1, h.2.2.2.1⟩
  | v :: l, b, o, i + 1, v', h, hi => by
    simp only [List.getElem?_cons_succ] at hi
    have := RepVs.get l b (o + 2) i v' h.2.2.2.2 hi
    rw [show o + 2 + i * 2 = o + (i + 1) * 2 by omega] at this
    exact this

open Classical in
/-- The number of a name among variables. -/
noncomputable def lookV : List Vr → ByteArray → Option Int
  | [], _ => none
  | v :: l, s => if v.1 = s then some v.2 else lookV l s
open Classical in
/-- .. and 0 of these names besides. -/
noncomputable def addL (f : ByteArray → Option Int) (L : List ByteArray) (s : ByteArray) : Option Int :=
  match f s with
  | some v => some v
  | none => if s ∈ L then some 0 else none
def startOk (l : List Vr) : Prop := (∀ p ∈ l, isName p.1 = true) ∧ (l.map (·.1)).Nodup
def namesL (l : List St) : List ByteArray := asSs l ++ (adSs l ++ rdSs l)

theorem lookV_none {l : List Vr} {s : ByteArray} : lookV l s = none ↔ s ∉ l.map (·.1) := by
  induction l with
  | nil => simp [lookV]
  | cons v l ih =>
    simp only [lookV, List.map_cons, List.mem_cons, not_or]
    by_cases h : v.1 = s
    · simp [h]
    · simp only [h, if_false, ih]
      constructor
      · intro h2; exact ⟨fun e => h e.symm, h2⟩
      · intro h2; exact h2.2
theorem lookV_snoc {l : List Vr} {v : Vr} {s : ByteArray} (h : v.1 ∉ l.map (·.1)) : lookV (l ++ [v]) s = (if v.1 = s then some v.2 else lookV l s) := by
  induction l with
  | nil => simp [lookV]
  | cons x l ih =>
    simp only [List.map_cons, List.mem_cons, not_or] at h
    simp only [List.cons_append, lookV, ih h.2]
    by_cases h1 : x.1 = s
    · simp only [h1, if_true]
      rw [if_neg]
      intro h2
      exact h.1 (by rw [h2, h1])
    · simp only [h1, if_false]
theorem addL_nil (f : ByteArray → Option Int) : addL f [] = f := by
  funext s
  unfold addL
  cases f s <;> simp
theorem addL_append (f : ByteArray → Option Int) (L M : List ByteArray) : addL (addL f L) M = addL f (L ++ M) := by
  funext s
  unfold addL
  cases f s with
  | some v => rfl
  | none =>
    by_cases h1 : s ∈ L
    · have h3 : s ∈ L ++ M := List.mem_append.2 (.inl h1)
      simp only [h1, h3, if_true]
    · by_cases h2 : s ∈ M
      · have h3 : s ∈ L ++ M := List.mem_append.2 (.inr h2)
        simp only [h1, h2, h3, if_true, if_false]
      · have h3 : ¬ s ∈ L ++ M := fun h => (List.mem_append.1 h).elim h1 h2
        simp only [h1, h2, h3, if_false]
end Go.Proofs.Ytoejpjnicpajlaa
