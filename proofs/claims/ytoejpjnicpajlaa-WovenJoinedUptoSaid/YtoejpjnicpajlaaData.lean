/- The shapes of the program's data (expressions, statements) as plain Lean, how they lie in memory, and what keeps them. No program in sight. -/
import Derived.WalkKit
import Derived.WalkSpells
import Derived.WalkLawsBesides
namespace Go.Proofs.Ytoejpjnicpajlaa
open Go.RowKit

/-- An expression. -/
inductive Ex where
  | mk (kind n : Int) (name : ByteArray) (kids : List Ex)
/-- A statement. -/
inductive St where
  | mk (kind : Int) (name : ByteArray) (e : Ex) (n : Int) (blocks : List (List St))

def I64 (n : Int) : Prop := -9223372036854775808 ≤ n ∧ n ≤ 9223372036854775807

/-- Below block B nothing differs. -/
def Agree (B : Nat) (w w' : World) : Prop := ∀ k, k < B → w'.heap[k]? = w.heap[k]?

theorem Agree.refl (B : Nat) (w : World) : Agree B w w := fun _ _ => rfl
theorem Agree.trans {B : Nat} {a b c : World} (h : Agree B a b) (g : Agree B b c) : Agree B a c := fun k hk => (g k hk).trans (h k hk)
theorem Agree.symm {B : Nat} {a b : World} (h : Agree B a b) : Agree B b a := fun k hk => (h k hk).symm
theorem Agree.mono {B B' : Nat} {a b : World} (h : Agree B a b) (hb : B' ≤ B) : Agree B' a b := fun k hk => h k (Nat.lt_of_lt_of_le hk hb)
theorem Agree.cell {B : Nat} {w w' : World} (h : Agree B w w') {p : Addr} (hp : p.block < B) : w'.cell? p = w.cell? p := World.cell?_of_block (h p.block hp)

/-- The blocks that were there stay as they were, but for those of S. -/
structure Kp (S : Nat → Prop) (w w' : World) : Prop where
  os : w'.os = w.os
  tape : w'.tape = w.tape
  output : w'.output = w.output
  size : w.heap.size ≤ w'.heap.size
  block : ∀ k, k < w.heap.size → ¬ S k → w'.heap[k]? = w.heap[k]?

def noB : Nat → Prop := fun _ => False
def oneB (b : Nat) : Nat → Prop := fun k => k = b
def twoB (b c : Nat) : Nat → Prop := fun k => k = b ∨ k = c

theorem Kp.refl (S : Nat → Prop) (w : World) : Kp S w w := ⟨rfl, rfl, rfl, Nat.le_refl _, fun _ _ _ => rfl⟩
theorem Kp.mono {S S' : Nat → Prop} {w w' : World} (h : Kp S w w') (hs : ∀ k, k < w.heap.size → S k → S' k) : Kp S' w w' := ⟨h.os, h.tape, h.output, h.size, fun k hk hn => h.block k hk fun hS => hn (hs k hk hS)⟩
theorem Kp.of_no {S : Nat → Prop} {w w' : World} (h : Kp noB w w') : Kp S w w' := h.mono fun _ _ hf => hf.elim
/-- Two steps; the second may turn S and what the first has made. -/
theorem Kp.trans {S S' : Nat → Prop} {a b c : World} (h : Kp S a b) (g : Kp S' b c) (hs : ∀ k, k < a.heap.size → S' k → S k) : Kp S a c :=
  ⟨g.os.trans h.os, g.tape.trans h.tape, g.output.trans h.output, Nat.le_trans h.size g.size, fun k hk hn => (g.block k (Nat.lt_of_lt_of_le hk h.size) fun hS => hn (hs k hk hS)).trans (h.block k hk hn)⟩
theorem Kp.then {S : Nat → Prop} {a b c : World} (h : Kp S a b) (g : Kp S b c) : Kp S a c := h.trans g fun _ _ h => h
theorem Kp.drew {S : Nat → Prop} {a b : World} (h : Kp S a b) : Kp S a b.drew := ⟨h.os, h.tape, h.output, h.size, h.block⟩
theorem Kp.drewN {S : Nat → Prop} {a b : World} (h : Kp S a b) (n : Nat) : Kp S a (b.drewN n) := ⟨h.os, h.tape, h.output, h.size, h.block⟩
theorem Kp.alloc {S : Nat → Prop} {a b : World} (h : Kp S a b) (o : Obj) : Kp S a (b.alloc o) :=
  h.trans (S' := noB) ⟨rfl, rfl, rfl, by simp, fun k hk _ => Below.heap_alloc _ _ _ hk⟩ fun _ _ hf => hf.elim
theorem Kp.setCell {S : Nat → Prop} {a b : World} (h : Kp S a b) {p : Addr} (hp : p.block < a.heap.size → S p.block) (u : Value) : Kp S a (b.setCell p u) :=
  ⟨h.os, h.tape, h.output, by simpa [World.setCell] using h.size, fun k hk hn => by
    rw [Below.heap_setCell _ _ _ _ (fun e => hn (by subst e; exact hp hk))]; exact h.block k hk hn⟩
theorem Kp.of_grown {w w' : World} {row : Option Nat} (h : w.grownBy w' row) : Kp (fun k => some k = row) w w' := ⟨h.os, h.tape, h.output, h.size, fun k hk hn => h.block k hk hn⟩
theorem Kp.grown {S : Nat → Prop} {a b c : World} {row : Option Nat} (h : Kp S a b) (g : b.grownBy c row) (hs : ∀ k, k < a.heap.size → some k = row → S k) : Kp S a c := h.trans (Kp.of_grown g) hs
theorem Kp.below {B : Nat} {w w' : World} (h : Kp noB w w') (hB : B ≤ w.heap.size) : Below B w w' := ⟨h.os, h.tape, h.output, h.size, fun k hk => h.block k (by omega) fun hf => hf⟩
theorem Kp.of_below {w w' : World} (h : Below w.heap.size w w') : Kp noB w w' := ⟨h.os, h.tape, h.output, h.size, fun k hk _ => h.block k hk⟩
theorem Kp.agree {S : Nat → Prop} {w w' : World} (h : Kp S w w') {B : Nat} (hB : B ≤ w.heap.size) (hS : ∀ k, k < B → ¬ S k) : Agree B w w' := fun k hk => h.block k (by omega) (hS k hk)
theorem Kp.agree_no {w w' : World} (h : Kp noB w w') : Agree w.heap.size w w' := h.agree (Nat.le_refl _) fun _ _ hf => hf
theorem Kp.cell {S : Nat → Prop} {w w' : World} (h : Kp S w w') {b o : Nat} (hb : b < w.heap.size) (hn : ¬ S b) : w'.cell? ⟨b, o, none⟩ = w.cell? ⟨b, o, none⟩ := World.cell?_of_block (a := ⟨b, o, none⟩) (h.block b hb hn)
theorem Kp.frozen {S : Nat → Prop} {w w' : World} (h : Kp S w w') {b o : Nat} (hb : b < w.heap.size) (hn : ¬ S b) : w'.frozen? ⟨b, o, none⟩ = w.frozen? ⟨b, o, none⟩ := World.frozen?_of_block (a := ⟨b, o, none⟩) (h.block b hb hn)

/-! ### how the data lie in memory -/

/-- The slice value's own part: its length, its room. -/
def SlOk (a : Option Addr) (len cap n : Nat) : Prop := len = n ∧ len ≤ cap ∧ cap ≤ maxLen ∧ (a = none → cap = 0)

mutual
/-- v is the expression's value; whatever it leads to lies below block B. -/
def RepE (w : World) (B : Nat) : Ex → Value → Prop
  | .mk k n s ks, v => ∃ a len cap, v = .agg #[.int .i64 k, .int .i64 n, .string s, .slice a len cap] ∧ I64 k ∧ I64 n ∧ s.size ≤ maxLen ∧ SlOk a len cap ks.length ∧
      (ks = [] ∨ ∃ b o, a = some ⟨b, o, none⟩ ∧ b < B ∧ RepEs w B ks b o)
/-- From (b, o) on lie these expressions, four cells each. -/
def RepEs (w : World) (B : Nat) : List Ex → Nat → Nat → Prop
  | [], _, _ => True
  | e :: es, b, o => (∃ v0 v1 v2 v3, w.cell? ⟨b, o, none⟩ = some v0 ∧ w.cell? ⟨b, o + 1, none⟩ = some v1 ∧ w.cell? ⟨b, o + 2, none⟩ = some v2 ∧ w.cell? ⟨b, o + 3, none⟩ = some v3 ∧ RepE w B e (.agg #[v0, v1, v2, v3])) ∧ RepEs w B es b (o + 4)
end

mutual
/-- v is the statement's value. -/
def RepS (w : World) (B : Nat) : St → Value → Prop
  | .mk k nm e n bs, v => ∃ e0 e1 e2 e3 a len cap, v = .agg #[.int .i64 k, .string nm, e0, e1, e2, e3, .int .i64 n, .slice a len cap] ∧ RepE w B e (.agg #[e0, e1, e2, e3]) ∧ I64 k ∧ I64 n ∧ nm.size ≤ maxLen ∧
      SlOk a len cap bs.length ∧ (bs = [] ∨ ∃ b o, a = some ⟨b, o, none⟩ ∧ b < B ∧ RepBs w B bs b o)
/-- From (b, o) on lie these statements, eight cells each. -/
def RepSs (w : World) (B : Nat) : List St → Nat → Nat → Prop
  | [], _, _ => True
  | s :: l, b, o => (∃ v0 v1 v2 v3 v4 v5 v6 v7, w.cell? ⟨b, o, none⟩ = some v0 ∧ w.cell? ⟨b, o + 1, none⟩ = some v1 ∧ w.cell? ⟨b, o + 2, none⟩ = some v2 ∧ w.cell? ⟨b, o + 3, none⟩ = some v3 ∧
      w.cell? ⟨b, o + 4, none⟩ = some v4 ∧ w.cell? ⟨b, o + 5, none⟩ = some v5 ∧ w.cell? ⟨b, o + 6, none⟩ = some v6 ∧ w.cell? ⟨b, o + 7, none⟩ = some v7 ∧ RepS w B s (.agg #[v0, v1, v2, v3, v4, v5, v6, v7])) ∧ RepSs w B l b (o + 8)
/-- From (b, o) on lie these lists of statements, one cell each. -/
def RepBs (w : World) (B : Nat) : List (List St) → Nat → Nat → Prop
  | [], _, _ => True
  | l :: ls, b, o => (∃ a len cap, w.cell? ⟨b, o, none⟩ = some (.slice a len cap) ∧ SlOk a len cap l.length ∧ (l = [] ∨ ∃ b' o', a = some ⟨b', o', none⟩ ∧ b' < B ∧ RepSs w B l b' o')) ∧ RepBs w B ls b (o + 1)
end

/-- A slice value that reads as a list of statements. -/
def RepSl (w : World) (B : Nat) (l : List St) (a : Option Addr) (len cap : Nat) : Prop := SlOk a len cap l.length ∧ (l = [] ∨ ∃ b o, a = some ⟨b, o, none⟩ ∧ b < B ∧ RepSs w B l b o)
/-- .. as a list of lists of statements. -/
def RepBl (w : World) (B : Nat) (l : List (List St)) (a : Option Addr) (len cap : Nat) : Prop := SlOk a len cap l.length ∧ (l = [] ∨ ∃ b o, a = some ⟨b, o, none⟩ ∧ b < B ∧ RepBs w B l b o)
/-- .. as a list of expressions. -/
def RepEl (w : World) (B : Nat) (l : List Ex) (a : Option Addr) (len cap : Nat) : Prop := SlOk a len cap l.length ∧ (l = [] ∨ ∃ b o, a = some ⟨b, o, none⟩ ∧ b < B ∧ RepEs w B l b o)

mutual
theorem RepE.keep {w w' : World} {B B' : Nat} (ag : Agree B w w') (hB : B ≤ B') : ∀ (e : Ex) (v : Value), RepE w B e v → RepE w' B' e v
  | .mk k n s ks, v, h => by
    simp only [RepE] at h ⊢
    obtain ⟨a, len, cap, hv, hk, hn, hs, hsl, hr⟩ := h
    refine ⟨a, len, cap, hv, hk, hn, hs, hsl, ?_⟩
    rcases hr with h0 | ⟨b, o, ha, hb, hes⟩
    · exact .inl h0
    · exact .inr ⟨b, o, ha, by omega, RepEs.keep ag hB ks b o hb hes⟩
theorem RepEs.keep {w w' : World} {B B' : Nat} (ag : Agree B w w') (hB : B ≤ B') : ∀ (es : List Ex) (b o : Nat), b < B → RepEs w B es b o → RepEs w' B' es b o
  | [], _, _, _, _ => by simp only [RepEs]
  | e :: es, b, o, hb, h => by
    simp only [RepEs] at h ⊢
    obtain ⟨⟨v0, v1, v2, v3, h0, h1, h2, h3, he⟩, hes⟩ := h
    refine ⟨⟨v0, v1, v2, v3, ?_, ?_, ?_, ?_, RepE.keep ag hB e _ he⟩, RepEs.keep ag hB es b (o + 4) hb hes⟩
    · rw [ag.cell (p := ⟨b, o, none⟩) hb]; exact h0
    · rw [ag.cell (p := ⟨b, o + 1, none⟩) hb]; exact h1
    · rw [ag.cell (p := ⟨b, o + 2, none⟩) hb]; exact h2
    · rw [ag.cell (p := ⟨b, o + 3, none⟩) hb]; exact h3
end

mutual
theorem RepS.keep {w w' : World} {B B' : Nat} (ag : Agree B w w') (hB : B ≤ B') : ∀ (s : St) (v : Value), RepS w B s v → RepS w' B' s v
  | .mk k nm e n bs, v, h => by
    simp only [RepS] at h ⊢
    obtain ⟨e0, e1, e2, e3, a, len, cap, hv, he, hk, hn, hs, hsl, hr⟩ := h
    refine ⟨e0, e1, e2, e3, a, len, cap, hv, RepE.keep ag hB e _ he, hk, hn, hs, hsl, ?_⟩
    rcases hr with h0 | ⟨b, o, ha, hb, hes⟩
    · exact .inl h0
    · exact .inr ⟨b, o, ha, by omega, RepBs.keep ag hB bs b o hb hes⟩
theorem RepSs.keep {w w' : World} {B B' : Nat} (ag : Agree B w w') (hB : B ≤ B') : ∀ (l : List St) (b o : Nat), b < B → RepSs w B l b o → RepSs w' B' l b o
  | [], _, _, _, _ => by simp only [RepSs]
  | s :: l, b, o, hb, h => by
    simp only [RepSs] at h ⊢
    obtain ⟨⟨v0, v1, v2, v3, v4, v5, v6, v7, h0, h1, h2, h3, h4, h5, h6, h7, hs⟩, hl⟩ := h
    refine ⟨⟨v0, v1, v2, v3, v4, v5, v6, v7, ?_, ?_, ?_, ?_, ?_, ?_, ?_, ?_, RepS.keep ag hB s _ hs⟩, RepSs.keep ag hB l b (o + 8) hb hl⟩
    · rw [ag.cell (p := ⟨b, o, none⟩) hb]; exact h0
    · rw [ag.cell (p := ⟨b, o + 1, none⟩) hb]; exact h1
    · rw [ag.cell (p := ⟨b, o + 2, none⟩) hb]; exact h2
    · rw [ag.cell (p := ⟨b, o + 3, none⟩) hb]; exact h3
    · rw [ag.cell (p := ⟨b, o + 4, none⟩) hb]; exact h4
    · rw [ag.cell (p := ⟨b, o + 5, none⟩) hb]; exact h5
    · rw [ag.cell (p := ⟨b, o + 6, none⟩) hb]; exact h6
    · rw [ag.cell (p := ⟨b, o + 7, none⟩) hb]; exact h7
theorem RepBs.keep {w w' : World} {B B' : Nat} (ag : Agree B w w') (hB : B ≤ B') : ∀ (l : List (List St)) (b o : Nat), b < B → RepBs w B l b o → RepBs w' B' l b o
  | [], _, _, _, _ => by simp only [RepBs]
  | l :: ls, b, o, hb, h => by
    simp only [RepBs] at h ⊢
    obtain ⟨⟨a, len, cap, h0, hsl, hr⟩, hls⟩ := h
    refine ⟨⟨a, len, cap, ?_, hsl, ?_⟩, RepBs.keep ag hB ls b (o + 1) hb hls⟩
    · rw [ag.cell (p := ⟨b, o, none⟩) hb]; exact h0
    · rcases hr with h0 | ⟨b', o', ha, hb', hes⟩
      · exact .inl h0
      · exact .inr ⟨b', o', ha, by omega, RepSs.keep ag hB l b' o' hb' hes⟩
end

theorem RepSl.keep {w w' : World} {B B' : Nat} (ag : Agree B w w') (hB : B ≤ B') {l : List St} {a : Option Addr} {len cap : Nat} (h : RepSl w B l a len cap) : RepSl w' B' l a len cap := by
  refine ⟨h.1, ?_⟩
  rcases h.2 with h0 | ⟨b, o, ha, hb, hr⟩
  · exact .inl h0
  · exact .inr ⟨b, o, ha, by omega, RepSs.keep ag hB l b o hb hr⟩
theorem RepBl.keep {w w' : World} {B B' : Nat} (ag : Agree B w w') (hB : B ≤ B') {l : List (List St)} {a : Option Addr} {len cap : Nat} (h : RepBl w B l a len cap) : RepBl w' B' l a len cap := by
  refine ⟨h.1, ?_⟩
  rcases h.2 with h0 | ⟨b, o, ha, hb, hr⟩
  · exact .inl h0
  · exact .inr ⟨b, o, ha, by omega, RepBs.keep ag hB l b o hb hr⟩
theorem RepEl.keep {w w' : World} {B B' : Nat} (ag : Agree B w w') (hB : B ≤ B') {l : List Ex} {a : Option Addr} {len cap : Nat} (h : RepEl w B l a len cap) : RepEl w' B' l a len cap := by
  refine ⟨h.1, ?_⟩
  rcases h.2 with h0 | ⟨b, o, ha, hb, hr⟩
  · exact .inl h0
  · exact .inr ⟨b, o, ha, by omega, RepEs.keep ag hB l b o hb hr⟩

/-- The i-th of a row of expressions. -/
theorem RepEs.get {w : World} {B : Nat} : ∀ (es : List Ex) (b o i : Nat) (e : Ex), RepEs w B es b o → es[i]? = some e →
    ∃ v0 v1 v2 v3, w.cell? ⟨b, o + i * 4, none⟩ = some v0 ∧ w.cell? ⟨b, o + i * 4 + 1, none⟩ = some v1 ∧ w.cell? ⟨b, o + i * 4 + 2, none⟩ = some v2 ∧ w.cell? ⟨b, o + i * 4 + 3, none⟩ = some v3 ∧ RepE w B e (.agg #[v0, v1, v2, v3])
  | [], _, _, _, _, _, h => by simp at h
  | e :: es, b, o, 0, e', h, hi => by
    simp only [List.getElem?_cons_zero, Option.some.injEq] at hi
    subst hi
    simp only [RepEs] at h
    simpa using h.1
  | e :: es, b, o, i + 1, e', h, hi => by
    simp only [List.getElem?_cons_succ] at hi
    simp only [RepEs] at h
    have := RepEs.get es b (o + 4) i e' h.2 hi
    have e1 : o + 4 + i * 4 = o + (i + 1) * 4 := by omega
    rw [e1] at this
    exact this
theorem RepSs.get {w : World} {B : Nat} : ∀ (l : List St) (b o i : Nat) (s : St), RepSs w B l b o → l[i]? = some s →
    ∃ v0 v1 v2 v3 v4 v5 v6 v7, w.cell? ⟨b, o + i * 8, none⟩ = some v0 ∧ w.cell? ⟨b, o + i * 8 + 1, none⟩ = some v1 ∧ w.cell? ⟨b, o + i * 8 + 2, none⟩ = some v2 ∧ w.cell? ⟨b, o + i * 8 + 3, none⟩ = some v3 ∧
      w.cell? ⟨b, o + i * 8 + 4, none⟩ = some v4 ∧ w.cell? ⟨b, o + i * 8 + 5, none⟩ = some v5 ∧ w.cell? ⟨b, o + i * 8 + 6, none⟩ = some v6 ∧ w.cell? ⟨b, o + i * 8 + 7, none⟩ = some v7 ∧ RepS w B s (.agg #[v0, v1, v2, v3, v4, v5, v6, v7])
  | [], _, _, _, _, _, h => by simp at h
  | s :: l, b, o, 0, s', h, hi => by
    simp only [List.getElem?_cons_zero, Option.some.injEq] at hi
    subst hi
    simp only [RepSs] at h
    simpa using h.1
  | s :: l, b, o, i + 1, s', h, hi => by
    simp only [List.getElem?_cons_succ] at hi
    simp only [RepSs] at h
    have := RepSs.get l b (o + 8) i s' h.2 hi
    have e1 : o + 8 + i * 8 = o + (i + 1) * 8 := by omega
    rw [e1] at this
    exact this
theorem RepBs.get {w : World} {B : Nat} : ∀ (ls : List (List St)) (b o i : Nat) (l : List St), RepBs w B ls b o → ls[i]? = some l →
    ∃ a len cap, w.cell? ⟨b, o + i, none⟩ = some (.slice a len cap) ∧ RepSl w B l a len cap
  | [], _, _, _, _, _, h => by simp at h
  | l :: ls, b, o, 0, l', h, hi => by
    simp only [List.getElem?_cons_zero, Option.some.injEq] at hi
    subst hi
    simp only [RepBs] at h
    exact h.1
  | l :: ls, b, o, i + 1, l', h, hi => by
    simp only [List.getElem?_cons_succ] at hi
    simp only [RepBs] at h
    have := RepBs.get ls b (o + 1) i l' h.2 hi
    have e1 : o + 1 + i = o + (i + 1) := by omega
    rw [e1] at this
    exact this

/-- An expression's four cells, by their make. -/
theorem RepE.forms {w : World} {B : Nat} {e : Ex} {v0 v1 v2 v3 : Value} (h : RepE w B e (.agg #[v0, v1, v2, v3])) :
    ∃ k n s a len cap, v0 = .int .i64 k ∧ v1 = .int .i64 n ∧ v2 = .string s ∧ v3 = .slice a len cap := by
  obtain ⟨k, n, s, ks⟩ := e
  simp only [RepE] at h
  obtain ⟨a, len, cap, hv, -⟩ := h
  simp at hv
  exact ⟨k, n, s, a, len, cap, hv.1, hv.2.1, hv.2.2.1, hv.2.2.2⟩
/-- A statement's eight cells, by their make. -/
theorem RepS.forms {w : World} {B : Nat} {s : St} {v0 v1 v2 v3 v4 v5 v6 v7 : Value} (h : RepS w B s (.agg #[v0, v1, v2, v3, v4, v5, v6, v7])) :
    ∃ k nm ek en es ea el ec q a len cap, v0 = .int .i64 k ∧ v1 = .string nm ∧ v2 = .int .i64 ek ∧ v3 = .int .i64 en ∧ v4 = .string es ∧ v5 = .slice ea el ec ∧ v6 = .int .i64 q ∧ v7 = .slice a len cap := by
  obtain ⟨k, nm, e, q, bs⟩ := s
  simp only [RepS] at h
  obtain ⟨e0, e1, e2, e3, a, len, cap, hv, he, -⟩ := h
  simp at hv
  obtain ⟨ek, en, es, ea, el, ec, h0, h1, h2, h3⟩ := he.forms
  exact ⟨k, nm, ek, en, es, ea, el, ec, q, a, len, cap, hv.1, hv.2.1, by rw [hv.2.2.1, h0], by rw [hv.2.2.2.1, h1], by rw [hv.2.2.2.2.1, h2], by rw [hv.2.2.2.2.2.1, h3], hv.2.2.2.2.2.2.1, hv.2.2.2.2.2.2.2⟩

/-! ### sizes -/
mutual
def Ex.sz : Ex → Nat
  | .mk _ _ _ ks => 1 + Ex.szs ks
def Ex.szs : List Ex → Nat
  | [] => 0
  | e :: es => e.sz + Ex.szs es
end
mutual
def St.sz : St → Nat
  | .mk _ _ e _ bs => 1 + e.sz + St.szb bs
def St.szs : List St → Nat
  | [] => 0
  | s :: l => s.sz + St.szs l
def St.szb : List (List St) → Nat
  | [] => 0
  | l :: ls => 1 + St.szs l + St.szb ls
end
theorem Ex.sz_pos (e : Ex) : 1 ≤ e.sz := by cases e; simp only [Ex.sz]; omega
theorem St.sz_pos (s : St) : 1 ≤ s.sz := by cases s; simp only [St.sz]; omega
theorem Ex.len_le_szs : ∀ l : List Ex, l.length ≤ Ex.szs l
  | [] => by simp [Ex.szs]
  | e :: l => by have := Ex.len_le_szs l; have := e.sz_pos; simp only [Ex.szs, List.length_cons]; omega
theorem St.len_le_szs : ∀ l : List St, l.length ≤ St.szs l
  | [] => by simp [St.szs]
  | s :: l => by have := St.len_le_szs l; have := s.sz_pos; simp only [St.szs, List.length_cons]; omega
theorem St.len_le_szb : ∀ l : List (List St), l.length ≤ St.szb l
  | [] => by simp [St.szb]
  | s :: l => by have := St.len_le_szb l; simp only [St.szb, List.length_cons]; omega
theorem Ex.szs_append : ∀ l r : List Ex, Ex.szs (l ++ r) = Ex.szs l + Ex.szs r
  | [], r => by simp [Ex.szs]
  | e :: l, r => by simp only [List.cons_append, Ex.szs, Ex.szs_append l r]; omega
theorem St.szs_append : ∀ l r : List St, St.szs (l ++ r) = St.szs l + St.szs r
  | [], r => by simp [St.szs]
  | e :: l, r => by simp only [List.cons_append, St.szs, St.szs_append l r]; omega
theorem Ex.szs_mem : ∀ (l : List Ex) (e : Ex), e ∈ l → e.sz ≤ Ex.szs l
  | [], _, h => by simp at h
  | x :: l, e, h => by
    simp only [Ex.szs]
    rcases List.mem_cons.1 h with rfl | h
    · omega
    · have := Ex.szs_mem l e h; omega
theorem St.szs_mem : ∀ (l : List St) (e : St), e ∈ l → e.sz ≤ St.szs l
  | [], _, h => by simp at h
  | x :: l, e, h => by
    simp only [St.szs]
    rcases List.mem_cons.1 h with rfl | h
    · omega
    · have := St.szs_mem l e h; omega
theorem St.szb_mem : ∀ (l : List (List St)) (e : List St), e ∈ l → St.szs e < St.szb l
  | [], _, h => by simp at h
  | x :: l, e, h => by
    simp only [St.szb]
    rcases List.mem_cons.1 h with rfl | h
    · omega
    · have := St.szb_mem l e h; omega
end Go.Proofs.Ytoejpjnicpajlaa
