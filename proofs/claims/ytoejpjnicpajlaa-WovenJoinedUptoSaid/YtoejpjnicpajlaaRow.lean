/- Lists of statements and expressions as rows of cells that the call itself owns. No program in sight. -/
import Derived.Test.YtoejpjnicpajlaaData
set_option linter.unusedVariables false
namespace Go.Proofs.Ytoejpjnicpajlaa
open Go.RowKit

/-- xs: the cells of these statements, eight each; what they lead to lies below B. -/
def FlatS (w : World) (B : Nat) : List St → List Value → Prop
  | [], xs => xs = []
  | s :: l, xs => ∃ v0 v1 v2 v3 v4 v5 v6 v7 ys, xs = v0 :: v1 :: v2 :: v3 :: v4 :: v5 :: v6 :: v7 :: ys ∧ RepS w B s (.agg #[v0, v1, v2, v3, v4, v5, v6, v7]) ∧ FlatS w B l ys
def FlatE (w : World) (B : Nat) : List Ex → List Value → Prop
  | [], xs => xs = []
  | e :: l, xs => ∃ v0 v1 v2 v3 ys, xs = v0 :: v1 :: v2 :: v3 :: ys ∧ RepE w B e (.agg #[v0, v1, v2, v3]) ∧ FlatE w B l ys
def FlatB (w : World) (B : Nat) : List (List St) → List Value → Prop
  | [], xs => xs = []
  | l :: ls, xs => ∃ a len cap ys, xs = .slice a len cap :: ys ∧ RepSl w B l a len cap ∧ FlatB w B ls ys

theorem FlatS.keep {w w' : World} {B B' : Nat} (ag : Agree B w w') (hB : B ≤ B') : ∀ (l : List St) (xs : List Value), FlatS w B l xs → FlatS w' B' l xs
  | [], _, h => h
  | s :: l, xs, ⟨v0, v1, v2, v3, v4, v5, v6, v7, ys, hx, hs, hl⟩ => ⟨v0, v1, v2, v3, v4, v5, v6, v7, ys, hx, hs.keep ag hB, FlatS.keep ag hB l ys hl⟩
theorem FlatE.keep {w w' : World} {B B' : Nat} (ag : Agree B w w') (hB : B ≤ B') : ∀ (l : List Ex) (xs : List Value), FlatE w B l xs → FlatE w' B' l xs
  | [], _, h => h
  | s :: l, xs, ⟨v0, v1, v2, v3, ys, hx, hs, hl⟩ => ⟨v0, v1, v2, v3, ys, hx, hs.keep ag hB, FlatE.keep ag hB l ys hl⟩
theorem FlatB.keep {w w' : World} {B B' : Nat} (ag : Agree B w w') (hB : B ≤ B') : ∀ (l : List (List St)) (xs : List Value), FlatB w B l xs → FlatB w' B' l xs
  | [], _, h => h
  | s :: l, xs, ⟨a, len, cap, ys, hx, hs, hl⟩ => ⟨a, len, cap, ys, hx, hs.keep ag hB, FlatB.keep ag hB l ys hl⟩

theorem FlatS.length {w : World} {B : Nat} : ∀ (l : List St) (xs : List Value), FlatS w B l xs → xs.length = l.length * 8
  | [], _, h => by rw [show _ = [] from h]; rfl
  | s :: l, xs, ⟨v0, v1, v2, v3, v4, v5, v6, v7, ys, hx, hs, hl⟩ => by have := FlatS.length l ys hl; subst hx; simp only [List.length_cons]; omega
theorem FlatE.length {w : World} {B : Nat} : ∀ (l : List Ex) (xs : List Value), FlatE w B l xs → xs.length = l.length * 4
  | [], _, h => by rw [show _ = [] from h]; rfl
  | s :: l, xs, ⟨v0, v1, v2, v3, ys, hx, hs, hl⟩ => by have := FlatE.length l ys hl; subst hx; simp only [List.length_cons]; omega
theorem FlatB.length {w : World} {B : Nat} : ∀ (l : List (List St)) (xs : List Value), FlatB w B l xs → xs.length = l.length * 1
  | [], _, h => by rw [show _ = [] from h]; rfl
  | s :: l, xs, ⟨a, len, cap, ys, hx, hs, hl⟩ => by have := FlatB.length l ys hl; subst hx; simp only [List.length_cons]; omega

theorem FlatS.append {w : World} {B : Nat} : ∀ (l r : List St) (xs ys : List Value), FlatS w B l xs → FlatS w B r ys → FlatS w B (l ++ r) (xs ++ ys)
  | [], r, xs, ys, h, g => by rw [show xs = [] from h]; exact g
  | s :: l, r, xs, ys, ⟨v0, v1, v2, v3, v4, v5, v6, v7, zs, hx, hs, hl⟩, g => ⟨v0, v1, v2, v3, v4, v5, v6, v7, zs ++ ys, by rw [hx]; rfl, hs, FlatS.append l r zs ys hl g⟩
theorem FlatE.append {w : World} {B : Nat} : ∀ (l r : List Ex) (xs ys : List Value), FlatE w B l xs → FlatE w B r ys → FlatE w B (l ++ r) (xs ++ ys)
  | [], r, xs, ys, h, g => by rw [show xs = [] from h]; exact g
  | s :: l, r, xs, ys, ⟨v0, v1, v2, v3, zs, hx, hs, hl⟩, g => ⟨v0, v1, v2, v3, zs ++ ys, by rw [hx]; rfl, hs, FlatE.append l r zs ys hl g⟩
theorem FlatB.append {w : World} {B : Nat} : ∀ (l r : List (List St)) (xs ys : List Value), FlatB w B l xs → FlatB w B r ys → FlatB w B (l ++ r) (xs ++ ys)
  | [], r, xs, ys, h, g => by rw [show xs = [] from h]; exact g
  | s :: l, r, xs, ys, ⟨a, len, cap, zs, hx, hs, hl⟩, g => ⟨a, len, cap, zs ++ ys, by rw [hx]; rfl, hs, FlatB.append l r zs ys hl g⟩

theorem FlatS.split {w : World} {B : Nat} : ∀ (l r : List St) (xs : List Value), FlatS w B (l ++ r) xs → ∃ ys zs, xs = ys ++ zs ∧ FlatS w B l ys ∧ FlatS w B r zs
  | [], r, xs, h => ⟨[], xs, rfl, rfl, h⟩
  | s :: l, r, xs, ⟨v0, v1, v2, v3, v4, v5, v6, v7, ys, hx, hs, hl⟩ => by
    obtain ⟨as, bs, rfl, ha, hb⟩ := FlatS.split l r ys hl
    exact ⟨_, bs, hx, ⟨v0, v1, v2, v3, v4, v5, v6, v7, as, rfl, hs, ha⟩, hb⟩
theorem FlatE.split {w : World} {B : Nat} : ∀ (l r : List Ex) (xs : List Value), FlatE w B (l ++ r) xs → ∃ ys zs, xs = ys ++ zs ∧ FlatE w B l ys ∧ FlatE w B r zs
  | [], r, xs, h => ⟨[], xs, rfl, rfl, h⟩
  | s :: l, r, xs, ⟨v0, v1, v2, v3, ys, hx, hs, hl⟩ => by
    obtain ⟨as, bs, rfl, ha, hb⟩ := FlatE.split l r ys hl
    exact ⟨_, bs, hx, ⟨v0, v1, v2, v3, as, rfl, hs, ha⟩, hb⟩
theorem FlatS.one {w : World} {B : Nat} {s : St} {xs : List Value} (h : FlatS w B [s] xs) : ∃ v0 v1 v2 v3 v4 v5 v6 v7, xs = [v0, v1, v2, v3, v4, v5, v6, v7] ∧ RepS w B s (.agg #[v0, v1, v2, v3, v4, v5, v6, v7]) := by
  obtain ⟨v0, v1, v2, v3, v4, v5, v6, v7, ys, hx, hs, hl⟩ := h
  rw [show ys = [] from hl] at hx
  exact ⟨v0, v1, v2, v3, v4, v5, v6, v7, hx, hs⟩
theorem FlatE.one {w : World} {B : Nat} {e : Ex} {xs : List Value} (h : FlatE w B [e] xs) : ∃ v0 v1 v2 v3, xs = [v0, v1, v2, v3] ∧ RepE w B e (.agg #[v0, v1, v2, v3]) := by
  obtain ⟨v0, v1, v2, v3, ys, hx, hs, hl⟩ := h
  rw [show ys = [] from hl] at hx
  exact ⟨v0, v1, v2, v3, hx, hs⟩

theorem FlatE.plain {w : World} {B : Nat} : ∀ (l : List Ex) (xs : List Value), FlatE w B l xs → ∀ u ∈ xs, u.oneCell' = true
  | [], xs, h, u, hu => by rw [show xs = [] from h] at hu; cases hu
  | e :: l, xs, ⟨v0, v1, v2, v3, ys, hx, hs, hl⟩, u, hu => by
    obtain ⟨k, n, s, a, len, cap, rfl, rfl, rfl, rfl⟩ := hs.forms
    subst hx
    simp only [List.mem_cons] at hu
    rcases hu with rfl | rfl | rfl | rfl | hu
    all_goals first | rfl | exact FlatE.plain l ys hl u hu
theorem FlatS.plain {w : World} {B : Nat} : ∀ (l : List St) (xs : List Value), FlatS w B l xs → ∀ u ∈ xs, u.oneCell' = true
  | [], xs, h, u, hu => by rw [show xs = [] from h] at hu; cases hu
  | s :: l, xs, ⟨v0, v1, v2, v3, v4, v5, v6, v7, ys, hx, hs, hl⟩, u, hu => by
    obtain ⟨k, nm, ek, en, es, ea, el, ec, q, a, len, cap, rfl, rfl, rfl, rfl, rfl, rfl, rfl, rfl⟩ := hs.forms
    subst hx
    simp only [List.mem_cons] at hu
    rcases hu with rfl | rfl | rfl | rfl | rfl | rfl | rfl | rfl | hu
    all_goals first | rfl | exact FlatS.plain l ys hl u hu
theorem FlatB.plain {w : World} {B : Nat} : ∀ (l : List (List St)) (xs : List Value), FlatB w B l xs → ∀ u ∈ xs, u.oneCell' = true
  | [], xs, h, u, hu => by rw [show xs = [] from h] at hu; cases hu
  | s :: l, xs, ⟨a, len, cap, ys, hx, hs, hl⟩, u, hu => by
    subst hx
    simp only [List.mem_cons] at hu
    rcases hu with rfl | hu
    all_goals first | rfl | exact FlatB.plain l ys hl u hu

theorem add_lit (b o j : Nat) : (⟨b, o, none⟩ : Addr).add j = ⟨b, o + j, none⟩ := by
  unfold Addr.add
  split
  · subst_vars; rfl
  · rfl

/-- The cells of a row that lies in memory. -/
theorem RepSs.flat {w : World} {B : Nat} : ∀ (l : List St) (b o : Nat), RepSs w B l b o → ∃ xs, FlatS w B l xs ∧ ∀ j u, xs[j]? = some u → w.cell? ⟨b, o + j, none⟩ = some u
  | [], b, o, _ => ⟨[], rfl, fun j u h => by simp at h⟩
  | s :: l, b, o, h => by
    simp only [RepSs] at h
    obtain ⟨⟨v0, v1, v2, v3, v4, v5, v6, v7, h0, h1, h2, h3, h4, h5, h6, h7, hs⟩, hl⟩ := h
    obtain ⟨ys, hf, hy⟩ := RepSs.flat l b (o + 8) hl
    refine ⟨_, ⟨v0, v1, v2, v3, v4, v5, v6, v7, ys, rfl, hs, hf⟩, ?_⟩
    intro j u hj
    match j, hj with
    | 0, hj => simp at hj; subst hj; exact h0
    | 1, hj => simp at hj; subst hj; exact h1
    | 2, hj => simp at hj; subst hj; exact h2
    | 3, hj => simp at hj; subst hj; exact h3
    | 4, hj => simp at hj; subst hj; exact h4
    | 5, hj => simp at hj; subst hj; exact h5
    | 6, hj => simp at hj; subst hj; exact h6
    | 7, hj => simp at hj; subst hj; exact h7
    | j + 8, hj =>
      have := hy j u (by simpa using hj)
      rw [show o + 8 + j = o + (j + 8) by omega] at this
      exact this
theorem RepEs.flat {w : World} {B : Nat} : ∀ (l : List Ex) (b o : Nat), RepEs w B l b o → ∃ xs, FlatE w B l xs ∧ ∀ j u, xs[j]? = some u → w.cell? ⟨b, o + j, none⟩ = some u
  | [], b, o, _ => ⟨[], rfl, fun j u h => by simp at h⟩
  | s :: l, b, o, h => by
    simp only [RepEs] at h
    obtain ⟨⟨v0, v1, v2, v3, h0, h1, h2, h3, hs⟩, hl⟩ := h
    obtain ⟨ys, hf, hy⟩ := RepEs.flat l b (o + 4) hl
    refine ⟨_, ⟨v0, v1, v2, v3, ys, rfl, hs, hf⟩, ?_⟩
    intro j u hj
    match j, hj with
    | 0, hj => simp at hj; subst hj; exact h0
    | 1, hj => simp at hj; subst hj; exact h1
    | 2, hj => simp at hj; subst hj; exact h2
    | 3, hj => simp at hj; subst hj; exact h3
    | j + 4, hj =>
      have := hy j u (by simpa using hj)
      rw [show o + 4 + j = o + (j + 4) by omega] at this
      exact this
theorem RepBs.flat {w : World} {B : Nat} : ∀ (l : List (List St)) (b o : Nat), RepBs w B l b o → ∃ xs, FlatB w B l xs ∧ ∀ j u, xs[j]? = some u → w.cell? ⟨b, o + j, none⟩ = some u
  | [], b, o, _ => ⟨[], rfl, fun j u h => by simp at h⟩
  | s :: l, b, o, h => by
    simp only [RepBs] at h
    obtain ⟨⟨a, len, cap, h0, hs⟩, hl⟩ := h
    obtain ⟨ys, hf, hy⟩ := RepBs.flat l b (o + 1) hl
    refine ⟨_, ⟨a, len, cap, ys, rfl, hs, hf⟩, ?_⟩
    intro j u hj
    match j, hj with
    | 0, hj => simp at hj; subst hj; exact h0
    | j + 1, hj =>
      have := hy j u (by simpa using hj)
      rw [show o + 1 + j = o + (j + 1) by omega] at this
      exact this

/-- And back: cells that hold these read as the row. -/
theorem FlatS.rep {w : World} {B : Nat} : ∀ (l : List St) (xs : List Value) (b o : Nat), FlatS w B l xs → (∀ j u, xs[j]? = some u → w.cell? ⟨b, o + j, none⟩ = some u) → RepSs w B l b o
  | [], _, _, _, _, _ => by simp only [RepSs]
  | s :: l, xs, b, o, ⟨v0, v1, v2, v3, v4, v5, v6, v7, ys, hx, hs, hl⟩, hc => by
    subst hx
    simp only [RepSs]
    refine ⟨⟨v0, v1, v2, v3, v4, v5, v6, v7, hc 0 _ rfl, hc 1 _ rfl, hc 2 _ rfl, hc 3 _ rfl, hc 4 _ rfl, hc 5 _ rfl, hc 6 _ rfl, hc 7 _ rfl, hs⟩, FlatS.rep l ys b (o + 8) hl ?_⟩
    intro j u hj
    have := hc (j + 8) u (by simpa using hj)
    rw [show o + (j + 8) = o + 8 + j by omega] at this
    exact this
theorem FlatE.rep {w : World} {B : Nat} : ∀ (l : List Ex) (xs : List Value) (b o : Nat), FlatE w B l xs → (∀ j u, xs[j]? = some u → w.cell? ⟨b, o + j, none⟩ = some u) → RepEs w B l b o
  | [], _, _, _, _, _ => by simp only [RepEs]
  | s :: l, xs, b, o, ⟨v0, v1, v2, v3, ys, hx, hs, hl⟩, hc => by
    subst hx
    simp only [RepEs]
    refine ⟨⟨v0, v1, v2, v3, hc 0 _ rfl, hc 1 _ rfl, hc 2 _ rfl, hc 3 _ rfl, hs⟩, FlatE.rep l ys b (o + 4) hl ?_⟩
    intro j u hj
    have := hc (j + 4) u (by simpa using hj)
    rw [show o + (j + 4) = o + 4 + j by omega] at this
    exact this
theorem FlatB.rep {w : World} {B : Nat} : ∀ (l : List (List St)) (xs : List Value) (b o : Nat), FlatB w B l xs → (∀ j u, xs[j]? = some u → w.cell? ⟨b, o + j, none⟩ = some u) → RepBs w B l b o
  | [], _, _, _, _, _ => by simp only [RepBs]
  | s :: l, xs, b, o, ⟨a, len, cap, ys, hx, hs, hl⟩, hc => by
    subst hx
    simp only [RepBs]
    refine ⟨⟨a, len, cap, hc 0 _ rfl, hs⟩, FlatB.rep l ys b (o + 1) hl ?_⟩
    intro j u hj
    have := hc (j + 1) u (by simpa using hj)
    rw [show o + (j + 1) = o + 1 + j by omega] at this
    exact this

/-- An owned row reads as the list. -/
theorem RepSl.of_row {w : World} {base e B B' : Nat} {v : Value} {l : List St} {xs : List Value} (h : w.ownsRow base e 8 v l.length xs) (hf : FlatS w B l xs) (hB : B ≤ B') (hw : w.heap.size ≤ B') : ∃ a cap, v = .slice a l.length cap ∧ RepSl w B' l a l.length cap := by
  rcases h.2 with ⟨rfl, h0⟩ | ⟨g, cap, cur, rfl, hb, hg, hn, hc, hsz, ht⟩
  · rw [h0]
    have hl : l = [] := List.eq_nil_of_length_eq_zero h0
    subst hl
    exact ⟨none, 0, rfl, ⟨rfl, Nat.le_refl _, Nat.zero_le _, fun _ => rfl⟩, .inl rfl⟩
  · refine ⟨_, cap, rfl, ⟨rfl, hn, hc, fun h => by cases h⟩, .inr ⟨g, 0, rfl, ?_, ?_⟩⟩
    · have := (Array.getElem?_eq_some_iff.1 hg).1; omega
    · refine FlatS.rep l xs g 0 (hf.keep (Agree.refl _ _) hB) fun j u hj => ?_
      have hlt : j < l.length * 8 := by
        have := (List.getElem?_eq_some_iff.1 hj).1
        have := FlatS.length l xs hf
        omega
      rw [Nat.zero_add, h.cellAt j hlt]
      exact hj
theorem RepEl.of_row {w : World} {base e B B' : Nat} {v : Value} {l : List Ex} {xs : List Value} (h : w.ownsRow base e 4 v l.length xs) (hf : FlatE w B l xs) (hB : B ≤ B') (hw : w.heap.size ≤ B') : ∃ a cap, v = .slice a l.length cap ∧ RepEl w B' l a l.length cap := by
  rcases h.2 with ⟨rfl, h0⟩ | ⟨g, cap, cur, rfl, hb, hg, hn, hc, hsz, ht⟩
  · rw [h0]
    have hl : l = [] := List.eq_nil_of_length_eq_zero h0
    subst hl
    exact ⟨none, 0, rfl, ⟨rfl, Nat.le_refl _, Nat.zero_le _, fun _ => rfl⟩, .inl rfl⟩
  · refine ⟨_, cap, rfl, ⟨rfl, hn, hc, fun h => by cases h⟩, .inr ⟨g, 0, rfl, ?_, ?_⟩⟩
    · have := (Array.getElem?_eq_some_iff.1 hg).1; omega
    · refine FlatE.rep l xs g 0 (hf.keep (Agree.refl _ _) hB) fun j u hj => ?_
      have hlt : j < l.length * 4 := by
        have := (List.getElem?_eq_some_iff.1 hj).1
        have := FlatE.length l xs hf
        omega
      rw [Nat.zero_add, h.cellAt j hlt]
      exact hj
theorem RepBl.of_row {w : World} {base e B B' : Nat} {v : Value} {l : List (List St)} {xs : List Value} (h : w.ownsRow base e 1 v l.length xs) (hf : FlatB w B l xs) (hB : B ≤ B') (hw : w.heap.size ≤ B') : ∃ a cap, v = .slice a l.length cap ∧ RepBl w B' l a l.length cap := by
  rcases h.2 with ⟨rfl, h0⟩ | ⟨g, cap, cur, rfl, hb, hg, hn, hc, hsz, ht⟩
  · rw [h0]
    have hl : l = [] := List.eq_nil_of_length_eq_zero h0
    subst hl
    exact ⟨none, 0, rfl, ⟨rfl, Nat.le_refl _, Nat.zero_le _, fun _ => rfl⟩, .inl rfl⟩
  · refine ⟨_, cap, rfl, ⟨rfl, hn, hc, fun h => by cases h⟩, .inr ⟨g, 0, rfl, ?_, ?_⟩⟩
    · have := (Array.getElem?_eq_some_iff.1 hg).1; omega
    · refine FlatB.rep l xs g 0 (hf.keep (Agree.refl _ _) hB) fun j u hj => ?_
      have hlt : j < l.length * 1 := by
        have := (List.getElem?_eq_some_iff.1 hj).1
        have := FlatB.length l xs hf
        omega
      rw [Nat.zero_add, h.cellAt j hlt]
      exact hj

/-- The source of an append: any slice that reads as a list of statements. -/
theorem RepSl.source {w : World} {B : Nat} {l : List St} {a : Option Addr} {len cap : Nat} (h : RepSl w B l a len cap) :
    (a = none ∧ len = 0 ∧ cap = 0 ∧ l = []) ∨ ∃ ad news, a = some ad ∧ news.length = len * 8 ∧ FlatS w B l news ∧ ∀ j u, news[j]? = some u → w.cell? (ad.add j) = some u := by
  obtain ⟨⟨h1, h2, h3, h4⟩, h5⟩ := h
  cases a with
  | none =>
    have hc := h4 rfl
    have hl : l = [] := List.eq_nil_of_length_eq_zero (by omega)
    exact .inl ⟨rfl, by omega, hc, hl⟩
  | some ad =>
    refine .inr ⟨ad, ?_⟩
    rcases h5 with rfl | ⟨b, o, ha, hb, hr⟩
    · exact ⟨[], rfl, by simp at h1; simp [h1], rfl, fun j u hj => by simp at hj⟩
    · cases ha
      obtain ⟨xs, hf, hc⟩ := RepSs.flat l b o hr
      exact ⟨xs, rfl, by rw [FlatS.length l xs hf, h1], hf, fun j u hj => by rw [add_lit]; exact hc j u hj⟩
theorem RepEl.source {w : World} {B : Nat} {l : List Ex} {a : Option Addr} {len cap : Nat} (h : RepEl w B l a len cap) :
    (a = none ∧ len = 0 ∧ cap = 0 ∧ l = []) ∨ ∃ ad news, a = some ad ∧ news.length = len * 4 ∧ FlatE w B l news ∧ ∀ j u, news[j]? = some u → w.cell? (ad.add j) = some u := by
  obtain ⟨⟨h1, h2, h3, h4⟩, h5⟩ := h
  cases a with
  | none =>
    have hc := h4 rfl
    have hl : l = [] := List.eq_nil_of_length_eq_zero (by omega)
    exact .inl ⟨rfl, by omega, hc, hl⟩
  | some ad =>
    refine .inr ⟨ad, ?_⟩
    rcases h5 with rfl | ⟨b, o, ha, hb, hr⟩
    · exact ⟨[], rfl, by simp at h1; simp [h1], rfl, fun j u hj => by simp at hj⟩
    · cases ha
      obtain ⟨xs, hf, hc⟩ := RepEs.flat l b o hr
      exact ⟨xs, rfl, by rw [FlatE.length l xs hf, h1], hf, fun j u hj => by rw [add_lit]; exact hc j u hj⟩
theorem RepBl.source {w : World} {B : Nat} {l : List (List St)} {a : Option Addr} {len cap : Nat} (h : RepBl w B l a len cap) :
    (a = none ∧ len = 0 ∧ cap = 0 ∧ l = []) ∨ ∃ ad news, a = some ad ∧ news.length = len * 1 ∧ FlatB w B l news ∧ ∀ j u, news[j]? = some u → w.cell? (ad.add j) = some u := by
  obtain ⟨⟨h1, h2, h3, h4⟩, h5⟩ := h
  cases a with
  | none =>
    have hc := h4 rfl
    have hl : l = [] := List.eq_nil_of_length_eq_zero (by omega)
    exact .inl ⟨rfl, by omega, hc, hl⟩
  | some ad =>
    refine .inr ⟨ad, ?_⟩
    rcases h5 with rfl | ⟨b, o, ha, hb, hr⟩
    · exact ⟨[], rfl, by simp at h1; simp [h1], rfl, fun j u hj => by simp at hj⟩
    · cases ha
      obtain ⟨xs, hf, hc⟩ := RepBs.flat l b o hr
      exact ⟨xs, rfl, by rw [FlatB.length l xs hf, h1], hf, fun j u hj => by rw [add_lit]; exact hc j u hj⟩
end Go.Proofs.Ytoejpjnicpajlaa
