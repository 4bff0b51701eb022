/- What Vars answers, as plain data: the names of a map in order, each with its number; a row of variables that the call owns. -/
import Derived.Test.YtoejpjnicpajlaaDoF
import Derived.Sort.KeysCollected
set_option linter.unusedVariables false
namespace Go.Proofs.Ytoejpjnicpajlaa
open Go.RowKit Go.Maps Go.WideMaps Go.ChangeMaps Go.Sort

def mkB (l : List UInt8) : ByteArray := ⟨l.toArray⟩
theorem mkB_data (s : ByteArray) : mkB s.data.toList = s := by cases s; simp [mkB]
theorem mkB_list (l : List UInt8) : (mkB l).data.toList = l := by simp [mkB]
theorem mkB_inj {a b : List UInt8} (h : mkB a = mkB b) : a = b := by rw [← mkB_list a, ← mkB_list b, h]

/-- vl: the variables of f, by their names in order. -/
def VarsOf (f : Vs) (vl : List Vr) : Prop := ∃ ss : List (List UInt8), ss.Nodup ∧ (∀ x, x ∈ ss ↔ f (mkB x) ≠ none) ∧ vl = (ss.mergeSort leB).map fun x => (mkB x, val f (mkB x))
theorem VarsOf.unique {f : Vs} {a b : List Vr} (ha : VarsOf f a) (hb : VarsOf f b) : a = b := by
  obtain ⟨s, hs, hm, rfl⟩ := ha
  obtain ⟨t, ht, hn, rfl⟩ := hb
  have hp : s.Perm t := (List.perm_ext_iff_of_nodup hs ht).2 fun x => (hm x).trans (hn x).symm
  rw [mergeSort_of_perm hp]
theorem VarsOf.names {f : Vs} {a : List Vr} (ha : VarsOf f a) : (a.map (·.1)).Nodup ∧ (∀ p ∈ a, f p.1 ≠ none ∧ p.2 = val f p.1) := by
  obtain ⟨s, hs, hm, rfl⟩ := ha
  have hp := List.mergeSort_perm s leB
  constructor
  · rw [List.map_map]
    refine List.pairwise_map.2 ((hp.nodup_iff.2 hs).imp fun h e => h (mkB_inj e))
  · intro p hpm
    obtain ⟨x, hx, rfl⟩ := List.mem_map.1 hpm
    exact ⟨(hm x).1 (hp.mem_iff.1 hx), rfl⟩
theorem lookV_map (g : ByteArray → Int) (x : ByteArray) : ∀ (K : List (List UInt8)), lookV (K.map fun y => (mkB y, g (mkB y))) x = (if x.data.toList ∈ K then some (g x) else none)
  | [] => by simp [lookV]
  | k :: K => by
    have ih := lookV_map g x K
    simp only [List.map_cons, lookV, ih, List.mem_cons]
    by_cases h : mkB k = x
    · have h2 : x.data.toList = k := by rw [← h, mkB_list]
      simp [h, h2]
    · have h2 : ¬ x.data.toList = k := fun e => h (by rw [← e, mkB_data])
      simp [h, h2]
theorem VarsOf.look {f : Vs} {a : List Vr} (ha : VarsOf f a) : lookV a = f := by
  funext x
  obtain ⟨s, hs, hm, rfl⟩ := ha
  have hp := List.mergeSort_perm s leB
  rw [lookV_map (val f) x]
  have h1 := hm x.data.toList
  rw [mkB_data] at h1
  by_cases h : x.data.toList ∈ s
  · rw [if_pos (hp.mem_iff.2 h)]
    have := h1.1 h
    unfold val
    cases hf : f x with
    | none => exact absurd hf this
    | some v => rfl
  · rw [if_neg (fun e => h (hp.mem_iff.1 e))]
    cases hf : f x with
    | none => rfl
    | some v => exact absurd (h1.2 (by rw [hf]; simp)) h

def flatV : List Vr → List Value
  | [] => []
  | v :: l => .string v.1 :: .int .i64 v.2 :: flatV l
theorem flatV_length : ∀ l : List Vr, (flatV l).length = l.length * 2
  | [] => rfl
  | v :: l => by simp only [flatV, List.length_cons, flatV_length l]; omega
theorem flatV_append : ∀ l r : List Vr, flatV (l ++ r) = flatV l ++ flatV r
  | [], r => rfl
  | v :: l, r => by simp only [List.cons_append, flatV, flatV_append l r]
theorem flatV_rep {w : World} : ∀ (l : List Vr) (b o : Nat), (∀ v ∈ l, v.1.size ≤ maxLen ∧ I64 v.2) → (∀ j u, (flatV l)[j]? = some u → w.cell? ⟨b, o + j, none⟩ = some u) → RepVs w l b o
  | [], _, _, _, _ => trivial
  | v :: l, b, o, hv, h => by
    refine ⟨h 0 _ rfl, h 1 _ rfl, (hv v (by simp)).1, (hv v (by simp)).2, flatV_rep l b (o + 2) (fun x hx => hv x (by simp [hx])) fun j u hj => ?_⟩
    have := h (j + 2) u (by simpa [flatV] using hj)
    rw [show o + 2 + j = o + (j + 2) by omega]
    exact this
theorem RepVl.of_row {w : World} {base e B' : Nat} {v : Value} {l : List Vr} (h : w.ownsRow base e 2 v l.length (flatV l)) (hv : ∀ v ∈ l, v.1.size ≤ maxLen ∧ I64 v.2) (hw : w.heap.size ≤ B') : ∃ a cap, v = .slice a l.length cap ∧ RepVl w B' l a l.length cap := by
  rcases h.2 with ⟨rfl, h0⟩ | ⟨g, cap, cur, rfl, hb, hg, hn, hc, hsz, ht⟩
  · rw [h0]
    have hl : l = [] := List.eq_nil_of_length_eq_zero h0
    subst hl
    exact ⟨none, 0, rfl, ⟨rfl, Nat.le_refl _, Nat.zero_le _, fun _ => rfl⟩, .inl rfl⟩
  · refine ⟨_, cap, rfl, ⟨rfl, hn, hc, fun h => by cases h⟩, .inr ⟨g, 0, rfl, ?_, ?_⟩⟩
    · have := (Array.getElem?_eq_some_iff.1 hg).1; omega
    · refine flatV_rep l g 0 hv fun j u hj => ?_
      have hlt : j < l.length * 2 := by
        have := (List.getElem?_eq_some_iff.1 hj).1
        have := flatV_length l
        omega
      rw [Nat.zero_add, h.cellAt j hlt]
      exact hj

theorem strKeys_ok {H : Type} {P : Program} {k : TypeId} {R : Value → Option (DataW H × List MemPlace)} {w : World} {b n : Nat} {D0 : DataW H} (hown : w.ownsMap P k R b n D0) (K : Keyed P k) (hk : P.underlying k = some .string) :
    (strKeys D0).Nodup ∧ ∀ x, x ∈ strKeys D0 ↔ Maps.has D0 (.string x) = true := by
  obtain ⟨es, hD, hpw, _⟩ := hown.entries K
  obtain ⟨es', hD', hko⟩ := hown.keysOf
  obtain rfl : es = es' := by rw [hD] at hD'; simpa using hD'
  subst hD
  have hstr : ∀ p ∈ es, ∃ x, p.1 = .string x := fun p hp => by obtain ⟨v, hv⟩ := hko p hp; obtain ⟨x, _, hx, _⟩ := Maps.keyOf_str hk hv; exact ⟨x, hx⟩
  constructor
  · show (es.map fun p => strOf p.1).Nodup
    refine List.pairwise_map.2 (hpw.imp_of_mem fun {p q} hp' hq' hne e => hne ?_)
    obtain ⟨a, ha⟩ := hstr p hp'
    obtain ⟨b, hb⟩ := hstr q hq'
    rw [ha, hb] at e ⊢
    exact congrArg _ e
  · intro x
    rw [has_eq, List.any_eq_true]
    show x ∈ es.map (fun p => strOf p.1) ↔ _
    rw [List.mem_map]
    constructor
    · rintro ⟨p, hp', rfl⟩
      obtain ⟨a, ha⟩ := hstr p hp'
      exact ⟨p, hp', by rw [ha]; simp [Lit.sameKey, strOf]⟩
    · rintro ⟨p, hp', hs⟩
      obtain ⟨a, ha⟩ := hstr p hp'
      rw [ha] at hs
      exact ⟨p, hp', by rw [ha]; simpa [Lit.sameKey, strOf] using hs⟩
end Go.Proofs.Ytoejpjnicpajlaa
