/- Two parts of a program mean what the second one means, begun with what the first one means: as plain laws of meanD. No program in sight. -/
import Derived.Test.YtoejpjnicpajlaaVarsF
set_option linter.unusedVariables false
namespace Go.Proofs.Ytoejpjnicpajlaa

theorem setV_same (f : Vs) (s : ByteArray) (v : Int) : setV f s v s = some v := by simp [setV]
theorem setV_other (f : Vs) {s x : ByteArray} (v : Int) (h : ¬ s = x) : setV f s v x = f x := by simp [setV, h]

/-! ### induction over statements -/
mutual
theorem St.indS {P : St → Prop} {Q : List St → Prop} (hmk : ∀ (k : Int) (nm : ByteArray) (e : Ex) (n : Int) (bs : List (List St)), (∀ b ∈ bs, Q b) → P (.mk k nm e n bs)) (hnil : Q []) (hcons : ∀ (s : St) (l : List St), P s → Q l → Q (s :: l)) : ∀ s : St, P s
  | .mk k nm e n bs => hmk k nm e n bs (St.indB hmk hnil hcons bs)
theorem St.indL {P : St → Prop} {Q : List St → Prop} (hmk : ∀ (k : Int) (nm : ByteArray) (e : Ex) (n : Int) (bs : List (List St)), (∀ b ∈ bs, Q b) → P (.mk k nm e n bs)) (hnil : Q []) (hcons : ∀ (s : St) (l : List St), P s → Q l → Q (s :: l)) : ∀ l : List St, Q l
  | [] => hnil
  | s :: l => hcons s l (St.indS hmk hnil hcons s) (St.indL hmk hnil hcons l)
theorem St.indB {P : St → Prop} {Q : List St → Prop} (hmk : ∀ (k : Int) (nm : ByteArray) (e : Ex) (n : Int) (bs : List (List St)), (∀ b ∈ bs, Q b) → P (.mk k nm e n bs)) (hnil : Q []) (hcons : ∀ (s : St) (l : List St), P s → Q l → Q (s :: l)) : ∀ (bs : List (List St)) (b : List St), b ∈ bs → Q b
  | [], b, h => absurd h (by simp)
  | b :: bs, x, h => (List.mem_cons.1 h).elim (fun e => e.symm ▸ St.indL hmk hnil hcons b) (fun h => St.indB hmk hnil hcons bs x h)
end
mutual
theorem Ex.indE {P : Ex → Prop} (hmk : ∀ (k n : Int) (s : ByteArray) (ks : List Ex), (∀ e ∈ ks, P e) → P (.mk k n s ks)) : ∀ e : Ex, P e
  | .mk k n s ks => hmk k n s ks (Ex.indK hmk ks)
theorem Ex.indK {P : Ex → Prop} (hmk : ∀ (k n : Int) (s : ByteArray) (ks : List Ex), (∀ e ∈ ks, P e) → P (.mk k n s ks)) : ∀ (ks : List Ex) (e : Ex), e ∈ ks → P e
  | [], e, h => absurd h (by simp)
  | x :: ks, e, h => (List.mem_cons.1 h).elim (fun h => h.symm ▸ Ex.indE hmk x) (fun h => Ex.indK hmk ks e h)
end

/-! ### a statement's meaning, kind by kind -/
theorem denS_1 (nm : ByteArray) (e : Ex) (n : Int) (bs : List (List St)) (f : Vs) : denS (.mk 1 nm e n bs) f = (setV f nm (evE e (val f)), 1) := by cases bs <;> simp [denS]
theorem denS_2 (nm : ByteArray) (e : Ex) (n : Int) (bs : List (List St)) (f : Vs) : denS (.mk 2 nm e n bs) f = (setV f nm (w64 (val f nm + evE e (val f))), 1) := by cases bs <;> simp [denS]
theorem denS_3n (nm : ByteArray) (e : Ex) (n : Int) (f : Vs) : denS (.mk 3 nm e n []) f = (f, 1) := by simp [denS]
theorem denS_3 (nm : ByteArray) (e : Ex) (n : Int) (b : List St) (r : List (List St)) (f : Vs) : denS (.mk 3 nm e n (b :: r)) f = if 0 < evE e (val f) then ((denSs b f).1, 1 + (denSs b f).2) else ((denBs r f).1, 1 + (denBs r f).2) := by simp [denS]
theorem denS_4n (nm : ByteArray) (e : Ex) (n : Int) (f : Vs) : denS (.mk 4 nm e n []) f = (f, 0) := by simp [denS]
theorem denS_4 (nm : ByteArray) (e : Ex) (n : Int) (b : List St) (r : List (List St)) (f : Vs) : denS (.mk 4 nm e n (b :: r)) f = rep (denSs b) n.toNat f := by simp [denS]
theorem denS_5 {k : Int} (h1 : ¬ k = 1) (h2 : ¬ k = 2) (h3 : ¬ k = 3) (h4 : ¬ k = 4) (nm : ByteArray) (e : Ex) (n : Int) (bs : List (List St)) (f : Vs) : denS (.mk k nm e n bs) f = denBs bs f := by cases bs <;> simp [denS, h1, h2, h3, h4]

/-! ### the same names before and behind -/
def SameDom (f g : Vs) : Prop := ∀ x, g x = none ↔ f x = none
theorem SameDom.refl (f : Vs) : SameDom f f := fun _ => Iff.rfl
theorem SameDom.trans {f g h : Vs} (a : SameDom f g) (b : SameDom g h) : SameDom f h := fun x => (b x).trans (a x)
theorem SameDom.set {f : Vs} {s : ByteArray} (h : f s ≠ none) (v : Int) : SameDom f (setV f s v) := fun x => by
  by_cases hx : s = x
  · subst hx; rw [setV_same]; simp [h]
  · rw [setV_other f v hx]
theorem rep_dom {g : Vs → Vs × Nat} {T : List ByteArray} (hg : ∀ f : Vs, (∀ x ∈ T, f x ≠ none) → SameDom f (g f).1) : ∀ (n : Nat) (f : Vs), (∀ x ∈ T, f x ≠ none) → SameDom f (rep g n f).1
  | 0, f, _ => SameDom.refl f
  | n + 1, f, h => by
    simp only [rep]
    split
    · exact hg f h
    · exact (hg f h).trans (rep_dom hg n (g f).1 fun x hx e => h x hx ((hg f h x).1 e))
def DomS (s : St) : Prop := ∀ f : Vs, (∀ x ∈ asS s ++ adS s, f x ≠ none) → SameDom f (denS s f).1
def DomL (l : List St) : Prop := ∀ f : Vs, (∀ x ∈ asSs l ++ adSs l, f x ≠ none) → SameDom f (denSs l f).1
theorem dom_b : ∀ (l : List (List St)), (∀ b ∈ l, DomL b) → ∀ f : Vs, (∀ x ∈ asSb l ++ adSb l, f x ≠ none) → SameDom f (denBs l f).1
  | [], _, f, _ => by simp only [denBs]; exact SameDom.refl f
  | s :: l, hl, f, h => by
    simp only [denBs]
    have h1 := hl s (by simp) f fun x hx => h x (by simp only [asSb, adSb, List.mem_append] at hx ⊢; rcases hx with hx | hx; exact .inl (.inl hx); exact .inr (.inl hx))
    exact h1.trans (dom_b l (fun b hb => hl b (by simp [hb])) _ fun x hx e => h x (by simp only [asSb, adSb, List.mem_append] at hx ⊢; rcases hx with hx | hx; exact .inl (.inr hx); exact .inr (.inr hx)) ((h1 x).1 e))
theorem dom_mk (k : Int) (nm : ByteArray) (e : Ex) (n : Int) (bs : List (List St)) (ih : ∀ b ∈ bs, DomL b) : DomS (.mk k nm e n bs) := by
  intro f h
  by_cases h1 : k = 1
  · subst h1
    rw [denS_1]
    exact SameDom.set (h nm (by simp [asS])) _
  by_cases h2 : k = 2
  · subst h2
    rw [denS_2]
    exact SameDom.set (h nm (by simp [adS])) _
  have hb : ∀ x ∈ asSb bs ++ adSb bs, f x ≠ none := fun x hx => h x (by
    simp only [asS, adS, List.mem_append] at hx ⊢
    rcases hx with hx | hx
    · exact .inl (.inr hx)
    · exact .inr (.inr hx))
  have hhd : ∀ b r, bs = b :: r → ∀ x ∈ asSs b ++ adSs b, f x ≠ none := fun b r e x hx => hb x (by
    subst e
    simp only [asSb, adSb, List.mem_append] at hx ⊢
    rcases hx with hx | hx
    · exact .inl (.inl hx)
    · exact .inr (.inl hx))
  have htl : ∀ b r, bs = b :: r → ∀ x ∈ asSb r ++ adSb r, f x ≠ none := fun b r e x hx => hb x (by
    subst e
    simp only [asSb, adSb, List.mem_append] at hx ⊢
    rcases hx with hx | hx
    · exact .inl (.inr hx)
    · exact .inr (.inr hx))
  by_cases h3 : k = 3
  · subst h3
    cases bs with
    | nil => rw [denS_3n]; exact SameDom.refl f
    | cons b r =>
      rw [denS_3]
      split
      · exact ih b (by simp) f (hhd b r rfl)
      · exact dom_b r (fun b hb => ih b (by simp [hb])) f (htl b r rfl)
  by_cases h4 : k = 4
  · subst h4
    cases bs with
    | nil => rw [denS_4n]; exact SameDom.refl f
    | cons b r =>
      rw [denS_4]
      exact rep_dom (T := asSs b ++ adSs b) (fun f' hf' => ih b (by simp) f' hf') n.toNat f (hhd b r rfl)
  rw [denS_5 h1 h2 h3 h4]
  exact dom_b bs ih f hb
theorem dom_cons (s : St) (l : List St) (hs : DomS s) (hl : DomL l) : DomL (s :: l) := by
  intro f h
  simp only [denSs]
  have h1 := hs f fun x hx => h x (by simp only [asSs, adSs, List.mem_append] at hx ⊢; rcases hx with hx | hx; exact .inl (.inl hx); exact .inr (.inl hx))
  exact h1.trans (hl _ fun x hx e => h x (by simp only [asSs, adSs, List.mem_append] at hx ⊢; rcases hx with hx | hx; exact .inl (.inr hx); exact .inr (.inr hx)) ((h1 x).1 e))
theorem denSs_dom (l : List St) : DomL l := St.indL dom_mk (fun f _ => by simp only [denSs]; exact SameDom.refl f) dom_cons l

/-! ### names that are missing, or 0 -/
def ExtV (f g : Vs) : Prop := ∀ x, g x = f x ∨ (f x = none ∧ g x = some 0)
theorem ExtV.refl (f : Vs) : ExtV f f := fun _ => .inl rfl
theorem ExtV.val {f g : Vs} (h : ExtV f g) : val f = val g := by
  funext x
  unfold Go.Proofs.Ytoejpjnicpajlaa.val
  rcases h x with h1 | ⟨h1, h2⟩
  · rw [h1]
  · rw [h1, h2]; rfl
theorem ExtV.set {f g : Vs} (h : ExtV f g) (s : ByteArray) (v : Int) : ExtV (setV f s v) (setV g s v) := fun x => by
  by_cases hx : s = x
  · subst hx; rw [setV_same, setV_same]; exact .inl rfl
  · rw [setV_other f v hx, setV_other g v hx]; exact h x
def ExtD (a b : Vs × Nat) : Prop := ExtV a.1 b.1 ∧ a.2 = b.2
theorem rep_ext {g : Vs → Vs × Nat} (hg : ∀ f f', ExtV f f' → ExtD (g f) (g f')) : ∀ (n : Nat) (f f' : Vs), ExtV f f' → ExtD (rep g n f) (rep g n f')
  | 0, f, f', h => ⟨h, rfl⟩
  | n + 1, f, f', h => by
    have h1 := hg f f' h
    simp only [rep, ← h1.2]
    split
    · exact h1
    · have h2 := rep_ext hg n _ _ h1.1
      exact ⟨h2.1, by simp only [h2.2]⟩
def ExtS (s : St) : Prop := ∀ f g : Vs, ExtV f g → ExtD (denS s f) (denS s g)
def ExtL (l : List St) : Prop := ∀ f g : Vs, ExtV f g → ExtD (denSs l f) (denSs l g)
theorem ext_b : ∀ (l : List (List St)), (∀ b ∈ l, ExtL b) → ∀ f g : Vs, ExtV f g → ExtD (denBs l f) (denBs l g)
  | [], _, f, g, h => by simp only [denBs]; exact ⟨h, rfl⟩
  | s :: l, hl, f, g, h => by
    simp only [denBs]
    have h1 := hl s (by simp) f g h
    have h2 := ext_b l (fun b hb => hl b (by simp [hb])) _ _ h1.1
    exact ⟨h2.1, by simp only [h1.2, h2.2]⟩
theorem ext_mk (k : Int) (nm : ByteArray) (e : Ex) (n : Int) (bs : List (List St)) (ih : ∀ b ∈ bs, ExtL b) : ExtS (.mk k nm e n bs) := by
  intro f g h
  by_cases h1 : k = 1
  · subst h1
    rw [denS_1, denS_1, h.val]
    exact ⟨h.set _ _, rfl⟩
  by_cases h2 : k = 2
  · subst h2
    rw [denS_2, denS_2, h.val]
    exact ⟨h.set _ _, rfl⟩
  by_cases h3 : k = 3
  · subst h3
    cases bs with
    | nil => rw [denS_3n, denS_3n]; exact ⟨h, rfl⟩
    | cons b r =>
      rw [denS_3, denS_3, h.val]
      split
      · have := ih b (by simp) f g h; exact ⟨this.1, by simp only [this.2]⟩
      · have := ext_b r (fun b hb => ih b (by simp [hb])) f g h; exact ⟨this.1, by simp only [this.2]⟩
  by_cases h4 : k = 4
  · subst h4
    cases bs with
    | nil => rw [denS_4n, denS_4n]; exact ⟨h, rfl⟩
    | cons b r =>
      rw [denS_4, denS_4]
      exact rep_ext (fun f f' hf => ih b (by simp) f f' hf) n.toNat f g h
  rw [denS_5 h1 h2 h3 h4, denS_5 h1 h2 h3 h4]
  exact ext_b bs ih f g h
theorem ext_cons (s : St) (l : List St) (hs : ExtS s) (hl : ExtL l) : ExtL (s :: l) := by
  intro f g h
  simp only [denSs]
  have h1 := hs f g h
  have h2 := hl _ _ h1.1
  exact ⟨h2.1, by simp only [h1.2, h2.2]⟩
theorem denSs_ext (l : List St) : ExtL l := St.indL ext_mk (fun f g h => by simp only [denSs]; exact ⟨h, rfl⟩) ext_cons l

/-! ### a program's names are names -/
theorem names_k : ∀ (es : List Ex), (∀ e ∈ es, okE e = true → ∀ x ∈ rdE e, isName x = true) → okEs es = true → ∀ x ∈ rdEs es, isName x = true
  | [], _, _, x, hx => by simp [rdEs] at hx
  | e :: es, ih, h, x, hx => by
    simp only [okEs, Bool.and_eq_true] at h
    simp only [rdEs, List.mem_append] at hx
    rcases hx with hx | hx
    · exact ih e (by simp) h.1 x hx
    · exact names_k es (fun e he => ih e (by simp [he])) h.2 x hx
theorem okE_names (e : Ex) : okE e = true → ∀ x ∈ rdE e, isName x = true := by
  refine Ex.indE (P := fun e => okE e = true → ∀ x ∈ rdE e, isName x = true) (fun k n s ks ih h x hx => ?_) e
  simp only [okE, Bool.and_eq_true] at h
  simp only [rdE, List.mem_append] at hx
  rcases hx with hx | hx
  · by_cases h2 : k = 2
    · subst h2
      simp only [if_true, List.mem_singleton] at hx
      subst hx
      have := h.1
      simp [nodeE] at this
      exact this.1.2
    · simp [h2] at hx
  · exact names_k ks ih h.2 x hx
theorem noneE_reads {e : Ex} (h : noneE e = true) : rdE e = [] := by
  obtain ⟨k, n, s, ks⟩ := e
  simp only [noneE, Bool.and_eq_true, decide_eq_true_eq] at h
  have hk : ks = [] := List.eq_nil_of_length_eq_zero h.2
  subst hk
  simp [rdE, rdEs, h.1.1.1]
def NmsL (l : List St) : Prop := okSs l = true → ∀ x ∈ asSs l ++ (adSs l ++ rdSs l), isName x = true
theorem nms_b : ∀ (l : List (List St)), (∀ b ∈ l, NmsL b) → okSb l = true → ∀ x ∈ asSb l ++ (adSb l ++ rdSb l), isName x = true
  | [], _, _, x, hx => by simp [asSb, adSb, rdSb] at hx
  | s :: l, ih, h, x, hx => by
    simp only [okSb, Bool.and_eq_true] at h
    have h1 := ih s (by simp) h.1 x
    have h2 := nms_b l (fun b hb => ih b (by simp [hb])) h.2 x
    simp only [asSb, adSb, rdSb, List.mem_append] at hx h1 h2
    rcases hx with (hx | hx) | ((hx | hx) | (hx | hx))
    · exact h1 (.inl hx)
    · exact h2 (.inl hx)
    · exact h1 (.inr (.inl hx))
    · exact h2 (.inr (.inl hx))
    · exact h1 (.inr (.inr hx))
    · exact h2 (.inr (.inr hx))
theorem okSs_names (l : List St) : NmsL l := by
  refine St.indL (P := fun s => okS s = true → ∀ x ∈ asS s ++ (adS s ++ rdS s), isName x = true) (Q := NmsL) (fun k nm e n bs ih h x hx => ?_) (fun _ x hx => by simp [asSs, adSs, rdSs] at hx) (fun s l hs hl h x hx => ?_) l
  · simp only [okS, Bool.and_eq_true, Bool.or_eq_true] at h
    have hn : (k = 1 ∨ k = 2) → isName nm = true := fun hk => by
      have := h.1.1
      rcases hk with rfl | rfl <;> simp [nodeS] at this <;> exact this.1.1.1
    have hb := nms_b bs ih h.2 x
    simp only [asS, adS, rdS, List.mem_append] at hx hb
    rcases hx with (hx | hx) | ((hx | hx) | (hx | hx))
    · by_cases h1 : k = 1
      · simp only [h1, if_true, List.mem_singleton] at hx; subst hx; exact hn (.inl h1)
      · simp [h1] at hx
    · exact hb (.inl hx)
    · by_cases h1 : k = 2
      · simp only [h1, if_true, List.mem_singleton] at hx; subst hx; exact hn (.inr h1)
      · simp [h1] at hx
    · exact hb (.inr (.inl hx))
    · rcases h.1.2 with h1 | h1
      · rw [noneE_reads h1] at hx; simp at hx
      · exact okE_names e h1 x hx
    · exact hb (.inr (.inr hx))
  · simp only [okSs, Bool.and_eq_true] at h
    have h1 := hs h.1 x
    have h2 := hl h.2 x
    simp only [asSs, adSs, rdSs, List.mem_append] at hx h1 h2
    rcases hx with (hx | hx) | ((hx | hx) | (hx | hx))
    · exact h1 (.inl hx)
    · exact h2 (.inl hx)
    · exact h1 (.inr (.inl hx))
    · exact h2 (.inr (.inl hx))
    · exact h1 (.inr (.inr hx))
    · exact h2 (.inr (.inr hx))

/-! ### meanD -/
/-- What a program makes of its start, and in how many steps. -/
noncomputable def meanD (l : List St) (st : List Vr) : Vs × Nat := denSs l (addL (lookV st) (namesL l))
theorem namesL_append (l r : List St) (x : ByteArray) : x ∈ namesL (l ++ r) ↔ x ∈ namesL l ∨ x ∈ namesL r := by
  simp only [namesL, asSs_append, adSs_append, rdSs_append, List.mem_append]
  constructor
  · rintro ((h | h) | ((h | h) | (h | h))) <;> simp [h]
  · rintro ((h | (h | h)) | (h | (h | h))) <;> simp [h]
theorem addL_none (f : Vs) (L : List ByteArray) (x : ByteArray) : addL f L x = none ↔ f x = none ∧ x ∉ L := by
  unfold addL
  cases hf : f x with
  | some v => simp
  | none => by_cases h : x ∈ L <;> simp [h]
theorem meanD_dom (l : List St) (st : List Vr) (x : ByteArray) : (meanD l st).1 x = none ↔ lookV st x = none ∧ x ∉ namesL l := by
  unfold meanD
  rw [denSs_dom l _ (fun x hx e => ((addL_none _ _ x).1 e).2 (by
    simp only [namesL, List.mem_append] at hx ⊢
    rcases hx with hx | hx
    · exact .inl hx
    · exact .inr (.inl hx))) x]
  exact addL_none _ _ x
theorem meanD_join (l r : List St) (st a : List Vr) (ha : VarsOf (meanD l st).1 a) : meanD (l ++ r) st = ((meanD r a).1, (meanD l st).2 + (meanD r a).2) := by
  have hext : ExtV (addL (lookV st) (namesL l)) (addL (lookV st) (namesL (l ++ r))) := fun x => by
    unfold addL
    cases lookV st x with
    | some v => exact .inl rfl
    | none =>
      by_cases h1 : x ∈ namesL l
      · have h2 := (namesL_append l r x).2 (.inl h1)
        simp [h1, h2]
      · by_cases h2 : x ∈ namesL r
        · have h3 := (namesL_append l r x).2 (.inr h2)
          simp [h1, h3]
        · have h3 : x ∉ namesL (l ++ r) := fun h => ((namesL_append l r x).1 h).elim h1 h2
          simp [h1, h3]
  have hd := denSs_ext l _ _ hext
  have hdom := denSs_dom l (addL (lookV st) (namesL (l ++ r))) (fun x hx e => ((addL_none _ _ x).1 e).2 ((namesL_append l r x).2 (.inl (by
    simp only [namesL, List.mem_append] at hx ⊢
    rcases hx with hx | hx
    · exact .inl hx
    · exact .inr (.inl hx)))))
  have hG : addL (lookV a) (namesL r) = (denSs l (addL (lookV st) (namesL (l ++ r)))).1 := by
    rw [ha.look]
    funext x
    have h1 := hd.1 x
    have h2 := hdom x
    rw [addL_none, namesL_append] at h2
    have h3 := meanD_dom l st x
    have h4 : denSs l (addL (lookV st) (namesL l)) = meanD l st := rfl
    rw [h4] at h1
    cases hf : (meanD l st).1 x with
    | some v =>
      rw [show addL (meanD l st).1 (namesL r) x = some v by unfold addL; rw [hf]]
      rcases h1 with h1 | h1
      · rw [h1, hf]
      · rw [h1.1] at hf; cases hf
    | none =>
      have h5 := h3.1 hf
      by_cases hr : x ∈ namesL r
      · rw [show addL (meanD l st).1 (namesL r) x = some 0 by unfold addL; rw [hf]; simp [hr]]
        rcases h1 with h1 | h1
        · have := h2.1 (h1.trans hf)
          exact absurd (.inr hr) this.2
        · rw [h1.2]
      · rw [show addL (meanD l st).1 (namesL r) x = none by unfold addL; rw [hf]; simp [hr]]
        exact (h2.2 ⟨h5.1, fun h => h.elim h5.2 hr⟩).symm
  have e1 : meanD (l ++ r) st = ((denSs r (denSs l (addL (lookV st) (namesL (l ++ r)))).1).1, (denSs l (addL (lookV st) (namesL (l ++ r)))).2 + (denSs r (denSs l (addL (lookV st) (namesL (l ++ r)))).1).2) := denSs_append _ _ _
  rw [e1, ← hG]
  unfold meanD
  rw [hd.2]
theorem addL_ext (f : Vs) {L M : List ByteArray} (h : ∀ x ∈ L, x ∈ M) : ExtV (addL f L) (addL f M) := fun x => by
  unfold addL
  cases f x with
  | some v => exact .inl rfl
  | none =>
    by_cases h1 : x ∈ L
    · simp [h1, h x h1]
    · by_cases h2 : x ∈ M
      · simp [h1, h2]
      · simp [h1, h2]
/-- The first part does not need more steps than the whole. -/
theorem meanD_take (l : List St) (st : List Vr) (k : Nat) : (meanD (l.take k) st).2 ≤ (meanD l st).2 := by
  have hsub : ∀ x ∈ namesL (l.take k), x ∈ namesL l := fun x hx => by
    have := (namesL_append (l.take k) (l.drop k) x).2 (.inl hx)
    rwa [List.take_append_drop] at this
  have h1 := (denSs_ext (l.take k) _ _ (addL_ext (lookV st) hsub)).2
  have h2 := denSs_append (l.take k) (l.drop k) (addL (lookV st) (namesL l))
  rw [List.take_append_drop] at h2
  unfold meanD
  rw [h1, h2]
  exact Nat.le_add_right _ _
theorem lookV_names {st : List Vr} (h : startOk st) {x : ByteArray} (hx : lookV st x ≠ none) : isName x = true := by
  have h1 : x ∈ st.map (·.1) := by
    apply Classical.byContradiction
    intro h2
    exact hx (lookV_none.2 h2)
  obtain ⟨p, hp, rfl⟩ := List.mem_map.1 h1
  exact h.1 p hp
theorem meanD_start {l : List St} {st a : List Vr} (hok : okSs l = true) (hst : startOk st) (ha : VarsOf (meanD l st).1 a) : startOk a := by
  refine ⟨fun p hp => ?_, ha.names.1⟩
  have h1 := (ha.names.2 p hp).1
  have h2 := meanD_dom l st p.1
  by_cases h3 : lookV st p.1 = none
  · by_cases h4 : p.1 ∈ namesL l
    · exact okSs_names l hok p.1 h4
    · exact absurd (h2.2 ⟨h3, h4⟩) h1
  · exact lookV_names hst h3

theorem cntSs_append (l r : List St) : cntSs (l ++ r) = cntSs l + cntSs r := by
  induction l with
  | nil => simp [cntSs]
  | cons s l ih => simp only [List.cons_append, cntSs, ih, Nat.add_assoc]
theorem dpSs_nonneg (l : List St) (at_ : Int) : 0 ≤ dpSs l at_ := by
  induction l with
  | nil => simp [dpSs]
  | cons s l ih => simp only [dpSs]; omega
theorem dpSs_append (l r : List St) (at_ : Int) : dpSs (l ++ r) at_ = max (dpSs l at_) (dpSs r at_) := by
  induction l with
  | nil => have := dpSs_nonneg r at_; simp only [List.nil_append, dpSs]; omega
  | cons s l ih => simp only [List.cons_append, dpSs, ih]; omega
theorem checkF_part {l r : List St} (h : checkF (l ++ r) = 0) : checkF l = 0 ∧ checkF r = 0 := by
  have h1 := (checkF_ok _).1 h
  obtain ⟨hw, hc, hd⟩ := h1
  unfold wf at hw
  rw [okSs_append, Bool.and_eq_true] at hw
  rw [cntSs_append] at hc
  rw [dpSs_append] at hd
  exact ⟨(checkF_ok _).2 ⟨hw.1, by omega, by omega⟩, (checkF_ok _).2 ⟨hw.2, by omega, by omega⟩⟩
end Go.Proofs.Ytoejpjnicpajlaa
