/- What shallow looks at, as plain functions, and how it hangs together with the counting look. No program in sight. -/
import Derived.Test.YtoejpjnicpajlaaCheckF
namespace Go.Proofs.Ytoejpjnicpajlaa

mutual
def okE : Ex → Bool
  | .mk k n s ks => nodeE k n s ks.length && okEs ks
def okEs : List Ex → Bool
  | [] => true
  | e :: es => okE e && okEs es
end
mutual
def okS : St → Bool
  | .mk k nm e n bs => nodeS k nm (noneE e) n bs.length && (noneE e || okE e) && okSb bs
def okSs : List St → Bool
  | [] => true
  | s :: l => okS s && okSs l
def okSb : List (List St) → Bool
  | [] => true
  | l :: ls => okSs l && okSb ls
end
theorem okEs_append (l r : List Ex) : okEs (l ++ r) = (okEs l && okEs r) := by
  induction l with
  | nil => simp [okEs]
  | cons y l ih => simp only [List.cons_append, okEs, ih, Bool.and_assoc]
theorem okSs_append (l r : List St) : okSs (l ++ r) = (okSs l && okSs r) := by
  induction l with
  | nil => simp [okSs]
  | cons y l ih => simp only [List.cons_append, okSs, ih, Bool.and_assoc]
theorem okSb_flat (l : List (List St)) : okSs l.flatten = okSb l := by
  induction l with
  | nil => simp [okSs, okSb]
  | cons y l ih => simp only [List.flatten_cons, okSs_append, okSb, ih]
theorem szs_flat (l : List (List St)) : St.szs l.flatten + l.length = St.szb l := by
  induction l with
  | nil => simp [St.szs, St.szb]
  | cons y l ih => simp only [List.flatten_cons, St.szs_append, St.szb, List.length_cons]; omega

def numEx : Ex := .mk 1 0 ByteArray.empty []
/-- What stands for an expression in a bare statement. -/
def bareE (e : Ex) : Ex := if noneE e then e else numEx
def bareS : St → St
  | .mk k nm e n bs => .mk k nm (bareE e) n (List.replicate bs.length [])
theorem okSTb_nil (n : Nat) (at_ : Int) : okSTb (List.replicate n []) at_ = true := by
  induction n with
  | zero => rfl
  | succ n ih => simp [List.replicate_succ, okSTb, okSTs, ih]
theorem noneE_kind {k n : Int} {s : ByteArray} {ks : List Ex} (h : noneE (.mk k n s ks) = true) : k = 0 := by
  simp only [noneE, Bool.and_eq_true, decide_eq_true_eq] at h
  exact h.1.1.1
theorem bareE_ok (e : Ex) : okET (bareE e) 2 = !noneE e ∧ noneE (bareE e) = noneE e := by
  unfold bareE
  cases h : noneE e
  · exact ⟨rfl, rfl⟩
  · obtain ⟨k, n, s, ks⟩ := e
    have hk := noneE_kind h
    subst hk
    exact ⟨by simp [okET, nodeE], h⟩
theorem bare_ok (s : St) : ∀ (k : Int) (nm : ByteArray) (e : Ex) (n : Int) (bs : List (List St)), s = .mk k nm e n bs → okST (bareS s) 1 = nodeS k nm (noneE e) n bs.length := by
  rintro k nm e n bs rfl
  obtain ⟨h1, h2⟩ := bareE_ok e
  simp only [bareS, okST, okSTb_nil, List.length_replicate, Bool.and_true, exprS, nodeS, show ((1 : Int) + 1) = 2 from rfl, h1, h2]
  simp

def bareX : Ex → Ex
  | .mk k n s ks => .mk k n s (if ks.length = 2 then [numEx, numEx] else ks)
theorem bareX_ok (k n : Int) (s : ByteArray) (ks : List Ex) : okET (bareX (.mk k n s ks)) 1 = nodeE k n s ks.length := by
  by_cases h : ks.length = 2
  · simp only [bareX, h, if_true, okET]
    simp [okETs, okET, numEx, nodeE]
  · simp only [bareX, h, if_false, okET]
    cases hn : nodeE k n s ks.length
    · simp
    · have : ks = [] := by
        simp only [nodeE] at hn
        split at hn
        · simp at hn; exact hn.2
        · split at hn
          · simp at hn; exact hn.2
          · split at hn
            · simp at hn; omega
            · cases hn
      subst this
      simp [okETs]
theorem okS_pop {k : Int} {nm : ByteArray} {e : Ex} {n : Int} {bs : List (List St)} (h : nodeS k nm (noneE e) n bs.length = true) (es : List Ex) (t : List St) :
    (okSs (t ++ [.mk k nm e n bs]) && okEs es) = (okSs (t ++ bs.flatten) && okEs (if noneE e then es else es ++ [e])) := by
  rw [okSs_append, okSs_append, okSb_flat]
  simp only [okSs, okS, h]
  cases hn : noneE e
  · simp only [if_false, okEs_append, okEs, Bool.false_or, Bool.true_and, Bool.and_true, Bool.false_eq_true]
    cases okSs t <;> cases okE e <;> cases okSb bs <;> cases okEs es <;> rfl
  · simp only [if_true, Bool.true_or, Bool.true_and, Bool.and_true]
theorem okE_pop {k n : Int} {s : ByteArray} {ks : List Ex} (h : nodeE k n s ks.length = true) (t : List Ex) : okEs (t ++ [.mk k n s ks]) = okEs (t ++ ks) := by
  rw [okEs_append, okEs_append]
  simp only [okEs, okE, h, Bool.true_and, Bool.and_true]

/-! ### the counting look, where nothing lies too deep, is the whole look -/
mutual
def dpE : Ex → Int → Int
  | .mk _ _ _ ks, at_ => max at_ (dpEs ks (at_ + 1))
def dpEs : List Ex → Int → Int
  | [], _ => 0
  | e :: es, at_ => max (dpE e at_) (dpEs es at_)
end
mutual
theorem okET_of : ∀ (e : Ex) (at_ : Int), okE e = true → okET e at_ = true
  | .mk k n s ks, at_, h => by
    simp only [okE, Bool.and_eq_true] at h
    simp only [okET]
    split
    · rfl
    · rw [h.1, okETs_of ks (at_ + 1) h.2]; rfl
theorem okETs_of : ∀ (es : List Ex) (at_ : Int), okEs es = true → okETs es at_ = true
  | [], _, _ => rfl
  | e :: es, at_, h => by
    simp only [okEs, Bool.and_eq_true] at h
    simp only [okETs, okET_of e at_ h.1, okETs_of es at_ h.2, Bool.and_true]
end
mutual
theorem dpET_small : ∀ (e : Ex) (at_ : Int), dpE e at_ ≤ 51 → dpET e at_ = dpE e at_ ∧ cntET e at_ = e.sz
  | .mk k n s ks, at_, h => by
    simp only [dpE] at h
    obtain ⟨h1, h2⟩ := dpETs_small ks (at_ + 1) (by omega)
    simp only [dpET, cntET, dpE, Ex.sz]
    rw [if_neg (by omega), if_neg (by omega)]
    exact ⟨by rw [h1], by rw [h2]⟩
theorem dpETs_small : ∀ (es : List Ex) (at_ : Int), dpEs es at_ ≤ 51 → dpETs es at_ = dpEs es at_ ∧ cntETs es at_ = Ex.szs es
  | [], _, _ => ⟨rfl, rfl⟩
  | e :: es, at_, h => by
    simp only [dpEs] at h
    obtain ⟨h1, h2⟩ := dpET_small e at_ (by omega)
    obtain ⟨h3, h4⟩ := dpETs_small es at_ (by omega)
    simp only [dpETs, cntETs, dpEs, Ex.szs, h1, h2, h3, h4]
    exact ⟨trivial, trivial⟩
end
mutual
theorem dpET_deep : ∀ (e : Ex) (at_ : Int), dpET e at_ ≤ 51 → dpE e at_ ≤ 51
  | .mk k n s ks, at_, h => by
    simp only [dpET] at h
    split at h
    · omega
    · have := dpETs_deep ks (at_ + 1) (by omega)
      simp only [dpE]
      omega
theorem dpETs_deep : ∀ (es : List Ex) (at_ : Int), dpETs es at_ ≤ 51 → dpEs es at_ ≤ 51
  | [], _, _ => by simp [dpEs]
  | e :: es, at_, h => by
    simp only [dpETs] at h
    have := dpET_deep e at_ (by omega)
    have := dpETs_deep es at_ (by omega)
    simp only [dpEs]
    omega
end
mutual
/-- How deep a statement goes, how large it is: an expression counts where it has one. -/
def dpS : St → Int → Int
  | .mk k _ e _ bs, at_ => max at_ (max (if hasE k then dpE e (at_ + 1) else 0) (dpSb bs (at_ + 1)))
def dpSs : List St → Int → Int
  | [], _ => 0
  | s :: l, at_ => max (dpS s at_) (dpSs l at_)
def dpSb : List (List St) → Int → Int
  | [], _ => 0
  | l :: ls, at_ => max (dpSs l at_) (dpSb ls at_)
end
mutual
def cntS : St → Nat
  | .mk k _ e _ bs => 1 + (if hasE k then e.sz else 0) + cntSb bs
def cntSs : List St → Nat
  | [] => 0
  | s :: l => cntS s + cntSs l
def cntSb : List (List St) → Nat
  | [] => 0
  | l :: ls => cntSs l + cntSb ls
end
theorem exprS_of {k : Int} {nm : ByteArray} {e : Ex} {n : Int} {nb : Nat} {at_ : Int} (h : nodeS k nm (noneE e) n nb = true) (he : noneE e = true ∨ okE e = true) : exprS k nm e n nb at_ = true := by
  have h2 : noneE e = false → okET e at_ = true := fun hn => okET_of e at_ (he.resolve_left (by rw [hn]; simp))
  unfold nodeS at h
  unfold exprS
  by_cases h12 : k = 1 ∨ k = 2
  · rw [if_pos h12] at h ⊢
    simp only [Bool.and_eq_true, Bool.not_eq_true'] at h ⊢
    exact ⟨h.1, h2 h.2⟩
  rw [if_neg h12] at h ⊢
  by_cases h3 : k = 3
  · rw [if_pos h3] at h ⊢
    simp only [Bool.and_eq_true, Bool.not_eq_true'] at h ⊢
    exact ⟨h.1, h2 h.2⟩
  rw [if_neg h3] at h ⊢
  by_cases h4 : k = 4
  · rw [if_pos h4] at h ⊢
    exact h
  rw [if_neg h4] at h ⊢
  by_cases h5 : k = 5
  · rw [if_pos h5] at h ⊢
    exact h
  rw [if_neg h5] at h
  cases h
mutual
theorem okST_of : ∀ (s : St) (at_ : Int), okS s = true → okST s at_ = true
  | .mk k nm e n bs, at_, h => by
    simp only [okS, Bool.and_eq_true, Bool.or_eq_true] at h
    simp only [okST]
    split
    · rfl
    · rw [exprS_of h.1.1 h.1.2, okSTb_of bs (at_ + 1) h.2]; rfl
theorem okSTs_of : ∀ (l : List St) (at_ : Int), okSs l = true → okSTs l at_ = true
  | [], _, _ => rfl
  | s :: l, at_, h => by
    simp only [okSs, Bool.and_eq_true] at h
    simp only [okSTs, okST_of s at_ h.1, okSTs_of l at_ h.2, Bool.and_true]
theorem okSTb_of : ∀ (l : List (List St)) (at_ : Int), okSb l = true → okSTb l at_ = true
  | [], _, _ => rfl
  | s :: l, at_, h => by
    simp only [okSb, Bool.and_eq_true] at h
    simp only [okSTb, okSTs_of s at_ h.1, okSTb_of l at_ h.2, Bool.and_true]
end
mutual
theorem dpST_small : ∀ (s : St) (at_ : Int), dpS s at_ ≤ 51 → dpST s at_ = dpS s at_ ∧ cntST s at_ = cntS s
  | .mk k nm e n bs, at_, h => by
    simp only [dpS] at h
    obtain ⟨h1, h2⟩ := dpSTb_small bs (at_ + 1) (by omega)
    simp only [dpST, cntST, dpS, cntS, h1, h2]
    have hat : ¬ 51 < at_ := by omega
    cases hE : hasE k
    · simp only [hat, Bool.false_eq_true, if_false]
      exact ⟨trivial, trivial⟩
    · simp only [hE, if_true] at h
      obtain ⟨h3, h4⟩ := dpET_small e (at_ + 1) (by omega)
      simp only [hat, if_false, if_true, h3, h4]
      exact ⟨trivial, trivial⟩
theorem dpSTs_small : ∀ (l : List St) (at_ : Int), dpSs l at_ ≤ 51 → dpSTs l at_ = dpSs l at_ ∧ cntSTs l at_ = cntSs l
  | [], _, _ => ⟨rfl, rfl⟩
  | s :: l, at_, h => by
    simp only [dpSs] at h
    obtain ⟨h1, h2⟩ := dpST_small s at_ (by omega)
    obtain ⟨h3, h4⟩ := dpSTs_small l at_ (by omega)
    simp only [dpSTs, cntSTs, dpSs, cntSs, h1, h2, h3, h4]
    exact ⟨trivial, trivial⟩
theorem dpSTb_small : ∀ (l : List (List St)) (at_ : Int), dpSb l at_ ≤ 51 → dpSTb l at_ = dpSb l at_ ∧ cntSTb l at_ = cntSb l
  | [], _, _ => ⟨rfl, rfl⟩
  | s :: l, at_, h => by
    simp only [dpSb] at h
    obtain ⟨h1, h2⟩ := dpSTs_small s at_ (by omega)
    obtain ⟨h3, h4⟩ := dpSTb_small l at_ (by omega)
    simp only [dpSTb, cntSTb, dpSb, cntSb, h1, h2, h3, h4]
    exact ⟨trivial, trivial⟩
end
mutual
theorem dpST_deep : ∀ (s : St) (at_ : Int), dpST s at_ ≤ 51 → dpS s at_ ≤ 51
  | .mk k nm e n bs, at_, h => by
    simp only [dpST] at h
    split at h
    · omega
    · have := dpSTb_deep bs (at_ + 1) (by omega)
      simp only [dpS]
      cases hE : hasE k
      · simp only [Bool.false_eq_true, if_false]; omega
      · simp only [hE, if_true] at h ⊢
        have := dpET_deep e (at_ + 1) (by omega)
        omega
theorem dpSTs_deep : ∀ (l : List St) (at_ : Int), dpSTs l at_ ≤ 51 → dpSs l at_ ≤ 51
  | [], _, _ => by simp [dpSs]
  | s :: l, at_, h => by
    simp only [dpSTs] at h
    have := dpST_deep s at_ (by omega)
    have := dpSTs_deep l at_ (by omega)
    simp only [dpSs]
    omega
theorem dpSTb_deep : ∀ (l : List (List St)) (at_ : Int), dpSTb l at_ ≤ 51 → dpSb l at_ ≤ 51
  | [], _, _ => by simp [dpSb]
  | s :: l, at_, h => by
    simp only [dpSTb] at h
    have := dpSTs_deep s at_ (by omega)
    have := dpSTb_deep l at_ (by omega)
    simp only [dpSb]
    omega
end

/-- A program that is one, however large. -/
def wf (l : List St) : Prop := okSs l = true
/-- .. and not too large. -/
def small (l : List St) : Prop := cntSs l ≤ 1000 ∧ dpSs l 1 ≤ 50
def checkF (l : List St) : Int := if okSTs l 1 && okSs l then (if 1000 < cntSTs l 1 ∨ 50 < dpSTs l 1 then 2 else 0) else 1
theorem checkF_ok (l : List St) : checkF l = 0 ↔ wf l ∧ small l := by
  unfold checkF wf small
  constructor
  · intro h
    split at h
    · rename_i h0
      simp only [Bool.and_eq_true] at h0
      split at h
      · omega
      · have h1 := dpSTs_deep l 1 (by omega)
        have h2 := dpSTs_small l 1 h1
        exact ⟨h0.2, by rw [← h2.2]; omega, by rw [← h2.1]; omega⟩
    · omega
  · rintro ⟨h0, h1, h2⟩
    have h3 := dpSTs_small l 1 (by omega)
    rw [okSTs_of l 1 h0, h0, h3.1, h3.2]
    simp
    omega
theorem checkF_wf (l : List St) (h : wf l) : checkF l = 0 ∨ checkF l = 2 := by
  unfold checkF
  rw [okSTs_of l 1 h, show okSs l = true from h]
  simp only [Bool.and_true, if_true]
  split
  · exact .inr rfl
  · exact .inl rfl
theorem checkF_any (l : List St) : checkF l = 0 ∨ checkF l = 1 ∨ checkF l = 2 := by
  unfold checkF
  split
  · split
    · exact .inr (.inr rfl)
    · exact .inl rfl
  · exact .inr (.inl rfl)
end Go.Proofs.Ytoejpjnicpajlaa
