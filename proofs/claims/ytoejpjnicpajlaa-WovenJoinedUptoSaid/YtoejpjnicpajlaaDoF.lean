/- What a doer's state is, in memory and as plain data; the map's laws as the walk of doer.block wants them. -/
import Derived.Test.YtoejpjnicpajlaaEval
set_option linter.unusedVariables false
namespace Go.Proofs.Ytoejpjnicpajlaa
open Go.RowKit Go.Maps Go.WideMaps Go.ChangeMaps

theorem MmAt.look {w : World} {b n : Nat} {f : Vs} (h : MmAt w b n f) {s : ByteArray} (hs : s.size ≤ maxLen) : (Instr.lookup 40 (.map (some b)) (.string s) false).run Try.prog w = .ok (.int .i64 (val f s)) w := by
  obtain ⟨D, ho, hh⟩ := h
  obtain ⟨c, hrun, hat, -⟩ := ho.lookup_int lawStr Try.underlying40 Try.underlying2 (zeroI64 w) (keyOf_string_mk Try.underlying9 hs)
  rw [hrun]
  have hx := hh s
  have hcv : c = val f s := by
    unfold val
    cases hf : f s with
    | none =>
      rw [hf] at hx
      rw [show (Lit.string s.data.toList) = key s from rfl, atKey_of_not_has hx] at hat
      cases hat
      rfl
    | some u =>
      rw [hf] at hx
      rw [show (Lit.string s.data.toList) = key s from rfl, hx.2.2] at hat
      cases hat
      rfl
  rw [hcv]
theorem MmAt.val_i64 {w : World} {b n : Nat} {f : Vs} (h : MmAt w b n f) (s : ByteArray) : I64 (val f s) := by
  obtain ⟨D, ho, hh⟩ := h
  have hx := hh s
  unfold val
  cases hf : f s with
  | none => simp [I64]
  | some u =>
    rw [hf] at hx
    have := hx.2.1
    simp [Lit.wf, IntKind.min, IntKind.max, IntKind.signed, IntKind.bits] at this
    simp only [Option.getD_some]
    unfold I64
    omega
theorem MmAt.upd {w : World} {b n : Nat} {f : Vs} (h : MmAt w b n f) {s : ByteArray} (hs : s.size ≤ maxLen) {v : Int} (hv : I64 v) (hn : n < maxLen) :
    ∃ w', (Instr.mapUpdate 40 (.map (some b)) (.string s) (.int .i64 v)).run Try.prog w = .ok () w' ∧ MmAt w' b (n + 1) (setV f s v) ∧ Kp (oneB b) w w' := by
  obtain ⟨D, ho, hh⟩ := h
  have hwf := WalkArith.wf_i64 hv
  obtain ⟨w', hrun, ho', hg⟩ := ho.update lawStr Try.underlying40 hn (keyOf_string_mk Try.underlying9 hs) (plainElem_int Try.underlying2 hwf)
  exact ⟨w', hrun, MmAt.put ho' hwf ho.isMap hh (fun x => rfl), (Kp.of_grown hg).mono fun k _ e => by simp at e; exact e⟩

/-- One deed behind the other. -/
def seqD (r : Vs × Nat) (g : Vs → Vs × Nat) : Vs × Nat := ((g r.1).1, r.2 + (g r.1).2)
theorem seqD_mono (r : Vs × Nat) (g : Vs → Vs × Nat) : r.2 ≤ (seqD r g).2 := by unfold seqD; simp
theorem denSs_snoc (l : List St) (s : St) (f : Vs) : denSs (l ++ [s]) f = seqD (denSs l f) (denS s) := by
  rw [denSs_append]
  simp only [denSs, seqD, Nat.add_zero]
theorem denBs_snoc (l : List (List St)) (s : List St) (f : Vs) : denBs (l ++ [s]) f = seqD (denBs l f) (denSs s) := by
  rw [denBs_append]
  simp only [denBs, seqD, Nat.add_zero]
theorem denSs_take (l : List St) (j : Nat) (f : Vs) : (denSs (l.take j) f).2 ≤ (denSs l f).2 := by
  have h := denSs_append (l.take j) (l.drop j) f
  rw [List.take_append_drop] at h
  rw [h]
  simp
theorem denBs_take (l : List (List St)) (j : Nat) (f : Vs) : (denBs (l.take j) f).2 ≤ (denBs l f).2 := by
  have h := denBs_append (l.take j) (l.drop j) f
  rw [List.take_append_drop] at h
  rw [h]
  simp
theorem seqD_snoc (r : Vs × Nat) (l : List (List St)) (s : List St) : seqD r (denBs (l ++ [s])) = seqD (seqD r (denBs l)) (denSs s) := by
  simp only [seqD, denBs_snoc, Nat.add_assoc]
theorem seqD_take (r : Vs × Nat) (l : List (List St)) (j : Nat) : (seqD r (denBs (l.take j))).2 ≤ (seqD r (denBs l)).2 := by
  have := denBs_take l j r.1
  simp only [seqD]
  omega
theorem rep_step (g : Vs → Vs × Nat) (n : Nat) (r : Vs × Nat) (h : (g r.1).2 ≠ 0) : seqD r (rep g (n + 1)) = seqD (seqD r g) (rep g n) := by
  simp only [seqD, rep, if_neg h, Nat.add_assoc]
theorem rep_stop (g : Vs → Vs × Nat) (n : Nat) (r : Vs × Nat) (h : (g r.1).2 = 0) : seqD r (rep g (n + 1)) = seqD r g := by
  simp only [seqD, rep, if_pos h]
theorem rep_first (g : Vs → Vs × Nat) (n : Nat) (r : Vs × Nat) : (seqD r g).2 ≤ (seqD r (rep g (n + 1))).2 := by
  by_cases h : (g r.1).2 = 0
  · rw [rep_stop g n r h]; exact Nat.le_refl _
  · rw [rep_step g n r h]; exact seqD_mono _ _

/-- The doer's state: begun at q steps and with n names. -/
def StAt (q : Int) (n : Nat) (mo : Int) (db mb : Nat) (r : Vs × Nat) (w : World) : Prop := q + r.2 ≤ mo ∧ DoAt w db mb (q + r.2) mo ∧ MmAt w mb (n + r.2) r.1
theorem StAt.keep {q mo : Int} {n db mb : Nat} {r : Vs × Nat} {w w' : World} (h : StAt q n mo db mb r w) (k : Kp noB w w') : StAt q n mo db mb r w' := ⟨h.1, h.2.1.keep k id, h.2.2.keep k id⟩
theorem StAt.of {q mo : Int} {n db mb : Nat} {r r' : Vs × Nat} {w : World} (h : StAt (q + r.2) (n + r.2) mo db mb r' w) : StAt q n mo db mb (r'.1, r.2 + r'.2) w := by
  obtain ⟨h1, h2, h3⟩ := h
  refine ⟨by simp only [Int.natCast_add]; omega, ?_, ?_⟩
  · have : q + ((r.2 + r'.2 : Nat) : Int) = q + r.2 + r'.2 := by simp only [Int.natCast_add]; omega
    rw [this]
    exact h2
  · have : n + (r.2 + r'.2) = n + r.2 + r'.2 := by omega
    rw [this]
    exact h3

theorem okS_kind {k : Int} {nm : ByteArray} {e : Ex} {n : Int} {bs : List (List St)} (h : okS (.mk k nm e n bs) = true) : k = 1 ∨ k = 2 ∨ k = 3 ∨ k = 4 ∨ k = 5 := by
  simp only [okS, Bool.and_eq_true] at h
  have := h.1.1
  unfold nodeS at this
  by_cases h1 : k = 1 ∨ k = 2
  · omega
  · by_cases h3 : k = 3
    · omega
    · by_cases h4 : k = 4
      · omega
      · by_cases h5 : k = 5
        · omega
        · simp [h1, h3, h4, h5] at this
theorem okSs_get {l : List St} {j : Nat} {s : St} (h : okSs l = true) (hj : l[j]? = some s) : okS s = true := by
  induction l generalizing j with
  | nil => simp at hj
  | cons x l ih =>
    simp only [okSs, Bool.and_eq_true] at h
    cases j with
    | zero => simp only [List.getElem?_cons_zero, Option.some.injEq] at hj; subst hj; exact h.1
    | succ j => exact ih h.2 (by simpa using hj)
theorem okSb_get {l : List (List St)} {j : Nat} {s : List St} (h : okSb l = true) (hj : l[j]? = some s) : okSs s = true := by
  induction l generalizing j with
  | nil => simp at hj
  | cons x l ih =>
    simp only [okSb, Bool.and_eq_true] at h
    cases j with
    | zero => simp only [List.getElem?_cons_zero, Option.some.injEq] at hj; subst hj; exact h.1
    | succ j => exact ih h.2 (by simpa using hj)
theorem denS_step {k : Int} {nm : ByteArray} {e : Ex} {n : Int} {bs : List (List St)} (h : k = 1 ∨ k = 2 ∨ k = 3) (f : Vs) : 1 ≤ (denS (.mk k nm e n bs) f).2 := by
  rcases h with rfl | rfl | rfl
  · simp [denS]
  · simp [denS]
  · cases bs with
    | nil => simp [denS]
    | cons b r =>
      simp only [denS]
      split
      · simp
      · split
        · simp
        · split
          · split <;> simp
          · simp_all
/-- One step is paid, where there is one to pay. -/
def StepRel (k : Int) (r : Vs × Nat) (q : Int) (n : Nat) (mo : Int) (db mb : Nat) (W1 wc : World) : Prop :=
  (q + ((r.2 + (if k ≤ 3 then 1 else 0) : Nat) : Int) ≤ mo ∧ DoAt wc db mb (q + ((r.2 + (if k ≤ 3 then 1 else 0) : Nat) : Int)) mo ∧ MmAt wc mb (n + r.2) r.1) ∧ Kp (oneB db) W1 wc
theorem StepRel.free {k : Int} {r : Vs × Nat} {q : Int} {n : Nat} {mo : Int} {db mb : Nat} {wr : World} (h : StAt q n mo db mb r wr) (hk : 3 < k) (A : Obj) : StepRel k r q n mo db mb (wr.alloc A) (wr.alloc A) := by
  refine ⟨?_, Kp.refl _ _⟩
  rw [if_neg (by omega)]
  exact h.keep ((Kp.refl _ _).alloc _)
theorem StepRel.paid {k : Int} {r : Vs × Nat} {q : Int} {n : Nat} {mo : Int} {db mb : Nat} {wr : World} (h : StAt q n mo db mb r wr) (hk : k ≤ 3) (hf : ¬ q + (r.2 : Int) = mo) (hne : mb ≠ db) (A : Obj) (nq : Nat) :
    StepRel k r q n mo db mb (wr.alloc A) (((wr.alloc A).drewN nq).setCell ⟨db, 1, none⟩ (.int .i64 (q + (r.2 : Int) + 1))) := by
  have hlt := h.2.1.lt
  have hk1 : Kp (oneB db) (wr.alloc A) (((wr.alloc A).drewN nq).setCell ⟨db, 1, none⟩ (.int .i64 (q + (r.2 : Int) + 1))) := ((Kp.refl (oneB db) (wr.alloc A)).drewN nq).setCell (p := ⟨db, 1, none⟩) (fun _ => rfl) _
  refine ⟨?_, hk1⟩
  rw [if_pos hk]
  have e1 : q + ((r.2 + 1 : Nat) : Int) = q + (r.2 : Int) + 1 := by omega
  refine ⟨by simp only [e1]; have := h.1; omega, ?_, ?_⟩
  · simp only [e1]
    exact ((h.2.1.alloc A).keep ((Kp.refl noB _).drewN nq) id).set1 _
  · exact (h.2.2.alloc A).keep hk1 hne
theorem cell_lt {w : World} {b o : Nat} {v : Value} (h : w.cell? ⟨b, o, none⟩ = some v) : b < w.heap.size := by
  cases hh : w.heap[b]? with
  | some A => exact (Array.getElem?_eq_some_iff.1 hh).1
  | none => simp only [World.cell?, hh] at h; cases h
theorem box8c (W wc : World) (v0 v1 v2 v3 v4 v5 v6 v7 : Value) (T : TypeId) (S : Nat → Prop) (hk : Kp S (W.alloc (.cells #[v0, v1, v2, v3, v4, v5, v6, v7] T)) wc) (hS : ¬ S W.heap.size) :
    wc.cell? ⟨W.heap.size, 0, none⟩ = some v0 ∧ wc.cell? ⟨W.heap.size, 1, none⟩ = some v1 ∧ wc.cell? ⟨W.heap.size, 2, none⟩ = some v2 ∧ wc.cell? ⟨W.heap.size, 3, none⟩ = some v3 ∧
    wc.cell? ⟨W.heap.size, 4, none⟩ = some v4 ∧ wc.cell? ⟨W.heap.size, 5, none⟩ = some v5 ∧ wc.cell? ⟨W.heap.size, 6, none⟩ = some v6 ∧ wc.cell? ⟨W.heap.size, 7, none⟩ = some v7 := by
  have h := (hk.block W.heap.size (by simp) hS).trans (one_new W _)
  refine ⟨?_, ?_, ?_, ?_, ?_, ?_, ?_, ?_⟩ <;> (unfold World.cell?; simp only [h]; rfl)
theorem RepS.parts {w : World} {B : Nat} {k k' x x' ek en : Int} {nm nm' es : ByteArray} {e : Ex} {bs : List (List St)} {ea a : Option Addr} {el ec len cap : Nat}
    (h : RepS w B (.mk k' nm' e x' bs) (.agg #[.int .i64 k, .string nm, .int .i64 ek, .int .i64 en, .string es, .slice ea el ec, .int .i64 x, .slice a len cap])) :
    k' = k ∧ nm' = nm ∧ x' = x ∧ RepE w B e (.agg #[.int .i64 ek, .int .i64 en, .string es, .slice ea el ec]) ∧ RepBl w B bs a len cap ∧ nm.size ≤ maxLen ∧ I64 x := by
  simp only [RepS] at h
  obtain ⟨e0, e1, e2, e3, a', len', cap', hv, he, hk, hn, hs, hsl, hr⟩ := h
  simp only [Value.agg.injEq, Array.mk.injEq, List.cons.injEq, Value.int.injEq, Value.string.injEq, Value.slice.injEq, true_and, and_true] at hv
  obtain ⟨rfl, rfl, rfl, rfl, rfl, rfl, rfl, rfl, rfl, rfl⟩ := hv
  exact ⟨rfl, rfl, rfl, he, ⟨hsl, hr⟩, hs, hn⟩
theorem okS_e {k : Int} {nm : ByteArray} {e : Ex} {n : Int} {bs : List (List St)} (h : okS (.mk k nm e n bs) = true) (hk : k = 1 ∨ k = 2 ∨ k = 3) : okE e = true := by
  simp only [okS, Bool.and_eq_true, Bool.or_eq_true] at h
  rcases h.1.2 with h1 | h1
  · have := h.1.1
    rw [h1] at this
    rcases hk with rfl | rfl | rfl <;> simp [nodeS] at this
  · exact h1
theorem okS_b {k : Int} {nm : ByteArray} {e : Ex} {n : Int} {bs : List (List St)} (h : okS (.mk k nm e n bs) = true) : okSb bs = true ∧ ((k = 1 ∨ k = 2) → bs = []) ∧ (k = 3 → bs.length = 1 ∨ bs.length = 2) ∧ (k = 4 → bs.length = 1 ∧ 0 ≤ n ∧ n ≤ 1000) := by
  simp only [okS, Bool.and_eq_true] at h
  have := h.1.1
  refine ⟨h.2, ?_, ?_, ?_⟩
  · rintro (rfl | rfl) <;> simp [nodeS] at this <;> exact this.1.2
  · rintro rfl; simp [nodeS] at this; exact this.1.2
  · rintro rfl; simp [nodeS] at this; exact ⟨this.1.2, this.1.1.1.2, this.1.1.2⟩
theorem RepBs.hd {w : World} {B : Nat} {x : List St} {t : List (List St)} {b o cap : Nat} (h : RepBs w B (x :: t) b o) (hb : b < B) (h1 : 1 ≤ cap) (hm : cap ≤ maxLen) : RepBl w B [x] (some ⟨b, o, none⟩) 1 cap := by
  simp only [RepBs] at h
  exact ⟨⟨rfl, h1, hm, by simp⟩, .inr ⟨b, o, rfl, hb, by simp only [RepBs]; exact ⟨h.1, trivial⟩⟩⟩
theorem RepBs.tl {w : World} {B : Nat} {x : List St} {t : List (List St)} {b o len cap : Nat} (h : RepBs w B (x :: t) b o) (hb : b < B) (hl : len = t.length + 1) (hc : len ≤ cap) (hm : cap ≤ maxLen) : RepBl w B t (some ⟨b, o + 1, none⟩) (len - 1) (cap - 1) := by
  simp only [RepBs] at h
  exact ⟨⟨by omega, by omega, by omega, by simp⟩, .inr ⟨b, o + 1, rfl, hb, h.2⟩⟩
theorem denS_if {nm : ByteArray} {e : Ex} {n : Int} {b : List St} {t : List (List St)} {r : Vs × Nat} {V : Int} (hV : evE e (val r.1) = V) :
    seqD r (denS (.mk 3 nm e n (b :: t))) = seqD (r.1, r.2 + 1) (denBs (if 0 < V then [b] else t)) := by
  simp only [seqD, denS]
  rw [hV]
  by_cases h : 0 < V
  · simp [h, denBs, Nat.add_assoc]
  · simp [h, Nat.add_assoc]
theorem denS_rep {nm : ByteArray} {e : Ex} {n : Int} {b : List St} {t : List (List St)} {r : Vs × Nat} : seqD r (denS (.mk 4 nm e n (b :: t))) = seqD r (rep (denSs b) n.toNat) := by
  simp [seqD, denS]
/-- Behind the switch: the blocks that are still to do, and what has been done. -/
def MidRel (B m : Nat) (r : Vs × Nat) (st : St) (q : Int) (n : Nat) (mo : Int) (db mb : Nat) (W : World) (v7 : Value) (wc : World) : Prop :=
  ∃ td a len cap r1, v7 = .slice a len cap ∧ RepBl wc B td a len cap ∧ StAt q n mo db mb r1 wc ∧ seqD r1 (denBs td) = seqD r (denS st) ∧ okSb td = true ∧ St.szb td ≤ m ∧ Kp (twoB mb db) W wc
/-- At the head of the loop over those blocks. -/
def InRel (td : List (List St)) (r1 : Vs × Nat) (q : Int) (n : Nat) (mo : Int) (db mb : Nat) (W : World) (i : Value) (wc : World) : Prop :=
  ∃ j : Nat, i = .int .i64 j ∧ j ≤ td.length ∧ StAt q n mo db mb (seqD r1 (denBs (td.take j))) wc ∧ Kp (twoB mb db) W wc
/-- At the head of repeat's loop. -/
def RepRel (g : Vs → Vs × Nat) (N : Nat) (T : Vs × Nat) (q : Int) (n : Nat) (mo : Int) (db mb : Nat) (W : World) (i : Value) (wc : World) : Prop :=
  ∃ (j : Nat) (r : Vs × Nat), i = .int .i64 j ∧ j ≤ N ∧ StAt q n mo db mb r wc ∧ seqD r (rep g (N - j)) = T ∧ Kp (twoB mb db) W wc
theorem take_one_or {α : Type} {l : List α} (h : l.length = 1 ∨ l.length = 2) : ∃ x t, l = x :: t := by
  match l, h with
  | [x], _ => exact ⟨x, [], rfl⟩
  | [x, y], _ => exact ⟨x, [y], rfl⟩

theorem evE_i64 (g : ByteArray → Int) (hg : ∀ s, I64 (g s)) (e : Ex) (h : okE e = true) : I64 (evE e g) := by
  obtain ⟨k, x, s, ks⟩ := e
  simp only [okE, Bool.and_eq_true] at h
  simp only [evE]
  by_cases h1 : k = 1
  · subst h1
    have h2 := h.1
    simp [nodeE] at h2
    simp only [if_true]
    unfold I64
    omega
  · by_cases h2 : k = 2
    · subst h2
      exact hg s
    · simp only [h1, h2, if_false]
      exact opE_i64 _ _ _

/-- What doer.block answers: true, and the state; or false: there were not enough steps. -/
def BlkPost (l : List St) (f : Vs) (q : Int) (n : Nat) (mo : Int) (db mb : Nat) (w : World) (e : Ending) (w' : World) : Prop :=
  Kp (twoB mb db) w w' ∧ ((e = .returned (.bool true) ∧ StAt q n mo db mb (denSs l f) w') ∨ (e = .returned (.bool false) ∧ mo < q + (denSs l f).2))
end Go.Proofs.Ytoejpjnicpajlaa
