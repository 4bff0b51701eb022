/- What was read with all spare places, reads the same where the spare places of its own blocks are read; the slices' elements have cells. -/
import Derived.Test.YtoejpjnicpajlaaRows
import Derived.ChangeReads
set_option linter.unusedVariables false
namespace Go.Proofs.Ytoejpjnicpajlaa

/-- What a type is made of lies in the program's own table; a slice's elements have cells. -/
theorem closed0 : (List.range Try.prog.types.size).all (fun t => match Try.prog.underlying t with
    | some (.pointer e) => decide (e < Try.prog.types.size)
    | some (.slice e) => decide (e < Try.prog.types.size) && decide (0 < Try.prog.cellsOf e)
    | some (.struct fs) => fs.toList.all fun f => decide (f.type < Try.prog.types.size)
    | some (.array _ e) => decide (e < Try.prog.types.size)
    | some (.map _ e) => decide (e < Try.prog.types.size)
    | _ => true) = true := by kernel_rfl
theorem closed {t : TypeId} (h : t < Try.prog.types.size) : (match Try.prog.underlying t with
    | some (.pointer e) => decide (e < Try.prog.types.size)
    | some (.slice e) => decide (e < Try.prog.types.size) && decide (0 < Try.prog.cellsOf e)
    | some (.struct fs) => fs.toList.all fun f => decide (f.type < Try.prog.types.size)
    | some (.array _ e) => decide (e < Try.prog.types.size)
    | some (.map _ e) => decide (e < Try.prog.types.size)
    | _ => true) = true := List.all_eq_true.1 closed0 t (List.mem_range.2 h)

section
variable {H : Type} {enc : TypeId × Value → H} {w w' : World} {base : Nat} {sp : Nat → Bool}
set_option maxRecDepth 100000 in
set_option maxHeartbeats 1000000 in
theorem step_sp {r r' : TypeId → List Value → Option (DataW H × List MemPlace)}
    (hr : ∀ t cs x, t < Try.prog.types.size → r t cs = some x → (∀ p ∈ x.2, sp p.block = true) → r' t cs = some x) {t : TypeId} (hlt : t < Try.prog.types.size) {cs : List Value} {x : DataW H × List MemPlace}
    (h : DataW.trodStep enc Try.prog w base (fun _ => true) true r t cs = some x) (hs : ∀ p ∈ x.2, sp p.block = true) : DataW.trodStep enc Try.prog w base sp true r' t cs = some x := by
  have hcl := closed hlt
  unfold DataW.trodStep at h ⊢
  split at h
  all_goals try exact h
  · rename_i e a ht
    rw [ht] at hcl
    have hce := of_decide_eq_true hcl
    simp only [Option.map_eq_some_iff, Option.bind_eq_some_iff] at h ⊢
    obtain ⟨y, ⟨cs', hc, hy⟩, rfl⟩ := h
    exact ⟨y, ⟨cs', hc, hr _ _ _ hce hy (fun p hp => hs p (by simp [hp]))⟩, rfl⟩
  · rename_i e a len cap ht
    rw [ht] at hcl
    simp only [Bool.and_eq_true, decide_eq_true_eq] at hcl
    have hpos := hcl.2
    have hce := hcl.1
    simp only at h ⊢
    split at h
    · rename_i hc
      rw [if_pos hc]
      simp only [if_true, Option.map_eq_some_iff, Option.bind_eq_some_iff] at h ⊢
      obtain ⟨elems, he, rest, hrest, rfl⟩ := h
      have hrl : rest.length = cap - len := by simpa using mapM_some_length hrest
      have hel : elems.length = len := by simpa using mapM_some_length he
      have one : ∀ (i : Nat) (y : DataW H × List MemPlace), y ∈ elems ++ rest → (w.cells? base (a.add (i * Try.prog.cellsOf e)) (Try.prog.cellsOf e)).bind (r e) = some y → (w.cells? base (a.add (i * Try.prog.cellsOf e)) (Try.prog.cellsOf e)).bind (r' e) = some y := by
        intro i y hy hv
        simp only [Option.bind_eq_some_iff] at hv ⊢
        obtain ⟨cs', hc', hy'⟩ := hv
        exact ⟨cs', hc', hr _ _ _ hce hy' fun p hp => hs p (by simp only [List.mem_append, List.mem_flatMap]; right; exact ⟨y, by simpa using hy, hp⟩)⟩
      refine ⟨elems, mapM_carry he (fun i y hi hy => one i y (by simp [hy])), rest, ?_, rfl⟩
      split
      · exact mapM_carry hrest (fun j y hj hy => one (len + j) y (by simp [hy]))
      · rename_i hsp
        have hz : cap - len = 0 := by
          apply Classical.byContradiction
          intro hz
          refine hsp (hs (.cell a.block (a.off + 0)) ?_)
          simp only [List.mem_append]
          left
          refine MemPlace.mem_row.2 ⟨0, ?_, rfl⟩
          exact Nat.mul_pos (by omega) hpos
        have hr0 : rest = [] := List.eq_nil_of_length_eq_zero (by omega)
        rw [hr0]
    · cases h
  · rename_i fs cs ht
    rw [ht] at hcl
    split at h
    · rename_i hc
      rw [if_pos hc]
      simp only [Option.map_eq_some_iff] at h ⊢
      obtain ⟨xs, hx, rfl⟩ := h
      exact ⟨xs, mapM_carry hx (fun f y hf hy hv => hr _ _ _ (of_decide_eq_true (List.all_eq_true.1 hcl f hf)) hv (fun p hp => hs p (List.mem_flatMap.2 ⟨y, hy, hp⟩))), rfl⟩
    · cases h
  · rename_i n e cs ht
    rw [ht] at hcl
    have hce := of_decide_eq_true hcl
    split at h
    · rename_i hc
      rw [if_pos hc]
      simp only [Option.map_eq_some_iff] at h ⊢
      obtain ⟨xs, hx, rfl⟩ := h
      exact ⟨xs, mapM_carry hx (fun f y _ hy hv => hr _ _ _ hce hv (fun p hp => hs p (List.mem_flatMap.2 ⟨y, hy, hp⟩))), rfl⟩
    · cases h
  · rename_i k e b ht
    rw [ht] at hcl
    have hce := of_decide_eq_true hcl
    split at h
    · rename_i es clock hb
      split at h
      · rename_i hc
        simp only [Option.bind_eq_some_iff] at h
        obtain ⟨entries, he, hd⟩ := h
        split at hd
        · rename_i hris
          have hx := Option.some.inj hd
          subst hx
          simp only [if_pos hc, Option.bind_eq_some_iff]
          refine ⟨entries, mapM_carry he (fun x y _ hy hv => ?_), by simp [hris]⟩
          simp only [Option.bind_eq_some_iff] at hv ⊢
          obtain ⟨key, hk, hz⟩ := hv
          refine ⟨key, hk, ?_⟩
          split at hz
          · rename_i hf
            rw [if_pos hf]
            simp only [Option.map_eq_some_iff] at hz ⊢
            obtain ⟨q, hq, rfl⟩ := hz
            exact ⟨q, hr _ _ _ hce hq (fun p hp => hs p (by simp only [List.mem_cons, List.mem_flatMap]; right; exact ⟨_, hy, hp⟩)), rfl⟩
          · cases hz
        · cases hd
      · cases h
    · cases h
theorem trod_sp : ∀ (n : Nat) (t : TypeId) (cs : List Value) (x : DataW H × List MemPlace), t < Try.prog.types.size →
    DataW.trod enc Try.prog w base (fun _ => true) true n t cs = some x → (∀ p ∈ x.2, sp p.block = true) → DataW.trod enc Try.prog w base sp true n t cs = some x := by
  intro n
  induction n with
  | zero => intro t cs x hlt h; simp [DataW.trod] at h
  | succ n ih =>
    intro t cs x hlt h hs
    rw [DataW.trod_step] at h ⊢
    exact step_sp ih hlt h hs
/-- All arguments, in a later world that keeps what they lead to. -/
theorem trodAll_again : ∀ {ts : List TypeId} {vs : List Value} {ds : List (DataW H)} {ps : List MemPlace}, (∀ t ∈ ts, t < Try.prog.types.size) → DataW.TrodAll enc Try.prog w base (fun _ => true) true ts vs ds ps → (∀ p ∈ ps, w.sameAt w' p) → (∀ p ∈ ps, sp p.block = true) →
    DataW.TrodAll enc Try.prog w' base sp true ts vs ds ps
  | [], [], [], _, _, h, _, _ => h
  | t :: ts, v :: vs, d :: ds, _, h0, ⟨p, q, ⟨n, hn⟩, hs, e⟩, h1, h2 => by
    subst e
    exact ⟨p, q, ⟨n, trod_sp n t _ _ (h0 t (by simp)) (DataW.trod_carry n t _ _ hn fun x hx => h1 x (by simp [hx])) fun x hx => h2 x (by simp [hx])⟩, trodAll_again (fun t ht => h0 t (by simp [ht])) hs (fun x hx => h1 x (by simp [hx])) (fun x hx => h2 x (by simp [hx])), rfl⟩
end
end Go.Proofs.Ytoejpjnicpajlaa
