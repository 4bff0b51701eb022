/- From what the row reads of the arguments to lists of statements and of variables in memory, and how large they are. -/
import Derived.Test.YtoejpjnicpajlaaSpare
import Derived.Test.YtoejpjnicpajlaaJoined
import Derived.Deep.Slices
set_option linter.unusedVariables false
namespace Go.Proofs.Ytoejpjnicpajlaa
open Go.RowKit Go.ChangeShapes Go.WideShapes Go.Deep

theorem bulk_pos {H : Type} (d : DataW H) : 1 ≤ Rows.uptoBulk d := by
  cases d with
  | lit l => cases l <;> simp [Rows.uptoBulk]
  | nil => simp [Rows.uptoBulk]
  | ptr d => simp [Rows.uptoBulk]
  | slice elems spare => simp [Rows.uptoBulk]
  | agg parts => simp [Rows.uptoBulk]
  | iface t d => simp [Rows.uptoBulk]
  | map entries => simp [Rows.uptoBulk]
  | held h => simp [Rows.uptoBulk]
theorem bulk_mem {H : Type} {d : DataW H} {l : List (DataW H)} (h : d ∈ l) : Rows.uptoBulk d ≤ Rows.uptoBulkAll l := by
  induction l with
  | nil => cases h
  | cons x r ih =>
    simp only [Rows.uptoBulkAll]
    cases List.mem_cons.1 h with
    | inl e => subst e; omega
    | inr e => have := ih e; omega

theorem len_bulk {H : Type} (l : List (DataW H)) : l.length ≤ Rows.uptoBulkAll l := by
  induction l with
  | nil => simp [Rows.uptoBulkAll]
  | cons x r ih => have := bulk_pos x; simp only [Rows.uptoBulkAll, List.length_cons]; omega
theorem slice_of_cells {w : World} {r : Reach} {b0 t e : Nat} {v : Value} {a : Option Addr} {len cap : Nat} (ht : Try.prog.underlying t = some (.slice e)) (hval : Value.okWide Try.prog w r b0 t v) (h : v.cells.toList = [.slice a len cap]) : v = .slice a len cap := by
  obtain ⟨a', n', c', rfl⟩ := okWide_slice ht hval
  simpa [Value.cells] using h
theorem RepSs.make {w : World} {B : Nat} : ∀ (l : List St) (b o : Nat), (∀ (i : Nat) (s : St), l[i]? = some s → ∃ v0 v1 v2 v3 v4 v5 v6 v7, w.cell? ⟨b, o + i * 8, none⟩ = some v0 ∧ w.cell? ⟨b, o + i * 8 + 1, none⟩ = some v1 ∧ w.cell? ⟨b, o + i * 8 + 2, none⟩ = some v2 ∧ w.cell? ⟨b, o + i * 8 + 3, none⟩ = some v3 ∧
      w.cell? ⟨b, o + i * 8 + 4, none⟩ = some v4 ∧ w.cell? ⟨b, o + i * 8 + 5, none⟩ = some v5 ∧ w.cell? ⟨b, o + i * 8 + 6, none⟩ = some v6 ∧ w.cell? ⟨b, o + i * 8 + 7, none⟩ = some v7 ∧ RepS w B s (.agg #[v0, v1, v2, v3, v4, v5, v6, v7])) → RepSs w B l b o
  | [], _, _, _ => by simp only [RepSs]
  | s :: l, b, o, h => by
    simp only [RepSs]
    refine ⟨by simpa using h 0 s rfl, RepSs.make l b (o + 8) fun i s' hi => ?_⟩
    have := h (i + 1) s' (by simpa using hi)
    rw [show o + (i + 1) * 8 = o + 8 + i * 8 by omega] at this
    exact this
theorem RepEs.make {w : World} {B : Nat} : ∀ (l : List Ex) (b o : Nat), (∀ (i : Nat) (s : Ex), l[i]? = some s → ∃ v0 v1 v2 v3, w.cell? ⟨b, o + i * 4, none⟩ = some v0 ∧ w.cell? ⟨b, o + i * 4 + 1, none⟩ = some v1 ∧ w.cell? ⟨b, o + i * 4 + 2, none⟩ = some v2 ∧ w.cell? ⟨b, o + i * 4 + 3, none⟩ = some v3 ∧ RepE w B s (.agg #[v0, v1, v2, v3])) → RepEs w B l b o
  | [], _, _, _ => by simp only [RepEs]
  | s :: l, b, o, h => by
    simp only [RepEs]
    refine ⟨by simpa using h 0 s rfl, RepEs.make l b (o + 4) fun i s' hi => ?_⟩
    have := h (i + 1) s' (by simpa using hi)
    rw [show o + (i + 1) * 4 = o + 4 + i * 4 by omega] at this
    exact this
theorem RepBs.make {w : World} {B : Nat} : ∀ (l : List (List St)) (b o : Nat), (∀ (i : Nat) (s : List St), l[i]? = some s → ∃ a len cap, w.cell? ⟨b, o + i, none⟩ = some (.slice a len cap) ∧ RepSl w B s a len cap) → RepBs w B l b o
  | [], _, _, _ => by simp only [RepBs]
  | s :: l, b, o, h => by
    simp only [RepBs]
    refine ⟨h 0 s rfl, RepBs.make l b (o + 1) fun i s' hi => ?_⟩
    have := h (i + 1) s' (by simpa using hi)
    rw [show o + (i + 1) = o + 1 + i by omega] at this
    exact this
theorem RepVs.make {w : World} : ∀ (l : List Vr) (b o : Nat), (∀ (i : Nat) (v : Vr), l[i]? = some v → w.cell? ⟨b, o + i * 2, none⟩ = some (.string v.1) ∧ w.cell? ⟨b, o + i * 2 + 1, none⟩ = some (.int .i64 v.2) ∧ v.1.size ≤ maxLen ∧ I64 v.2) → RepVs w l b o
  | [], _, _, _ => trivial
  | s :: l, b, o, h => by
    have h0 := h 0 s rfl
    rw [Nat.zero_mul, Nat.add_zero] at h0
    refine ⟨h0.1, h0.2.1, h0.2.2.1, h0.2.2.2, RepVs.make l b (o + 2) fun i s' hi => ?_⟩
    have := h (i + 1) s' (by simpa using hi)
    rw [show o + (i + 1) * 2 = o + 2 + i * 2 by omega] at this
    exact this

theorem szs_range {H : Type} (f : Nat → St) (D : Nat → DataW H) : ∀ L : List Nat, (∀ i ∈ L, (f i).sz ≤ Rows.uptoBulk (D i)) → St.szs (L.map f) ≤ Rows.uptoBulkAll (L.map D)
  | [], _ => by simp [St.szs, Rows.uptoBulkAll]
  | i :: L, h => by
    have h1 := h i (by simp)
    have h2 := szs_range f D L fun j hj => h j (by simp [hj])
    simp only [List.map_cons, St.szs, Rows.uptoBulkAll]
    omega
theorem szes_range {H : Type} (f : Nat → Ex) (D : Nat → DataW H) : ∀ L : List Nat, (∀ i ∈ L, (f i).sz ≤ Rows.uptoBulk (D i)) → Ex.szs (L.map f) ≤ Rows.uptoBulkAll (L.map D)
  | [], _ => by simp [Ex.szs, Rows.uptoBulkAll]
  | i :: L, h => by
    have h1 := h i (by simp)
    have h2 := szes_range f D L fun j hj => h j (by simp [hj])
    simp only [List.map_cons, Ex.szs, Rows.uptoBulkAll]
    omega
theorem szbs_range {H : Type} (f : Nat → List St) (D : Nat → DataW H) : ∀ L : List Nat, (∀ i ∈ L, St.szs (f i) + 1 ≤ Rows.uptoBulk (D i)) → St.szb (L.map f) ≤ Rows.uptoBulkAll (L.map D)
  | [], _ => by simp [St.szb, Rows.uptoBulkAll]
  | i :: L, h => by
    have h1 := h i (by simp)
    have h2 := szbs_range f D L fun j hj => h j (by simp [hj])
    simp only [List.map_cons, St.szb, Rows.uptoBulkAll]
    omega

section
variable {H : Type} {enc : TypeId × Value → H} {w : World}
/-- A slice at every index, each element's cells written out. -/
theorem slice_cells {t e n : Nat} {fuel : Nat} {cs : List Value} {x : DataW H × List MemPlace} (ht : Try.prog.underlying t = some (.slice e)) (hn : Try.prog.cellsOf e = n) (hpos : 0 < n)
    (h : DataW.trod enc Try.prog w 0 (fun _ => true) true fuel t cs = some x) :
    ∃ (a : Option Addr) (len cap : Nat) (D : Nat → DataW H), cs = [.slice a len cap] ∧ len ≤ cap ∧ cap ≤ maxLen ∧ (a = none → cap = 0) ∧ Rows.uptoBulkAll ((List.range len).map D) + 1 ≤ Rows.uptoBulk x.1 ∧
      (∀ i, i < len → ∃ b o cs' m p, a = some ⟨b, o, none⟩ ∧ b < w.heap.size ∧ cs'.length = n ∧ (∀ k, k < n → w.cell? ⟨b, o + i * n + k, none⟩ = cs'[k]?) ∧ DataW.trod enc Try.prog w 0 (fun _ => true) true m e cs' = some (D i, p)) := by
  rcases open_slice ht h with ⟨rfl, rfl⟩ | ⟨a, len, cap, m, f, D, Pl, rfl, hb, hl, hc, hm, rfl, hx⟩
  · exact ⟨none, 0, 0, fun _ => .nil, rfl, Nat.le_refl _, Nat.zero_le _, fun _ => rfl, by simp [Rows.uptoBulkAll, Rows.uptoBulk], fun i hi => absurd hi (Nat.not_lt_zero _)⟩
  · refine ⟨some a, len, cap, D, rfl, hl, hc, by simp, by simp only [Rows.uptoBulk]; omega, fun i hi => ?_⟩
    have hm2 : m = cap := by rw [hm]; simp
    obtain ⟨cs', h1, h2⟩ := hx i (by omega)
    rw [hn] at h1
    obtain ⟨_, hlen, hcell⟩ := World.cells?_some h1
    have h0 := hcell 0 hpos
    rw [List.getElem?_eq_getElem (by omega)] at h0
    have hspot0 : a.spot = none := by
      obtain ⟨cs0, k1, -⟩ := hx 0 (by omega)
      rw [hn] at k1
      obtain ⟨_, klen, kcell⟩ := World.cells?_some k1
      have k0 := kcell 0 hpos
      rw [List.getElem?_eq_getElem (by omega)] at k0
      have ks := World.cell?_spot k0
      simpa [Addr.add] using ks
    obtain ⟨b, o, spot⟩ := a
    have hspot : spot = none := hspot0
    subst hspot
    refine ⟨b, o, cs', f, Pl i, rfl, ?_, hlen, fun k hk => ?_, h2⟩
    · have := World.block_lt_of_cell? _ _ h0
      rw [add_lit, add_lit] at this
      exact this
    · have := hcell k hk
      rw [add_lit, add_lit] at this
      exact this
theorem i64_of {n : Int} (h : (Lit.int .i64 n).wf = true) : I64 n := by
  simp [Lit.wf, IntKind.min, IntKind.max, IntKind.signed, IntKind.bits] at h
  unfold I64
  omega
abbrev Tr (enc : TypeId × Value → H) (w : World) (fuel t : Nat) (cs : List Value) (x : DataW H × List MemPlace) : Prop := DataW.trod enc Try.prog w 0 (fun _ => true) true fuel t cs = some x
def RdE (enc : TypeId × Value → H) (w : World) (m : Nat) : Prop := ∀ (fuel : Nat) (cs : List Value) (x : DataW H × List MemPlace), Tr enc w fuel 29 cs x → Rows.uptoBulk x.1 ≤ m →
  ∃ e v0 v1 v2 v3, cs = [v0, v1, v2, v3] ∧ RepE w w.heap.size e (.agg #[v0, v1, v2, v3]) ∧ e.sz ≤ Rows.uptoBulk x.1
theorem rd_es {m : Nat} (ih : RdE enc w m) {fuel : Nat} {cs : List Value} {x : DataW H × List MemPlace} (h : Tr enc w fuel 27 cs x) (hm : Rows.uptoBulk x.1 ≤ m + 1) :
    ∃ a len cap ks, cs = [.slice a len cap] ∧ RepEl w w.heap.size ks a len cap ∧ Ex.szs ks + 1 ≤ Rows.uptoBulk x.1 := by
  obtain ⟨a, len, cap, D, rfl, hl, hc, hn, hbk, hel⟩ := slice_cells (n := 4) Try.underlying27 (by kernel_rfl) (by omega) h
  have hone : ∀ i, i < len → ∃ e : Ex, (∃ b o v0 v1 v2 v3, a = some ⟨b, o, none⟩ ∧ b < w.heap.size ∧ w.cell? ⟨b, o + i * 4, none⟩ = some v0 ∧ w.cell? ⟨b, o + i * 4 + 1, none⟩ = some v1 ∧ w.cell? ⟨b, o + i * 4 + 2, none⟩ = some v2 ∧ w.cell? ⟨b, o + i * 4 + 3, none⟩ = some v3 ∧ RepE w w.heap.size e (.agg #[v0, v1, v2, v3])) ∧ e.sz ≤ Rows.uptoBulk (D i) := by
    intro i hi
    obtain ⟨b, o, cs', fm, p, ha, hb, hcl, hcell, htr⟩ := hel i hi
    have hbi : Rows.uptoBulk (D i) ≤ Rows.uptoBulkAll ((List.range len).map D) := bulk_mem (List.mem_map.2 ⟨i, List.mem_range.2 hi, rfl⟩)
    obtain ⟨e, v0, v1, v2, v3, rfl, hr, hs⟩ := ih fm cs' _ htr (by simp only; omega)
    exact ⟨e, ⟨b, o, v0, v1, v2, v3, ha, hb, hcell 0 (by omega), hcell 1 (by omega), hcell 2 (by omega), hcell 3 (by omega), hr⟩, hs⟩
  haveI : Inhabited Ex := ⟨.mk 0 0 ⟨#[]⟩ []⟩
  obtain ⟨f, hf⟩ := choose_lt hone
  refine ⟨a, len, cap, (List.range len).map f, rfl, ⟨⟨by simp, hl, hc, hn⟩, ?_⟩, ?_⟩
  · by_cases h0 : len = 0
    · left; subst h0; simp
    · obtain ⟨b, o, _, _, _, _, ha, hb, _⟩ := (hf 0 (by omega)).1
      refine .inr ⟨b, o, ha, hb, RepEs.make _ b o fun i e hi => ?_⟩
      have hlt : i < len := by have := (List.getElem?_eq_some_iff.1 hi).1; simpa using this
      have he : f i = e := by simpa [List.getElem?_map, List.getElem?_range hlt] using hi
      obtain ⟨b', o', v0, v1, v2, v3, ha', -, r⟩ := (hf i hlt).1
      rw [ha] at ha'
      cases ha'
      rw [he] at r
      exact ⟨v0, v1, v2, v3, r⟩
  · have := szes_range f D (List.range len) fun i hi => (hf i (List.mem_range.1 hi)).2
    omega
theorem rd_e : ∀ m, RdE enc w m
  | 0 => fun fuel cs x h hm => by have := bulk_pos x.1; omega
  | m + 1 => by
    intro fuel cs x h hm
    obtain ⟨xs, n, rfl, rfl, hcl, hxl, hx⟩ := DataW.trod_struct Try.underlying29 h
    have hc4 : Try.prog.cellsOf 29 = 4 := by kernel_rfl
    have hcI : Try.prog.cellsOf 3 = 1 := by kernel_rfl
    have hcI6 : Try.prog.cellsOf 2 = 1 := by kernel_rfl
    have hcS : Try.prog.cellsOf 9 = 1 := by kernel_rfl
    have hcL : Try.prog.cellsOf 27 = 1 := by kernel_rfl
    rw [hc4] at hcl
    match cs, hcl, xs, hxl with
    | [c0, c1, c2, c3], _, [y0, y1, y2, y3], _ =>
      have f0 := hx 0 _ rfl
      have f1 := hx 1 _ rfl
      have f2 := hx 2 _ rfl
      have f3 := hx 3 _ rfl
      simp [hcI, hcI6, hcS, hcL] at f0 f1 f2 f3
      obtain ⟨k, e0, rfl, w0⟩ := DataW.trod_int Try.underlying3 f0
      obtain ⟨q, e1, rfl, w1⟩ := DataW.trod_int Try.underlying2 f1
      obtain ⟨s, e2, rfl, hs⟩ := DataW.trod_string Try.underlying9 f2
      have hbk : Rows.uptoBulk y3.1 + 4 ≤ m + 1 := by simp [Rows.uptoBulk, Rows.uptoBulkAll] at hm; omega
      obtain ⟨a, len, cap, ks, e3, hks, hsz⟩ := rd_es (rd_e m) f3 (by omega)
      simp only [List.cons.injEq, and_true] at e0 e1 e2 e3
      subst e0 e1 e2 e3
      refine ⟨.mk k q s ks, _, _, _, _, rfl, ?_, ?_⟩
      · simp only [RepE]
        exact ⟨a, len, cap, rfl, i64_of w0, i64_of w1, hs, hks.1, hks.2⟩
      · simp [Rows.uptoBulk, Rows.uptoBulkAll, Ex.sz]
        omega
def RdS (enc : TypeId × Value → H) (w : World) (m : Nat) : Prop := ∀ (fuel : Nat) (cs : List Value) (x : DataW H × List MemPlace), Tr enc w fuel 33 cs x → Rows.uptoBulk x.1 ≤ m →
  ∃ s v0 v1 v2 v3 v4 v5 v6 v7, cs = [v0, v1, v2, v3, v4, v5, v6, v7] ∧ RepS w w.heap.size s (.agg #[v0, v1, v2, v3, v4, v5, v6, v7]) ∧ s.sz ≤ Rows.uptoBulk x.1
theorem rd_ss {m : Nat} (ih : RdS enc w m) {fuel : Nat} {cs : List Value} {x : DataW H × List MemPlace} (h : Tr enc w fuel 22 cs x) (hm : Rows.uptoBulk x.1 ≤ m + 1) :
    ∃ a len cap l, cs = [.slice a len cap] ∧ RepSl w w.heap.size l a len cap ∧ St.szs l + 1 ≤ Rows.uptoBulk x.1 := by
  obtain ⟨a, len, cap, D, rfl, hl, hc, hn, hbk, hel⟩ := slice_cells (n := 8) Try.underlying22 (by kernel_rfl) (by omega) h
  have hone : ∀ i, i < len → ∃ e : St, (∃ b o v0 v1 v2 v3 v4 v5 v6 v7, a = some ⟨b, o, none⟩ ∧ b < w.heap.size ∧ w.cell? ⟨b, o + i * 8, none⟩ = some v0 ∧ w.cell? ⟨b, o + i * 8 + 1, none⟩ = some v1 ∧ w.cell? ⟨b, o + i * 8 + 2, none⟩ = some v2 ∧ w.cell? ⟨b, o + i * 8 + 3, none⟩ = some v3 ∧
      w.cell? ⟨b, o + i * 8 + 4, none⟩ = some v4 ∧ w.cell? ⟨b, o + i * 8 + 5, none⟩ = some v5 ∧ w.cell? ⟨b, o + i * 8 + 6, none⟩ = some v6 ∧ w.cell? ⟨b, o + i * 8 + 7, none⟩ = some v7 ∧ RepS w w.heap.size e (.agg #[v0, v1, v2, v3, v4, v5, v6, v7])) ∧ e.sz ≤ Rows.uptoBulk (D i) := by
    intro i hi
    obtain ⟨b, o, cs', fm, p, ha, hb, hcl, hcell, htr⟩ := hel i hi
    have hbi : Rows.uptoBulk (D i) ≤ Rows.uptoBulkAll ((List.range len).map D) := bulk_mem (List.mem_map.2 ⟨i, List.mem_range.2 hi, rfl⟩)
    obtain ⟨e, v0, v1, v2, v3, v4, v5, v6, v7, rfl, hr, hs⟩ := ih fm cs' _ htr (by simp only; omega)
    exact ⟨e, ⟨b, o, v0, v1, v2, v3, v4, v5, v6, v7, ha, hb, hcell 0 (by omega), hcell 1 (by omega), hcell 2 (by omega), hcell 3 (by omega), hcell 4 (by omega), hcell 5 (by omega), hcell 6 (by omega), hcell 7 (by omega), hr⟩, hs⟩
  haveI : Inhabited St := ⟨.mk 0 ⟨#[]⟩ (.mk 0 0 ⟨#[]⟩ []) 0 []⟩
  obtain ⟨f, hf⟩ := choose_lt hone
  refine ⟨a, len, cap, (List.range len).map f, rfl, ⟨⟨by simp, hl, hc, hn⟩, ?_⟩, ?_⟩
  · by_cases h0 : len = 0
    · left; subst h0; simp
    · obtain ⟨b, o, _, _, _, _, _, _, _, _, ha, hb, _⟩ := (hf 0 (by omega)).1
      refine .inr ⟨b, o, ha, hb, RepSs.make _ b o fun i e hi => ?_⟩
      have hlt : i < len := by have := (List.getElem?_eq_some_iff.1 hi).1; simpa using this
      have he : f i = e := by simpa [List.getElem?_map, List.getElem?_range hlt] using hi
      obtain ⟨b', o', v0, v1, v2, v3, v4, v5, v6, v7, ha', -, r⟩ := (hf i hlt).1
      rw [ha] at ha'
      cases ha'
      rw [he] at r
      exact ⟨v0, v1, v2, v3, v4, v5, v6, v7, r⟩
  · have := szs_range f D (List.range len) fun i hi => (hf i (List.mem_range.1 hi)).2
    omega
theorem rd_bs {m : Nat} (ih : RdS enc w m) {fuel : Nat} {cs : List Value} {x : DataW H × List MemPlace} (h : Tr enc w fuel 31 cs x) (hm : Rows.uptoBulk x.1 ≤ m + 1) :
    ∃ a len cap l, cs = [.slice a len cap] ∧ RepBl w w.heap.size l a len cap ∧ St.szb l + 1 ≤ Rows.uptoBulk x.1 := by
  obtain ⟨a, len, cap, D, rfl, hl, hc, hn, hbk, hel⟩ := slice_cells (n := 1) Try.underlying31 (by kernel_rfl) (by omega) h
  have hone : ∀ i, i < len → ∃ e : List St, (∃ b o a' len' cap', a = some ⟨b, o, none⟩ ∧ b < w.heap.size ∧ w.cell? ⟨b, o + i, none⟩ = some (.slice a' len' cap') ∧ RepSl w w.heap.size e a' len' cap') ∧ St.szs e + 1 ≤ Rows.uptoBulk (D i) := by
    intro i hi
    obtain ⟨b, o, cs', fm, p, ha, hb, hcl, hcell, htr⟩ := hel i hi
    have hbi : Rows.uptoBulk (D i) ≤ Rows.uptoBulkAll ((List.range len).map D) := bulk_mem (List.mem_map.2 ⟨i, List.mem_range.2 hi, rfl⟩)
    obtain ⟨a', len', cap', e, rfl, hr, hs⟩ := rd_ss ih htr (by simp only; omega)
    have h0 := hcell 0 (by omega)
    rw [Nat.mul_one] at h0
    exact ⟨e, ⟨b, o, a', len', cap', ha, hb, h0, hr⟩, hs⟩
  obtain ⟨f, hf⟩ := choose_lt hone
  refine ⟨a, len, cap, (List.range len).map f, rfl, ⟨⟨by simp, hl, hc, hn⟩, ?_⟩, ?_⟩
  · by_cases h0 : len = 0
    · left; subst h0; simp
    · obtain ⟨b, o, _, _, _, ha, hb, _⟩ := (hf 0 (by omega)).1
      refine .inr ⟨b, o, ha, hb, RepBs.make _ b o fun i e hi => ?_⟩
      have hlt : i < len := by have := (List.getElem?_eq_some_iff.1 hi).1; simpa using this
      have he : f i = e := by simpa [List.getElem?_map, List.getElem?_range hlt] using hi
      obtain ⟨b', o', v0, v1, v2, ha', -, r⟩ := (hf i hlt).1
      rw [ha] at ha'
      cases ha'
      rw [he] at r
      exact ⟨v0, v1, v2, r⟩
  · have := szbs_range f D (List.range len) fun i hi => (hf i (List.mem_range.1 hi)).2
    omega
theorem rd_s : ∀ m, RdS enc w m
  | 0 => fun fuel cs x h hm => by have := bulk_pos x.1; omega
  | m + 1 => by
    intro fuel cs x h hm
    obtain ⟨xs, n, rfl, rfl, hcl, hxl, hx⟩ := DataW.trod_struct Try.underlying33 h
    have hc8 : Try.prog.cellsOf 33 = 8 := by kernel_rfl
    have hc4 : Try.prog.cellsOf 29 = 4 := by kernel_rfl
    have hcI : Try.prog.cellsOf 3 = 1 := by kernel_rfl
    have hcI6 : Try.prog.cellsOf 2 = 1 := by kernel_rfl
    have hcS : Try.prog.cellsOf 9 = 1 := by kernel_rfl
    have hcL : Try.prog.cellsOf 31 = 1 := by kernel_rfl
    rw [hc8] at hcl
    match cs, hcl, xs, hxl with
    | [c0, c1, c2, c3, c4, c5, c6, c7], _, [y0, y1, y2, y3, y4], _ =>
      have f0 := hx 0 _ rfl
      have f1 := hx 1 _ rfl
      have f2 := hx 2 _ rfl
      have f3 := hx 3 _ rfl
      have f4 := hx 4 _ rfl
      simp [hcI, hcI6, hcS, hcL, hc4] at f0 f1 f2 f3 f4
      obtain ⟨k, e0, rfl, w0⟩ := DataW.trod_int Try.underlying3 f0
      obtain ⟨s, e1, rfl, hs⟩ := DataW.trod_string Try.underlying9 f1
      obtain ⟨q, e3, rfl, w3⟩ := DataW.trod_int Try.underlying2 f3
      have hbk : Rows.uptoBulk y4.1 + 4 ≤ m + 1 := by simp [Rows.uptoBulk, Rows.uptoBulkAll] at hm; omega
      obtain ⟨e, u0, u1, u2, u3, e2, hE, hEs⟩ := rd_e (Rows.uptoBulk y2.1) n _ _ f2 (Nat.le_refl _)
      obtain ⟨a, len, cap, bs, e4, hbs, hsz⟩ := rd_bs (rd_s m) f4 (by omega)
      simp only [List.cons.injEq, and_true] at e0 e1 e2 e3 e4
      obtain ⟨g0, g1, g2, g3⟩ := e2
      subst e0 e1 e3 e4 g0 g1 g2 g3
      refine ⟨.mk k s e q bs, _, _, _, _, _, _, _, _, rfl, ?_, ?_⟩
      · simp only [RepS]
        exact ⟨_, _, _, _, a, len, cap, rfl, hE, i64_of w0, i64_of w3, hs, hbs.1, hbs.2⟩
      · simp [Rows.uptoBulk, Rows.uptoBulkAll, St.sz]
        omega
/-- The argument of statements. -/
theorem read_stats {v : Value} {d : DataW H} {ps : List MemPlace} {r : Reach} {b0 : Nat} (hval : Value.okWide Try.prog w r b0 22 v) (h : DataW.Trod enc Try.prog w 0 (fun _ => true) true 22 v d ps) : ∃ a len cap l, v = .slice a len cap ∧ RepSl w w.heap.size l a len cap ∧ St.szs l + 1 ≤ Rows.uptoBulk d := by
  obtain ⟨fuel, hf⟩ := h
  obtain ⟨a, len, cap, l, hv, hr, hs⟩ := rd_ss (rd_s (Rows.uptoBulk d)) hf (by simp only; omega)
  exact ⟨a, len, cap, l, slice_of_cells Try.underlying22 hval hv, hr, hs⟩
set_option maxRecDepth 100000 in
/-- The argument of variables. -/
theorem read_vars {v : Value} {d : DataW H} {ps : List MemPlace} {r : Reach} {b0 : Nat} (hval : Value.okWide Try.prog w r b0 23 v) (h : DataW.Trod enc Try.prog w 0 (fun _ => true) true 23 v d ps) : ∃ a len cap l, v = .slice a len cap ∧ RepVl w w.heap.size l a len cap ∧ l.length + 1 ≤ Rows.uptoBulk d := by
  obtain ⟨fuel, hf⟩ := h
  obtain ⟨a, len, cap, D, hv, hl, hc, hn, hbk, hel⟩ := slice_cells (n := 2) Try.underlying23 (by kernel_rfl) (by omega) hf
  have hcI6 : Try.prog.cellsOf 2 = 1 := by kernel_rfl
  have hcS : Try.prog.cellsOf 9 = 1 := by kernel_rfl
  have hc2 : Try.prog.cellsOf 35 = 2 := by kernel_rfl
  have hone : ∀ i, i < len → ∃ e : Vr, (∃ b o, a = some ⟨b, o, none⟩ ∧ b < w.heap.size ∧ w.cell? ⟨b, o + i * 2, none⟩ = some (.string e.1) ∧ w.cell? ⟨b, o + i * 2 + 1, none⟩ = some (.int .i64 e.2) ∧ e.1.size ≤ maxLen ∧ I64 e.2) := by
    intro i hi
    obtain ⟨b, o, cs', fm, p, ha, hb, hcl, hcell, htr⟩ := hel i hi
    obtain ⟨xs, n, rfl, hxx, hcl', hxl, hx⟩ := DataW.trod_struct Try.underlying35 htr
    match cs', hcl, xs, hxl with
    | [c0, c1], _, [y0, y1], _ =>
      have f0 := hx 0 _ rfl
      have f1 := hx 1 _ rfl
      simp [hcI6, hcS] at f0 f1
      obtain ⟨s, e0, rfl, hs⟩ := DataW.trod_string Try.underlying9 f0
      obtain ⟨q, e1, rfl, w1⟩ := DataW.trod_int Try.underlying2 f1
      simp only [List.cons.injEq, and_true] at e0 e1
      subst e0 e1
      exact ⟨(s, q), b, o, ha, hb, hcell 0 (by omega), hcell 1 (by omega), hs, i64_of w1⟩
  haveI : Inhabited Vr := ⟨(⟨#[]⟩, 0)⟩
  obtain ⟨f, hf⟩ := choose_lt hone
  refine ⟨a, len, cap, (List.range len).map f, slice_of_cells Try.underlying23 hval hv, ⟨⟨by simp, hl, hc, hn⟩, ?_⟩, ?_⟩
  · by_cases h0 : len = 0
    · left; subst h0; simp
    · obtain ⟨b, o, ha, hb, _⟩ := hf 0 (by omega)
      refine .inr ⟨b, o, ha, hb, RepVs.make _ b o fun i e hi => ?_⟩
      have hlt : i < len := by have := (List.getElem?_eq_some_iff.1 hi).1; simpa using this
      have he : f i = e := by simpa [List.getElem?_map, List.getElem?_range hlt] using hi
      obtain ⟨b', o', ha', -, r⟩ := hf i hlt
      rw [ha] at ha'
      cases ha'
      rw [he] at r
      exact r
  · have : ((List.range len).map D).length ≤ Rows.uptoBulkAll ((List.range len).map D) := len_bulk _
    simp only [List.length_map, List.length_range] at this ⊢
    simp only at hbk
    omega
end
end Go.Proofs.Ytoejpjnicpajlaa
