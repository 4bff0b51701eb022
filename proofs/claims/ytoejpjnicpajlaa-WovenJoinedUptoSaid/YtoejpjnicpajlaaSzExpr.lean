/- The walks of none and of size.expr: what they answer of any expression, and what size.expr counts. -/
import Derived.Test.YtoejpjnicpajlaaName
namespace Go.Proofs.Ytoejpjnicpajlaa
open Go.RowKit

/-- Block sb is a counter of sizes: so many, so deep. -/
def SzAt (w : World) (sb : Nat) (n d : Int) : Prop := w.heap[sb]? = some (.cells #[.int .i64 n, .int .i64 d] 50 (0, 0))
theorem SzAt.c0 {w : World} {sb : Nat} {n d : Int} (h : SzAt w sb n d) : w.cell? ⟨sb, 0, none⟩ = some (.int .i64 n) := by simp [World.cell?, SzAt] at *; rw [h]; simp
theorem SzAt.c1 {w : World} {sb : Nat} {n d : Int} (h : SzAt w sb n d) : w.cell? ⟨sb, 1, none⟩ = some (.int .i64 d) := by simp [World.cell?, SzAt] at *; rw [h]; simp
theorem SzAt.f {w : World} {sb : Nat} {n d : Int} (h : SzAt w sb n d) (o : Nat) : w.frozen? ⟨sb, o, none⟩ = false := by simp [World.frozen?, SzAt] at *; rw [h]; simp
theorem SzAt.lt {w : World} {sb : Nat} {n d : Int} (h : SzAt w sb n d) : sb < w.heap.size := (Array.getElem?_eq_some_iff.1 h).1
theorem SzAt.set0 {w : World} {sb : Nat} {n d : Int} (h : SzAt w sb n d) (n' : Int) : SzAt (w.setCell ⟨sb, 0, none⟩ (.int .i64 n')) sb n' d := by
  have hl := h.lt
  unfold SzAt at *
  simp only [World.setCell, Array.getElem?_modify, if_true]
  rw [h]
  simp
theorem SzAt.set1 {w : World} {sb : Nat} {n d : Int} (h : SzAt w sb n d) (d' : Int) : SzAt (w.setCell ⟨sb, 1, none⟩ (.int .i64 d')) sb n d' := by
  have hl := h.lt
  unfold SzAt at *
  simp only [World.setCell, Array.getElem?_modify, if_true]
  rw [h]
  simp
theorem SzAt.alloc {w : World} {sb : Nat} {n d : Int} (h : SzAt w sb n d) (o : Obj) : SzAt (w.alloc o) sb n d := (Below.heap_alloc w o sb h.lt).trans h

def SzPost (ok : Bool) (cnt : Nat) (dp n d : Int) (sb : Nat) (w : World) (e : Ending) (w' : World) : Prop :=
  e = .returned (.bool ok) ∧ Kp (oneB sb) w w' ∧ ∃ n' d', SzAt w' sb n' d' ∧ (ok = true → n' = n + cnt ∧ d' = max d dp)

theorem len_zero {α : Type} (l : List α) : ((l.length : Int) == 0) = decide (l = []) := by
  cases l with
  | nil => rfl
  | cons x l => rw [Bool.eq_iff_iff]; simp only [beq_iff_eq, List.length_cons, decide_eq_true_eq, reduceCtorEq, iff_false]; omega
def NonePost (e0 : Ex) (w : World) (e : Ending) (w' : World) : Prop := e = .returned (.bool (noneE e0)) ∧ Kp noB w w'
set_option maxHeartbeats 1000000 in
theorem none_any (e0 : Ex) (v : Value) (B : Nat) (w : World) (hr : RepE w B e0 v) : Calls Try.prog 22 #[v] w (NonePost e0 w) := by
  obtain ⟨k, n, s, ks⟩ := e0
  simp only [RepE] at hr
  obtain ⟨a, len, cap, rfl, hk, hn, hs, hsl, -⟩ := hr
  have hl := hsl.1
  have S := str_nil s
  have H := Lib.hid (And.intro S hl); clear S hl hsl
  go_enter Try.func22, Try.ntmps22
  go_wp2
  all_goals go_ret
  all_goals refine ⟨ret_bool ?_, (Kp.refl _ _).alloc _⟩
  all_goals (obtain ⟨S, hl⟩ := H.out; simp_all [noneE, len_zero])

set_option maxHeartbeats 1000000 in
/-- .. with the one block that it makes. -/
theorem none_exact (e0 : Ex) (k n : Int) (s : ByteArray) (a : Option Addr) (len cap : Nat) (B : Nat) (w : World) (hr : RepE w B e0 (.agg #[.int .i64 k, .int .i64 n, .string s, .slice a len cap])) :
    Calls Try.prog 22 #[.agg #[.int .i64 k, .int .i64 n, .string s, .slice a len cap]] w fun e w' => e = .returned (.bool (noneE e0)) ∧ w.alloc (.cells #[.int .i64 k, .int .i64 n, .string s, .slice a len cap] 29) = w' := by
  obtain ⟨k', n', s', ks⟩ := e0
  simp only [RepE] at hr
  obtain ⟨a', len', cap', hv, hk, hn, hs, hsl, -⟩ := hr
  simp at hv
  obtain ⟨rfl, rfl, rfl, rfl, rfl, rfl⟩ := hv
  have hl := hsl.1
  have S := str_nil s
  have H := Lib.hid (And.intro S hl); clear S hl hsl
  have hnn : noneE (.mk k n s ks) = (decide (k = 0) && decide (n = 0) && s.toList.isEmpty && ((len : Int) == 0)) := by
    obtain ⟨S, hl⟩ := H.out
    rw [hl, len_zero, str_emp]
    simp [noneE]
  have HN := Lib.hid hnn; clear hnn
  by_cases k0 : k = 0
  · by_cases n0 : n = 0
    · subst k0 n0
      cases hs0 : s.toList.isEmpty
      all_goals go_enter Try.func22, Try.ntmps22
      all_goals go_wp2
      all_goals go_ret
      all_goals exact ⟨ret_bool (by rw [HN.out, hs0]; simp), rfl⟩
    · have n1 : (n == 0) = false := by simpa using n0
      subst k0
      go_enter Try.func22, Try.ntmps22
      go_wp2
      go_ret
      exact ⟨ret_bool (by rw [HN.out]; simp [n0]), rfl⟩
  · have k1 : (k == 0) = false := by simpa using k0
    go_enter Try.func22, Try.ntmps22
    go_wp2
    go_ret
    exact ⟨ret_bool (by rw [HN.out]; simp [k0]), rfl⟩

/-- After a call that may have turned the counter alone: what lay elsewhere reads as before (for the walk). -/
theorem Kp.one_cells {sb : Nat} {w w' : World} (h : Kp (oneB sb) w w') : (∀ b o, b < w.heap.size → b ≠ sb → w'.cell? ⟨b, o, none⟩ = w.cell? ⟨b, o, none⟩) ∧ (∀ b o, b < w.heap.size → b ≠ sb → w'.frozen? ⟨b, o, none⟩ = w.frozen? ⟨b, o, none⟩) :=
  ⟨fun _ _ hb hn => h.cell hb hn, fun _ _ hb hn => h.frozen hb hn⟩

theorem SzPost.of {w0 w w' : World} {sb : Nat} {n0 n d0 d dp dp' : Int} {ok : Bool} {cnt cnt' : Nat} {e : Ending} (h : SzPost ok cnt dp n d sb w e w') (k : Kp (oneB sb) w0 w) (hn : n0 + cnt' = n + cnt) (hd : max d0 dp' = max d dp) : SzPost ok cnt' dp' n0 d0 sb w0 e w' := by
  obtain ⟨he, hk, n', d', hs, hok⟩ := h
  exact ⟨he, k.then hk, n', d', hs, fun ho => by obtain ⟨a, b⟩ := hok ho; exact ⟨by omega, by omega⟩⟩

theorem sz_done {w : World} {sb : Nat} {n d : Int} (h : SzAt w sb n d) (n' d' : Int) (o : Obj) :
    Kp (oneB sb) w (((w.setCell ⟨sb, 0, none⟩ (.int .i64 n')).setCell ⟨sb, 1, none⟩ (.int .i64 d')).alloc o) ∧ SzAt (((w.setCell ⟨sb, 0, none⟩ (.int .i64 n')).setCell ⟨sb, 1, none⟩ (.int .i64 d')).alloc o) sb n' d' :=
  ⟨(((Kp.refl (oneB sb) w).setCell (p := ⟨sb, 0, none⟩) (fun _ => rfl) _).setCell (p := ⟨sb, 1, none⟩) (fun _ => rfl) _).alloc _, ((h.set0 n').set1 d').alloc o⟩

theorem sz_leaf {w : World} {sb : Nat} {n d x dp : Int} (h : SzAt w sb n d) (o : Obj) {ok r : Bool} {cnt : Nat} (hr : r = ok) (hc : ok = true → cnt = 1 ∧ x = max d dp) :
    SzPost ok cnt dp n d sb w (.returned (.bool r)) (((w.setCell ⟨sb, 0, none⟩ (.int .i64 (n + 1))).setCell ⟨sb, 1, none⟩ (.int .i64 x)).alloc o) :=
  ⟨ret_bool hr, (sz_done h _ _ o).1, _, _, (sz_done h _ _ o).2, fun ho => by obtain ⟨a, b⟩ := hc ho; exact ⟨by omega, b⟩⟩

theorem SzAt.keep {S : Nat → Prop} {w w' : World} {sb : Nat} {n d : Int} (h : SzAt w sb n d) (k : Kp S w w') (hn : ¬ S sb) : SzAt w' sb n d := (k.block sb h.lt hn).trans h
theorem sz_leaf' {w w1 : World} {sb : Nat} {n d x dp : Int} (h : SzAt w sb n d) {o : Obj} (hb : Kp noB (((w.setCell ⟨sb, 0, none⟩ (.int .i64 (n + 1))).setCell ⟨sb, 1, none⟩ (.int .i64 x)).alloc o) w1) {ok r : Bool} {cnt : Nat} (hr : r = ok) (hc : ok = true → cnt = 1 ∧ x = max d dp) :
    SzPost ok cnt dp n d sb w (.returned (.bool r)) w1 :=
  ⟨ret_bool hr, (sz_done h _ _ o).1.trans hb (fun _ _ hf => hf.elim), _, _, (sz_done h _ _ o).2.keep hb id, fun ho => by obtain ⟨a, b⟩ := hc ho; exact ⟨by omega, b⟩⟩
/-- After a call that has made memory alone: what lay there reads as before (for the walk). -/
theorem bcell {W w1 : World} (hb : Below W.heap.size W w1) : (∀ b o, b < W.heap.size → w1.cell? ⟨b, o, none⟩ = W.cell? ⟨b, o, none⟩) ∧ (∀ b o, b < W.heap.size → w1.frozen? ⟨b, o, none⟩ = W.frozen? ⟨b, o, none⟩) :=
  ⟨fun b o h => hb.cell (p := ⟨b, o, none⟩) h, fun b o h => hb.frozen (p := ⟨b, o, none⟩) h⟩

theorem okET_leaf {k q at_ : Int} {s : ByteArray} {ks : List Ex} (hk : k = 1 ∨ k = 2) (hat : ¬ 51 < at_) (h0 : 0 ≤ at_) :
    okET (.mk k q s ks) at_ = nodeE k q s ks.length ∧ (okET (.mk k q s ks) at_ = true → cntET (.mk k q s ks) at_ = 1 ∧ dpET (.mk k q s ks) at_ = at_) := by
  cases ks with
  | nil =>
    refine ⟨by simp [okET, okETs, hat], fun _ => ⟨by simp [cntET, cntETs], ?_⟩⟩
    simp only [dpET, dpETs, hat, if_false]
    omega
  | cons x l =>
    have hn : nodeE k q s (x :: l).length = false := by
      rcases hk with rfl | rfl <;> simp [nodeE]
    have ho : okET (.mk k q s (x :: l)) at_ = false := by simp only [okET, hat, if_false, hn]; rfl
    exact ⟨by rw [ho, hn], fun h => by rw [ho] at h; cases h⟩
theorem okET_other {k q at_ : Int} {s : ByteArray} {ks : List Ex} (hat : ¬ 51 < at_) (hn : nodeE k q s ks.length = false) : okET (.mk k q s ks) at_ = false := by
  simp only [okET, hat, if_false, hn]; rfl

theorem size_nil {s : ByteArray} (h : s.size = 0) : s = ByteArray.empty := by
  obtain ⟨a⟩ := s
  have : a = #[] := Array.eq_empty_of_size_eq_zero h
  subst this
  rfl
theorem sz_false {w w' : World} {sb : Nat} {n d n' d' dp : Int} {ok r : Bool} {cnt : Nat} (hr : r = ok) (ho : ok = false) (k : Kp (oneB sb) w w') (h : SzAt w' sb n' d') : SzPost ok cnt dp n d sb w (.returned (.bool r)) w' :=
  ⟨ret_bool hr, k, n', d', h, fun h => by rw [ho] at h; cases h⟩
theorem okET_two {k at_ : Int} (x1 x2 : Ex) (hk : k = 3 ∨ k = 4 ∨ k = 5) (hat : ¬ 51 < at_) : okET (.mk k 0 ByteArray.empty [x1, x2]) at_ = (okET x1 (at_ + 1) && okET x2 (at_ + 1)) ∧ cntET (.mk k 0 ByteArray.empty [x1, x2]) at_ = 1 + (cntET x1 (at_ + 1) + cntET x2 (at_ + 1)) ∧
    dpET (.mk k 0 ByteArray.empty [x1, x2]) at_ = max at_ (max (dpET x1 (at_ + 1)) (max (dpET x2 (at_ + 1)) 0)) := by
  have h : nodeE k 0 ByteArray.empty [x1, x2].length = true := by rcases hk with rfl | rfl | rfl <;> rfl
  exact ⟨by simp only [okET, hat, if_false, h, okETs, Bool.and_true, Bool.true_and], by simp only [cntET, cntETs, hat, if_false]; omega, by simp only [dpET, dpETs, hat, if_false]⟩
theorem max_name (d at_ : Int) : ∃ x, (if d < at_ then at_ else d) = x ∧ x = max d at_ := ⟨_, rfl, by split <;> omega⟩

set_option maxHeartbeats 4000000 in
set_option maxRecDepth 100000 in
theorem sizeExpr_any (m : Nat) : ∀ (e0 : Ex) (v : Value) (w : World) (B sb : Nat) (n d at_ : Int), e0.sz ≤ m → RepE w B e0 v → B ≤ sb → SzAt w sb n d → 0 ≤ n → n + e0.sz ≤ 1099511627776 → 0 ≤ at_ → at_ ≤ 52 →
    Calls Try.prog 23 #[.pointer (some ⟨sb, 0, none⟩), v, .int .i64 at_] w (SzPost (okET e0 at_) (cntET e0 at_) (dpET e0 at_) n d sb w) := by
  induction m with
  | zero => intro e0; have := e0.sz_pos; omega
  | succ m ih =>
  intro e0 v w B sb n d at_ hm hr hB hz hn0 hn ha0 ha
  have IH := Lib.hid ih; clear ih
  have Z := Lib.hid hz
  have z0 := hz.c0
  have z1 := hz.c1
  have f0 := hz.f 0
  have f1 := hz.f 1
  have hlt := hz.lt
  clear hz
  obtain ⟨k, q, s, ks⟩ := e0
  simp only [RepE] at hr
  obtain ⟨a, len, cap, rfl, hk, hq, hs, hsl, hks⟩ := hr
  have hl := hsl.1
  simp only [Ex.sz] at hm hn
  have KS := Lib.hid hks; clear hks
  have SL := Lib.hid hsl; clear hsl
  have HL := Lib.hid hl; clear hl
  have em := str_nil s
  obtain ⟨x, hx, hxm⟩ := max_name d at_
  have X := Lib.hid hxm; clear hxm
  by_cases hat : 51 < at_
  · clear em
    go_enter Try.func23, Try.ntmps23
    go_wp2_with fail
    go_ret
    exact sz_leaf Z.out _ (by simp [okET, hat]) (fun _ => ⟨by simp [cntET, hat], by simp only [dpET, hat, if_true]; exact X.out⟩)
  have E := Lib.hid em; clear em
  by_cases k1 : k = 1
  · subst k1
    have L := Lib.hid (okET_leaf (k := 1) (q := q) (s := s) (ks := ks) (.inl rfl) hat ha0)
    go_enter Try.func23, Try.ntmps23
    go_wp2_with fail
    all_goals go_ret
    all_goals refine sz_leaf Z.out _ (Eq.trans ?_ L.out.1.symm) (fun ho => by have h2 := L.out.2 ho; rw [h2.1, h2.2]; exact ⟨rfl, X.out⟩)
    all_goals (have e1 := E.out; have e2 := HL.out; clear IH Z KS SL L HL E X)
    all_goals simp_all [nodeE, len_zero]
    all_goals omega
  by_cases k2 : k = 2
  · subst k2
    clear k1
    have L := Lib.hid (okET_leaf (k := 2) (q := q) (s := s) (ks := ks) (.inr rfl) hat ha0)
    by_cases hq0 : q = 0
    · subst hq0
      cases hnm : isName s
      all_goals go_enter Try.func23, Try.ntmps23
      all_goals go_wp2_with (go_at_call 14; refine (isName_any _ _ hs).mono ?_; rintro e w1 ⟨rfl, hb⟩; have HB := Lib.hid hb; obtain ⟨hc, hf⟩ := bcell hb; clear hb)
      all_goals go_ret
      all_goals refine sz_leaf' Z.out (Kp.of_below HB.out) (Eq.trans ?_ L.out.1.symm) (fun ho => by have h2 := L.out.2 ho; rw [h2.1, h2.2]; exact ⟨rfl, X.out⟩)
      all_goals (have e1 := E.out; have e2 := HL.out; clear IH Z KS SL L HL E X HB)
      all_goals simp_all [nodeE, len_zero]
    · have hq1 : (q == 0) = false := by simpa using hq0
      go_enter Try.func23, Try.ntmps23
      go_wp2_with fail
      go_ret
      refine sz_leaf Z.out _ (Eq.trans ?_ L.out.1.symm) (fun ho => by have h2 := L.out.2 ho; rw [h2.1, h2.2]; exact ⟨rfl, X.out⟩)
      simp [nodeE, hq0]
  by_cases k3 : k = 3 ∨ k = 4 ∨ k = 5
  · clear k1 k2
    by_cases hall : q = 0 ∧ s.size = 0 ∧ ks.length = 2
    · obtain ⟨rfl, hse, hk2⟩ := hall
      obtain ⟨x1, x2, rfl⟩ : ∃ x1 x2, ks = [x1, x2] := by
        match ks, hk2 with
        | [x1, x2], _ => exact ⟨x1, x2, rfl⟩
      obtain rfl : s = ByteArray.empty := size_nil hse
      have hl2 : len = 2 := HL.out
      subst hl2
      rcases KS.out with h0 | ⟨b, o, rfl, hbB, hes⟩
      · cases h0
      have hes1 := hes
      simp only [RepEs] at hes1
      obtain ⟨⟨v0, v1, v2, v3, g0, g1, g2, g3, r1⟩, ⟨u0, u1, u2, u3, i0, i1, i2, i3, r2⟩, -⟩ := hes1
      have R := Lib.hid (And.intro r1 r2); clear r1 r2 hes
      have hbl : b < w.heap.size := by omega
      have hbl' : b ≤ w.heap.size := by omega
      have hne : b ≠ sb := by omega
      have hne2 : w.heap.size ≠ sb := by omega
      simp only [Ex.szs] at hm hn
      have p1 := x1.sz_pos
      have p2 := x2.sz_pos
      have c1 := cntET_le x1 (at_ + 1)
      have OT := Lib.hid (okET_two x1 x2 k3 hat)
      rcases k3 with rfl | rfl | rfl
      all_goals go_enter Try.func23, Try.ntmps23
      all_goals go_wp2_with fail
      all_goals refine (IH.out x1 _ _ B sb (n + 1) x (at_ + 1) (by omega) (R.out.1.keep (((sz_done Z.out _ _ _).1.agree (B := B) (by omega) (fun k hk (e : k = sb) => by omega))) (Nat.le_refl _)) hB (sz_done Z.out _ _ _).2 (by omega) (by omega) (by omega) (by omega)).mono ?_
      all_goals rintro e w1 ⟨rfl, hk1, n1, d1, hz1, hok1⟩
      all_goals have K1 := Lib.hid ((sz_done Z.out (n + 1) x _).1.then hk1)
      all_goals obtain ⟨hc, hf⟩ := hk1.one_cells
      all_goals have hz1s := hz1.lt
      all_goals have hw1 := hk1.size
      all_goals have Z1 := Lib.hid hz1
      all_goals clear hk1 hz1
      all_goals cases o1 : okET x1 (at_ + 1)
      all_goals rw [o1] at hok1
      all_goals have OK1 := Lib.hid hok1
      all_goals clear hok1
      all_goals go_wp2_with fail
      all_goals first | (go_ret; exact sz_false (by rw [OT.out.1, o1]; rfl) (by rw [OT.out.1, o1]; rfl) K1.out Z1.out) | skip
      all_goals obtain ⟨hn1, hd1⟩ := OK1.out trivial
      all_goals have N1 := Lib.hid (And.intro hn1 hd1)
      all_goals have nn1 : 0 ≤ n1 := by omega
      all_goals have nn2 : n1 + x2.sz ≤ 1099511627776 := by omega
      all_goals clear hn1 hd1
      all_goals refine (IH.out x2 _ _ B sb n1 d1 (at_ + 1) (by omega) (R.out.2.keep (K1.out.agree (B := B) (by omega) (fun k hk (e : k = sb) => by omega)) (Nat.le_refl _)) hB Z1.out nn1 nn2 (by omega) (by omega)).mono ?_
      all_goals rintro e w2 ⟨rfl, hk2, n2, d2, hz2, hok2⟩
      all_goals have K2 := Lib.hid (K1.out.then hk2)
      all_goals have Z2 := Lib.hid hz2
      all_goals have OK2 := Lib.hid hok2
      all_goals clear hk2 hz2 hok2
      all_goals go_wp2_with fail
      all_goals go_ret
      all_goals refine ⟨ret_bool (by rw [OT.out.1, o1]; rfl), K2.out, n2, d2, Z2.out, fun ho => ?_⟩
      all_goals have o2 : okET x2 (at_ + 1) = true := by rw [OT.out.1, o1] at ho; exact ho
      all_goals obtain ⟨hn2, hd2⟩ := OK2.out o2
      all_goals obtain ⟨hn1, hd1⟩ := N1.out
      all_goals have hxm := X.out
      all_goals exact ⟨by rw [OT.out.2.1]; omega, by rw [OT.out.2.2]; omega⟩
    · have OF := Lib.hid (okET_other (k := k) (q := q) (at_ := at_) (s := s) (ks := ks) hat (by
        rcases k3 with rfl | rfl | rfl <;> simp [nodeE] <;> intros <;> simp_all))
      by_cases hq0 : q = 0
      · subst hq0
        by_cases hse : s.size = 0
        · obtain rfl : s = ByteArray.empty := size_nil hse
          have hl2 : ((len : Int) == 2) = false := by
            rw [beq_eq_false_iff_ne, HL.out]
            intro h
            exact hall ⟨rfl, hse, by omega⟩
          clear hall hse
          rcases k3 with rfl | rfl | rfl
          all_goals go_enter Try.func23, Try.ntmps23
          all_goals go_wp2_with fail
          all_goals go_ret
          all_goals exact sz_leaf Z.out _ OF.out.symm (fun h => by rw [OF.out] at h; cases h)
        · have hs1 : s.toList.isEmpty = false := by rw [str_emp]; simpa using hse
          clear hall hse
          rcases k3 with rfl | rfl | rfl
          all_goals go_enter Try.func23, Try.ntmps23
          all_goals go_wp2_with fail
          all_goals go_ret
          all_goals exact sz_leaf Z.out _ OF.out.symm (fun h => by rw [OF.out] at h; cases h)
      · have hq1 : (q == 0) = false := by simpa using hq0
        clear hall hq0
        rcases k3 with rfl | rfl | rfl
        all_goals go_enter Try.func23, Try.ntmps23
        all_goals go_wp2_with fail
        all_goals go_ret
        all_goals exact sz_leaf Z.out _ OF.out.symm (fun h => by rw [OF.out] at h; cases h)
  · have OF := Lib.hid (okET_other (k := k) (q := q) (at_ := at_) (s := s) (ks := ks) hat (by simp only [not_or] at k3; simp [nodeE, k1, k2, k3.1, k3.2.1, k3.2.2]))
    have e1 : (k == 1) = false := by simpa using k1
    have e2 : (k == 2) = false := by simpa using k2
    have e3 : (k == 3) = false := by simp only [not_or] at k3; simpa using k3.1
    have e4 : (k == 4) = false := by simp only [not_or] at k3; simpa using k3.2.1
    have e5 : (k == 5) = false := by simp only [not_or] at k3; simpa using k3.2.2
    clear k1 k2 k3
    go_enter Try.func23, Try.ntmps23
    go_wp2_with fail
    all_goals go_ret
    all_goals exact sz_leaf Z.out _ OF.out.symm (fun h => by rw [OF.out] at h; cases h)
end Go.Proofs.Ytoejpjnicpajlaa
