/- The walks of size.stat and size.block: what they answer of any statements, and what they count. -/
import Derived.Test.YtoejpjnicpajlaaSzExpr
import Derived.Deep.CutBlock
import Derived.Deep.DeepCutAuto
namespace Go.Proofs.Ytoejpjnicpajlaa
open Go.RowKit

def StatC (m : Nat) : Prop := ∀ (s : St) (v : Value) (w : World) (B sb : Nat) (n d at_ : Int), s.sz ≤ m → RepS w B s v → B ≤ sb → SzAt w sb n d → 0 ≤ n → n + s.sz ≤ 1099511627776 → 0 ≤ d → 0 ≤ at_ → at_ ≤ 52 →
    Calls Try.prog 20 #[.pointer (some ⟨sb, 0, none⟩), v, .int .i64 at_] w (SzPost (okST s at_) (cntST s at_) (dpST s at_) n d sb w)
def BlockC (m : Nat) : Prop := ∀ (l : List St) (a : Option Addr) (len cap : Nat) (w : World) (B sb : Nat) (n d at_ : Int), St.szs l ≤ m → RepSl w B l a len cap → B ≤ sb → SzAt w sb n d → 0 ≤ n → n + St.szs l ≤ 1099511627776 → 0 ≤ d → 0 ≤ at_ → at_ ≤ 52 →
    Calls Try.prog 12 #[.pointer (some ⟨sb, 0, none⟩), .slice a len cap, .int .i64 at_] w (SzPost (okSTs l at_) (cntSTs l at_) (dpSTs l at_) n d sb w)

/-- Behind the switch: what ok holds, and the counter. -/
def StatMid (ok : Bool) (cnt : Nat) (dp n x : Int) (sb : Nat) (w : World) (a : Option Addr) (len cap : Nat) (s7 : Value) (wc : World) : Prop :=
  s7 = .bool ok ∧ Kp (oneB sb) w wc ∧ (∃ n1 d1, SzAt wc sb n1 d1 ∧ (ok = true → n1 = n + 1 + cnt ∧ d1 = max x dp)) ∧ wc.cell? ⟨w.heap.size, 7, none⟩ = some (.slice a len cap) ∧ w.heap.size < wc.heap.size

theorem box8 (W : World) (v0 v1 v2 v3 v4 v5 v6 v7 : Value) (t : TypeId) : (W.alloc (.cells #[v0, v1, v2, v3, v4, v5, v6, v7] t)).cell? ⟨W.heap.size, 7, none⟩ = some v7 := by
  go_simp

/-- No call has been made that could turn the counter. -/
theorem StatMid.plain {w w1 : World} {sb : Nat} {n d x dp : Int} (h : SzAt w sb n d) {v0 v1 v2 v3 v4 v5 v6 : Value} {a : Option Addr} {len cap : Nat} {t : TypeId}
    (hb : Kp noB (((w.setCell ⟨sb, 0, none⟩ (.int .i64 (n + 1))).setCell ⟨sb, 1, none⟩ (.int .i64 x)).alloc (.cells #[v0, v1, v2, v3, v4, v5, v6, .slice a len cap] t)) w1) {ok r : Bool} {cnt : Nat} (hr : r = ok) (hc : ok = true → cnt = 0 ∧ dp ≤ x) :
    StatMid ok cnt dp n x sb w a len cap (.bool r) w1 := by
  refine ⟨by rw [hr], (sz_done h _ _ _).1.trans hb (fun _ _ hf => hf.elim), ⟨_, _, (sz_done h _ _ _).2.keep hb id, fun ho => by obtain ⟨a, b⟩ := hc ho; exact ⟨by omega, by omega⟩⟩, ?_, ?_⟩
  · have hs : ((w.setCell ⟨sb, 0, none⟩ (.int .i64 (n + 1))).setCell ⟨sb, 1, none⟩ (.int .i64 x)).heap.size = w.heap.size := by simp [World.setCell]
    have := box8 ((w.setCell ⟨sb, 0, none⟩ (.int .i64 (n + 1))).setCell ⟨sb, 1, none⟩ (.int .i64 x)) v0 v1 v2 v3 v4 v5 v6 (.slice a len cap) t
    rw [hs] at this
    rw [hb.cell (by simp [World.setCell]) id]
    exact this
  · have := hb.size
    simp [World.setCell] at this
    omega

theorem StatMid.called {w W w1 : World} {sb : Nat} {n x dp n0 : Int} {v0 v1 v2 v3 v4 v5 v6 : Value} {a : Option Addr} {len cap : Nat} {t : TypeId} {cnt : Nat} {ok : Bool} (hW : W.heap.size = w.heap.size) (hlt : sb < w.heap.size) (K : Kp (oneB sb) w (W.alloc (.cells #[v0, v1, v2, v3, v4, v5, v6, .slice a len cap] t)))
    {w2 : World} (hb : Kp noB (W.alloc (.cells #[v0, v1, v2, v3, v4, v5, v6, .slice a len cap] t)) w1) (h : SzPost ok cnt dp n0 x sb w1 (.returned (.bool ok)) w2) (hn : n0 = n + 1) :
    StatMid ok cnt dp n x sb w a len cap (.bool ok) w2 := by
  obtain ⟨-, k, n', d', hz, hok⟩ := h
  have K1 := K.trans hb (fun _ _ hf => hf.elim)
  refine ⟨rfl, K1.then k, ⟨n', d', hz, fun ho => by obtain ⟨a, b⟩ := hok ho; exact ⟨by omega, b⟩⟩, ?_, ?_⟩
  · have := box8 W v0 v1 v2 v3 v4 v5 v6 (.slice a len cap) t
    rw [hW] at this
    have h1 := hb.size
    simp at h1
    rw [k.cell (by omega) (fun e => by simp only [oneB] at e; omega), hb.cell (by simp; omega) id]
    exact this
  · have := hb.size
    have := k.size
    simp at *
    omega

/-- At the head of stat's loop: j blocks are done. -/
def StatRel (bs : List (List St)) (at_ : Int) (okx : Bool) (cx : Nat) (dx n x : Int) (sb : Nat) (w : World) (s7 i : Value) (wr : World) : Prop :=
  ∃ (j : Nat) (okj : Bool) (nj dj : Int), i = .int .i64 j ∧ j ≤ bs.length ∧ s7 = .bool okj ∧ okj = (okx && okSTb (bs.take j) (at_ + 1)) ∧ Kp (oneB sb) w wr ∧ SzAt wr sb nj dj ∧ (okj = true → nj = n + 1 + cx + cntSTb (bs.take j) (at_ + 1) ∧ dj = max (max x dx) (dpSTb (bs.take j) (at_ + 1)))
theorem okSTb_snoc (l : List (List St)) (x : List St) (at_ : Int) : okSTb (l ++ [x]) at_ = (okSTb l at_ && okSTs x at_) := by
  induction l with
  | nil => simp [okSTb]
  | cons y l ih => simp only [List.cons_append, okSTb, ih, Bool.and_assoc]
theorem cntSTb_snoc (l : List (List St)) (x : List St) (at_ : Int) : cntSTb (l ++ [x]) at_ = cntSTb l at_ + cntSTs x at_ := by
  induction l with
  | nil => simp [cntSTb]
  | cons y l ih => simp only [List.cons_append, cntSTb, ih]; omega
theorem dpSTs_nonneg : ∀ (l : List St) (at_ : Int), 0 ≤ dpSTs l at_
  | [], _ => by simp [dpSTs]
  | s :: l, at_ => by have := dpSTs_nonneg l at_; simp only [dpSTs]; omega
theorem dpSTb_nonneg : ∀ (l : List (List St)) (at_ : Int), 0 ≤ dpSTb l at_
  | [], _ => by simp [dpSTb]
  | s :: l, at_ => by have := dpSTb_nonneg l at_; simp only [dpSTb]; omega
theorem dpSTb_snoc (l : List (List St)) (x : List St) (at_ : Int) : dpSTb (l ++ [x]) at_ = max (dpSTb l at_) (dpSTs x at_) := by
  induction l with
  | nil => have := dpSTs_nonneg x at_; simp only [List.nil_append, dpSTb]; omega
  | cons y l ih => simp only [List.cons_append, dpSTb, ih]; omega
theorem szb_snoc (l : List (List St)) (x : List St) : St.szb (l ++ [x]) = St.szb l + 1 + St.szs x := by
  induction l with
  | nil => simp [St.szb]
  | cons y l ih => simp only [List.cons_append, St.szb, ih]; omega
theorem szb_append (l r : List (List St)) : St.szb (l ++ r) = St.szb l + St.szb r := by
  induction l with
  | nil => simp [St.szb]
  | cons y l ih => simp only [List.cons_append, St.szb, ih]; omega
theorem take_snoc' {α : Type} (l : List α) (k : Nat) (x : α) (h : l[k]? = some x) : l.take (k + 1) = l.take k ++ [x] := by
  rw [List.take_add_one, h]; rfl

set_option maxHeartbeats 4000000 in
set_option maxRecDepth 100000 in
theorem stat_step (m : Nat) (hb : BlockC m) : StatC (m + 1) := by
  intro s v w B sb n d at_ hm hr hB hz hn0 hn hd0 ha0 ha
  have Z := Lib.hid hz
  have z0 := hz.c0
  have z1 := hz.c1
  have f0 := hz.f 0
  have f1 := hz.f 1
  have hlt := hz.lt
  clear hz
  obtain ⟨k, nm, e0, q, bs⟩ := s
  simp only [RepS] at hr
  obtain ⟨u0, u1, u2, u3, a, len, cap, rfl, hre, hk, hq, hs, hsl, hbs⟩ := hr
  have hl := hsl.1
  simp only [St.sz] at hm hn
  have RE := Lib.hid hre; clear hre
  have BS := Lib.hid hbs; clear hbs
  have SL := Lib.hid hsl; clear hsl
  have HL := Lib.hid hl; clear hl
  obtain ⟨x, hx, hxm⟩ := max_name d at_
  have hx0 : 0 ≤ x := by omega
  have X := Lib.hid hxm; clear hxm
  by_cases hat : 51 < at_
  · go_enter Try.func20, Try.ntmps20
    go_wp2_with fail
    go_ret
    exact sz_leaf Z.out _ (by simp [okST, hat]) (fun _ => ⟨by simp [cntST, hat], by simp only [dpST, hat, if_true]; exact X.out⟩)
  obtain ⟨okx, hokx⟩ : ∃ o, exprS k nm e0 q bs.length (at_ + 1) = o := ⟨_, rfl⟩
  obtain ⟨cx, hcx⟩ : ∃ o, (if hasE k then cntET e0 (at_ + 1) else 0) = o := ⟨_, rfl⟩
  obtain ⟨dx, hdx⟩ : ∃ o, (if hasE k then dpET e0 (at_ + 1) else 0) = o := ⟨_, rfl⟩
  have OX := Lib.hid hokx; clear hokx
  have CX := Lib.hid (And.intro hcx hdx); clear hcx hdx
  go_enter Try.func20, Try.ntmps20
  go_upto_block 0 with fail
  go_cut [7] (fun s7 wc => StatMid okx cx dx n x sb w a len cap s7 wc)
  case first =>
    have hat' : at_ ≤ 51 := by omega
    clear hat
    by_cases k12 : k = 1 ∨ k = 2
    · have XS : okx = (isName nm && decide (q = 0) && decide (bs.length = 0) && okET e0 (at_ + 1)) := by rw [← OX.out]; simp only [exprS, k12, if_true]
      have hE : cx = cntET e0 (at_ + 1) ∧ dx = dpET e0 (at_ + 1) := by rw [← CX.out.1, ← CX.out.2]; rcases k12 with rfl | rfl <;> exact ⟨rfl, rfl⟩
      clear OX CX
      have E := Lib.hid hE; clear hE
      have OX := Lib.hid XS; clear XS
      cases hnm : isName nm
      · rcases k12 with rfl | rfl
        all_goals go_wp2_with (go_at_call 14; refine (isName_any _ _ hs).mono ?_; rintro e w1 ⟨rfl, hb⟩; have HB := Lib.hid hb; obtain ⟨hc, hf⟩ := bcell hb; clear hb)
        all_goals go_meet
        all_goals exact StatMid.plain Z.out (Kp.of_below HB.out) (by rw [OX.out, hnm]; rfl) (fun h => by rw [OX.out, hnm] at h; cases h)
      by_cases q0 : q = 0
      · subst q0
        by_cases l0 : bs.length = 0
        · have hl0 : len = 0 := by rw [HL.out, l0]
          subst hl0
          have LL := Lib.hid l0; clear l0
          rcases k12 with rfl | rfl
          all_goals go_wp2_with (go_at_call 14; refine (isName_any _ _ hs).mono ?_; rintro e w1 ⟨rfl, hb⟩; have HB := Lib.hid hb; obtain ⟨hc, hf⟩ := bcell hb; clear hb)
          all_goals have K1 := Kp.of_below HB.out
          all_goals have K2 := (sz_done Z.out (n + 1) x _).1.trans K1 (fun _ _ hf => hf.elim)
          all_goals refine (sizeExpr_any e0.sz e0 _ w1 B sb (n + 1) x (at_ + 1) (Nat.le_refl _) (RE.out.keep (K2.agree (B := B) (by omega) (fun k hk (e : k = sb) => by omega)) (Nat.le_refl _)) hB ((sz_done Z.out (n + 1) x _).2.keep K1 id) (by omega) (by omega) (by omega) (by omega)).mono ?_
          all_goals rintro e w2 hp
          all_goals obtain rfl := hp.1
          all_goals have HP := Lib.hid hp
          all_goals clear K1 K2 hp
          all_goals go_wp2_with fail
          all_goals go_meet
          all_goals (have e1 : okx = okET e0 (at_ + 1) := by rw [OX.out, hnm, LL.out]; rfl)
          all_goals rw [e1, E.out.1, E.out.2]
          all_goals exact StatMid.called (by simp [World.setCell]) hlt (sz_done Z.out (n + 1) x _).1 (Kp.of_below HB.out) HP.out rfl
        · have hl1 : ((len : Int) == 0) = false := by rw [HL.out, len_zero]; simpa using l0
          have hd0 : okx = false := by rw [OX.out]; simp [l0]
          clear l0
          have HD := Lib.hid hd0; clear hd0
          rcases k12 with rfl | rfl
          all_goals go_wp2_with (go_at_call 14; refine (isName_any _ _ hs).mono ?_; rintro e w1 ⟨rfl, hb⟩; have HB := Lib.hid hb; obtain ⟨hc, hf⟩ := bcell hb; clear hb)
          all_goals go_meet
          all_goals exact StatMid.plain Z.out (Kp.of_below HB.out) HD.out.symm (fun h => by rw [HD.out] at h; cases h)
      · have hq1 : (q == 0) = false := by simpa using q0
        have hd0 : okx = false := by rw [OX.out]; simp [q0]
        clear q0
        have HD := Lib.hid hd0; clear hd0
        rcases k12 with rfl | rfl
        all_goals go_wp2_with (go_at_call 14; refine (isName_any _ _ hs).mono ?_; rintro e w1 ⟨rfl, hb⟩; have HB := Lib.hid hb; obtain ⟨hc, hf⟩ := bcell hb; clear hb)
        all_goals go_meet
        all_goals exact StatMid.plain Z.out (Kp.of_below HB.out) HD.out.symm (fun h => by rw [HD.out] at h; cases h)
    by_cases k3 : k = 3
    · subst k3
      clear k12
      have XS : okx = (decide (nm.size = 0) && decide (q = 0) && (decide (bs.length = 1) || decide (bs.length = 2)) && okET e0 (at_ + 1)) := by rw [← OX.out]; simp [exprS]
      have hE : cx = cntET e0 (at_ + 1) ∧ dx = dpET e0 (at_ + 1) := by rw [← CX.out.1, ← CX.out.2]; exact ⟨rfl, rfl⟩
      clear OX CX
      have E := Lib.hid hE; clear hE
      have OX := Lib.hid XS; clear XS
      by_cases n0 : nm.size = 0
      · obtain rfl : nm = ByteArray.empty := size_nil n0
        clear n0
        by_cases q0 : q = 0
        · subst q0
          by_cases l0 : bs.length = 1 ∨ bs.length = 2
          · have LL := Lib.hid l0
            have hl0 : len = 1 ∨ len = 2 := by rw [HL.out]; exact l0
            clear l0
            rcases hl0 with rfl | rfl
            all_goals go_wp2_with fail
            all_goals refine (sizeExpr_any e0.sz e0 _ _ B sb (n + 1) x (at_ + 1) (Nat.le_refl _) (RE.out.keep ((sz_done Z.out _ _ _).1.agree (B := B) (by omega) (fun k hk (e : k = sb) => by omega)) (Nat.le_refl _)) hB (sz_done Z.out _ _ _).2 (by omega) (by omega) (by omega) (by omega)).mono ?_
            all_goals rintro e w2 hp
            all_goals obtain rfl := hp.1
            all_goals have HP := Lib.hid hp
            all_goals clear hp
            all_goals go_wp2_with fail
            all_goals go_meet
            all_goals (have e1 : okx = okET e0 (at_ + 1) := by rw [OX.out]; rcases LL.out with h | h <;> simp [h])
            all_goals rw [e1, E.out.1, E.out.2]
            all_goals exact StatMid.called (by simp [World.setCell]) hlt (sz_done Z.out (n + 1) x _).1 (Kp.refl _ _) HP.out rfl
          · have hl1 : ((len : Int) == 1) = false := by rw [HL.out, beq_eq_false_iff_ne]; omega
            have hl2 : ((len : Int) == 2) = false := by rw [HL.out, beq_eq_false_iff_ne]; omega
            have hd0 : okx = false := by rw [OX.out]; simp only [not_or] at l0; simp [l0.1, l0.2]
            clear l0
            have HD := Lib.hid hd0; clear hd0
            go_wp2_with fail
            go_meet
            exact StatMid.plain Z.out (Kp.refl _ _) HD.out.symm (fun h => by rw [HD.out] at h; cases h)
        · have hq1 : (q == 0) = false := by simpa using q0
          have hd0 : okx = false := by rw [OX.out]; simp [q0]
          clear q0
          have HD := Lib.hid hd0; clear hd0
          go_wp2_with fail
          go_meet
          exact StatMid.plain Z.out (Kp.refl _ _) HD.out.symm (fun h => by rw [HD.out] at h; cases h)
      · have hs1 : nm.toList.isEmpty = false := by rw [str_emp]; simpa using n0
        have hd0 : okx = false := by rw [OX.out]; simp [n0]
        clear n0
        have HD := Lib.hid hd0; clear hd0
        go_wp2_with fail
        go_meet
        exact StatMid.plain Z.out (Kp.refl _ _) HD.out.symm (fun h => by rw [HD.out] at h; cases h)
    by_cases k4 : k = 4
    · subst k4
      clear k12 k3
      have XS : okx = (decide (nm.size = 0) && decide (0 ≤ q) && decide (q ≤ 1000) && decide (bs.length = 1) && noneE e0) := by rw [← OX.out]; simp [exprS]
      have hE : cx = 0 ∧ dx = 0 := by rw [← CX.out.1, ← CX.out.2]; exact ⟨rfl, rfl⟩
      clear OX CX
      have E := Lib.hid hE; clear hE
      have OX := Lib.hid XS; clear XS
      by_cases hall : nm.size = 0 ∧ 0 ≤ q ∧ q ≤ 1000 ∧ bs.length = 1
      · obtain ⟨n0, q0, q1, l0⟩ := hall
        obtain rfl : nm = ByteArray.empty := size_nil n0
        clear n0
        have hl1 : len = 1 := by rw [HL.out]; exact l0
        have LL := Lib.hid l0; clear l0
        subst hl1
        go_wp2_with fail
        refine (none_any e0 _ B _ (RE.out.keep ((sz_done Z.out _ _ _).1.agree (B := B) (by omega) (fun k hk (e : k = sb) => by omega)) (Nat.le_refl _))).mono ?_
        rintro e w2 ⟨rfl, hp⟩
        have HP := Lib.hid hp
        clear hp
        go_wp2_with fail
        go_meet
        refine StatMid.plain Z.out HP.out (by rw [OX.out, LL.out]; simp [q0, q1]) (fun _ => ⟨E.out.1, by rw [E.out.2]; exact hx0⟩)
      · have hd0 : okx = false := by
          rw [OX.out]
          by_cases a1 : nm.size = 0
          · by_cases a2 : 0 ≤ q
            · by_cases a3 : q ≤ 1000
              · by_cases a4 : bs.length = 1
                · exact absurd ⟨a1, a2, a3, a4⟩ hall
                · simp [a4]
              · simp [a3]
            · simp [a2]
          · simp [a1]
        have HD := Lib.hid hd0; clear hd0
        by_cases n0 : nm.size = 0
        · obtain rfl : nm = ByteArray.empty := size_nil n0
          by_cases q0 : 0 ≤ q
          · by_cases q1 : q ≤ 1000
            · have hl1 : ((len : Int) == 1) = false := by rw [HL.out, beq_eq_false_iff_ne]; intro h; exact hall ⟨n0, q0, q1, by omega⟩
              clear hall n0
              go_wp2_with fail
              go_meet
              exact StatMid.plain Z.out (Kp.refl _ _) HD.out.symm (fun h => by rw [HD.out] at h; cases h)
            · clear hall n0
              go_wp2_with fail
              go_meet
              exact StatMid.plain Z.out (Kp.refl _ _) HD.out.symm (fun h => by rw [HD.out] at h; cases h)
          · clear hall n0
            go_wp2_with fail
            go_meet
            exact StatMid.plain Z.out (Kp.refl _ _) HD.out.symm (fun h => by rw [HD.out] at h; cases h)
        · have hs1 : nm.toList.isEmpty = false := by rw [str_emp]; simpa using n0
          clear hall n0
          go_wp2_with fail
          go_meet
          exact StatMid.plain Z.out (Kp.refl _ _) HD.out.symm (fun h => by rw [HD.out] at h; cases h)
    by_cases k5 : k = 5
    · subst k5
      clear k12 k3 k4
      have XS : okx = (decide (nm.size = 0) && decide (q = 0) && decide (1 ≤ bs.length) && decide (bs.length ≤ 8) && noneE e0) := by rw [← OX.out]; simp [exprS]
      have hE : cx = 0 ∧ dx = 0 := by rw [← CX.out.1, ← CX.out.2]; exact ⟨rfl, rfl⟩
      clear OX CX
      have E := Lib.hid hE; clear hE
      have OX := Lib.hid XS; clear XS
      by_cases hall : nm.size = 0 ∧ q = 0 ∧ 1 ≤ bs.length ∧ bs.length ≤ 8
      · obtain ⟨n0, rfl, l0, l1⟩ := hall
        obtain rfl : nm = ByteArray.empty := size_nil n0
        clear n0
        have hl1 : 1 ≤ len := by rw [HL.out]; exact l0
        have hl2 : len ≤ 8 := by rw [HL.out]; exact l1
        have LL := Lib.hid (And.intro l0 l1); clear l0 l1
        go_wp2_with fail
        refine (none_any e0 _ B _ (RE.out.keep ((sz_done Z.out _ _ _).1.agree (B := B) (by omega) (fun k hk (e : k = sb) => by omega)) (Nat.le_refl _))).mono ?_
        rintro e w2 ⟨rfl, hp⟩
        have HP := Lib.hid hp
        clear hp
        go_wp2_with fail
        go_meet
        refine StatMid.plain Z.out HP.out (by rw [OX.out]; simp [LL.out.1, LL.out.2]) (fun _ => ⟨E.out.1, by rw [E.out.2]; exact hx0⟩)
      · have hd0 : okx = false := by
          rw [OX.out]
          by_cases a1 : nm.size = 0
          · by_cases a2 : q = 0
            · by_cases a3 : 1 ≤ bs.length
              · by_cases a4 : bs.length ≤ 8
                · exact absurd ⟨a1, a2, a3, a4⟩ hall
                · simp [a4]
              · simp [a3]
            · simp [a2]
          · simp [a1]
        have HD := Lib.hid hd0; clear hd0
        by_cases n0 : nm.size = 0
        · obtain rfl : nm = ByteArray.empty := size_nil n0
          by_cases q0 : q = 0
          · subst q0
            by_cases l0 : 1 ≤ bs.length
            · have hl1 : 1 ≤ len := by rw [HL.out]; exact l0
              have hl2 : ¬ len ≤ 8 := by rw [HL.out]; intro h; exact hall ⟨n0, rfl, l0, h⟩
              clear hall n0 l0
              go_wp2_with fail
              go_meet
              exact StatMid.plain Z.out (Kp.refl _ _) HD.out.symm (fun h => by rw [HD.out] at h; cases h)
            · have hl1 : ¬ 1 ≤ len := by rw [HL.out]; exact l0
              clear hall n0 l0
              go_wp2_with fail
              go_meet
              exact StatMid.plain Z.out (Kp.refl _ _) HD.out.symm (fun h => by rw [HD.out] at h; cases h)
          · have hq1 : (q == 0) = false := by simpa using q0
            clear hall n0 q0
            go_wp2_with fail
            go_meet
            exact StatMid.plain Z.out (Kp.refl _ _) HD.out.symm (fun h => by rw [HD.out] at h; cases h)
        · have hs1 : nm.toList.isEmpty = false := by rw [str_emp]; simpa using n0
          clear hall n0
          go_wp2_with fail
          go_meet
          exact StatMid.plain Z.out (Kp.refl _ _) HD.out.symm (fun h => by rw [HD.out] at h; cases h)
    have hd0 : okx = false := by rw [← OX.out]; simp only [not_or] at k12; simp [exprS, k12.1, k12.2, k3, k4, k5]
    have HD := Lib.hid hd0; clear hd0
    have e1 : (k == 1) = false := by simp only [not_or] at k12; simpa using k12.1
    have e2 : (k == 2) = false := by simp only [not_or] at k12; simpa using k12.2
    have e3 : (k == 3) = false := by simpa using k3
    have e4 : (k == 4) = false := by simpa using k4
    have e5 : (k == 5) = false := by simpa using k5
    clear k12 k3 k4 k5
    go_wp2_with fail
    go_meet
    exact StatMid.plain Z.out (Kp.refl _ _) HD.out.symm (fun h => by rw [HD.out] at h; cases h)
  case rest =>
    obtain ⟨rfl, K, ⟨n1, d1, hz1, hok1⟩, hc7, hsz⟩ := hcut
    have K1 := Lib.hid K; clear K
    have Z1 := Lib.hid (And.intro hz1 hok1); clear hz1 hok1
    have hat' : at_ ≤ 51 := by omega
    have HAT := Lib.hid hat; clear hat
    go_wp2_with fail
    have hlm : len ≤ 9223372036854775807 := by have := SL.out.2.1; have := SL.out.2.2.1; unfold maxLen at this; omega
    go_loopw [7, 141] (fun s7 i wr => StatRel bs at_ okx cx dx n x sb w s7 i wr) (fun _ i _ => len - (intOf i).toNat)
    case atStart => exact ⟨0, okx, n1, d1, rfl, Nat.zero_le _, rfl, by simp [okSTb], K1.out, Z1.out.1, fun h => by have := Z1.out.2 h; simp only [List.take_zero, cntSTb, dpSTb]; exact ⟨by omega, by omega⟩⟩
    case round =>
      obtain ⟨j, okj, nj, dj, rfl, hj, rfl, hokj, Kj, hzj, hcj⟩ := hrel
      have OKJ := Lib.hid hokj; clear hokj
      have KJ := Lib.hid Kj; clear Kj
      have ZJ := Lib.hid (And.intro hzj hcj); clear hzj hcj
      have hlen : len = bs.length := HL.out
      have hlen' : bs.length ≤ len := by omega
      have hlen2 : len ≤ bs.length := by omega
      clear hlen
      by_cases hlt2 : j < bs.length
      · obtain ⟨l, hl⟩ : ∃ l, bs[j]? = some l := ⟨bs[j], List.getElem?_eq_getElem hlt2⟩
        have hjl : j < len := by omega
        rcases BS.out with h0 | ⟨b', o', rfl, hbB, hrb⟩
        · subst h0; simp at hlt2
        have ag := KJ.out.agree (B := B) (by omega) (fun k hk (e : k = sb) => by omega)
        obtain ⟨a2, len2, cap2, hcell, hsl2⟩ := (hrb.keep ag (Nat.le_refl _) bs b' o' hbB).get bs b' o' j l hl
        have SL2 := Lib.hid hsl2; clear hsl2 hrb
        have hszl : St.szs l < St.szb bs := St.szb_mem bs l (List.mem_of_getElem? hl)
        have T := Lib.hid (take_snoc' bs j l hl); clear hl
        have hszt : St.szb (bs.take j) + 1 + St.szs l ≤ St.szb bs := by
          have := szb_append (bs.take (j + 1)) (bs.drop (j + 1))
          rw [List.take_append_drop, T.out, szb_snoc] at this
          omega
        have hct := cntSTb_le (bs.take j) (at_ + 1)
        clear ag
        cases okj
        · go_wp2_with fail
          go_roundw
          case rel =>
            have hk := OKJ.out
            refine ⟨j + 1, false, nj, dj, by go_num, by omega, rfl, ?_, KJ.out, ZJ.out.1, fun h => by cases h⟩
            rw [T.out, okSTb_snoc, ← Bool.and_assoc, ← hk]
            rfl
          case measure => simp [intOf]; omega
        · have hc1 := ZJ.out.2 rfl
          have C1 := Lib.hid hc1
          have p1 : 0 ≤ nj := by omega
          have p2 : nj + St.szs l ≤ 1099511627776 := by have := CX.out.1; have := cntET_le e0 (at_ + 1); have : cx ≤ e0.sz := by rw [← CX.out.1]; split <;> omega
                                                        omega
          have p3 : 0 ≤ dj := by omega
          clear hc1
          go_wp2_with fail
          refine (hb l a2 len2 cap2 wr B sb nj dj (at_ + 1) (by omega) SL2.out hB ZJ.out.1 p1 p2 p3 (by omega) (by omega)).mono ?_
          rintro e w2 hp
          obtain rfl := hp.1
          have HP := Lib.hid hp
          clear hp
          go_wp2_with fail
          go_roundw
          case rel =>
            have hk := OKJ.out
            obtain ⟨-, kp, n2, d2, z2, hok2⟩ := HP.out
            refine ⟨j + 1, _, n2, d2, by go_num, by omega, rfl, ?_, KJ.out.then kp, z2, fun h => ?_⟩
            · rw [T.out, okSTb_snoc, ← Bool.and_assoc, ← hk]
              rfl
            · have h2 := hok2 h
              have h1 := C1.out
              rw [T.out, cntSTb_snoc, dpSTb_snoc]
              exact ⟨by omega, by omega⟩
          case measure => simp [intOf]; omega
      · have hge : bs.length ≤ j := by omega
        have hje : len ≤ j := by omega
        go_wp2_with fail
        go_ret
        have hk := OKJ.out
        have hj2 : j = bs.length := by omega
        subst hj2
        rw [List.take_length] at hk
        have e1 : okST (.mk k nm e0 q bs) at_ = okj := by
          rw [hk, ← OX.out]
          simp only [okST]
          rw [if_neg (by omega)]
        refine ⟨ret_bool e1.symm, KJ.out, nj, dj, ZJ.out.1, fun h => ?_⟩
        rw [e1] at h
        have h1 := ZJ.out.2 h
        rw [List.take_length, ← CX.out.1, ← CX.out.2] at h1
        have h2 := X.out
        refine ⟨?_, ?_⟩
        · simp only [cntST]
          rw [if_neg (by omega)]
          omega
        · simp only [dpST]
          rw [if_neg (by omega)]
          omega

theorem okSTs_snoc (l : List St) (x : St) (at_ : Int) : okSTs (l ++ [x]) at_ = (okSTs l at_ && okST x at_) := by
  induction l with
  | nil => simp [okSTs]
  | cons y l ih => simp only [List.cons_append, okSTs, ih, Bool.and_assoc]
theorem cntSTs_snoc (l : List St) (x : St) (at_ : Int) : cntSTs (l ++ [x]) at_ = cntSTs l at_ + cntST x at_ := by
  induction l with
  | nil => simp [cntSTs]
  | cons y l ih => simp only [List.cons_append, cntSTs, ih]; omega
theorem dpSTs_snoc (l : List St) (x : St) (at_ d : Int) (hd : 0 ≤ d) : max d (dpSTs (l ++ [x]) at_) = max (max d (dpSTs l at_)) (dpST x at_) := by
  induction l generalizing d with
  | nil => simp only [List.nil_append, dpSTs]; omega
  | cons y l ih => simp only [List.cons_append, dpSTs]; have := ih d hd; omega

def BlockRel (l : List St) (at_ n d : Int) (sb : Nat) (w : World) (i : Value) (wr : World) : Prop :=
  ∃ (j : Nat) (nj dj : Int), i = .int .i64 j ∧ j ≤ l.length ∧ okSTs (l.take j) at_ = true ∧ Kp (oneB sb) w wr ∧ SzAt wr sb nj dj ∧ nj = n + cntSTs (l.take j) at_ ∧ dj = max d (dpSTs (l.take j) at_)

theorem okSTs_false (l : List St) (j : Nat) (x : St) (at_ : Int) (h : l[j]? = some x) (hx : okST x at_ = false) : okSTs l at_ = false := by
  induction l generalizing j with
  | nil => simp at h
  | cons y l ih =>
    cases j with
    | zero => simp only [List.getElem?_cons_zero, Option.some.injEq] at h; subst h; simp [okSTs, hx]
    | succ j => simp only [List.getElem?_cons_succ] at h; simp [okSTs, ih j h]

set_option maxHeartbeats 4000000 in
set_option maxRecDepth 100000 in
theorem block_step (m : Nat) (hs : StatC m) : BlockC m := by
  intro l a len cap w B sb n d at_ hm hr hB hz hn0 hn hd0 ha0 ha
  have Z := Lib.hid hz
  have hlt := hz.lt
  clear hz
  have HL := Lib.hid hr.1.1
  have hlm : len ≤ 9223372036854775807 := by have := hr.1.2.1; have := hr.1.2.2.1; unfold maxLen at this; omega
  have R := Lib.hid hr.2; clear hr
  go_enter Try.func12, Try.ntmps12
  go_wp2_with fail
  go_loopw [11] (fun i wr => BlockRel l at_ n d sb w i wr) (fun i _ => len - (intOf i).toNat)
  case atStart => exact ⟨0, n, d, rfl, Nat.zero_le _, rfl, Kp.refl _ _, Z.out, by simp [cntSTs], by simp only [List.take_zero, dpSTs]; omega⟩
  case round =>
    obtain ⟨j, nj, dj, rfl, hj, hokj, Kj, hzj, hcj, hdj⟩ := hrel
    have OKJ := Lib.hid hokj; clear hokj
    have KJ := Lib.hid Kj
    have hsz := Kj.size; clear Kj
    have ZJ := Lib.hid (And.intro hzj (And.intro hcj hdj)); 
    have hlen := HL.out
    have hlen' : l.length ≤ len := by omega
    have hlen2 : len ≤ l.length := by omega
    clear hlen
    by_cases hlt2 : j < l.length
    · obtain ⟨s, hl⟩ : ∃ s, l[j]? = some s := ⟨l[j], List.getElem?_eq_getElem hlt2⟩
      have hjl : j < len := by omega
      rcases R.out with h0 | ⟨b, o, rfl, hbB, hrb⟩
      · subst h0; simp at hlt2
      have ag := KJ.out.agree (B := B) (by omega) (fun k hk (e : k = sb) => by omega)
      obtain ⟨v0, v1, v2, v3, v4, v5, v6, v7, g0, g1, g2, g3, g4, g5, g6, g7, hrs⟩ := (hrb.keep ag (Nat.le_refl _) l b o hbB).get l b o j s hl
      obtain ⟨sk, snm, sek, sen, ses, sea, sel, sec, sq, sa, slen, scap, rfl, rfl, rfl, rfl, rfl, rfl, rfl, rfl⟩ := hrs.forms
      have RS := Lib.hid hrs; clear hrs hrb ag
      have hszs : s.sz ≤ St.szs l := St.szs_mem l s (List.mem_of_getElem? hl)
      have T := Lib.hid (take_snoc' l j s hl)
      have hszt : St.szs (l.take j) + s.sz ≤ St.szs l := by
        have := St.szs_append (l.take (j + 1)) (l.drop (j + 1))
        rw [List.take_append_drop, T.out, St.szs_append] at this
        simp only [St.szs] at this
        omega
      have hct := cntSTs_le (l.take j) at_
      have HLJ := Lib.hid hl; clear hl
      have p1 : 0 ≤ nj := by omega
      have p2 : nj + s.sz ≤ 1099511627776 := by omega
      have p3 : 0 ≤ dj := by omega
      clear hcj hdj hzj
      go_wp2_with fail
      refine (hs s _ _ B sb nj dj at_ (by omega) (RS.out.keep (((Kp.refl noB wr).alloc _).agree (B := B) (by omega) (fun _ _ h => h)) (Nat.le_refl _)) hB (ZJ.out.1.alloc _) p1 p2 p3 ha0 ha).mono ?_
      rintro e w2 hp
      obtain rfl := hp.1
      have HP := Lib.hid hp
      clear hp
      cases oks : okST s at_
      · go_wp2_with fail
        go_ret
        obtain ⟨-, kp, n2, d2, z2, -⟩ := HP.out
        have e1 := okSTs_false l j s at_ HLJ.out oks
        exact sz_false e1.symm e1 ((KJ.out.alloc _).then kp) z2
      · go_wp2_with fail
        go_roundw
        case rel =>
          obtain ⟨-, kp, n2, d2, z2, h2⟩ := HP.out
          obtain ⟨h2a, h2b⟩ := h2 oks
          obtain ⟨-, h1a, h1b⟩ := ZJ.out
          refine ⟨j + 1, n2, d2, by go_num, by omega, ?_, (KJ.out.alloc _).then kp, z2, ?_, ?_⟩
          · rw [T.out, okSTs_snoc, OKJ.out, oks]; rfl
          · rw [T.out, cntSTs_snoc]; omega
          · rw [T.out, dpSTs_snoc _ _ _ _ hd0]; omega
        case measure => simp [intOf]; omega
    · have hge : l.length ≤ j := by omega
      have hje : len ≤ j := by omega
      clear hcj hdj hzj
      go_wp2_with fail
      go_ret
      have hj2 : j = l.length := by omega
      subst hj2
      have h1 := OKJ.out
      rw [List.take_length] at h1
      obtain ⟨z, h2, h3⟩ := ZJ.out
      rw [List.take_length] at h2 h3
      exact ⟨ret_bool h1.symm, KJ.out, nj, dj, z, fun _ => ⟨h2, h3⟩⟩

theorem block_any (m : Nat) : BlockC m := by
  induction m with
  | zero =>
    refine block_step 0 ?_
    intro s
    have := s.sz_pos
    intros
    omega
  | succ m ih => exact block_step (m + 1) (stat_step m ih)
theorem stat_any (m : Nat) : StatC (m + 1) := stat_step m (block_any m)
end Go.Proofs.Ytoejpjnicpajlaa
