/- The walks of doer.get and Value. -/
import Derived.Test.YtoejpjnicpajlaaBegin
import Derived.Test.YtoejpjnicpajlaaEvalF
import Derived.Deep.RegionHeld3
namespace Go.Proofs.Ytoejpjnicpajlaa
open Go.RowKit Go.Maps Go.WideMaps Go.ChangeMaps

/-- Block db is a doer: its map, its steps, the most of them. -/
def DoAt (w : World) (db mb : Nat) (s m : Int) : Prop := w.heap[db]? = some (.cells #[.map (some mb), .int .i64 s, .int .i64 m] 45 (0, 0))
theorem DoAt.c0 {w : World} {db mb : Nat} {s m : Int} (h : DoAt w db mb s m) : w.cell? ⟨db, 0, none⟩ = some (.map (some mb)) := by simp [World.cell?, DoAt] at *; rw [h]; simp
theorem DoAt.c1 {w : World} {db mb : Nat} {s m : Int} (h : DoAt w db mb s m) : w.cell? ⟨db, 1, none⟩ = some (.int .i64 s) := by simp [World.cell?, DoAt] at *; rw [h]; simp
theorem DoAt.c2 {w : World} {db mb : Nat} {s m : Int} (h : DoAt w db mb s m) : w.cell? ⟨db, 2, none⟩ = some (.int .i64 m) := by simp [World.cell?, DoAt] at *; rw [h]; simp
theorem DoAt.f {w : World} {db mb : Nat} {s m : Int} (h : DoAt w db mb s m) (o : Nat) : w.frozen? ⟨db, o, none⟩ = false := by simp [World.frozen?, DoAt] at *; rw [h]; simp
theorem DoAt.lt {w : World} {db mb : Nat} {s m : Int} (h : DoAt w db mb s m) : db < w.heap.size := (Array.getElem?_eq_some_iff.1 h).1
theorem DoAt.set1 {w : World} {db mb : Nat} {s m : Int} (h : DoAt w db mb s m) (s' : Int) : DoAt (w.setCell ⟨db, 1, none⟩ (.int .i64 s')) db mb s' m := by
  have hl := h.lt
  unfold DoAt at *
  simp only [World.setCell, Array.getElem?_modify, if_true]
  rw [h]
  simp
theorem DoAt.keep {S : Nat → Prop} {w w' : World} {db mb : Nat} {s m : Int} (h : DoAt w db mb s m) (k : Kp S w w') (hn : ¬ S db) : DoAt w' db mb s m := (k.block db h.lt hn).trans h
theorem DoAt.alloc {w : World} {db mb : Nat} {s m : Int} (h : DoAt w db mb s m) (o : Obj) : DoAt (w.alloc o) db mb s m := h.keep ((Kp.refl noB w).alloc o) id

def ValPost (n : Int) (w : World) (e : Ending) (w' : World) : Prop := e = .returned (.int .i64 n) ∧ Kp noB w w'

set_option maxHeartbeats 1000000 in
theorem get_any (s : ByteArray) (w : World) (db mb n : Nat) (q m : Int) (f : Vs) (hs : s.size ≤ maxLen) (hd : DoAt w db mb q m) (hM : MmAt w mb n f) :
    Calls Try.prog 17 #[.pointer (some ⟨db, 0, none⟩), .string s] w (ValPost (val f s) w) := by
  have c0 := hd.c0
  obtain ⟨D, ho, hh⟩ := hM
  have HO := Lib.hid ho; clear ho
  have hx := hh s; clear hh
  go_enter Try.func17, Try.ntmps17
  go_wp2_with (at_lookup; refine wpList_lookup_own_int _ rfl _ _ 40 rfl 9 2 .i64 lawStr Try.underlying40 Try.underlying2 (zeroI64 _) mb n D rfl HO.out _ (.string s.data.toList) rfl (keyOf_string_mk Try.underlying9 hs) ?_; intro c hc1 hc2)
  have hcv : c = val f s := by
    unfold val
    cases hf : f s with
    | none =>
      rw [hf] at hx
      rw [show (Lit.string s.data.toList) = key s from rfl, atKey_of_not_has hx] at hc1
      cases hc1
      rfl
    | some u =>
      rw [hf] at hx
      rw [show (Lit.string s.data.toList) = key s from rfl, hx.2.2] at hc1
      cases hc1
      rfl
  rw [hcv]
  go_ret
  exact ⟨rfl, Kp.refl _ _⟩

def getF (db : Nat) : Value := .func (.func 17) #[.pointer (some ⟨db, 0, none⟩)] #[]
def ValC (m : Nat) : Prop := ∀ (e0 : Ex) (v : Value) (w : World) (B db mb n : Nat) (q mo : Int) (f : Vs), e0.sz ≤ m → RepE w B e0 v → B ≤ w.heap.size → okE e0 = true → DoAt w db mb q mo → MmAt w mb n f →
  Calls Try.prog 16 #[v, getF db] w (ValPost (evE e0 (val f)) w)

set_option maxHeartbeats 4000000 in
set_option maxRecDepth 100000 in
theorem value_step (m : Nat) (ih : ValC m) : ValC (m + 1) := by
  intro e0 v w B db mb n q mo f hm hr hB hok hd hM
  obtain ⟨k, x, s, ks⟩ := e0
  simp only [RepE] at hr
  obtain ⟨a, len, cap, rfl, hk, hx, hs, hsl, hks⟩ := hr
  simp only [Ex.sz] at hm
  simp only [okE, Bool.and_eq_true] at hok
  have HM := Lib.hid hm; clear hm
  have HD := Lib.hid hd; clear hd
  have MM := Lib.hid hM; clear hM
  have OK := Lib.hid hok; clear hok
  have KS := Lib.hid hks; clear hks
  by_cases hk1 : k = 1
  · subst hk1
    unfold getF
    go_enter Try.func16, Try.ntmps16
    go_wp2_with fail
    go_ret
    exact ⟨by simp [evE], (Kp.refl _ _).alloc _⟩
  by_cases hk2 : k = 2
  · subst hk2
    unfold getF
    go_enter Try.func16, Try.ntmps16
    go_wp2_with (go_at_call 17; refine (get_any s _ db mb n q mo f hs (HD.out.alloc _) (MM.out.alloc _)).mono ?_; rintro e w1 ⟨rfl, hK1⟩)
    go_ret
    exact ⟨by simp [evE], ((Kp.refl _ _).alloc _).then hK1⟩
  · have hk3 : (k = 3 ∨ k = 4 ∨ k = 5) ∧ ks.length = 2 := by
      have := OK.out.1
      unfold nodeE at this
      simp only [hk1, hk2, if_false] at this
      split at this
      · rename_i h
        simp only [Bool.and_eq_true, decide_eq_true_eq] at this
        exact ⟨h, this.2⟩
      · cases this
    obtain ⟨x0, x1, rfl⟩ : ∃ x0 x1, ks = [x0, x1] := by
      match ks, hk3.2 with
      | [x0, x1], _ => exact ⟨x0, x1, rfl⟩
    rcases KS.out with h0 | ⟨b, o, rfl, hbB, hrs⟩
    · cases h0
    have hlen : len = 2 := hsl.1
    subst hlen
    obtain ⟨p0, p1, p2, p3, g0, g1, g2, g3, hp⟩ := hrs.get _ b o 0 x0 rfl
    obtain ⟨r0, r1, r2, r3, i0, i1, i2, i3, hq⟩ := hrs.get _ b o 1 x1 rfl
    obtain ⟨t0, t1, t2, t3, t4, t5, rfl, rfl, rfl, rfl⟩ := hp.forms
    obtain ⟨u0, u1, u2, u3, u4, u5, rfl, rfl, rfl, rfl⟩ := hq.forms
    have PP := Lib.hid hp; clear hp
    have QQ := Lib.hid hq; clear hq
    clear hrs
    simp only [Nat.zero_mul, Nat.one_mul, Nat.add_zero, Nat.add_assoc, Nat.reduceAdd] at g0 g1 g2 g3 i0 i1 i2 i3
    have hbw : b < w.heap.size := by omega
    have OK2 := Lib.hid (And.intro (okEs_mem OK.out.2 (e := x0) (by simp)) (okEs_mem OK.out.2 (e := x1) (by simp)))
    have SZ : x0.sz ≤ m ∧ x1.sz ≤ m := by have := HM.out; simp only [Ex.szs] at this; omega
    have SZ := Lib.hid SZ
    have hk1b : (k == 1) = false := by simpa using hk1
    have hk2b : (k == 2) = false := by simpa using hk2
    have hkc := hk3.1
    clear hk3
    unfold getF
    go_enter Try.func16, Try.ntmps16
    go_upto_region 6 with fail
    obtain ⟨W1, hW1⟩ : ∃ W1 : World, w.alloc (.cells #[.int .i64 k, .int .i64 x, .string s, .slice (some ⟨b, o, none⟩) 2 cap] 29) = W1 := ⟨_, rfl⟩
    have hag : Agree w.heap.size w W1 := by rw [← hW1]; exact ((Kp.refl noB w).alloc _).agree_no
    have hs1 : W1.heap.size = w.heap.size + 1 := by rw [← hW1]; simp
    have hc3 : W1.cell? ⟨w.heap.size, 3, none⟩ = some (.slice (some ⟨b, o, none⟩) 2 cap) := by rw [← hW1]; unfold World.cell?; rw [heap_alloc_new]; rfl
    have hc0 : W1.cell? ⟨w.heap.size, 0, none⟩ = some (.int .i64 k) := by rw [← hW1]; unfold World.cell?; rw [heap_alloc_new]; rfl
    have hkW : Kp noB w W1 := by rw [← hW1]; exact (Kp.refl noB w).alloc _
    have SA0 : ∀ wk, Kp noB W1 wk → wk.cell? ⟨w.heap.size, 3, none⟩ = some (.slice (some ⟨b, o, none⟩) 2 cap) ∧
        wk.cell? ⟨b, o, none⟩ = some (.int .i64 t0) ∧ wk.cell? ⟨b, o + 1, none⟩ = some (.int .i64 t1) ∧ wk.cell? ⟨b, o + 2, none⟩ = some (.string t2) ∧ wk.cell? ⟨b, o + 3, none⟩ = some (.slice t3 t4 t5) ∧
        wk.cell? ⟨b, o + 4, none⟩ = some (.int .i64 u0) ∧ wk.cell? ⟨b, o + 5, none⟩ = some (.int .i64 u1) ∧ wk.cell? ⟨b, o + 6, none⟩ = some (.string u2) ∧ wk.cell? ⟨b, o + 7, none⟩ = some (.slice u3 u4 u5) ∧ Kp noB W1 wk := fun wk hk => by
      have cc : ∀ i, wk.cell? ⟨b, i, none⟩ = w.cell? ⟨b, i, none⟩ := fun i => (hkW.then hk).cell hbw id
      exact ⟨(hk.cell (by omega) id).trans hc3, (cc _).trans g0, (cc _).trans g1, (cc _).trans g2, (cc _).trans g3, (cc _).trans i0, (cc _).trans i1, (cc _).trans i2, (cc _).trans i3, hk⟩
    have SA := Lib.hid SA0; clear SA0
    have CA : ∀ (y : Ex) (vv : Value), y.sz ≤ m → okE y = true → RepE w B y vv → ∀ wk, Kp noB W1 wk → Calls Try.prog 16 #[vv, getF db] wk (fun e w' => e = .returned (.int .i64 (evE y (val f))) ∧ Kp noB W1 w') := fun y vv h1 h2 h3 wk hk =>
      (ih y vv wk B db mb n q mo f h1 (h3.keep ((hkW.then hk).agree hB fun _ _ h => h) (Nat.le_refl _)) (Nat.le_trans hB (hkW.then hk).size) h2 (HD.out.keep (hkW.then hk) id) (MM.out.keep (hkW.then hk) id)).mono fun e w' h => ⟨h.1, hk.then h.2⟩
    have C0 := Lib.hid (CA x0 _ SZ.out.1 OK2.out.1 PP.out)
    have C1 := Lib.hid (CA x1 _ SZ.out.2 OK2.out.2 QQ.out)
    clear CA
    unfold getF at C0 C1
    rw [hW1]
    go_region_held3 (fun wk => wk.cell? ⟨w.heap.size, 3, none⟩ = some (.slice (some ⟨b, o, none⟩) 2 cap) ∧
        wk.cell? ⟨b, o, none⟩ = some (.int .i64 t0) ∧ wk.cell? ⟨b, o + 1, none⟩ = some (.int .i64 t1) ∧ wk.cell? ⟨b, o + 2, none⟩ = some (.string t2) ∧ wk.cell? ⟨b, o + 3, none⟩ = some (.slice t3 t4 t5) ∧
        wk.cell? ⟨b, o + 4, none⟩ = some (.int .i64 u0) ∧ wk.cell? ⟨b, o + 5, none⟩ = some (.int .i64 u1) ∧ wk.cell? ⟨b, o + 6, none⟩ = some (.string u2) ∧ wk.cell? ⟨b, o + 7, none⟩ = some (.slice u3 u4 u5) ∧ Kp noB W1 wk)
      (first | exact hk' | exact SA.out _ (Kp.refl _ _).drew)
      (first
        | (go_at_call 16; go_split_ands; rename Kp noB W1 _ => hkw; with_reducible refine (C0.out _ hkw).mono ?_; clear hkw; rintro e w' ⟨rfl, hk'⟩; replace hk' := SA.out _ hk')
        | (go_at_call 16; go_split_ands; rename Kp noB W1 _ => hkw; with_reducible refine (C1.out _ hkw).mono ?_; clear hkw; rintro e w' ⟨rfl, hk'⟩; replace hk' := SA.out _ hk'))
    have hkz : Kp noB W1 w' := hk'.2.2.2.2.2.2.2.2.2
    have hcz : w'.cell? ⟨w.heap.size, 0, none⟩ = some (.int .i64 k) := (hkz.cell (by omega) id).trans hc0
    have hkf : Kp noB w w' := hkW.then hkz
    clear hk' SA C0 C1 PP QQ g0 g1 g2 g3 i0 i1 i2 i3 hc3
    have e3 : evE (.mk k x s [x0, x1]) (val f) = opE k (evE x0 (val f)) (evE x1 (val f)) := by simp [evE, evEs, hk1, hk2]
    rcases hkc with rfl | rfl | rfl
    all_goals
      go_wp2_with fail
      go_ret
      exact ⟨by rw [e3]; simp [opE, w64, IntKind.wrap_i64, wrap64], hkf⟩
theorem value_all : ∀ m, ValC m
  | 0 => fun e0 v w B db mb n q mo f h => by have := e0.sz_pos; omega
  | m + 1 => value_step m (value_all m)
theorem value_any (e0 : Ex) (v : Value) (w : World) (B db mb n : Nat) (q mo : Int) (f : Vs) (hr : RepE w B e0 v) (hB : B ≤ w.heap.size) (hok : okE e0 = true) (hd : DoAt w db mb q mo) (hM : MmAt w mb n f) :
    Calls Try.prog 16 #[v, getF db] w (ValPost (evE e0 (val f)) w) := value_all e0.sz e0 v w B db mb n q mo f (Nat.le_refl _) hr hB hok hd hM
end Go.Proofs.Ytoejpjnicpajlaa
