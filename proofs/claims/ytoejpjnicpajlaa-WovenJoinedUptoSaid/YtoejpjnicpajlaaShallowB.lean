/- The walk of shallow: it says of every node of a program whether it is one. -/
import Derived.Test.YtoejpjnicpajlaaShallow
import Derived.Test.YtoejpjnicpajlaaShF
import Derived.WalkSmall
import Derived.Laws.AppendOwnNone
import Derived.Deep.OwnRows
namespace Go.Proofs.Ytoejpjnicpajlaa
open Go.RowKit

theorem infoBl : (Try.prog.info? 22).map (fun i => (i.zero, i.size, i.bytes)) = some (some (.slice none 0 0), 1, 24) := by kernel_rfl

def ShRel1 (l : List St) (B : Nat) (w : World) (m : Nat) (s3 s4 : Value) (wr : World) : Prop :=
  ∃ (t : List St) (es : List Ex) (xs ys : List Value), wr.ownsRow w.heap.size 33 8 s3 t.length xs ∧ FlatS wr B t xs ∧ wr.ownsRow w.heap.size 29 4 s4 es.length ys ∧ FlatE wr B es ys ∧
    okSs l = (okSs t && okEs es) ∧ St.szs t + Ex.szs es ≤ St.szs l ∧ St.szs t = m ∧ Kp noB w wr

theorem snoc_of {α : Type} (t : List α) (h : t ≠ []) : ∃ t' s, t = t' ++ [s] := ⟨t.dropLast, t.getLast h, (List.dropLast_concat_getLast h).symm⟩

/-- Behind the statement that may put an expression by: the lists, the box of the statement, and what stands for it. -/
def ShCut (es1 : List Ex) (zs : List Value) (n g gcap : Nat) (s : St) (B : Nat) (w wr : World) (k q : Int) (nm : ByteArray) (bl : Value) (blen : Nat) (s4 : Value) (wc : World) : Prop :=
  (∃ ys, wc.ownsRow w.heap.size 29 4 s4 es1.length ys ∧ FlatE wc B es1 ys) ∧ Kp noB w wc ∧ wc.ownsRow w.heap.size 33 8 (.slice (some ⟨g, 0, none⟩) n gcap) n zs ∧ wr.heap.size + 4 ≤ wc.heap.size ∧
    wc.cell? ⟨wr.heap.size, 7, none⟩ = some bl ∧ ∃ f0 f1 f2 f3, wc.heap[wr.heap.size + 1]? = some (.cells #[.int .i64 k, .string nm, .int .i64 f0, .int .i64 f1, .string f2, f3, .int .i64 q, .slice (some ⟨wr.heap.size + 1 + 1, 0, none⟩) blen blen] 33 (0, 0)) ∧
      RepS wc (wr.heap.size + 3) (bareS s) (.agg #[.int .i64 k, .string nm, .int .i64 f0, .int .i64 f1, .string f2, f3, .int .i64 q, .slice (some ⟨wr.heap.size + 1 + 1, 0, none⟩) blen blen])

theorem cell4 (W : World) (n : Nat) (hn : n = W.heap.size) (a b c d : Value) (t : TypeId) : ∀ j u, [a, b, c, d][j]? = some u → (W.alloc (.cells #[a, b, c, d] t)).cell? ((⟨n, 0, none⟩ : Addr).add j) = some u := by
  intro j u hj
  subst hn
  match j, hj with
  | 0, hj => simp at hj; subst hj; simp [Addr.add]
  | 1, hj => simp at hj; subst hj; simp [Addr.add]
  | 2, hj => simp at hj; subst hj; simp [Addr.add]
  | 3, hj => simp at hj; subst hj; simp [Addr.add]
  | j + 4, hj => simp at hj
theorem szb_nil (n : Nat) : St.szb (List.replicate n []) = n := by
  induction n with
  | zero => rfl
  | succ n ih => simp only [List.replicate_succ, St.szb, St.szs, ih]; omega
/-- What the bare statement reads as. -/
theorem bare_rep {W : World} {Bb b n : Nat} {k nm e q} {bs : List (List St)} {f0 f1 f2 f3 : Value} (hk : I64 k) (hq : I64 q) (hnm : nm.size ≤ maxLen) (hn : n = bs.length) (hle : n ≤ maxLen) (hb : b < Bb)
    (hr : RepE W Bb (bareE e) (.agg #[f0, f1, f2, f3])) (hh : W.heap[b]? = some (.cells (madeCells #[.slice none 0 0] n) 22 (0, 0))) :
    RepS W Bb (bareS (.mk k nm e q bs)) (.agg #[.int .i64 k, .string nm, f0, f1, f2, f3, .int .i64 q, .slice (some ⟨b, 0, none⟩) n n]) := by
  simp only [bareS, RepS]
  refine ⟨f0, f1, f2, f3, some ⟨b, 0, none⟩, n, n, rfl, hr, hk, hq, hnm, ⟨by rw [List.length_replicate, hn], Nat.le_refl _, hle, fun h => by cases h⟩, .inr ⟨b, 0, rfl, hb, ?_⟩⟩
  have hc : ∀ j, j < n → W.cell? ⟨b, j, none⟩ = some (.slice none 0 0) := by
    intro j hj
    simp only [World.cell?, hh]
    simp [madeCells, hj, Nat.mod_one]
  have key : ∀ (m o : Nat), o + m ≤ n → RepBs W Bb (List.replicate m []) b o := by
    intro m
    induction m with
    | zero => intro o _; simp only [List.replicate_zero, RepBs]
    | succ m ih =>
      intro o ho
      simp only [List.replicate_succ, RepBs]
      exact ⟨⟨none, 0, 0, hc o (by omega), ⟨rfl, Nat.le_refl _, Nat.zero_le _, fun _ => rfl⟩, .inl trivial⟩, ih (o + 1) (by omega)⟩
  exact key bs.length 0 (by omega)

theorem ownsRow_keep {S : Nat → Prop} {w w' : World} {base e size n : Nat} {v : Value} {xs : List Value} (h : w.ownsRow base e size v n xs) (k : Kp S w w') (hn : ∀ b, v.ownBlock = some b → ¬ S b) : w'.ownsRow base e size v n xs := by
  refine ⟨h.1, ?_⟩
  rcases h.2 with h0 | ⟨g, cap, cur, rfl, hb, hg, r⟩
  · exact .inl h0
  · exact .inr ⟨g, cap, cur, rfl, hb, (k.block g (Array.getElem?_eq_some_iff.1 hg).1 (hn g rfl)).trans hg, r⟩

theorem own_ne {w : World} {b1 b2 e1 e2 s1 s2 n1 n2 : Nat} {v1 v2 : Value} {xs1 xs2 : List Value} (h1 : w.ownsRow b1 e1 s1 v1 n1 xs1) (h2 : w.ownsRow b2 e2 s2 v2 n2 xs2) (he : e1 ≠ e2) (k : Nat) (hk : v1.ownBlock = some k) : v2.ownBlock ≠ some k := by
  intro hk2
  rcases h1.2 with ⟨rfl, _⟩ | ⟨g, cap, cur, rfl, _, hg, _⟩
  · simp [Value.ownBlock] at hk
  · rcases h2.2 with ⟨rfl, _⟩ | ⟨g', cap', cur', rfl, _, hg', _⟩
    · simp [Value.ownBlock] at hk2
    · simp [Value.ownBlock] at hk hk2
      subst hk
      subst hk2
      rw [hg] at hg'
      simp at hg'
      exact he hg'.2
/-- In the inner loop: j blocks have been put on the list of statements. -/
def ShRel2 (t' : List St) (bs : List (List St)) (es1 : List Ex) (B : Nat) (w : World) (s4 s3 i : Value) (wr : World) : Prop :=
  ∃ (j : Nat) (xs ys : List Value), i = .int .i64 j ∧ j ≤ bs.length ∧ wr.ownsRow w.heap.size 33 8 s3 (t' ++ (bs.take j).flatten).length xs ∧ FlatS wr B (t' ++ (bs.take j).flatten) xs ∧ wr.ownsRow w.heap.size 29 4 s4 es1.length ys ∧ FlatE wr B es1 ys ∧ Kp noB w wr
/-- At the head of the second loop. -/
def ShRel3 (l : List St) (B : Nat) (w : World) (m : Nat) (s4 : Value) (wr : World) : Prop :=
  ∃ (es : List Ex) (ys : List Value), wr.ownsRow w.heap.size 29 4 s4 es.length ys ∧ FlatE wr B es ys ∧ okSs l = okEs es ∧ Ex.szs es ≤ St.szs l ∧ Ex.szs es = m ∧ Kp noB w wr
/-- Behind the statement that may put numbers for two kids. -/
def ShCutX (zs : List Value) (n g gcap : Nat) (e : Ex) (w wr : World) (k q : Int) (s : ByteArray) (kl : Value) (wc : World) : Prop :=
  Kp noB w wc ∧ Kp noB wr wc ∧ wc.ownsRow w.heap.size 29 4 (.slice (some ⟨g, 0, none⟩) n gcap) n zs ∧ wr.heap.size + 2 ≤ wc.heap.size ∧
    wc.cell? ⟨wr.heap.size, 3, none⟩ = some kl ∧ ∃ f, wc.heap[wr.heap.size + 1]? = some (.cells #[.int .i64 k, .int .i64 q, .string s, f] 29 (0, 0)) ∧ RepE wc wc.heap.size (bareX e) (.agg #[.int .i64 k, .int .i64 q, .string s, f])
theorem two (w : World) (A C : Obj) : ((w.alloc A).alloc C).heap[w.heap.size]? = some A ∧ ((w.alloc A).alloc C).heap[w.heap.size + 1]? = some C ∧ ((w.alloc A).alloc C).heap.size = w.heap.size + 2 := by
  show ((w.heap.push A).push C)[w.heap.size]? = some A ∧ ((w.heap.push A).push C)[w.heap.size + 1]? = some C ∧ ((w.heap.push A).push C).size = w.heap.size + 2
  have s1 : (w.heap.push A).size = w.heap.size + 1 := by simp
  refine ⟨?_, ?_, by simp⟩
  · rw [Array.getElem?_push, if_neg (by rw [s1]; omega), Array.getElem?_push, if_pos rfl]
  · rw [Array.getElem?_push, if_pos s1.symm]
theorem three (w : World) (A C D : Obj) : (((w.alloc A).alloc C).alloc D).heap[w.heap.size]? = some A ∧ (((w.alloc A).alloc C).alloc D).heap[w.heap.size + 1]? = some C ∧ (((w.alloc A).alloc C).alloc D).heap[w.heap.size + 1 + 1]? = some D ∧ (((w.alloc A).alloc C).alloc D).heap.size = w.heap.size + 3 := by
  show (((w.heap.push A).push C).push D)[w.heap.size]? = some A ∧ (((w.heap.push A).push C).push D)[w.heap.size + 1]? = some C ∧ (((w.heap.push A).push C).push D)[w.heap.size + 1 + 1]? = some D ∧ (((w.heap.push A).push C).push D).size = w.heap.size + 3
  have s1 : (w.heap.push A).size = w.heap.size + 1 := by simp
  have s2 : ((w.heap.push A).push C).size = w.heap.size + 1 + 1 := by simp
  refine ⟨?_, ?_, ?_, by simp⟩
  · rw [Array.getElem?_push, if_neg (by rw [s2]; omega), Array.getElem?_push, if_neg (by rw [s1]; omega), Array.getElem?_push, if_pos rfl]
  · rw [Array.getElem?_push, if_neg (by rw [s2]; omega), Array.getElem?_push, if_pos s1.symm]
  · rw [Array.getElem?_push, if_pos s2.symm]

/-- The statement's cut, from what the worlds hold. -/
theorem sh_cut {S : Nat → Prop} {es1 : List Ex} {zs ys : List Value} {n g gcap blen B : Nat} {k q : Int} {nm : ByteArray} {e : Ex} {bs : List (List St)} {w wr W w' : World} {X : Array Value} {bl f3 : Value} {f0 f1 : Int} {f2 : ByteArray} {s4 : Value}
    (hW : ((wr.alloc (.cells X 33)).alloc (.cells #[.int .i64 k, .string nm, .int .i64 f0, .int .i64 f1, .string f2, f3, .int .i64 q, .slice (some ⟨wr.heap.size + 1 + 1, 0, none⟩) blen blen] 33)).alloc (.cells (madeCells #[.slice none 0 0] blen) 22) = W)
    (hX : X[7]? = some bl) (hk : Kp S W w') (hsz : W.heap.size + 1 ≤ w'.heap.size) (hS : ∀ b, S b → b < wr.heap.size ∧ w.heap.size ≤ b ∧ b ≠ g) (K : Kp noB w wr) (hB : B ≤ w.heap.size)
    (hown : w'.ownsRow w.heap.size 29 4 s4 es1.length ys) (hfe : FlatE wr B es1 ys) (h3 : wr.ownsRow w.heap.size 33 8 (.slice (some ⟨g, 0, none⟩) n gcap) n zs)
    (hk64 : I64 k) (hq64 : I64 q) (hnm : nm.size ≤ maxLen) (hbl : blen = bs.length) (hble : blen ≤ maxLen) (hre : RepE wr B (bareE e) (.agg #[.int .i64 f0, .int .i64 f1, .string f2, f3])) :
    ShCut es1 zs n g gcap (.mk k nm e q bs) B w wr k q nm bl blen s4 w' := by
  subst hW
  obtain ⟨t0, t1, t2, t3⟩ := three wr (.cells X 33) (.cells #[.int .i64 k, .string nm, .int .i64 f0, .int .i64 f1, .string f2, f3, .int .i64 q, .slice (some ⟨wr.heap.size + 1 + 1, 0, none⟩) blen blen] 33) (.cells (madeCells #[.slice none 0 0] blen) 22)
  have KW : Kp noB wr (((wr.alloc (.cells X 33)).alloc (.cells #[.int .i64 k, .string nm, .int .i64 f0, .int .i64 f1, .string f2, f3, .int .i64 q, .slice (some ⟨wr.heap.size + 1 + 1, 0, none⟩) blen blen] 33)).alloc (.cells (madeCells #[.slice none 0 0] blen) 22)) := (((Kp.refl _ _).alloc _).alloc _).alloc _
  have KS : Kp S wr w' := (KW.mono (fun _ _ h => h.elim)).then hk
  have hks := K.size
  rw [t3] at hsz
  have u1 := (hk.block (wr.heap.size + 1) (by rw [t3]; omega) (fun h => by have := hS _ h; omega)).trans t1
  have u2 := (hk.block (wr.heap.size + 1 + 1) (by rw [t3]; omega) (fun h => by have := hS _ h; omega)).trans t2
  have u0 := (hk.block wr.heap.size (by rw [t3]; omega) (fun h => by have := hS _ h; omega)).trans t0
  have ag : Agree B wr w' := KS.agree (by omega) fun b hb h => by have := hS _ h; omega
  refine ⟨⟨ys, hown, hfe.keep ag (Nat.le_refl _)⟩, K.trans KS (fun b hb h => by have := hS _ h; omega), ownsRow_keep h3 KS (fun b hb h => ?_), by omega, ?_, f0, f1, f2, f3, u1, ?_⟩
  · simp [Value.ownBlock] at hb
    exact (hS _ h).2.2 hb.symm
  · simp only [World.cell?, u0]
    simpa using hX
  · exact bare_rep hk64 hq64 hnm hbl hble (by omega) (hre.keep ag (by omega)) u2

set_option maxHeartbeats 4000000 in
set_option maxRecDepth 100000 in
theorem shallow_any (l : List St) (a : Option Addr) (len cap B : Nat) (w : World) (hr : RepSl w B l a len cap) (hB : B ≤ w.heap.size) (hn : St.szs l ≤ 1073741824) :
    Calls Try.prog 13 #[.slice a len cap] w fun e w' => e = .returned (.bool (okSs l)) ∧ Kp noB w w' := by
  have hll : l.length ≤ 1073741824 := by have := St.len_le_szs l; omega
  have HN := Lib.hid hn; clear hn
  have HR := Lib.hid hr; clear hr
  have HLL := Lib.hid hll; clear hll
  obtain ⟨iS, hiS, hzS, hzS1, hzS2⟩ := info_parts infoSt
  obtain ⟨iE, hiE, hzE, hzE1, hzE2⟩ := info_parts infoEx
  have IS := Lib.hid (And.intro hiS (And.intro hzS (And.intro hzS1 hzS2))); clear hiS hzS hzS1 hzS2
  have IE := Lib.hid (And.intro hiE (And.intro hzE (And.intro hzE1 hzE2))); clear hiE hzE hzE1 hzE2
  go_enter Try.func13, Try.ntmps13
  go_wp2_with fail
  refine (cloneSt_any l a len cap B w HR.out hB HLL.out).mono ?_
  rintro e w1 ⟨v1, xs1, rfl, hown1, hf1, hk1⟩
  have O1 := Lib.hid hown1; clear hown1
  have F1 := Lib.hid hf1; clear hf1
  have K1 := Lib.hid hk1; clear hk1
  go_wp2_with fail
  go_loopg [3, 4] (St.szs l) (fun m s3 s4 wr => ShRel1 l B w m s3 s4 wr)
  case atStart => exact ⟨l, [], xs1, [], O1.out, F1.out, World.ownsRow_nil _ _ _ _, rfl, (by simp [okEs]), (by simp [Ex.szs]), rfl, K1.out⟩
  case round =>
    obtain ⟨t, es, xs, ys, ho3, hf3, ho4, hf4, hok, hsz, hm, hk⟩ := hrel
    have D := Lib.hid (And.intro hok (And.intro hsz hm)); clear hok hsz hm
    have O4 := Lib.hid ho4; clear ho4
    have F4 := Lib.hid hf4; clear hf4
    have K := Lib.hid hk
    have hks := hk.size; clear hk
    by_cases ht : t = []
    · subst ht
      obtain ⟨a3, c3, rfl⟩ : ∃ a3 c3, u3 = .slice a3 0 c3 := by
        rcases ho3.2 with ⟨rfl, _⟩ | ⟨g, cap, cur, rfl, _⟩
        · exact ⟨none, 0, rfl⟩
        · exact ⟨_, cap, rfl⟩
      clear hf3 ho3
      go_wp2_with fail
      go_loopg [4] (Ex.szs es) (fun m s4 wr => ShRel3 l B w m s4 wr)
      case atStart => exact ⟨es, ys, O4.out, F4.out, by simpa [okSs] using D.out.1, by have := D.out.2.1; simp only [St.szs] at this; omega, rfl, K.out⟩
      case round =>
        clear O4 F4 K hks D
        obtain ⟨es, ys, ho4, hf4, hok, hsz, hm, hk⟩ := hrel
        have D := Lib.hid (And.intro hok (And.intro hsz hm)); clear hok hsz hm
        have K := Lib.hid hk
        have hks := hk.size; clear hk
        by_cases ht : es = []
        · subst ht
          obtain ⟨a4, c4, rfl⟩ : ∃ a4 c4, u4 = .slice a4 0 c4 := by
            rcases ho4.2 with ⟨rfl, _⟩ | ⟨g, cap, cur, rfl, _⟩
            · exact ⟨none, 0, rfl⟩
            · exact ⟨_, cap, rfl⟩
          clear hf4 ho4
          go_wp2_with fail
          go_ret
          exact ⟨ret_bool (by rw [D.out.1]; rfl), K.out⟩
        · obtain ⟨t', e, rfl⟩ := snoc_of es ht
          clear ht
          obtain ⟨zs, us, rfl, hfz, hfu⟩ := FlatE.split t' [e] ys hf4
          obtain ⟨v0, v1', v2, v3, rfl, hre⟩ := hfu.one
          obtain ⟨k, q, s, ks⟩ := e
          have hre0 := hre
          simp only [RepE] at hre
          obtain ⟨ka, klen, kcap, hv, hk64, hq64, hs, hksl, hkr⟩ := hre
          simp at hv
          obtain ⟨rfl, rfl, rfl, rfl⟩ := hv
          rw [show (t' ++ [Ex.mk k q s ks]).length = t'.length + 1 by simp] at ho4
          have hzl := FlatE.length t' zs hfz
          rcases ho4.2 with ⟨_, h0⟩ | ⟨g, gcap, gcur, rfl, hgb, hgg, hgn, hgc, hgs, hgt⟩
          · omega
          have hcell := ho4.cellAt
          have O4 := Lib.hid ho4; clear ho4
          have F4 := Lib.hid hfz; clear hfz hfu
          obtain ⟨n, hn⟩ : ∃ n, t'.length = n := ⟨_, rfl⟩
          rw [hn] at hcell hzl
          have c0 : wr.cell? ⟨g, n * 4, none⟩ = some (.int .i64 k) := by rw [hcell _ (by omega), List.getElem?_append_right (by omega), hzl, Nat.sub_self]; rfl
          have c1 : wr.cell? ⟨g, n * 4 + 1, none⟩ = some (.int .i64 q) := by rw [hcell _ (by omega), List.getElem?_append_right (by omega), hzl]; simp
          have c2 : wr.cell? ⟨g, n * 4 + 2, none⟩ = some (.string s) := by rw [hcell _ (by omega), List.getElem?_append_right (by omega), hzl]; simp
          have c3 : wr.cell? ⟨g, n * 4 + 3, none⟩ = some (.slice ka klen kcap) := by rw [hcell _ (by omega), List.getElem?_append_right (by omega), hzl]; simp
          have hgl : g < wr.heap.size := (Array.getElem?_eq_some_iff.1 hgg).1
          have NN := Lib.hid hn; clear hn
          clear hcell hgg hgt hgs
          have hgn' : n + 1 ≤ gcap := by rw [← NN.out]; exact hgn
          have hgc' : gcap ≤ 9223372036854775807 := hgc
          clear hgn hgc
          have RB := Lib.hid (And.intro hre0 (And.intro hksl hkr)); clear hre0 hksl hkr
          rw [NN.out]
          go_upto_if 79 with fail
          go_cut [] (fun wc => ShCutX zs n g gcap (Ex.mk k q s ks) w wr k q s (.slice ka klen kcap) wc)
          case first =>
            have hpop := ownsRow_pop (by rw [← NN.out]; exact FlatE.length _ _ F4.out) (by rw [← NN.out]; exact O4.out) (n := n) (xs := zs)
            have P := Lib.hid hpop; clear hpop
            by_cases hk2 : klen = 2
            · subst hk2
              go_wp2_with fail
              go_meet
              obtain ⟨t0, t1, t2, t3⟩ := three wr (.cells #[.int .i64 k, .int .i64 q, .string s, .slice ka 2 kcap] 29) (.cells #[.int .i64 k, .int .i64 q, .string s, .slice (some ⟨wr.heap.size + 1 + 1, 0, none⟩) 2 2] 29) (.cells #[.int .i64 1, .int .i64 0, .string ⟨#[]⟩, .slice none 0 0, .int .i64 1, .int .i64 0, .string ⟨#[]⟩, .slice none 0 0] 29)
              refine ⟨((K.out.alloc _).alloc _).alloc _, (((Kp.refl _ _).alloc _).alloc _).alloc _, ((P.out.alloc _).alloc _).alloc _, by rw [t3]; omega, ?_, _, t1, ?_⟩
              · simp only [World.cell?, t0]; simp
              · have hl2 : ks.length = 2 := by rw [← RB.out.2.1.1]
                simp only [bareX, hl2, if_true, RepE]
                refine ⟨_, 2, 2, rfl, hk64, hq64, hs, ⟨rfl, Nat.le_refl _, by unfold maxLen; omega, fun h => by cases h⟩, .inr ⟨wr.heap.size + 1 + 1, 0, rfl, by rw [t3]; omega, ?_⟩⟩
                have hnum : ∀ (W : World) (Bb : Nat), RepE W Bb numEx (.agg #[.int .i64 1, .int .i64 0, .string ⟨#[]⟩, .slice none 0 0]) := by
                  intro W Bb
                  simp only [numEx, RepE]
                  exact ⟨none, 0, 0, rfl, by unfold I64; omega, by unfold I64; omega, by unfold maxLen; decide, ⟨rfl, Nat.le_refl _, Nat.zero_le _, fun _ => rfl⟩, .inl trivial⟩
                simp only [RepEs]
                refine ⟨⟨_, _, _, _, ?_, ?_, ?_, ?_, hnum _ _⟩, ⟨_, _, _, _, ?_, ?_, ?_, ?_, hnum _ _⟩, trivial⟩
                all_goals (simp only [World.cell?, t2]; simp)
            · have hk3 : ((klen : Int) == 2) = false := by rw [beq_eq_false_iff_ne]; omega
              go_wp2_with fail
              go_meet
              obtain ⟨t0, t1, t3⟩ := two wr (.cells #[.int .i64 k, .int .i64 q, .string s, .slice ka klen kcap] 29) (.cells #[.int .i64 k, .int .i64 q, .string s, .slice ka klen kcap] 29)
              refine ⟨(K.out.alloc _).alloc _, ((Kp.refl _ _).alloc _).alloc _, (P.out.alloc _).alloc _, by rw [t3]; omega, ?_, _, t1, ?_⟩
              · simp only [World.cell?, t0]; simp
              · have hl2 : ¬ ks.length = 2 := by rw [← RB.out.2.1.1]; exact hk2
                simp only [bareX, hl2, if_false]
                exact RB.out.1.keep (((Kp.refl noB wr).alloc _).alloc _ |>.agree (by omega) fun _ _ h => h) (by rw [t3]; omega)
          case rest =>
            obtain ⟨hk5, hkw, ho5, hsz5, hc3, f, hx5, hrep5⟩ := hcut
            have K5 := Lib.hid hk5; clear hk5
            have KW := Lib.hid hkw; clear hkw
            have O5 := Lib.hid ho5; clear ho5
            have X5 := Lib.hid hrep5; clear hrep5
            have b0 : wc.cell? ⟨wr.heap.size + 1, 0, none⟩ = some (.int .i64 k) := by simp [World.cell?, hx5]
            have b1 : wc.cell? ⟨wr.heap.size + 1, 1, none⟩ = some (.int .i64 q) := by simp [World.cell?, hx5]
            have b2 : wc.cell? ⟨wr.heap.size + 1, 2, none⟩ = some (.string s) := by simp [World.cell?, hx5]
            have b3 : wc.cell? ⟨wr.heap.size + 1, 3, none⟩ = some f := by simp [World.cell?, hx5]
            clear hx5 c0 c1 c2 c3
            have hq0 : wr.heap.size < wc.heap.size := by omega
            have hq1 : wr.heap.size + 1 < wc.heap.size := by omega
            have hbsz : (bareX (.mk k q s ks)).sz ≤ 4294967296 := by
              have h1 := D.out.2.1
              have h4 := HN.out
              rw [Ex.szs_append] at h1
              simp only [Ex.szs, Ex.sz] at h1
              simp only [bareX, Ex.sz]
              split
              · have : Ex.szs [numEx, numEx] = 2 := rfl
                omega
              · omega
            have BZ := Lib.hid hbsz; clear hbsz
            have OK := Lib.hid (bareX_ok k q s ks)
            have hst := sizeExpr_any (bareX (.mk k q s ks)).sz (bareX (.mk k q s ks))
            have ST := Lib.hid hst; clear hst
            go_wp2_with fail
            refine (ST.out _ (wc.alloc _) wc.heap.size wc.heap.size 0 0 1 (Nat.le_refl _) (X5.out.keep ((Kp.refl noB wc).alloc _ |>.agree (by omega) fun _ _ h => h) (Nat.le_refl _)) (by omega) (by unfold SzAt; rw [heap_alloc_new]) (by omega) (by have := BZ.out; omega) (by omega) (by omega)).mono ?_
            rintro e w7 hp
            obtain rfl := hp.1
            have HP := Lib.hid hp.2.1
            have hps := hp.2.1.size
            have c77 : w7.cell? ⟨wr.heap.size, 3, none⟩ = some (.slice ka klen kcap) := by
              rw [hp.2.1.cell (by simp; omega) (fun e => by simp only [oneB] at e; omega)]
              rw [World.cell?_alloc_lt (h := hq0)]
              exact hc3
            clear hp hc3 b0 b1 b2 b3
            rw [OK.out]
            have K7 := Lib.hid ((K5.out.alloc _).trans HP.out (fun b hb (h : b = wc.heap.size) => by omega))
            have O57 := Lib.hid (ownsRow_keep (O5.out.alloc _) HP.out (fun b hb (h : b = wc.heap.size) => by have := O5.out.lt b hb; omega))
            have hk7s : w.heap.size ≤ w7.heap.size := K7.out.size
            cases hnode : nodeE k q s ks.length
            · go_wp2_with fail
              go_ret
              refine ⟨ret_bool ?_, K7.out⟩
              have h1 := D.out.1
              rw [okEs_append] at h1
              simp only [okEs, okE, hnode, Bool.false_and, Bool.and_false] at h1
              exact h1.symm
            · have ag := (K.out.agree hB fun _ _ h => h).symm.trans (K7.out.agree hB fun _ _ h => h)
              have AG := Lib.hid ag
              have hel : RepEl w7 B ks ka klen kcap := by
                refine ⟨RB.out.2.1, ?_⟩
                rcases RB.out.2.2 with h0 | ⟨b', o', h1, h2, h3⟩
                · exact .inl h0
                · exact .inr ⟨b', o', h1, h2, h3.keep ag (Nat.le_refl _) ks b' o' h2⟩
              have hroom : n + ks.length ≤ 1073741824 := by
                have h1 := D.out.2.1
                have h2 := HN.out
                rw [Ex.szs_append] at h1
                simp only [Ex.szs, Ex.sz] at h1
                have h4 := Ex.len_le_szs t'
                have h5 := Ex.len_le_szs ks
                have := NN.out
                omega
              have HR2 := Lib.hid hroom; clear hroom ag
              have hkn : klen = ks.length := RB.out.2.1.1
              rcases hel.source with ⟨rfl, rfl, rfl, rfl⟩ | ⟨ad, news, rfl, hnl, hf, hc⟩
              · clear hkn hel
                go_wp2_with (at_builtin; refine wpList_append_own_none rfl _ _ 27 rfl w.heap.size 29 iE 4 Try.underlying27 IE.out.1 _ n zs rfl O57.out rfl ?_)
                go_roundg (Ex.szs t')
                case measure => have h1 := D.out.2.2; rw [Ex.szs_append] at h1; simp only [Ex.szs, Ex.sz] at h1; omega
                case rel =>
                  refine ⟨t', zs, by rw [NN.out]; exact O57.out, F4.out.keep AG.out (Nat.le_refl _), ?_, ?_, rfl, K7.out⟩
                  · rw [D.out.1, okE_pop hnode t', List.append_nil]
                  · have h1 := D.out.2.1; rw [Ex.szs_append] at h1; omega
              · subst hkn
                clear hel
                have NL := Lib.hid (And.intro hnl (And.intro hf hc)); clear hnl hf hc
                go_wp2_with (at_builtin; refine wpList_append_own _ rfl _ _ 27 rfl w.heap.size 29 iE _ 4 56 Try.underlying27 IE.out.1 IE.out.2.1 IE.out.2.2.1 IE.out.2.2.2 rfl (by decide) _ n zs rfl O57.out ad ks.length kcap news rfl NL.out.1 NL.out.2.2 (NL.out.2.1.plain ks news) ?c2 ?c3 ?c4 ?hK)
                case c2 => have := HR2.out; unfold maxLen; omega
                case c3 => have := HR2.out; omega
                case c4 => exact hk7s
                case hK =>
                  intro v9 w9 hown9 hg9 _
                  have O9 := Lib.hid hown9; clear hown9
                  have G9 := Lib.hid hg9; clear hg9
                  go_wp2_with fail
                  go_roundg (Ex.szs (t' ++ ks))
                  case measure => have h1 := D.out.2.2; rw [Ex.szs_append] at h1 ⊢; simp only [Ex.szs, Ex.sz] at h1; omega
                  case rel =>
                    have ho := O57.out.lt
                    have K9 : Kp noB w w9 := K7.out.grown G9.out (fun b hb e => by have := ho b e.symm; omega)
                    have ag : Agree B wr w9 := (K.out.agree hB fun _ _ h => h).symm.trans (K9.agree hB fun _ _ h => h)
                    have ag7 : Agree B w7 w9 := (K7.out.agree hB fun _ _ h => h).symm.trans (K9.agree hB fun _ _ h => h)
                    refine ⟨t' ++ ks, zs ++ news, ?_, (F4.out.keep ag (Nat.le_refl _)).append _ _ _ _ (NL.out.2.1.keep ag7 (Nat.le_refl _)), ?_, ?_, rfl, K9⟩
                    · rw [List.length_append, NN.out]; exact O9.out
                    · rw [D.out.1, okE_pop hnode t']
                    · have h1 := D.out.2.1; rw [Ex.szs_append] at h1 ⊢; simp only [Ex.szs, Ex.sz] at h1; omega
    · obtain ⟨t', s, rfl⟩ := snoc_of t ht
      clear ht
      obtain ⟨zs, us, rfl, hfz, hfu⟩ := FlatS.split t' [s] xs hf3
      obtain ⟨v0, v1', v2, v3, v4, v5, v6, v7, rfl, hrs⟩ := hfu.one
      obtain ⟨k, nm, e, q, bs⟩ := s
      simp only [RepS] at hrs
      obtain ⟨e0, e1, e2, e3, ba, blen, bcap, hv, hre, hk64, hq64, hnm, hbsl, hbr⟩ := hrs
      obtain ⟨ek, en, es', ea, el, ec, rfl, rfl, rfl, rfl⟩ := hre.forms
      simp at hv
      obtain ⟨rfl, rfl, rfl, rfl, rfl, rfl, rfl, rfl⟩ := hv
      rw [show (t' ++ [St.mk k nm e q bs]).length = t'.length + 1 by simp] at ho3
      have hzl := FlatS.length t' zs hfz
      rcases ho3.2 with ⟨_, h0⟩ | ⟨g, gcap, gcur, rfl, hgb, hgg, hgn, hgc, hgs, hgt⟩
      · omega
      have hcell := ho3.cellAt
      have O3 := Lib.hid ho3; clear ho3
      have F3 := Lib.hid (And.intro hfz hfu); clear hfz hfu
      obtain ⟨n, hn⟩ : ∃ n, t'.length = n := ⟨_, rfl⟩
      rw [hn] at hcell hzl
      have c0 : wr.cell? ⟨g, n * 8, none⟩ = some (.int .i64 k) := by rw [hcell _ (by omega), List.getElem?_append_right (by omega), hzl, Nat.sub_self]; rfl
      have c1 : wr.cell? ⟨g, n * 8 + 1, none⟩ = some (.string nm) := by rw [hcell _ (by omega), List.getElem?_append_right (by omega), hzl]; simp
      have c2 : wr.cell? ⟨g, n * 8 + 2, none⟩ = some (.int .i64 ek) := by rw [hcell _ (by omega), List.getElem?_append_right (by omega), hzl]; simp
      have c3 : wr.cell? ⟨g, n * 8 + 3, none⟩ = some (.int .i64 en) := by rw [hcell _ (by omega), List.getElem?_append_right (by omega), hzl]; simp
      have c4 : wr.cell? ⟨g, n * 8 + 4, none⟩ = some (.string es') := by rw [hcell _ (by omega), List.getElem?_append_right (by omega), hzl]; simp
      have c5 : wr.cell? ⟨g, n * 8 + 5, none⟩ = some (.slice ea el ec) := by rw [hcell _ (by omega), List.getElem?_append_right (by omega), hzl]; simp
      have c6 : wr.cell? ⟨g, n * 8 + 6, none⟩ = some (.int .i64 q) := by rw [hcell _ (by omega), List.getElem?_append_right (by omega), hzl]; simp
      have c7 : wr.cell? ⟨g, n * 8 + 7, none⟩ = some (.slice ba blen bcap) := by rw [hcell _ (by omega), List.getElem?_append_right (by omega), hzl]; simp
      have hgl : g < wr.heap.size := (Array.getElem?_eq_some_iff.1 hgg).1
      have NN := Lib.hid hn; clear hn
      clear hcell hgg hgt hgs
      have hgn' : n + 1 ≤ gcap := by rw [← NN.out]; exact hgn
      have hgc' : gcap ≤ 9223372036854775807 := hgc
      clear hgn hgc
      have hmk := fun (n : Nat) (h : 24 * n ≤ 281474976710656) (h63 : n ≤ 9223372036854775807) (w : World) => run_make_row' (P := Try.prog) 31 22 _ 24 Try.underlying31 infoBl rfl .i64 .i64 n h h63 w
      have hblen : blen ≤ 1073741824 := by
        have h1 := hbsl.1
        have h2 := D.out.2.1
        rw [St.szs_append] at h2
        simp only [St.szs, St.sz] at h2
        have := St.len_le_szb bs
        have := HN.out
        omega
      have hmk2 := hmk blen (by omega) (by omega)
      clear hmk
      have BL := Lib.hid hblen; clear hblen
      have RB := Lib.hid (And.intro hre (And.intro hbsl hbr)); clear hre hbsl hbr
      rw [NN.out]
      go_upto_if 38 with (go_at_call 22; refine (none_exact e ek en es' ea el ec B _ ?hrep).mono ?_; rotate_left; rintro e w' ⟨rfl, rfl⟩)
      case hrep => exact RB.out.1.keep ((((Kp.refl noB wr).alloc _).alloc _).alloc _ |>.agree (B := B) (by omega) fun _ _ h => h) (Nat.le_refl _)
      go_cut [4] (fun s4 wc => ShCut (if noneE e then es else es ++ [e]) zs n g gcap (St.mk k nm e q bs) B w wr k q nm (.slice ba blen bcap) blen s4 wc)
      case first =>
        cases hne : noneE e
        · go_wp2_with (at_builtin; refine wpList_append_own _ rfl _ _ 27 rfl w.heap.size 29 iE _ 4 56 Try.underlying27 IE.out.1 IE.out.2.1 IE.out.2.2.1 IE.out.2.2.2 rfl (by decide) _ es.length ys rfl ?own _ 1 1 [.int .i64 ek, .int .i64 en, .string es', .slice ea el ec] rfl rfl ?c1 ?c5 ?c2 ?c3 ?c4 ?hK)
          case own => exact ((((O4.out.alloc _).alloc _).alloc _).alloc _).alloc _
          case c1 => exact cell4 _ _ (by simp) _ _ _ _ _
          case c5 => intro u hu; simp only [List.mem_cons, List.not_mem_nil, or_false] at hu; rcases hu with rfl | rfl | rfl | rfl <;> rfl
          case c2 => have := Ex.len_le_szs es; have := D.out.2.1; have := HN.out; unfold maxLen; omega
          case c3 => have := Ex.len_le_szs es; have := D.out.2.1; have := HN.out; omega
          case c4 => simp; omega
          case hK =>
            intro v' w5 hown hg _
            have O5 := Lib.hid hown; clear hown
            have G := Lib.hid hg; clear hg
            go_wp2_with fail
            go_meet
            have hs4 := O4.out.lt
            rw [hne]
            simp only [Bool.false_eq_true, if_false]
            have hw5 := O5.out
            rw [show es.length + 1 = (es ++ [e]).length by simp] at hw5
            refine sh_cut (S := fun b => some b = Value.ownBlock _) rfl (by simp) ((((Kp.refl _ _).alloc _).alloc _).then (Kp.of_grown G.out)) (by have := G.out.size; simp at this; simp; omega) (fun b hb => ?_) K.out hB hw5 ?_ (ownsRow_pop (by rw [← NN.out]; exact FlatS.length _ _ F3.out.1) (by rw [← NN.out]; exact O3.out)) hk64 hq64 hnm RB.out.2.1.1 ?_ ?_
            · have h1 := hs4 b hb.symm
              exact ⟨h1.2, h1.1, fun e => own_ne O3.out O4.out (by decide) g rfl (by rw [← hb, e])⟩
            · exact F4.out.append es [e] ys _ ⟨_, _, _, _, [], rfl, RB.out.1, rfl⟩
            · have := BL.out; unfold maxLen; omega
            · simp only [bareE, hne, Bool.false_eq_true, if_false]
              simp only [numEx, RepE]
              exact ⟨none, 0, 0, rfl, by unfold I64; omega, by unfold I64; omega, by unfold maxLen; decide, ⟨rfl, Nat.le_refl _, Nat.zero_le _, fun _ => rfl⟩, .inl trivial⟩
        · go_wp2_with fail
          go_meet
          rw [hne]
          simp only [if_true]
          refine sh_cut (S := noB) rfl (by simp) ((Kp.refl _ _).alloc _) (by simp) (fun b hb => hb.elim) K.out hB ((((O4.out.alloc _).alloc _).alloc _).alloc _) F4.out (ownsRow_pop (by rw [← NN.out]; exact FlatS.length _ _ F3.out.1) (by rw [← NN.out]; exact O3.out)) hk64 hq64 hnm RB.out.2.1.1 ?_ ?_
          · have := BL.out; unfold maxLen; omega
          · simp only [bareE, hne, if_true]
            exact RB.out.1
      case rest =>
        obtain ⟨⟨ys5, ho5, hf5⟩, hk5, ho35, hsz5, hc7, f0, f1, f2, f3, hx5, hrep5⟩ := hcut
        have O5 := Lib.hid ho5; clear ho5
        have F5 := Lib.hid hf5; clear hf5
        have K5 := Lib.hid hk5; clear hk5
        have O35 := Lib.hid ho35; clear ho35
        have X5 := Lib.hid (And.intro hx5 hrep5)
        have b0 : wc.cell? ⟨wr.heap.size + 1, 0, none⟩ = some (.int .i64 k) := by simp [World.cell?, hx5]
        have b1 : wc.cell? ⟨wr.heap.size + 1, 1, none⟩ = some (.string nm) := by simp [World.cell?, hx5]
        have b2 : wc.cell? ⟨wr.heap.size + 1, 2, none⟩ = some (.int .i64 f0) := by simp [World.cell?, hx5]
        have b3 : wc.cell? ⟨wr.heap.size + 1, 3, none⟩ = some (.int .i64 f1) := by simp [World.cell?, hx5]
        have b4 : wc.cell? ⟨wr.heap.size + 1, 4, none⟩ = some (.string f2) := by simp [World.cell?, hx5]
        have b5 : wc.cell? ⟨wr.heap.size + 1, 5, none⟩ = some f3 := by simp [World.cell?, hx5]
        have b6 : wc.cell? ⟨wr.heap.size + 1, 6, none⟩ = some (.int .i64 q) := by simp [World.cell?, hx5]
        have b7 : wc.cell? ⟨wr.heap.size + 1, 7, none⟩ = some (.slice (some ⟨wr.heap.size + 1 + 1, 0, none⟩) blen blen) := by simp [World.cell?, hx5]
        clear hx5 hrep5 c0 c1 c2 c3 c4 c5 c6 c7 hmk2
        have hq0 : wr.heap.size < wc.heap.size := by omega
        have hq1 : wr.heap.size + 1 < wc.heap.size := by omega
        have hst := stat_any (bareS (.mk k nm e q bs)).sz (bareS (.mk k nm e q bs))
        have hbsz : (bareS (.mk k nm e q bs)).sz ≤ 4294967296 := by
          have h0 := szb_nil bs.length
          have h1 := D.out.2.1
          have h2 := RB.out.2.1.1
          have h3 := BL.out
          have h4 := HN.out
          rw [St.szs_append] at h1
          simp only [St.szs, St.sz] at h1
          simp only [bareS, St.sz, h0, bareE]
          split
          · omega
          · have : numEx.sz = 1 := rfl
            omega
        have BZ := Lib.hid hbsz; clear hbsz
        have hok := bare_ok (.mk k nm e q bs) k nm e q bs rfl
        have OK := Lib.hid hok; clear hok
        have ST := Lib.hid hst; clear hst
        go_wp2_with fail
        refine (ST.out _ (wc.alloc _) (wr.heap.size + 3) wc.heap.size 0 0 1 (Nat.le_succ _) (X5.out.2.keep ((Kp.refl noB wc).alloc _ |>.agree (by omega) fun _ _ h => h) (Nat.le_refl _)) (by omega) (by unfold SzAt; rw [heap_alloc_new]) (by omega) (by have := BZ.out; omega) (by omega) (by omega) (by omega)).mono ?_
        rintro e w7 hp
        obtain rfl := hp.1
        have HP := Lib.hid hp.2.1
        have hps := hp.2.1.size
        have c77 : w7.cell? ⟨wr.heap.size, 7, none⟩ = some (.slice ba blen bcap) := by
          rw [hp.2.1.cell (by simp; omega) (fun e => by simp only [oneB] at e; omega)]
          rw [World.cell?_alloc_lt (h := hq0)]
          exact hc7
        clear hp hc7 b0 b1 b2 b3 b4 b5 b6 b7
        rw [OK.out]
        have K7 := Lib.hid ((K5.out.alloc _).trans HP.out (fun b hb (h : b = wc.heap.size) => by omega))
        have O37 := Lib.hid (ownsRow_keep (O35.out.alloc _) HP.out (fun b hb (h : b = wc.heap.size) => by have := O35.out.lt b hb; omega))
        have O57 := Lib.hid (ownsRow_keep (O5.out.alloc _) HP.out (fun b hb (h : b = wc.heap.size) => by have := O5.out.lt b hb; omega))
        cases hnode : nodeS k nm (noneE e) q bs.length
        · go_wp2_with fail
          go_ret
          refine ⟨ret_bool ?_, K7.out⟩
          have h1 := D.out.1
          rw [okSs_append] at h1
          simp only [okSs, okS, hnode, Bool.false_and, Bool.and_false] at h1
          exact h1.symm
        · go_wp2_with fail
          have hb9 : bs.length ≤ 9223372036854775807 := by have := BL.out; have := RB.out.2.1.1; omega
          go_loopw [3, 53] (fun s3 i wx => ShRel2 t' bs (if noneE e then es else es ++ [e]) B w u4 s3 i wx) (fun _ i _ => blen - (intOf i).toNat)
          case atStart => exact ⟨0, zs, ys5, rfl, Nat.zero_le _, by simpa [NN.out] using O37.out, by simpa using F3.out.1.keep ((K.out.agree hB fun _ _ h => h).symm.trans (K7.out.agree hB fun _ _ h => h)) (Nat.le_refl _), O57.out, F5.out.keep ((K5.out.agree hB fun _ _ h => h).symm.trans (K7.out.agree hB fun _ _ h => h)) (Nat.le_refl _), K7.out⟩
          case round =>
            obtain ⟨j, xs8, ys8, rfl, hj, ho38, hf38, ho48, hf48, hk8⟩ := hrel
            obtain ⟨n8, hn8⟩ : ∃ n8, (t' ++ (bs.take j).flatten).length = n8 := ⟨_, rfl⟩
            rw [hn8] at ho38
            have O38 := Lib.hid ho38; clear ho38
            have N8 := Lib.hid hn8; clear hn8
            have F38 := Lib.hid hf38; clear hf38
            have O48 := Lib.hid (And.intro ho48 hf48); clear ho48 hf48
            have K8 := Lib.hid hk8
            have hk8s := hk8.size; clear hk8
            have hbl1 : blen ≤ bs.length := by have := RB.out.2.1.1; omega
            have hbl2 : bs.length ≤ blen := by have := RB.out.2.1.1; omega
            by_cases hlt : j < bs.length
            · have hlt' : j < blen := by omega
              obtain ⟨l2, hl2⟩ : ∃ l2, bs[j]? = some l2 := ⟨bs[j], List.getElem?_eq_getElem hlt⟩
              rcases RB.out.2.2 with h0 | ⟨b', o', rfl, hbB, hrb⟩
              · subst h0; simp at hlt
              have ag := (K.out.agree hB fun _ _ h => h).symm.trans (K8.out.agree hB fun _ _ h => h)
              obtain ⟨a2, len2, cap2, hcell, hsl2⟩ := (hrb.keep ag (Nat.le_refl _) bs b' o' hbB).get bs b' o' j l2 hl2
              have T := Lib.hid (take_snoc' bs j l2 hl2)
              have hroom : n8 + l2.length ≤ 1073741824 := by
                rw [← N8.out]
                have h1 := D.out.2.1
                have h2 := HN.out
                rw [St.szs_append] at h1
                simp only [St.szs, St.sz] at h1
                have h3 := szs_flat bs
                have h4 := St.len_le_szs t'
                have h5 := St.len_le_szs bs.flatten
                have h6 : (bs.take j).flatten.length + l2.length ≤ bs.flatten.length := by
                  have : bs.flatten = (bs.take (j + 1)).flatten ++ (bs.drop (j + 1)).flatten := by rw [← List.flatten_append, List.take_append_drop]
                  rw [this, T.out]
                  simp
                simp only [List.length_append]
                omega
              have HR2 := Lib.hid hroom; clear hroom
              have SL2 := Lib.hid hsl2; clear hsl2 ag hrb hl2
              have hl2n : len2 = l2.length := SL2.out.1.1
              rcases SL2.out.source with ⟨rfl, rfl, rfl, rfl⟩ | ⟨ad, news, rfl, hnl, hf, hc⟩
              · clear hl2n
                go_wp2_with (at_builtin; refine wpList_append_own_none rfl _ _ 22 rfl w.heap.size 33 iS 8 Try.underlying22 IS.out.1 _ n8 xs8 rfl O38.out rfl ?_)
                go_roundw
                case rel =>
                  refine ⟨j + 1, xs8, ys8, by go_num, by omega, ?_, ?_, O48.out.1, O48.out.2, K8.out⟩
                  · rw [T.out]; simp only [List.flatten_append, List.flatten_cons, List.flatten_nil, List.append_nil]; rw [N8.out]; exact O38.out
                  · rw [T.out]; simp only [List.flatten_append, List.flatten_cons, List.flatten_nil, List.append_nil]; exact F38.out
                case measure => simp [intOf]; omega
              · subst hl2n
                have NL := Lib.hid (And.intro hnl (And.intro hf hc)); clear hnl hf hc
                go_wp2_with (at_builtin; refine wpList_append_own _ rfl _ _ 22 rfl w.heap.size 33 iS _ 8 112 Try.underlying22 IS.out.1 IS.out.2.1 IS.out.2.2.1 IS.out.2.2.2 rfl (by decide) _ n8 xs8 rfl O38.out ad l2.length cap2 news rfl NL.out.1 NL.out.2.2 (NL.out.2.1.plain l2 news) ?c2 ?c3 ?c4 ?hK)
                case c2 => have := HR2.out; unfold maxLen; omega
                case c3 => have := HR2.out; omega
                case c4 => exact hk8s
                case hK =>
                  intro v9 w9 hown9 hg9 _
                  have O9 := Lib.hid hown9; clear hown9
                  have G9 := Lib.hid hg9; clear hg9
                  go_wp2_with fail
                  go_roundw
                  case rel =>
                    have ho := O38.out.lt
                    have K9 : Kp noB w w9 := K8.out.grown G9.out (fun b hb e => by have := ho b e.symm; omega)
                    have ag : Agree B wr w9 := (K8.out.agree hB fun _ _ h => h).symm.trans (K9.agree hB fun _ _ h => h)
                    refine ⟨j + 1, xs8 ++ news, ys8, by go_num, by omega, ?_, ?_, ownsRow_keep O48.out.1 (Kp.of_grown G9.out) (fun b hb e => ?_), O48.out.2.keep ag (Nat.le_refl _), K9⟩
                    · rw [T.out]
                      have : (t' ++ (List.take j bs ++ [l2]).flatten).length = n8 + l2.length := by
                        rw [← N8.out]
                        simp only [List.flatten_append, List.flatten_cons, List.flatten_nil, List.append_nil, List.length_append]
                        omega
                      rw [this]
                      exact O9.out
                    · rw [T.out]
                      simp only [List.flatten_append, List.flatten_cons, List.flatten_nil, List.append_nil]
                      rw [← List.append_assoc]
                      exact (F38.out.keep ag (Nat.le_refl _)).append _ _ _ _ (NL.out.2.1.keep ag (Nat.le_refl _))
                    · exact own_ne O48.out.1 O38.out (by decide) b hb e.symm
                  case measure => simp [intOf]; omega
            · have hge : bs.length ≤ j := by omega
              have hge' : blen ≤ j := by omega
              go_wp2_with fail
              have hj2 : j = bs.length := by omega
              go_roundg (St.szs (t' ++ bs.flatten))
              case measure =>
                have h1 := D.out.2.2
                rw [St.szs_append] at h1 ⊢
                simp only [St.szs, St.sz] at h1
                have h3 := szs_flat bs
                omega
              case rel =>
                have e1 := F38.out
                have e2 := O38.out
                rw [← N8.out] at e2
                rw [hj2, List.take_length] at e1 e2
                refine ⟨t' ++ bs.flatten, _, xs8, ys8, e2, e1, O48.out.1, O48.out.2, ?_, ?_, rfl, K8.out⟩
                · rw [D.out.1]; exact okS_pop hnode es t'
                · have h1 := D.out.2.1
                  rw [St.szs_append] at h1 ⊢
                  simp only [St.szs, St.sz] at h1
                  have h3 := szs_flat bs
                  split
                  · omega
                  · rw [Ex.szs_append]; simp only [Ex.szs]; omega
end Go.Proofs.Ytoejpjnicpajlaa
