/- The walk of Begin: the map of a program's variables. -/
import Derived.Test.YtoejpjnicpajlaaNamesB
import Derived.Test.YtoejpjnicpajlaaBeginF
import Derived.Maps.RangeWalk
namespace Go.Proofs.Ytoejpjnicpajlaa
open Go.RowKit Go.Maps Go.WideMaps Go.ChangeMaps

theorem zeroI64 (w : World) : (zeroValue 2).run Try.prog w = .ok (.int .i64 0) w := by kernel_rfl

/-- Block b is a map of numbers, at most n, that holds just this. -/
def MmAt (w : World) (b n : Nat) (f : ByteArray → Option Int) : Prop := ∃ D : DataW Unit, w.ownsMap Try.prog 9 (plainElem Try.prog 2) b n D ∧
  ∀ s : ByteArray, match f s with
    | none => Maps.has D (key s) = false
    | some v => Maps.has D (key s) = true ∧ (Lit.int .i64 v).wf = true ∧ ∀ z, D.atKey (key s) z = .lit (.int .i64 v)
theorem MmAt.lt {w : World} {b n : Nat} {f : ByteArray → Option Int} (h : MmAt w b n f) : b < w.heap.size := by obtain ⟨D, ho, _⟩ := h; exact ho.lt
theorem MmAt.keep {S : Nat → Prop} {w w' : World} {b n : Nat} {f : ByteArray → Option Int} (h : MmAt w b n f) (k : Kp S w w') (hn : ¬ S b) : MmAt w' b n f := by
  obtain ⟨D, ⟨es, clock, hb, r⟩, hh⟩ := h
  exact ⟨D, ⟨es, clock, (k.block b (Array.getElem?_eq_some_iff.1 hb).1 hn).trans hb, r⟩, hh⟩
theorem MmAt.alloc {w : World} {b n : Nat} {f : ByteArray → Option Int} (h : MmAt w b n f) (o : Obj) : MmAt (w.alloc o) b n f := h.keep ((Kp.refl noB w).alloc o) id
theorem MmAt.mono {w : World} {b n n' : Nat} {f : ByteArray → Option Int} (h : MmAt w b n f) (hn : n ≤ n') : MmAt w b n' f := by
  obtain ⟨D, ho, hh⟩ := h
  exact ⟨D, ho.mono hn, hh⟩
theorem MmAt.made (w : World) : MmAt (w.alloc (.map #[] 0)) w.heap.size 0 (fun _ => none) := ⟨.map [], World.ownsMap_made _ _ _ _, fun s => by simp [Maps.has]⟩
open Classical in
theorem MmAt.put {w : World} {b n : Nat} {f g : ByteArray → Option Int} {D : DataW Unit} {s : ByteArray} {v : Int} (ho : w.ownsMap Try.prog 9 (plainElem Try.prog 2) b n (D.put (key s) (.lit (.int .i64 v)))) (hv : (Lit.int .i64 v).wf = true) (hm : Maps.IsMap D)
    (hh : ∀ s : ByteArray, match f s with
      | none => Maps.has D (key s) = false
      | some v => Maps.has D (key s) = true ∧ (Lit.int .i64 v).wf = true ∧ ∀ z, D.atKey (key s) z = .lit (.int .i64 v))
    (hg : ∀ x, g x = if s = x then some v else f x) : MmAt w b n g := by
  refine ⟨_, ho, fun x => ?_⟩
  rw [hg]
  by_cases hx : s = x
  · subst hx
    simp only [if_true]
    exact ⟨has_put_same hm (key_lit s) _, hv, fun z => atKey_put_same hm (key_lit s) _ z⟩
  · simp only [hx, if_false]
    have hne : key x ≠ key s := fun h => hx (key_inj h).symm
    have := hh x
    cases hf : f x with
    | none => rw [hf] at this; simpa [has_put_other hne] using this
    | some u => rw [hf] at this; exact ⟨by rw [has_put_other hne]; exact this.1, this.2.1, fun z => by rw [atKey_put_other hne]; exact this.2.2 z⟩

def BeginPost (l : List St) (st : List Vr) (w : World) (e : Ending) (w' : World) : Prop :=
  Kp noB w w' ∧ ((startOk st ∧ ∃ mb n, e = .returned (.tuple #[.map (some mb), .int .i64 0]) ∧ MmAt w' mb n (addL (lookV st) (namesL l)) ∧ w.heap.size ≤ mb ∧ n ≤ st.length + 3 * St.szs l) ∨
    (¬ startOk st ∧ e = .returned (.tuple #[.map none, .int .i64 7])))

/-- At the head of the first loop: j variables are in. -/
def BegRel1 (st : List Vr) (mb : Nat) (w : World) (i : Value) (wr : World) : Prop :=
  ∃ j : Nat, i = .int .i64 j ∧ j ≤ st.length ∧ startOk (st.take j) ∧ MmAt wr mb j (lookV (st.take j)) ∧ Kp (oneB mb) w wr

/-- At the head of the loop over the three maps: j of them are in. -/
def BegRel2 (LL : List (List ByteArray)) (f0 : ByteArray → Option Int) (mb N S : Nat) (w : World) (i : Value) (wr : World) : Prop :=
  ∃ j n : Nat, i = .int .i64 j ∧ j ≤ 3 ∧ MmAt wr mb n (addL f0 (LL.take j).flatten) ∧ n ≤ N + j * S ∧ Kp (oneB mb) w wr
open Classical in
/-- While a map of names is ranged over: those that have come are in. -/
noncomputable def addLeft (f : ByteArray → Option Int) (L : List ByteArray) (left : Lit → Bool) (s : ByteArray) : Option Int :=
  match f s with
  | some v => some v
  | none => if s ∈ L ∧ left (key s) = false then some 0 else none
def BegRel3 (L : List ByteArray) (f0 : ByteArray → Option Int) (mb bj r N S : Nat) (w wr : World) : Prop :=
  ∃ (left : Lit → Bool) (cnt n : Nat) (D : DataW Unit), wr.ranges Try.prog 9 (plainElem Try.prog 3) bj r S D left cnt ∧ (∀ s : ByteArray, Maps.has D (key s) = true ↔ s ∈ L) ∧ MmAt wr mb n (addLeft f0 L left) ∧ n + cnt ≤ N ∧ Kp (twoB mb r) w wr
theorem addLeft_start (f : ByteArray → Option Int) (L : List ByteArray) (D : DataW Unit) (h : ∀ s : ByteArray, Maps.has D (key s) = true ↔ s ∈ L) : addLeft f L (Maps.has D) = f := by
  funext s
  unfold addLeft
  cases f s with
  | some v => rfl
  | none =>
    simp only
    rw [if_neg]
    rintro ⟨h1, h2⟩
    rw [(h s).2 h1] at h2
    cases h2
theorem addLeft_end (f : ByteArray → Option Int) (L : List ByteArray) (left : Lit → Bool) (h : ∀ k, left k = false) : addLeft f L left = addL f L := by
  funext s
  unfold addLeft addL
  cases f s with
  | some v => rfl
  | none =>
    by_cases h1 : s ∈ L
    · simp only [h1, h, and_self, if_true]
    · simp only [h1, false_and, if_false]
theorem key_same (s x : ByteArray) : (key s).sameKey (key x) = true ↔ s = x := by
  constructor
  · intro h; exact key_inj (WideAt.sameKey_eq h)
  · rintro rfl; exact WideAt.sameKey_self (key_lit _)
open Classical in
/-- One more name has come. -/
theorem addLeft_step (f : ByteArray → Option Int) (L : List ByteArray) (left : Lit → Bool) (x s : ByteArray) (hx : x ∈ L) (hl : left (key x) = true) :
    addLeft f L (fun z => left z && !z.sameKey (key x)) s = (if x = s then some ((addLeft f L left x).getD 0) else addLeft f L left s) := by
  unfold addLeft
  by_cases h : x = s
  · subst h
    simp only [if_true]
    cases hf : f x with
    | some v => rfl
    | none =>
      have h1 : (key x).sameKey (key x) = true := (key_same x x).2 rfl
      simp [hx, hl, h1]
  · simp only [h, if_false]
    have h1 : (key s).sameKey (key x) = false := by
      rw [Bool.eq_false_iff]
      intro h2
      exact h ((key_same s x).1 h2).symm
    have h2 : (left (key s) && !(key s).sameKey (key x)) = left (key s) := by rw [h1]; simp
    cases f s with
    | some v => rfl
    | none => simp only [h2]

set_option maxHeartbeats 4000000 in
set_option maxRecDepth 100000 in
theorem begin_any (l : List St) (st : List Vr) (a : Option Addr) (len cap : Nat) (a2 : Option Addr) (len2 cap2 : Nat) (B : Nat) (w : World) (hr : RepSl w B l a len cap) (hr2 : RepVl w B st a2 len2 cap2) (hB : B ≤ w.heap.size) (hn : St.szs l ≤ 1073741824) (hn2 : st.length ≤ 1073741824) :
    Calls Try.prog 9 #[.slice a len cap, .slice a2 len2 cap2] w (BeginPost l st w) := by
  have HN := Lib.hid (And.intro hn hn2); clear hn hn2
  have HR := Lib.hid hr; clear hr
  have HL := Lib.hid hr2.1.1
  have hlm : len2 ≤ 9223372036854775807 := by have := hr2.1.2.1; have := hr2.1.2.2.1; unfold maxLen at this; omega
  have HV := Lib.hid hr2.2; clear hr2
  have hmm := @run_makeMap Try.prog
  go_enter Try.func9, Try.ntmps9
  go_wp2_with fail
  go_loopw [20] (fun i wr => BegRel1 st w.heap.size (w.alloc (.map #[] 0)) i wr) (fun i _ => len2 - (intOf i).toNat)
  case atStart => exact ⟨0, rfl, Nat.zero_le _, ⟨by simp, by simp⟩, by simpa [lookV] using MmAt.made w, Kp.refl _ _⟩
  case round =>
    obtain ⟨j, rfl, hj, hok, hM, hK⟩ := hrel
    have OK := Lib.hid hok; clear hok
    have K := Lib.hid hK
    have hks := hK.size
    rw [World.size_alloc] at hks
    have KW := Lib.hid (((Kp.refl noB w).alloc (.map #[] 0)).trans hK (fun b hb (e : b = w.heap.size) => by omega)); clear hK
    have hl1 : len2 ≤ st.length := by have := HL.out; omega
    have hl2 : st.length ≤ len2 := by have := HL.out; omega
    by_cases hlt : j < st.length
    · have hlt' : j < len2 := by omega
      obtain ⟨v, hv⟩ : ∃ v, st[j]? = some v := ⟨st[j], List.getElem?_eq_getElem hlt⟩
      rcases HV.out with h0 | ⟨b, o, rfl, hbB, hrv⟩
      · subst h0; simp at hlt
      have ag : Agree B w wr := KW.out.agree hB fun _ _ h => h
      obtain ⟨g0, g1, hvs, hvn⟩ := (hrv.keep ag st b o hbB).get st b o j v hv
      have T := Lib.hid (take_snoc' st j v hv); clear hv hrv ag
      obtain ⟨nm, q⟩ := v
      simp only at g0 g1 hvs hvn
      have QN := Lib.hid hvn; clear hvn
      obtain ⟨D, ho, hh⟩ := hM
      have hmap := ho.isMap
      have HH := Lib.hid hh; clear hh
      have HO := Lib.hid (ho.alloc (.cells #[.string nm, .int .i64 q] 35)); clear ho
      have hj63 : j < maxLen := by have := HN.out.2; unfold maxLen; omega
      by_cases hin : nm ∈ (st.take j).map (·.1)
      · have hhas : Maps.has D (key nm) = true := by
          have h1 := HH.out nm
          cases hf : lookV (st.take j) nm with
          | none => exact absurd hin (lookV_none.1 hf)
          | some u => rw [hf] at h1; exact h1.1
        have hhas' : Maps.has D (.string nm.data.toList) = true := hhas
        have HI := Lib.hid hin; clear hin
        go_wp2_with (at_lookup; refine wpList_lookup_own_ok_int _ rfl _ _ 40 rfl 9 2 .i64 lawStr Try.underlying40 Try.underlying2 (zeroI64 _) w.heap.size j D rfl HO.out _ (.string nm.data.toList) rfl (keyOf_string_mk Try.underlying9 hvs) ?_; intro c _ _)
        go_ret2
        refine ⟨KW.out.alloc _, .inr ⟨fun hs => ?_, rfl⟩⟩
        have h2 := hs.2
        have h3 : st.map (·.1) = (st.take (j + 1) ++ st.drop (j + 1)).map (·.1) := by rw [List.take_append_drop]
        rw [h3, T.out] at h2
        simp only [List.map_append, List.append_assoc] at h2
        have h4 := (List.nodup_append.1 h2).2.2 nm HI.out nm (by simp)
        exact h4 rfl
      · have hhas : Maps.has D (key nm) = false := by
          have h1 := HH.out nm
          rw [lookV_none.2 hin] at h1
          exact h1
        have hhas' : Maps.has D (.string nm.data.toList) = false := hhas
        have HI := Lib.hid hin; clear hin
        cases hnm : isName nm
        · go_wp2_with (first | (at_lookup; refine wpList_lookup_own_ok_int _ rfl _ _ 40 rfl 9 2 .i64 lawStr Try.underlying40 Try.underlying2 (zeroI64 _) w.heap.size j D rfl HO.out _ (.string nm.data.toList) rfl (keyOf_string_mk Try.underlying9 hvs) ?_; intro c _ _) | (go_at_call 14; refine (isName_any _ _ hvs).mono ?_; rintro e w1 ⟨rfl, hb⟩; have HB := Lib.hid hb; obtain ⟨hc, hf⟩ := bcell hb; clear hb))
          go_ret2
          refine ⟨(KW.out.alloc _).then (Kp.of_below HB.out), .inr ⟨fun hs => ?_, rfl⟩⟩
          have h2 := hs.1 (nm, q) (by
            have h3 : st = st.take (j + 1) ++ st.drop (j + 1) := (List.take_append_drop _ _).symm
            rw [h3, T.out]
            simp)
          simp only at h2
          rw [hnm] at h2
          cases h2
        · go_wp2_with (first | (at_lookup; refine wpList_lookup_own_ok_int _ rfl _ _ 40 rfl 9 2 .i64 lawStr Try.underlying40 Try.underlying2 (zeroI64 _) w.heap.size j D rfl HO.out _ (.string nm.data.toList) rfl (keyOf_string_mk Try.underlying9 hvs) ?_; intro c _ _) | (go_at_call 14; refine (isName_any _ _ hvs).mono ?_; rintro e w1 ⟨rfl, hb⟩; have HB := Lib.hid hb; obtain ⟨hc, hf⟩ := bcell hb; clear hb) | (at_mapUpdate; refine wpList_mapUpdate_own _ rfl _ _ _ 40 rfl 9 2 lawStr Try.underlying40 _ w.heap.size j D rfl (World.ownsMap.kept HO.out (row := none) ?hgr (by simp)) hj63 _ _ (.string nm.data.toList) rfl rfl (keyOf_string_mk Try.underlying9 hvs) (.lit (.int .i64 q)) [] (plainElem_int Try.underlying2 ?hwf) ?_; rotate_left 2; intro w2 hown2 hgrow2))
          case hgr => exact ⟨HB.out.os, HB.out.tape, HB.out.output, HB.out.size, fun k hk _ => HB.out.block k hk⟩
          case hwf => exact WalkArith.wf_i64 QN.out
          go_roundw
          case rel =>
            have k2 := Kp.of_grown hgrow2
            refine ⟨j + 1, by go_num, by omega, ?_, ?_, ?_⟩
            · rw [T.out]
              refine ⟨fun p hp => ?_, ?_⟩
              · rcases List.mem_append.1 hp with h1 | h1
                · exact OK.out.1 p h1
                · simp only [List.mem_singleton] at h1
                  subst h1
                  exact hnm
              · rw [List.map_append, List.nodup_append]
                refine ⟨OK.out.2, by simp, fun x hx y hy => ?_⟩
                simp only [List.map_cons, List.map_nil, List.mem_singleton] at hy
                rw [hy]
                intro h
                exact HI.out (h ▸ hx)
            · rw [T.out]
              exact MmAt.put hown2 (WalkArith.wf_i64 QN.out) hmap HH.out (fun x => lookV_snoc HI.out)
            · exact ((K.out.alloc _).then (Kp.of_below HB.out).of_no).trans k2 (fun b hb e => by simp at e; exact e)
          case measure => simp [intOf]; omega
    · have hge : st.length ≤ j := by omega
      have hge' : len2 ≤ j := by omega
      have hj2 : j = st.length := by omega
      subst hj2
      rw [List.take_length] at hM
      have OK1 := OK.out
      rw [List.take_length] at OK1
      clear OK
      have OK := Lib.hid OK1; clear OK1
      have MM := Lib.hid hM; clear hM
      go_wp2_with fail
      refine (of_any l a len cap B wr (HR.out.keep (KW.out.agree hB fun _ _ h => h) (Nat.le_refl _)) (by omega) HN.out.1).mono ?_
      rintro e w3 ⟨b0, b1, b2, rfl, hb0, hb1, hb2, hN3, hK3⟩
      have N3 := Lib.hid hN3; clear hN3
      have M3 := Lib.hid (MM.out.keep hK3 id); clear MM
      have K3 := Lib.hid (KW.out.then hK3)
      have hk3s := hK3.size; clear hK3 KW K
      go_wp2_with fail
      obtain ⟨wo, hwo⟩ : ∃ wo : World, wo = wr := ⟨_, rfl⟩
      subst hwo
      have hmb3 := M3.out.lt
      obtain ⟨w5, hw5⟩ : ∃ w5 : World, (w3.alloc (.cells #[.map (some b0), .map (some b1), .map (some b2)] 56)).alloc (.cells #[.map (some b0), .map (some b1), .map (some b2)] 54) = w5 := ⟨_, rfl⟩
      have t0 := two w3 (.cells #[.map (some b0), .map (some b1), .map (some b2)] 56) (.cells #[.map (some b0), .map (some b1), .map (some b2)] 54)
      rw [hw5] at t0
      have hk35 : Kp noB w3 w5 := by rw [← hw5]; exact ((Kp.refl noB w3).alloc _).alloc _
      have K35 := Lib.hid hk35; clear hk35
      rw [hw5]
      clear hw5
      have T0 := Lib.hid t0
      have h5s : w5.heap.size = w3.heap.size + 2 := t0.2.2
      have H5 := Lib.hid h5s
      have h5a : w3.heap.size + 2 ≤ w5.heap.size := by omega
      clear t0 h5s
      go_loopw [54] (fun i wr => BegRel2 [asSs l, adSs l, rdSs l] (lookV st) w.heap.size st.length (St.szs l) w5 i wr) (fun i _ => 3 - (intOf i).toNat)
      case atStart => exact ⟨0, st.length, rfl, by omega, by simpa [addL_nil] using M3.out.keep K35.out id, by omega, Kp.refl _ _⟩
      case round =>
        obtain ⟨i, n, rfl, hi, hM, hn, hK⟩ := hrel
        have MI := Lib.hid hM; clear hM
        have KI := Lib.hid hK
        have hkis := hK.size
        by_cases hi3 : i < 3
        · have hpick : ∃ bj Lj, wr.cell? ⟨w3.heap.size + 1, i, none⟩ = some (.map (some bj)) ∧ NmAt wr bj (St.szs l) Lj ∧ bj ≠ w.heap.size ∧ bj < w5.heap.size ∧ ([asSs l, adSs l, rdSs l].take (i + 1)).flatten = ([asSs l, adSs l, rdSs l].take i).flatten ++ Lj := by
            have hc := T0.out.2.1
            have hcell : ∀ j v, (#[Value.map (some b0), .map (some b1), .map (some b2)] : Array Value)[j]? = some v → wr.cell? ⟨w3.heap.size + 1, j, none⟩ = some v := by
              intro j v hv
              rw [hK.cell (by omega) (fun (e : _ = w.heap.size) => by omega)]
              simp only [World.cell?, hc]
              simpa using hv
            have n0 := N3.out.1.lt
            have n1 := N3.out.2.1.lt
            have n2 := N3.out.2.2.lt
            have q0 := ((N3.out.1.keep K35.out id).keep hK (fun (e : b0 = w.heap.size) => by omega))
            have q1 := ((N3.out.2.1.keep K35.out id).keep hK (fun (e : b1 = w.heap.size) => by omega))
            have q2 := ((N3.out.2.2.keep K35.out id).keep hK (fun (e : b2 = w.heap.size) => by omega))
            match i, hi3 with
            | 0, _ => exact ⟨b0, _, hcell 0 _ rfl, q0, by omega, by omega, by simp⟩
            | 1, _ => exact ⟨b1, _, hcell 1 _ rfl, q1, by omega, by omega, by simp⟩
            | 2, _ => exact ⟨b2, _, hcell 2 _ rfl, q2, by omega, by omega, by simp⟩
          obtain ⟨bj, Lj, hcj, ⟨Dj, hoj, hhj⟩, hbjm, hbj5, hfl⟩ := hpick
          have OJ := Lib.hid hoj
          have HJ := Lib.hid (And.intro hhj hfl); clear hhj hfl
          have hsz := hoj.size_le
          have SZ := Lib.hid hsz; clear hsz hoj hK
          have hi3b : decide ((i : Int) < 3) = true := by simp; omega
          go_wp2_with (at_range; refine wpList_range_own _ rfl _ 54 rfl 9 3 lawStr Try.underlying54 _ bj (St.szs l) Dj rfl OJ.out ?_; intro w6 hrg6 hg6 hs6)
          go_frame
          obtain ⟨wq, hwq⟩ : ∃ wo : World, wo = wr := ⟨_, rfl⟩
          subst hwq
          have RG6 := Lib.hid hrg6; clear hrg6
          have hmbq := MI.out.lt
          have K6 := Lib.hid (show Kp noB wq w6 from (Kp.of_grown hg6).mono (fun k _ e => by cases e)); clear hg6
          have HS6 := Lib.hid hs6
          have hs6' : wq.heap.size < w6.heap.size := by omega
          clear hs6
          go_loopw [] (fun wr => BegRel3 Lj (addL (lookV st) ([asSs l, adSs l, rdSs l].take i).flatten) w.heap.size bj wq.heap.size (n + Maps.size Dj) (St.szs l) w6 wr) (fun wr => wr.rangeLeft bj wq.heap.size)
          case atStart => exact ⟨_, _, n, Dj, RG6.out, HJ.out.1, by rw [addLeft_start _ _ _ HJ.out.1]; exact MI.out.keep K6.out id, by omega, Kp.refl _ _⟩
          case round =>
            obtain ⟨left, cnt, n2, D2, hrg, hhd, hM2, hn2, hK2⟩ := hrel
            have RG := Lib.hid hrg; clear hrg
            have K2 := Lib.hid hK2; clear hK2
            have M2 := Lib.hid hM2; clear hM2
            have HD := Lib.hid hhd; clear hhd
            have N2 := Lib.hid hn2; clear hn2
            have hmb6 : w.heap.size < w6.heap.size := by omega
            go_wp2_with (at_next; refine wpList_next_ranges _ rfl _ rfl 9 lawStr (plainElem Try.prog 3) Value.string (Value.int .i64) (fun k kl h => by obtain ⟨s, rfl, _⟩ := string_of_keyOf Try.underlying9 h; exact ⟨s, rfl⟩) (fun v y h => by obtain ⟨c, rfl, _⟩ := plainElem_int_inv Try.underlying3 h; exact ⟨c, rfl⟩) bj wq.heap.size (St.szs l) D2 left cnt rfl RG.out ?hDone ?hMore)
            case hDone =>
              intro h0 hl
              go_wp2_with fail
              refine ⟨⟨i + 1, n2, by go_num, by omega, ?_, ?_, ?_⟩, by simp [intOf]; omega⟩
              · have h1 := M2.out
                rw [addLeft_end _ _ _ hl, addL_append, ← HJ.out.2] at h1
                exact h1
              · have h1 := SZ.out
                have h2 := N2.out
                have : (i + 1) * St.szs l = i * St.szs l + St.szs l := by rw [Nat.add_mul, Nat.one_mul]
                omega
              · exact ((KI.out.then K6.out.of_no).trans K2.out (fun k hk e => by rcases e with rfl | rfl <;> first | rfl | omega))
            case hMore =>
              intro x c kl y yp w8 cnt8 hkey hlk hv hat hrg8 hlt8 hg8 hs8 hen
              obtain ⟨x', hxe, hkl, hxs⟩ := string_of_keyOf Try.underlying9 hkey
              cases hxe
              subst hkl
              have hxL : x ∈ Lj := (HD.out x).1 (has_true_of_atKey hat)
              have k8 : Kp (oneB wq.heap.size) wr w8 := (Kp.of_grown hg8).mono (fun k _ e => by simp at e; exact e)
              have M8 := Lib.hid (M2.out.keep k8 (fun (e : w.heap.size = wq.heap.size) => by omega))
              have K8 := Lib.hid (K2.out.trans k8 (fun k _ (e : k = wq.heap.size) => .inr e))
              have RG8 := Lib.hid hrg8
              have ST := Lib.hid (addLeft_step (addL (lookV st) ([asSs l, adSs l, rdSs l].take i).flatten) Lj left x · hxL hlk)
              clear hrg8 hg8 hat hv hkey hxL hlk k8 M2
              obtain ⟨Dm, hom, hhm⟩ := M8.out
              have hmapm := hom.isMap
              have HHM := Lib.hid hhm
              have HOM := Lib.hid hom; clear hom
              have hn63 : n2 < maxLen := by have h1 := N2.out; have h2 := SZ.out; have h3 := HN.out; have : i * St.szs l ≤ 3 * St.szs l := Nat.mul_le_mul_right _ hi; unfold maxLen; omega
              have hx1 := hhm x
              clear hhm
              cases hgx : addLeft (addL (lookV st) ([asSs l, adSs l, rdSs l].take i).flatten) Lj left x with
              | none =>
                rw [hgx] at hx1
                have hx2 : Maps.has Dm (.string x.data.toList) = false := hx1
                clear hx1
                have GX := Lib.hid hgx; clear hgx
                go_wp2_with (first | (at_lookup; refine wpList_lookup_own_ok_int _ rfl _ _ 40 rfl 9 2 .i64 lawStr Try.underlying40 Try.underlying2 (zeroI64 _) w.heap.size n2 Dm rfl HOM.out _ (.string x.data.toList) rfl (keyOf_string_mk Try.underlying9 hxs) ?_; intro c2 _ _) | (at_mapUpdate; refine wpList_mapUpdate_own _ rfl _ _ _ 40 rfl 9 2 lawStr Try.underlying40 _ w.heap.size n2 Dm rfl HOM.out hn63 _ _ (.string x.data.toList) rfl rfl (keyOf_string_mk Try.underlying9 hxs) (.lit (.int .i64 0)) [] (plainElem_int Try.underlying2 (by decide)) ?_; intro w9 hown9 hgrow9))
                have k9 := Kp.of_grown hgrow9
                have hne9 : some bj ≠ some w.heap.size := by simp; omega
                have hne8 : some wq.heap.size ≠ some w.heap.size := by simp; omega
                go_frame
                go_roundw
                case rel =>
                  refine ⟨_, cnt8, n2 + 1, D2, RG8.out.kept hgrow9 hne9 hne8, HD.out, ?_, by have := N2.out; omega, ?_⟩
                  · refine MmAt.put (f := addLeft (addL (lookV st) ([asSs l, adSs l, rdSs l].take i).flatten) Lj left) hown9 (by decide) hmapm HHM.out (fun s => ?_)
                    refine (ST.out s).trans ?_
                    rw [GX.out]
                    rfl
                  · exact K8.out.trans k9 (fun k _ e => .inl (by simp at e; exact e))
                case measure => rw [(RG8.out.kept hgrow9 hne9 hne8).left_eq, RG.out.left_eq]; exact hlt8
              | some u =>
                rw [hgx] at hx1
                have hx2 : Maps.has Dm (.string x.data.toList) = true := hx1.1
                clear hx1
                have GX := Lib.hid hgx; clear hgx
                go_wp2_with (at_lookup; refine wpList_lookup_own_ok_int _ rfl _ _ 40 rfl 9 2 .i64 lawStr Try.underlying40 Try.underlying2 (zeroI64 _) w.heap.size n2 Dm rfl HOM.out _ (.string x.data.toList) rfl (keyOf_string_mk Try.underlying9 hxs) ?_; intro c2 _ _)
                go_roundw
                case rel =>
                  refine ⟨_, cnt8, n2, D2, RG8.out, HD.out, ?_, by have := N2.out; omega, K8.out⟩
                  have e1 : addLeft (addL (lookV st) ([asSs l, adSs l, rdSs l].take i).flatten) Lj (fun z => left z && !z.sameKey (key x)) = addLeft (addL (lookV st) ([asSs l, adSs l, rdSs l].take i).flatten) Lj left := by
                    funext s
                    refine (ST.out s).trans ?_
                    rw [GX.out]
                    split
                    · rename_i h; rw [← h, GX.out]; rfl
                    · rfl
                  have h1 := M8.out
                  rw [← e1] at h1
                  exact h1
                case measure => rw [RG8.out.left_eq, RG.out.left_eq]; exact hlt8
        · go_wp2_with fail
          have hi2 : i = 3 := by omega
          go_ret2
          have h1 := MI.out
          rw [hi2] at h1
          refine ⟨(K3.out.then K35.out).trans KI.out (fun k hk (e : k = w.heap.size) => by omega), .inl ⟨OK.out, w.heap.size, n, rfl, ?_, Nat.le_refl _, ?_⟩⟩
          · simpa [namesL] using h1
          · rw [hi2] at hn; exact hn
end Go.Proofs.Ytoejpjnicpajlaa
