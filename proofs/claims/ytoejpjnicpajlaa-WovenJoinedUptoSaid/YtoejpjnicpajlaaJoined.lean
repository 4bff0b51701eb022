/- The walk of WovenJoined. -/
import Derived.Test.YtoejpjnicpajlaaPick
set_option linter.unusedVariables false
namespace Go.Proofs.Ytoejpjnicpajlaa
open Go.RowKit

def nameX : ByteArray := ⟨#[120]⟩
/-- x = 7 -/
def testP : List St := [.mk 1 nameX (numE 7) 0 []]
theorem nameX_ok : isName nameX = true := by simp [isName, isWord, toList_eq, nameX, lower, ByteArray.size]
theorem testP_check : checkF testP = 0 := by
  refine (checkF_ok _).2 ⟨?_, ?_⟩
  · simp [wf, testP, okSs, okS, nodeS, nameX_ok, noneE, numE, okE, okEs, okSb, nodeE]
    rfl
  · simp [small, testP, cntSs, cntS, cntSb, hasE, numE, Ex.sz, Ex.szs, dpSs, dpS, dpSb, dpE, dpEs]
    omega
theorem testP_sz : St.szs testP = 2 := by decide
theorem testP_ok : startOk [] := ⟨by simp, by simp⟩
theorem testP_mean : (meanD testP []).2 = 1 := by simp [meanD, testP, denSs, denS_1]
theorem testP_vars : VarsOf (meanD testP []).1 [(nameX, 7)] := by
  have hf : (meanD testP []).1 = setV (addL (lookV []) (namesL testP)) nameX 7 := by
    have h1 : meanD testP [] = denSs testP (addL (lookV []) (namesL testP)) := rfl
    rw [h1]
    simp only [testP, denSs, denS_1, numE, evE, if_true]
  have hn : namesL testP = [nameX] := by simp [namesL, testP, asSs, asS, asSb, adSs, adS, adSb, rdSs, rdS, rdSb, numE, rdE, rdEs]
  refine ⟨[[120]], by simp, fun x => ?_, ?_⟩
  · rw [hf, hn]
    by_cases h : nameX = mkB x
    · have h2 : x = [120] := by rw [← mkB_list x, ← h]; rfl
      rw [← h, setV_same]
      simp [h2]
    · have h2 : ¬ x = [120] := fun e => h (by rw [e]; rfl)
      rw [setV_other _ _ h]
      have h3 : mkB x ∉ [nameX] := by simp only [List.mem_singleton]; exact fun e => h e.symm
      have h4 : addL (lookV []) [nameX] (mkB x) = none := (addL_none _ _ _).2 ⟨by simp [lookV], h3⟩
      rw [h4]
      simp [h2]
  · have h1 : mkB [120] = nameX := rfl
    simp only [List.mergeSort_singleton, List.map_cons, List.map_nil, h1, hf]
    unfold val
    rw [setV_same]
    rfl
theorem testP_rep (w : World) (b B : Nat) (hb : b < B) (hc : ∀ j u, [Value.int .i64 1, .string nameX, .int .i64 1, .int .i64 7, .string ⟨#[]⟩, .slice none 0 0, .int .i64 0, .slice none 0 0][j]? = some u → w.cell? ⟨b, j, none⟩ = some u) : RepSl w B testP (some ⟨b, 0, none⟩) 1 1 := by
  refine ⟨⟨rfl, Nat.le_refl _, by unfold maxLen; decide, by simp⟩, .inr ⟨b, 0, rfl, hb, ?_⟩⟩
  simp only [testP, RepSs]
  refine ⟨⟨_, _, _, _, _, _, _, _, hc 0 _ rfl, hc 1 _ rfl, hc 2 _ rfl, hc 3 _ rfl, hc 4 _ rfl, hc 5 _ rfl, hc 6 _ rfl, hc 7 _ rfl, ?_⟩, trivial⟩
  simp only [RepS]
  refine ⟨_, _, _, _, none, 0, 0, rfl, ?_, by unfold I64; omega, by unfold I64; omega, by unfold maxLen; decide, ⟨rfl, Nat.le_refl _, Nat.zero_le _, fun _ => rfl⟩, .inl trivial⟩
  simp only [numE, RepE]
  exact ⟨none, 0, 0, rfl, by unfold I64; omega, by unfold I64; omega, by unfold maxLen; decide, ⟨rfl, Nat.le_refl _, Nat.zero_le _, fun _ => rfl⟩, .inl trivial⟩

theorem cell_new (W : World) (xs : List Value) (T : TypeId) (j : Nat) (u : Value) (h : xs[j]? = some u) : (W.alloc (.cells xs.toArray T)).cell? ⟨W.heap.size, j, none⟩ = some u := by
  unfold World.cell?
  rw [one_new]
  simpa using h
def TestPost (w : World) (e : Ending) (w' : World) : Prop := ∃ (b o cap : Nat), e = .returned (.tuple #[.slice (some ⟨b, o, none⟩) 1 cap, .int .i64 1, .int .i64 0]) ∧ w'.cell? ⟨b, o + 1, none⟩ = some (.int .i64 7) ∧ Kp noB w w'
theorem test_any (b : Nat) (w : World) (hb : b < w.heap.size) (hr : RepSl w w.heap.size testP (some ⟨b, 0, none⟩) 1 1) :
    Calls Try.prog 4 #[.slice (some ⟨b, 0, none⟩) 1 1, .slice none 0 0, .int .i64 1] w (TestPost w) := by
  refine (mean_any testP [] (some ⟨b, 0, none⟩) 1 1 none 0 0 1 w.heap.size w hr ⟨⟨rfl, Nat.le_refl _, Nat.zero_le _, fun _ => rfl⟩, .inl rfl⟩ (Nat.le_refl _) (by rw [testP_sz]; omega) (by simp) (by omega) (by omega)).mono ?_
  rintro e w' ⟨hk, h⟩
  rcases h with ⟨h, -⟩ | ⟨-, h, -⟩ | ⟨-, -, h, -⟩ | ⟨-, -, -, vl, a, cap, rfl, hv, -, hvr⟩
  · exact absurd testP_check h
  · exact absurd testP_ok h
  · rw [testP_mean] at h; omega
  · have hvl := hv.unique testP_vars
    subst hvl
    rw [testP_mean]
    rcases hvr.2 with h0 | ⟨b', o', rfl, hb', hrv⟩
    · cases h0
    exact ⟨b', o', cap, rfl, hrv.2.1, hk⟩
theorem RepSs.take {w : World} {B : Nat} : ∀ (l : List St) (b o k : Nat), RepSs w B l b o → RepSs w B (l.take k) b o
  | _, _, _, 0, _ => by simp [RepSs]
  | [], _, _, k + 1, _ => by simp [RepSs]
  | s :: l, b, o, k + 1, h => by
    simp only [List.take_succ_cons, RepSs] at h ⊢
    exact ⟨h.1, RepSs.take l b (o + 8) k h.2⟩
theorem RepSs.drop {w : World} {B : Nat} : ∀ (l : List St) (b o k : Nat), RepSs w B l b o → RepSs w B (l.drop k) b (o + k * 8)
  | _, _, _, 0, h => by simpa using h
  | [], _, _, k + 1, _ => by simp [RepSs]
  | s :: l, b, o, k + 1, h => by
    simp only [List.drop_succ_cons]
    simp only [RepSs] at h
    have := RepSs.drop l b (o + 8) k h.2
    rw [show o + 8 + k * 8 = o + (k + 1) * 8 by omega] at this
    exact this
theorem RepSl.take {w : World} {B : Nat} {l : List St} {a : Option Addr} {len cap k : Nat} (h : RepSl w B l a len cap) (hk : k ≤ len) : RepSl w B (l.take k) a k cap := by
  have hl := h.1.1
  have hc := h.1.2.1
  refine ⟨⟨by rw [List.length_take]; omega, by omega, h.1.2.2.1, h.1.2.2.2⟩, ?_⟩
  rcases h.2 with h0 | ⟨b, o, ha, hb, hr⟩
  · left; rw [h0]; simp
  · exact .inr ⟨b, o, ha, hb, RepSs.take l b o k hr⟩
theorem RepSl.drop {w : World} {B : Nat} {l : List St} {addr : Addr} {len cap k : Nat} (h : RepSl w B l (some addr) len cap) (hk : k ≤ len) : RepSl w B (l.drop k) (some (addr.add (k * 8))) (len - k) (cap - k) := by
  have hl := h.1.1
  have hc := h.1.2.1
  have hm := h.1.2.2.1
  refine ⟨⟨by rw [List.length_drop]; omega, by omega, by omega, by simp⟩, ?_⟩
  rcases h.2 with h0 | ⟨b, o, ha, hb, hr⟩
  · left; rw [h0]; simp
  · cases ha
    exact .inr ⟨b, o + k * 8, by rw [add_lit], hb, RepSs.drop l b o k hr⟩
/-- One statement more than fits: nothing. -/
theorem RepSl.nothing {w : World} {B : Nat} {l : List St} {a : Option Addr} {len cap k : Nat} (h : RepSl w B l a len cap) (hk : k = cap) (hl : k ≤ len) : RepSl w B (l.drop k) a (len - k) 0 := by
  have h1 := h.1.1
  have h2 := h.1.2.1
  have h3 : l.drop k = [] := List.drop_eq_nil_of_le (by omega)
  rw [h3]
  exact ⟨⟨by simp; omega, by omega, Nat.zero_le _, fun _ => rfl⟩, .inl rfl⟩
theorem szs_parts (l : List St) (k : Nat) : St.szs (l.take k) + St.szs (l.drop k) = St.szs l := by
  rw [← St.szs_append, List.take_append_drop]
def Part2 (l : List St) (st : List Vr) (w : World) (e : Ending) (w' : World) : Prop :=
  ∃ (al : List Vr) (a6 : Option Addr) (cap6 m1 : Nat), e = .returned (.tuple #[.slice a6 al.length cap6, .int .i64 m1, .int .i64 0]) ∧ (VarsOf (meanD l st).1 al ∧ al.length ≤ 1073741824 ∧ RepVl w' w'.heap.size al a6 al.length cap6 ∧ m1 = (meanD l st).2 ∧ m1 ≤ 2000) ∧ Kp noB w w'
/-- The first part is well, and does not need more steps than the whole. -/
theorem part2 (l : List St) (st : List Vr) (k : Nat) (a5 : Option Addr) (len5 cap5 : Nat) (a2 : Option Addr) (len2 cap2 : Nat) (B : Nat) (w : World) (hr : RepSl w B (l.take k) a5 len5 cap5) (hr2 : RepVl w B st a2 len2 cap2) (hB : B ≤ w.heap.size)
    (hn : St.szs l ≤ 134217728) (hn2 : st.length ≤ 134217728) (hc : checkF l = 0) (hok : startOk st) (hle : (meanD l st).2 ≤ 2000) :
    Calls Try.prog 4 #[.slice a5 len5 cap5, .slice a2 len2 cap2, .int .i64 2000] w (Part2 (l.take k) st w) := by
  have hsz := szs_parts l k
  have hch : checkF (l.take k) = 0 := (checkF_part (r := l.drop k) (by rw [List.take_append_drop]; exact hc)).1
  refine (mean_any (l.take k) st a5 len5 cap5 a2 len2 cap2 2000 B w hr hr2 hB (by omega) (by omega) (by omega) (by omega)).mono ?_
  rintro e w' ⟨hk, h⟩
  rcases h with ⟨h, -⟩ | ⟨-, h, -⟩ | ⟨-, -, h, -⟩ | ⟨-, -, h, vl, a, cap, rfl, hv, hvn, hvr⟩
  · exact absurd hch h
  · exact absurd hok h
  · exfalso
    have := meanD_take l st k
    omega
  · exact ⟨vl, a, cap, _, rfl, ⟨hv, by have : Int.toNat 2000 = 2000 := rfl; omega, hvr, rfl, by omega⟩, hk⟩
def Part3 (vl : List Vr) (N m1 : Nat) (w : World) (e : Ending) (w' : World) : Prop :=
  ∃ (a8 : Option Addr) (cap8 o : Nat), e = .returned (.tuple #[.slice a8 vl.length cap8, .int .i64 o, .int .i64 0]) ∧ (RepVl w' w'.heap.size vl a8 vl.length cap8 ∧ N = m1 + o ∧ o ≤ 2000) ∧ Kp noB w w'
/-- The second part, begun with what the first one means, gives what the whole means. -/
theorem part3 (l : List St) (st vl al : List Vr) (k : Nat) (a7 : Option Addr) (len7 cap7 : Nat) (a6 : Option Addr) (cap6 : Nat) (w : World) (hr : RepSl w w.heap.size (l.drop k) a7 len7 cap7) (hr2 : RepVl w w.heap.size al a6 al.length cap6)
    (hn : St.szs l ≤ 134217728) (hn2 : al.length ≤ 1073741824) (hc : checkF l = 0) (hok : startOk st) (hle : (meanD l st).2 ≤ 2000) (hvl : VarsOf (meanD l st).1 vl) (hal : VarsOf (meanD (l.take k) st).1 al) :
    Calls Try.prog 4 #[.slice a7 len7 cap7, .slice a6 al.length cap6, .int .i64 2000] w (Part3 vl (meanD l st).2 (meanD (l.take k) st).2 w) := by
  have hsz := szs_parts l k
  have hch := checkF_part (l := l.take k) (r := l.drop k) (by rw [List.take_append_drop]; exact hc)
  have hst : startOk al := meanD_start ((checkF_ok _).1 hch.1).1 hok hal
  have h2 := meanD_join (l.take k) (l.drop k) st al hal
  rw [List.take_append_drop] at h2
  rw [h2] at hle hvl
  simp only at hle hvl
  refine (mean_any (l.drop k) al a7 len7 cap7 a6 al.length cap6 2000 w.heap.size w hr hr2 (Nat.le_refl _) (by omega) (by omega) (by omega) (by omega)).mono ?_
  rintro e w' ⟨hk, h⟩
  rcases h with ⟨h, -⟩ | ⟨-, h, -⟩ | ⟨-, -, h, -⟩ | ⟨-, -, h, vl', a, cap, rfl, hv, hvn, hvr⟩
  · exact absurd hch.2 h
  · exact absurd hst h
  · omega
  · have he := hv.unique hvl
    subst he
    exact ⟨a, cap, _, rfl, ⟨hvr, by rw [h2], by omega⟩, hk⟩
def TruePost (w : World) (e : Ending) (w' : World) : Prop := e = .returned (.bool true) ∧ Kp noB w w'
set_option maxHeartbeats 4000000 in
set_option maxRecDepth 100000 in
theorem joined_any (l : List St) (st : List Vr) (a : Option Addr) (len cap : Nat) (a2 : Option Addr) (len2 cap2 : Nat) (at_ : Int) (B : Nat) (w : World) (hr : RepSl w B l a len cap) (hr2 : RepVl w B st a2 len2 cap2) (hB : B ≤ w.heap.size)
    (hn : St.szs l ≤ 134217728) (hn2 : st.length ≤ 134217728) (hat : I64 at_) :
    Calls Try.prog 3 #[.slice a len cap, .slice a2 len2 cap2, .int .i64 at_] w (TruePost w) := by
  have HR := Lib.hid (And.intro hr hr2)
  have HN := Lib.hid (And.intro hn hn2); clear hn hn2
  have hlm : len ≤ 4611686018427387903 := by have := hr.1.1; have := St.len_le_szs l; have := HN.out; omega
  clear hr hr2
  have HA := Lib.hid hat; clear hat
  go_enter Try.func3, Try.ntmps3
  go_wp2_with fail
  refine (num_any 7 w).mono ?_
  rintro e w1 ⟨rfl, hk1⟩
  go_wp2_with fail
  obtain ⟨W, hW⟩ : ∃ W : World, w1.alloc (.cells #[.int .i64 1, .string ⟨#[120]⟩, .int .i64 1, .int .i64 7, .string ⟨#[]⟩, .slice none 0 0, .int .i64 0, .slice none 0 0] 33) = W := ⟨_, rfl⟩
  have hWs : W.heap.size = w1.heap.size + 1 := by rw [← hW]; simp
  have hkW : Kp noB w W := by rw [← hW]; exact hk1.alloc _
  have hrt : RepSl W W.heap.size testP (some ⟨w1.heap.size, 0, none⟩) 1 1 := by
    refine testP_rep W _ _ (by omega) fun j u hj => ?_
    rw [← hW]
    exact cell_new w1 _ _ j u hj
  rw [hW]
  refine (test_any w1.heap.size W (by omega) hrt).mono ?_
  rintro e w2 ⟨b0, o0, cap0, rfl, hc7, hk2⟩
  have K2 := Lib.hid (hkW.then hk2)
  clear hkW hk2 hrt hW hWs hk1
  go_wp2_with fail
  have hP : Calls Try.prog 6 #[.int .i64 at_, .int .i64 ((len : Int) + 1)] w2 (PickPost (len + 1) w2) := by
    have h := pick_any at_ (len + 1) w2 HA.out (by omega) (by omega)
    rw [show ((len + 1 : Nat) : Int) = (len : Int) + 1 by omega] at h
    exact h
  refine hP.mono ?_
  rintro e w3 ⟨⟨k, hk, rfl⟩, rfl⟩
  clear hP hc7
  go_wp2_with fail
  have ag3 : Agree B w w3 := K2.out.agree hB fun _ _ h => h
  have hs3 := K2.out.size
  refine (mean_any l st a len cap a2 len2 cap2 2000 B w3 (RepSl.keep ag3 (Nat.le_refl _) HR.out.1) (RepVl.keep ag3 (Nat.le_refl _) HR.out.2) (by omega) (by have := HN.out; omega) (by have := HN.out; omega) (by omega) (by omega)).mono ?_
  rintro e w4 ⟨hk4, h4⟩
  have K4 := Lib.hid (K2.out.then hk4)
  rcases h4 with ⟨hc, rfl⟩ | ⟨-, -, rfl⟩ | ⟨-, -, -, rfl⟩ | ⟨hc, hok, hle, vl, a4, cap4, rfl, hvo, hvn, hvr⟩
  · have hc1 : (checkF l != 0) = true := by simpa using hc
    go_wp2_with fail
    go_ret
    exact ⟨rfl, K4.out⟩
  · go_wp2_with fail
    go_ret
    exact ⟨rfl, K4.out⟩
  · go_wp2_with fail
    go_ret
    exact ⟨rfl, K4.out⟩
  · have ag4 : Agree B w w4 := K4.out.agree hB fun _ _ h => h
    have hs4 := K4.out.size
    have hr4 := RepSl.keep ag4 (Nat.le_refl _) HR.out.1
    have hkl : k ≤ len := by omega
    have hcl : len ≤ cap := hr4.1.2.1
    have hcm : cap ≤ 9223372036854775807 := by have := hr4.1.2.2.1; unfold maxLen at this; omega
    have hvlm : vl.length ≤ 9223372036854775807 := by have := HN.out; omega
    obtain ⟨N, hN⟩ : ∃ N, (meanD l st).2 = N := ⟨_, rfl⟩
    rw [hN] at hle
    have RR := Lib.hid (And.intro hr4 (RepVl.keep ag4 (Nat.le_refl _) HR.out.2)); clear hr4 ag4
    have VV := Lib.hid (And.intro hvo (And.intro hvn hvr)); clear hvo hvn hvr
    have CK := Lib.hid (And.intro hc (And.intro hok hN)); clear hc hok
    rw [hN]
    clear hN ag3 hs3 hk4
    have hN2 : N ≤ 2000 := by omega
    rcases a with _ | addr
    · have hcap : cap = 0 := RR.out.1.1.2.2.2 rfl
      subst hcap
      obtain rfl : len = 0 := by omega
      obtain rfl : k = 0 := by omega
      have hr5n := RR.out.1.take (Nat.le_refl 0)
      go_wp2_with fail
      refine (part2 l st 0 none 0 0 a2 len2 cap2 B w4 hr5n RR.out.2 (by omega) HN.out.1 HN.out.2 CK.out.1 CK.out.2.1 (by rw [CK.out.2.2]; exact hN2)).mono ?_
      rintro e w5 ⟨al, a6, cap6, m1, rfl, h5, hk5⟩
      have hm1 : m1 ≤ 2000 := h5.2.2.2.2
      have P5 := Lib.hid h5; clear h5
      have K5 := Lib.hid hk5; clear hk5
      have hr5 := RepSl.keep (K5.out.agree (by omega : B ≤ w4.heap.size) fun _ _ h => h) (Nat.le_refl B) RR.out.1
      have hs5 := K5.out.size
      have hc3 := part3 l st vl al 0 none 0 0 a6 cap6 w5 ((hr5.nothing rfl (Nat.le_refl 0)).keep (Agree.refl _ _) (by omega)) P5.out.2.2.1 HN.out.1 P5.out.2.1 CK.out.1 CK.out.2.1 (by rw [CK.out.2.2]; exact hN2) VV.out.1 P5.out.1
      have C3 := Lib.hid hc3; clear hc3 hr5
      go_wp2_with fail
      refine C3.out.mono ?_
      rintro e w6 ⟨a8, cap8, o, rfl, ⟨hr6, hNo, ho⟩, hk6⟩
      have K6 := Lib.hid (K5.out.then hk6)
      have hno : N = m1 + o := by have h1 := CK.out.2.2; have h2 := P5.out.2.2.2.1; omega
      have hb : ((N : Int) == (m1 : Int) + (o : Int)) = true := by simp; omega
      have E6 := Lib.hid (equal_any vl a8 a4 cap8 cap4 w6.heap.size w6 hr6 (VV.out.2.2.keep (K6.out.agree_no) K6.out.size) (Nat.le_refl _))
      clear hr6 hNo hk6 hno
      go_wp2_with fail
      refine E6.out.mono ?_
      rintro e w7 ⟨rfl, hk7⟩
      go_wp2_with fail
      go_ret
      exact ⟨rfl, (K4.out.then K6.out).then hk7⟩
    · go_wp2_with fail
      refine (part2 l st k (some addr) k cap a2 len2 cap2 B w4 (RR.out.1.take hkl) RR.out.2 (by omega) HN.out.1 HN.out.2 CK.out.1 CK.out.2.1 (by rw [CK.out.2.2]; exact hN2)).mono ?_
      rintro e w5 ⟨al, a6, cap6, m1, rfl, h5, hk5⟩
      have hm1 : m1 ≤ 2000 := h5.2.2.2.2
      have P5 := Lib.hid h5; clear h5
      have K5 := Lib.hid hk5; clear hk5
      have hr5 := RepSl.keep (K5.out.agree (by omega : B ≤ w4.heap.size) fun _ _ h => h) (Nat.le_refl B) RR.out.1
      have hs5 := K5.out.size
      have hP3 : ∀ (a7 : Option Addr) (cap7 : Nat), RepSl w5 B (l.drop k) a7 (len - k) cap7 → Calls Try.prog 4 #[.slice a7 (len - k) cap7, .slice a6 al.length cap6, .int .i64 2000] w5 (Part3 vl (meanD l st).2 (meanD (l.take k) st).2 w5) := fun a7 cap7 h =>
        part3 l st vl al k a7 (len - k) cap7 a6 cap6 w5 (h.keep (Agree.refl _ _) (by omega)) P5.out.2.2.1 HN.out.1 P5.out.2.1 CK.out.1 CK.out.2.1 (by rw [CK.out.2.2]; exact hN2) VV.out.1 P5.out.1
      have hP3 := Lib.hid hP3
      have R5 := Lib.hid hr5; clear hr5
      by_cases hkc : k = cap
      · have hc3 := hP3.out (some addr) 0 (R5.out.nothing hkc hkl)
        rw [show len - k = 0 by omega] at hc3
        have C3 := Lib.hid hc3; clear hc3
        go_wp2_with fail
        refine C3.out.mono ?_
        rintro e w6 ⟨a8, cap8, o, rfl, ⟨hr6, hNo, ho⟩, hk6⟩
        have K6 := Lib.hid (K5.out.then hk6)
        have hno : N = m1 + o := by have h1 := CK.out.2.2; have h2 := P5.out.2.2.2.1; omega
        have hb : ((N : Int) == (m1 : Int) + (o : Int)) = true := by simp; omega
        have E6 := Lib.hid (equal_any vl a8 a4 cap8 cap4 w6.heap.size w6 hr6 (VV.out.2.2.keep (K6.out.agree_no) K6.out.size) (Nat.le_refl _))
        clear hr6 hNo hk6 hno
        go_wp2_with fail
        refine E6.out.mono ?_
        rintro e w7 ⟨rfl, hk7⟩
        go_wp2_with fail
        go_ret
        exact ⟨rfl, (K4.out.then K6.out).then hk7⟩
      · have C3 := Lib.hid (hP3.out _ _ (R5.out.drop hkl))
        go_wp2_with fail
        refine C3.out.mono ?_
        rintro e w6 ⟨a8, cap8, o, rfl, ⟨hr6, hNo, ho⟩, hk6⟩
        have K6 := Lib.hid (K5.out.then hk6)
        have hno : N = m1 + o := by have h1 := CK.out.2.2; have h2 := P5.out.2.2.2.1; omega
        have hb : ((N : Int) == (m1 : Int) + (o : Int)) = true := by simp; omega
        have E6 := Lib.hid (equal_any vl a8 a4 cap8 cap4 w6.heap.size w6 hr6 (VV.out.2.2.keep (K6.out.agree_no) K6.out.size) (Nat.le_refl _))
        clear hr6 hNo hk6 hno
        go_wp2_with fail
        refine E6.out.mono ?_
        rintro e w7 ⟨rfl, hk7⟩
        go_wp2_with fail
        go_ret
        exact ⟨rfl, (K4.out.then K6.out).then hk7⟩
end Go.Proofs.Ytoejpjnicpajlaa
