/- The walk of Mean. -/
import Derived.Test.YtoejpjnicpajlaaDoB
import Derived.Test.YtoejpjnicpajlaaVars
import Derived.Test.YtoejpjnicpajlaaCheck
import Derived.Test.YtoejpjnicpajlaaJoinF
set_option linter.unusedVariables false
namespace Go.Proofs.Ytoejpjnicpajlaa
open Go.RowKit Go.Maps Go.WideMaps Go.ChangeMaps

def MeanPost (l : List St) (st : List Vr) (m : Int) (w : World) (e : Ending) (w' : World) : Prop :=
  Kp noB w w' ∧ (
    (checkF l ≠ 0 ∧ e = .returned (.tuple #[.slice none 0 0, .int .i64 0, .int .i64 (checkF l)])) ∨
    (checkF l = 0 ∧ ¬ startOk st ∧ e = .returned (.tuple #[.slice none 0 0, .int .i64 0, .int .i64 7])) ∨
    (checkF l = 0 ∧ startOk st ∧ m < ((meanD l st).2 : Int) ∧ e = .returned (.tuple #[.slice none 0 0, .int .i64 0, .int .i64 2])) ∨
    (checkF l = 0 ∧ startOk st ∧ ((meanD l st).2 : Int) ≤ m ∧ ∃ (vl : List Vr) (a : Option Addr) (cap : Nat), e = .returned (.tuple #[.slice a vl.length cap, .int .i64 ((meanD l st).2 : Int), .int .i64 0]) ∧
      VarsOf (meanD l st).1 vl ∧ vl.length ≤ st.length + 3 * St.szs l + m.toNat ∧ RepVl w' w'.heap.size vl a vl.length cap))

set_option maxHeartbeats 4000000 in
set_option maxRecDepth 100000 in
theorem mean_any (l : List St) (st : List Vr) (a : Option Addr) (len cap : Nat) (a2 : Option Addr) (len2 cap2 : Nat) (m : Int) (B : Nat) (w : World) (hr : RepSl w B l a len cap) (hr2 : RepVl w B st a2 len2 cap2) (hB : B ≤ w.heap.size)
    (hn : St.szs l ≤ 1073741824) (hn2 : st.length ≤ 1073741824) (hm0 : 0 ≤ m) (hm : m ≤ 4294967296) :
    Calls Try.prog 4 #[.slice a len cap, .slice a2 len2 cap2, .int .i64 m] w (MeanPost l st m w) := by
  have HR := Lib.hid (And.intro hr hr2); clear hr hr2
  have HN := Lib.hid (And.intro hn hn2); clear hn hn2
  go_enter Try.func4, Try.ntmps4
  go_wp2_with fail
  refine (check_any l a len cap B w HR.out.1 hB HN.out.1).mono ?_
  rintro e w1 ⟨rfl, hk1⟩
  have ag1 : Agree B w w1 := hk1.agree hB fun _ _ h => h
  have hs1 := hk1.size
  have K1 := Lib.hid hk1; clear hk1
  have hc9 := checkF_any l
  by_cases hc0 : checkF l = 0
  · rw [hc0]
    go_wp2_with fail
    refine (begin_any l st a len cap a2 len2 cap2 B w1 (RepSl.keep ag1 (Nat.le_refl _) HR.out.1) (RepVl.keep ag1 (Nat.le_refl _) HR.out.2) (by omega) HN.out.1 HN.out.2).mono ?_
    rintro e w2 ⟨hk2, (⟨hok, mb, n, rfl, hM, hmb, hnb⟩ | ⟨hnok, rfl⟩)⟩
    · have hs2 := hk2.size
      have hmb2 := hM.lt
      have K2 := Lib.hid (K1.out.then hk2)
      have ag2 : Agree B w w2 := K2.out.agree hB fun _ _ h => h
      have MM := Lib.hid hM; clear hM hk2
      have NB := Lib.hid hnb; clear hnb
      obtain ⟨W, hW⟩ : ∃ W : World, w2.alloc (.cells #[.map (some mb), .int .i64 0, .int .i64 m] 45) = W := ⟨_, rfl⟩
      have hD : DoAt W w2.heap.size mb 0 m := by unfold DoAt; rw [← hW]; exact one_new _ _
      have hMW : MmAt W mb n (addL (lookV st) (namesL l)) := by rw [← hW]; exact MM.out.alloc _
      have hKW : Kp noB w W := by rw [← hW]; exact K2.out.alloc _
      have hsW : W.heap.size = w2.heap.size + 1 := by rw [← hW]; simp
      have hok' : okSs l = true := ((checkF_ok l).1 hc0).1
      go_wp2_with fail
      refine (blk_any l a len cap W B w2.heap.size mb n 0 m (addL (lookV st) (namesL l)) (RepSl.keep (hKW.agree hB fun _ _ h => h) (Nat.le_refl _) HR.out.1) (by omega) (by omega) (by omega) hok' hD hMW (Int.le_refl _) hm0 hm (by have := NB.out; have := HN.out; omega)).mono ?_
      rintro e w3 ⟨hk3, (⟨rfl, hS⟩ | ⟨rfl, hlt⟩)⟩
      · have hs3 := hk3.size
        have K3 : Kp noB w w3 := hKW.trans hk3 fun k hk e => by rcases e with rfl | rfl <;> omega
        have K3 := Lib.hid K3
        obtain ⟨hS1, hS2, hS3⟩ := hS
        have e0 : (0 : Int) + ((denSs l (addL (lookV st) (namesL l))).2 : Int) = ((meanD l st).2 : Int) := by simp [meanD]
        rw [e0] at hS1 hS2
        have hM3 : MmAt w3 mb (n + (meanD l st).2) (meanD l st).1 := hS3
        obtain ⟨r, hr⟩ : ∃ r, meanD l st = r := ⟨_, rfl⟩
        rw [hr] at hS1 hS2 hM3
        have CA : Calls Try.prog 11 #[.map (some mb)] w3.drew (fun e w' => ∃ (vl : List Vr) (a : Option Addr) (cap : Nat), e = .returned (.slice a vl.length cap) ∧ (VarsOf r.1 vl ∧ vl.length ≤ n + r.2 ∧ RepVl w' w'.heap.size vl a vl.length cap) ∧ Kp noB w3 w') :=
          (vars_any r.1 mb (n + r.2) w3.drew (hM3.keep ((Kp.refl noB w3).drew) id) (by have := NB.out; have := HN.out; omega)).mono fun e w' ⟨vl, a, cap, h1, h2, h3, h4, h5⟩ => ⟨vl, a, cap, h1, ⟨h2, h3, h4⟩, ((Kp.refl noB w3).drew).then h5⟩
        have CA := Lib.hid CA
        have hd0 := hS2.c0
        have hd1 := hS2.c1
        have DD := Lib.hid (And.intro hS2 hM3); clear hS2 hM3 hS3 e0 hk3 hD hMW hKW hW
        go_upto_region 12 with fail
        go_region_held3 (fun wk => wk.cell? ⟨w2.heap.size, 0, none⟩ = some (.map (some mb)) ∧ wk.cell? ⟨w2.heap.size, 1, none⟩ = some (.int .i64 (r.2 : Int)))
          (first | exact ⟨(DD.out.1.keep hk4 id).c0, (DD.out.1.keep hk4 id).c1⟩ | exact ⟨hd0, hd1⟩)
          (first | (go_at_call 11; with_reducible refine CA.out.mono ?_; rintro e' w4 ⟨vl, a4, cap4, rfl, hvv, hk4⟩))
        go_wp2_with fail
        go_ret3
        exact ⟨K3.out.then hk4, .inr (.inr (.inr ⟨hc0, hok, by rw [hr]; exact hS1, vl, a4, cap4, by rw [hr]; rfl, by rw [hr]; exact hvv.1, by have := NB.out; have := hvv.2.1; omega, hvv.2.2⟩))⟩
      · go_wp2_with fail
        go_ret3
        refine ⟨hKW.trans hk3 fun k hk e => ?_, .inr (.inr (.inl ⟨hc0, hok, ?_, rfl⟩))⟩
        · rcases e with rfl | rfl <;> omega
        · simpa [meanD] using hlt
    · go_wp2_with fail
      go_ret3
      exact ⟨K1.out.then hk2, .inr (.inl ⟨hc0, hnok, rfl⟩)⟩
  · have hc1 : (checkF l != 0) = true := by simpa using hc0
    go_wp2_with fail
    go_ret3
    exact ⟨K1.out, .inl ⟨hc0, rfl⟩⟩
end Go.Proofs.Ytoejpjnicpajlaa
