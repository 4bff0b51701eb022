/- The walk of Check: it answers what the plain function says. -/
import Derived.Test.YtoejpjnicpajlaaShallowB
namespace Go.Proofs.Ytoejpjnicpajlaa
open Go.RowKit

def CheckPost (l : List St) (w : World) (e : Ending) (w' : World) : Prop := e = .returned (.int .i64 (checkF l)) ∧ Kp noB w w'

set_option maxHeartbeats 2000000 in
set_option maxRecDepth 100000 in
theorem check_any (l : List St) (a : Option Addr) (len cap B : Nat) (w : World) (hr : RepSl w B l a len cap) (hB : B ≤ w.heap.size) (hn : St.szs l ≤ 1073741824) :
    Calls Try.prog 8 #[.slice a len cap] w (CheckPost l w) := by
  have HN := Lib.hid hn; clear hn
  have HR := Lib.hid hr; clear hr
  have BK := Lib.hid (block_any (St.szs l))
  go_enter Try.func8, Try.ntmps8
  go_wp2_with fail
  refine (BK.out l a len cap (w.alloc _) B w.heap.size 0 0 1 (Nat.le_refl _) (HR.out.keep ((Kp.refl noB w).alloc _ |>.agree (by omega) fun _ _ h => h) (Nat.le_refl _)) hB (by unfold SzAt; rw [heap_alloc_new]) (by omega) (by have := HN.out; omega) (by omega) (by omega) (by omega)).mono ?_
  rintro e w1 ⟨rfl, hk, n, d, hz, hc⟩
  have K1 := Lib.hid (((Kp.refl noB w).alloc _).trans hk (fun b hb (h : b = w.heap.size) => by omega))
  have hks := K1.out.size
  have C := Lib.hid hc
  have z0 := hz.c0
  have z1 := hz.c1
  have Z := Lib.hid hz
  have hzl := hz.lt
  clear hk hz
  cases hb : okSTs l 1
  · rw [hb] at hc
    clear hc
    go_wp2_with fail
    go_ret
    exact ⟨ret_int (by simp [checkF, hb]), K1.out⟩
  · rw [hb] at hc
    obtain ⟨hn, hd⟩ := hc rfl
    clear hc
    have E := Lib.hid (And.intro hn hd); clear hn hd
    go_wp2_with fail
    refine (shallow_any l a len cap B w1 (HR.out.keep (K1.out.agree hB fun _ _ h => h) (Nat.le_refl _)) (by omega) HN.out).mono ?_
    rintro e w2 ⟨rfl, hk2⟩
    have K2 := Lib.hid (K1.out.then hk2)
    have y0 : w2.cell? ⟨w.heap.size, 0, none⟩ = some (.int .i64 n) := (hk2.cell hzl id).trans z0
    have y1 : w2.cell? ⟨w.heap.size, 1, none⟩ = some (.int .i64 d) := (hk2.cell hzl id).trans z1
    clear hk2
    cases hs : okSs l
    · go_wp2_with fail
      go_ret
      exact ⟨ret_int (by simp [checkF, hb, hs]), K2.out⟩
    · by_cases h1 : 1000 < n
      · go_wp2_with fail
        go_ret
        have h2 := E.out.1
        have h3 : 1000 < cntSTs l 1 := by omega
        exact ⟨ret_int (by simp [checkF, hb, hs, h3]), K2.out⟩
      · by_cases h5 : 50 < d
        · go_wp2_with fail
          go_ret
          have h2 := E.out.2
          have h3 : 50 < dpSTs l 1 := by omega
          exact ⟨ret_int (by simp [checkF, hb, hs, h3]), K2.out⟩
        · go_wp2_with fail
          go_ret
          obtain ⟨h2, h4⟩ := E.out
          have h3 : ¬ 50 < dpSTs l 1 := by omega
          have h6 : ¬ 1000 < cntSTs l 1 := by omega
          exact ⟨ret_int (by simp only [checkF, hb, hs, h3, h6]; simp), K2.out⟩
end Go.Proofs.Ytoejpjnicpajlaa
