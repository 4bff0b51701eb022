/- The walks of slices.Equal at variables, wPick, wNum. -/
import Derived.Test.YtoejpjnicpajlaaMean
set_option linter.unusedVariables false
namespace Go.Proofs.Ytoejpjnicpajlaa
open Go.RowKit

def EqRel (n : Nat) (w : World) (i : Value) (wr : World) : Prop := ∃ j : Nat, i = .int .i64 j ∧ j ≤ n ∧ Kp noB w wr
def EqPost (w : World) (e : Ending) (w' : World) : Prop := e = .returned (.bool true) ∧ Kp noB w w'
set_option maxHeartbeats 1000000 in
set_option maxRecDepth 100000 in
/-- Two slices of the same variables are equal. -/
theorem equal_any (l : List Vr) (a1 a2 : Option Addr) (cap1 cap2 B : Nat) (w : World) (h1 : RepVl w B l a1 l.length cap1) (h2 : RepVl w B l a2 l.length cap2) (hB : B ≤ w.heap.size) :
    Calls Try.prog 7 #[.slice a1 l.length cap1, .slice a2 l.length cap2] w (EqPost w) := by
  have hlm : l.length ≤ 9223372036854775807 := by have := h1.1.2.1; have := h1.1.2.2.1; unfold maxLen at this; omega
  have H1 := Lib.hid h1.2; clear h1
  have H2 := Lib.hid h2.2; clear h2
  go_enter Try.func7, Try.ntmps7
  go_wp2_with fail
  go_loopw [13] (fun i wr => EqRel l.length w i wr) (fun i _ => l.length - (intOf i).toNat)
  case atStart => exact ⟨0, rfl, Nat.zero_le _, Kp.refl _ _⟩
  case round =>
    obtain ⟨j, rfl, hj, hK⟩ := hrel
    by_cases hlt : j < l.length
    · obtain ⟨v, hv⟩ : ∃ v, l[j]? = some v := ⟨l[j], List.getElem?_eq_getElem hlt⟩
      have ag : Agree B w wr := hK.agree hB fun _ _ h => h
      rcases H1.out with h0 | ⟨b1, o1, rfl, hb1, hr1⟩
      · subst h0; simp at hlt
      rcases H2.out with h0 | ⟨b2, o2, rfl, hb2, hr2⟩
      · subst h0; simp at hlt
      obtain ⟨g0, g1, hs, hi⟩ := (hr1.keep ag l b1 o1 hb1).get l b1 o1 j v hv
      obtain ⟨i0, i1, -, -⟩ := (hr2.keep ag l b2 o2 hb2).get l b2 o2 j v hv
      clear hr1 hr2 hv ag
      obtain ⟨nm, q⟩ := v
      simp only at g0 g1 i0 i1
      go_wp2_with fail
      go_quiet (fail)
      go_wp2_with fail
      go_roundw
      case rel => exact ⟨j + 1, by go_num, by omega, hK.drewN _⟩
      case measure => simp [intOf]; omega
    · have hge : l.length ≤ j := by omega
      go_wp2_with fail
      go_ret
      exact ⟨rfl, hK⟩

def PickPost (n : Nat) (w : World) (e : Ending) (w' : World) : Prop := (∃ k : Nat, k < n ∧ e = .returned (.int .i64 k)) ∧ w' = w
set_option maxHeartbeats 1000000 in
theorem pick_any (x : Int) (n : Nat) (w : World) (hx : I64 x) (hn : 0 < n) (hn2 : n ≤ 4611686018427387904) : Calls Try.prog 6 #[.int .i64 x, .int .i64 n] w (PickPost n w) := by
  go_enter Try.func6, Try.ntmps6
  go_wp2_with fail
  have h0 : 0 ≤ IntKind.u64.wrap x := by rw [IntKind.wrap_u64]; omega
  go_ret
  have e1 : (IntKind.u64.wrap x).tmod (n : Int) = IntKind.u64.wrap x % (n : Int) := Int.tmod_eq_emod_of_nonneg h0
  have b0 : 0 ≤ IntKind.u64.wrap x % (n : Int) := Int.emod_nonneg _ (by omega)
  have b1 : IntKind.u64.wrap x % (n : Int) < n := Int.emod_lt_of_pos _ (by omega)
  refine ⟨⟨(IntKind.u64.wrap x % (n : Int)).toNat, by omega, ?_⟩, rfl⟩
  rw [e1, Int.toNat_of_nonneg b0]
  have e2 : wrap64 (IntKind.u64.wrap x % (n : Int)) = IntKind.u64.wrap x % (n : Int) := by
    generalize IntKind.u64.wrap x % (n : Int) = z at b0 b1
    unfold wrap64
    omega
  rw [e2]
  rfl
def numE (n : Int) : Ex := .mk 1 n ⟨#[]⟩ []
def NumPost (n : Int) (w : World) (e : Ending) (w' : World) : Prop := e = .returned (.agg #[.int .i64 1, .int .i64 n, .string ⟨#[]⟩, .slice none 0 0]) ∧ Kp noB w w'
set_option maxHeartbeats 1000000 in
theorem num_any (n : Int) (w : World) : Calls Try.prog 5 #[.int .i64 n] w (NumPost n w) := by
  go_enter Try.func5, Try.ntmps5
  go_wp2_with fail
  exact bodyPost_ret (v := .agg #[.int .i64 1, .int .i64 n, .string ⟨#[]⟩, .slice none 0 0]) (by simp [results, Try.results5, go_sem]) rfl ⟨rfl, (Kp.refl _ w).alloc _⟩
end Go.Proofs.Ytoejpjnicpajlaa
