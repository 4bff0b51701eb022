/- The walks of word and IsName: what they answer of any string. -/
import Derived.Test.YtoejpjnicpajlaaRows
import Derived.Test.YtoejpjnicpajlaaCheckF
import Derived.Lib.Hide
import Derived.Lib.OthersKept
namespace Go.Proofs.Ytoejpjnicpajlaa
open Go.RowKit

theorem ret_bool {a b : Bool} (h : a = b) : Ending.returned (.bool a) = .returned (.bool b) := by rw [h]
theorem ret_int {k : IntKind} {a b : Int} (h : a = b) : Ending.returned (.int k a) = .returned (.int k b) := by rw [h]

set_option maxHeartbeats 1000000 in
theorem word_any (s : ByteArray) (w : World) : Calls Try.prog 24 #[.string s] w fun e w' => e = .returned (.bool (isWord s)) ∧ w = w' := by
  go_enter Try.func24, Try.ntmps24
  go_wp2
  all_goals go_ret
  all_goals (refine ⟨ret_bool ?_, rfl⟩; simp_all [isWord])

theorem dec_lower (s : ByteArray) (pos : Nat) (h : pos < s.size) : (97 ≤ ((Utf8.decode s pos).1 : Int) ∧ ((Utf8.decode s pos).1 : Int) ≤ 122 → lower (s[pos]'h) = true ∧ (Utf8.decode s pos).2 = 1) ∧ (¬ (97 ≤ ((Utf8.decode s pos).1 : Int) ∧ ((Utf8.decode s pos).1 : Int) ≤ 122) → lower (s[pos]'h) = false) ∧ 1 ≤ (Utf8.decode s pos).2 := by
  by_cases ha : (s[pos]'h).toNat < 128
  · rw [decode_ascii s pos h ha]
    refine ⟨fun ⟨h1, h2⟩ => ⟨?_, rfl⟩, fun hn => ?_, Nat.le_refl _⟩
    · simp only [lower, Bool.and_eq_true, decide_eq_true_eq]; simp only at h1 h2; omega
    · simp only [lower, Bool.and_eq_false_iff, decide_eq_false_iff_not]; simp only at hn; omega
  · have := decode_high s pos h (by omega)
    refine ⟨fun ⟨h1, h2⟩ => by omega, fun hn => ?_, this.2⟩
    simp only [lower, Bool.and_eq_false_iff, decide_eq_false_iff_not]; omega

/-- The bytes up to a place are small letters. -/
def lowTo (s : ByteArray) (pos : Nat) : Prop := ∀ j, (h : j < s.size) → j < pos → lower (s[j]'h) = true
theorem lowTo_all (s : ByteArray) (pos : Nat) (h : lowTo s pos) (hp : s.size ≤ pos) : s.data.toList.all lower = true := by
  rw [List.all_eq_true]
  intro x hx
  obtain ⟨j, hj, rfl⟩ := List.getElem_of_mem hx
  have hj' : j < s.size := by simpa using hj
  have e : s.data.toList[j]'hj = s[j]'hj' := by simp; rfl
  rw [e]
  exact h j hj' (by omega)
theorem low_not (s : ByteArray) (pos : Nat) (h : pos < s.size) (hl : lower (s[pos]'h) = false) : s.data.toList.all lower = false := by
  rw [List.all_eq_false]
  refine ⟨s[pos]'h, ?_, by simp [hl]⟩
  have : s[pos]'h = s.data.toList[pos]'(by simpa using h) := by simp; rfl
  rw [this]
  exact List.getElem_mem _

def IsNamePost (s : ByteArray) (w : World) (e : Ending) (w' : World) : Prop := e = .returned (.bool (isName s)) ∧ Below w.heap.size w w'
set_option maxHeartbeats 1000000 in
theorem isName_any (s : ByteArray) (w : World) (hs : s.size ≤ maxLen) : Calls Try.prog 14 #[.string s] w (IsNamePost s w) := by
  unfold maxLen at hs
  by_cases h1 : s.size < 1
  · go_enter Try.func14, Try.ntmps14
    go_wp2_with (go_at_call 24; refine (word_any _ _).mono ?_; rintro e w' ⟨rfl, rfl⟩)
    all_goals go_ret
    all_goals exact ⟨ret_bool (by simp [isName]; omega), Below.refl _ _⟩
  by_cases h8 : 8 < s.size
  · go_enter Try.func14, Try.ntmps14
    go_wp2_with (go_at_call 24; refine (word_any _ _).mono ?_; rintro e w' ⟨rfl, rfl⟩)
    all_goals go_ret
    all_goals exact ⟨ret_bool (by simp [isName]; omega), Below.refl _ _⟩
  cases hw : isWord s
  · go_enter Try.func14, Try.ntmps14
    go_wp2_with (go_at_call 24; refine (word_any _ _).mono ?_; rintro e w' ⟨rfl, rfl⟩)
    go_loopw [4] (fun _ wr => ∃ pos : Nat, wr = w.iter s pos ∧ lowTo s pos) (fun _ wr => s.size - wr.iterPos w.heap.size)
    case atStart => exact ⟨0, rfl, fun j _ hj => by omega⟩
    case round =>
      obtain ⟨pos, rfl, hlow⟩ := hrel
      by_cases hp : pos < s.size
      · have hnx : ∀ ty, (Instr.next (.pointer (some ⟨w.heap.size, 0, none⟩)) true ty).run Try.prog (w.iter s pos) = _ := fun ty => run_next_any w s pos ty hp
        obtain ⟨d1, d2, d3⟩ := dec_lower s pos hp
        have D := Lib.hid (And.intro d1 d2); clear d1 d2
        have L := Lib.hid hlow; clear hlow
        by_cases hc : 97 ≤ ((Utf8.decode s pos).1 : Int)
        · by_cases hd : ((Utf8.decode s pos).1 : Int) ≤ 122
          · go_wp2
            go_roundw
            case rel =>
              refine ⟨pos + (Utf8.decode s pos).2, rfl, fun j hj hlt => ?_⟩
              obtain ⟨e1, e2⟩ := D.out.1 ⟨hc, hd⟩
              by_cases hjp : j < pos
              · exact L.out j hj hjp
              · have : j = pos := by omega
                subst this; exact e1
            case measure => simp; omega
          · go_wp2
            go_ret
            exact ⟨ret_bool (by simp [isName, low_not s pos hp (D.out.2 (by omega))]), (Below.refl _ _).alloc (Nat.le_refl _) _⟩
        · go_wp2
          go_ret
          exact ⟨ret_bool (by simp [isName, low_not s pos hp (D.out.2 (by omega))]), (Below.refl _ _).alloc (Nat.le_refl _) _⟩
      · have hnx : ∀ ty, (Instr.next (.pointer (some ⟨w.heap.size, 0, none⟩)) true ty).run Try.prog (w.iter s pos) = _ := fun ty => run_next_end w s pos ty hp
        have L := Lib.hid hlow; clear hlow
        go_wp2
        go_ret
        exact ⟨ret_bool (by simp [isName, hw, lowTo_all s pos L.out (by omega)]; omega), (Below.refl _ _).alloc (Nat.le_refl _) _⟩
  · go_enter Try.func14, Try.ntmps14
    go_wp2_with (go_at_call 24; refine (word_any _ _).mono ?_; rintro e w' ⟨rfl, rfl⟩)
    all_goals go_ret
    all_goals exact ⟨ret_bool (by simp [isName, hw]), Below.refl _ _⟩
end Go.Proofs.Ytoejpjnicpajlaa
