/- The walks of slices.Clone at statements and of shallow. -/
import Derived.Test.YtoejpjnicpajlaaSzStat
import Derived.Test.YtoejpjnicpajlaaRow
import Derived.Lib.SliceRun
import Derived.Deep.LoopGhost
namespace Go.Proofs.Ytoejpjnicpajlaa
open Go.RowKit

theorem infoSt : (Try.prog.info? 33).map (fun i => (i.zero, i.size, i.bytes)) = some (some (.agg #[.int .i64 0, .string ⟨#[]⟩, .int .i64 0, .int .i64 0, .string ⟨#[]⟩, .slice none 0 0, .int .i64 0, .slice none 0 0]), 8, 112) := by kernel_rfl
theorem infoEx : (Try.prog.info? 29).map (fun i => (i.zero, i.size, i.bytes)) = some (some (.agg #[.int .i64 0, .int .i64 0, .string ⟨#[]⟩, .slice none 0 0]), 4, 56) := by kernel_rfl

/-- A new list of statements, in memory of its own. -/
def NewSs (l : List St) (B : Nat) (w : World) (e : Ending) (w' : World) : Prop :=
  ∃ v xs, e = .returned v ∧ w'.ownsRow w.heap.size 33 8 v l.length xs ∧ FlatS w' B l xs ∧ Kp noB w w'

set_option maxHeartbeats 1000000 in
set_option maxRecDepth 100000 in
theorem cloneSt_any (l : List St) (a : Option Addr) (len cap B : Nat) (w : World) (hr : RepSl w B l a len cap) (hB : B ≤ w.heap.size) (hn : l.length ≤ 1073741824) :
    Calls Try.prog 21 #[.slice a len cap] w (NewSs l B w) := by
  have qT : ∀ (w : World) (a : Option Addr) (n c n' c' : Nat), (binOp .eql 22 (.slice a n c) (.slice none n' c')).run Try.prog w = .ok (.bool a.isNone) w := fun w a n c n' c' => Lib.run_eql_slice_nil w _ _ a n c n' c' Try.underlying22
  obtain ⟨i0, hi, hz0, hz1, hz2⟩ := info_parts infoSt
  have hl := hr.1.1
  have HL := Lib.hid hl; clear hl
  have HN := Lib.hid hn; clear hn
  rcases hr.source with ⟨rfl, rfl, rfl, rfl⟩ | ⟨ad, news, rfl, hnl, hf, hc⟩
  · clear hr
    go_enter Try.func21, Try.ntmps21
    go_wp2_with fail
    go_ret
    exact ⟨_, [], rfl, World.ownsRow_nil _ _ _ _, rfl, Kp.refl _ _⟩
  · clear hr
    have F := Lib.hid hf; clear hf
    have HC := Lib.hid hc; clear hc
    go_enter Try.func21, Try.ntmps21
    go_wp2_with (at_builtin; refine wpList_append_own _ rfl _ _ 22 rfl w.heap.size 33 i0 _ 8 112 Try.underlying22 hi hz0 hz1 hz2 rfl (by decide) _ 0 [] rfl (World.ownsRow_made w #[] 0 (Nat.le_refl _) (Nat.zero_le _) rfl) ad len cap news rfl hnl ?c1 (F.out.plain l news) ?c2 ?c3 ?c4 ?hK)
    case c1 => intro j u hj; exact (World.cell?_alloc_lt (h := World.block_lt_of_cell? _ _ (HC.out j u hj)) ..).trans (HC.out j u hj)
    case c2 => unfold maxLen; have := HN.out; have := HL.out; omega
    case c3 => have := HN.out; have := HL.out; omega
    case c4 => simp
    case hK =>
      intro v' w1 hown hg _
      have OW := Lib.hid hown; clear hown
      have G := Lib.hid hg; clear hg
      go_wp2_with fail
      go_ret
      have hlen := HL.out
      subst hlen
      have K : Kp noB w w1 := ((Kp.refl noB w).alloc _).grown G.out (fun k hk e => by simp [Value.ownBlock] at e; omega)
      exact ⟨_, news, rfl, by simpa using OW.out, F.out.keep (K.agree hB fun _ _ h => h) (Nat.le_refl _), K⟩
end Go.Proofs.Ytoejpjnicpajlaa
