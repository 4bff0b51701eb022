/- The walk of Vars: a map's variables, in order. -/
import Derived.Test.YtoejpjnicpajlaaVarsF
import Derived.Test.YtoejpjnicpajlaaIter
set_option linter.unusedVariables false
namespace Go.Proofs.Ytoejpjnicpajlaa
open Go.RowKit Go.Maps Go.WideMaps Go.ChangeMaps Go.Sort Go.Shelf

def VarsPost (f : Vs) (n : Nat) (w : World) (e : Ending) (w' : World) : Prop :=
  ∃ (vl : List Vr) (a : Option Addr) (cap : Nat), e = .returned (.slice a vl.length cap) ∧ VarsOf f vl ∧ vl.length ≤ n ∧ RepVl w' w'.heap.size vl a vl.length cap ∧ Kp noB w w'
theorem infoVr : (Try.prog.info? 35).map (fun i => (i.zero, i.size, i.bytes)) = some (some (.agg #[.string ⟨#[]⟩, .int .i64 0]), 2, 24) := by kernel_rfl
theorem cell2 (W : World) (n : Nat) (hn : n = W.heap.size) (a b : Value) (t : TypeId) : ∀ j u, [a, b][j]? = some u → (W.alloc (.cells #[a, b] t)).cell? ((⟨n, 0, none⟩ : Addr).add j) = some u := by
  intro j u hj
  subst hn
  match j, hj with
  | 0, hj => simp at hj; subst hj; simp [Addr.add]
  | 1, hj => simp at hj; subst hj; simp [Addr.add]
/-- A row of strings as a slice. -/
theorem row_str {w : World} {base e n : Nat} {v : Value} {xs : List Value} (h : w.ownsRow base e 1 v n xs) : ∃ a cap, v = .slice a n cap ∧ n ≤ cap ∧ cap ≤ maxLen ∧ (n = 0 ∨ ∃ g, a = some ⟨g, 0, none⟩ ∧ g < w.heap.size ∧ ∀ j u, xs[j]? = some u → w.cell? ⟨g, j, none⟩ = some u) := by
  rcases h.2 with ⟨rfl, h0⟩ | ⟨g, cap, cur, rfl, hb, hg, hn, hc, hsz, ht⟩
  · exact ⟨none, 0, by rw [h0], by omega, Nat.zero_le _, .inl h0⟩
  · refine ⟨_, cap, rfl, hn, hc, .inr ⟨g, rfl, (Array.getElem?_eq_some_iff.1 hg).1, fun j u hj => ?_⟩⟩
    have hlt : j < n * 1 := by
      have h1 := (List.getElem?_eq_some_iff.1 hj).1
      have h2 := h.1
      omega
    rw [h.cellAt j hlt]
    exact hj
/-- At the head of the loop: j are in. -/
def VarsRel (L : List Vr) (base : Nat) (w3 : World) (s3 i : Value) (wr : World) : Prop :=
  ∃ j : Nat, i = .int .i64 j ∧ j ≤ L.length ∧ wr.ownsRow base 35 2 s3 j (flatV (L.take j)) ∧ Kp noB w3 wr

set_option maxHeartbeats 4000000 in
set_option maxRecDepth 100000 in
theorem vars_any (f : Vs) (mb n : Nat) (w : World) (hM : MmAt w mb n f) (hn : n ≤ 1099511627776) : Calls Try.prog 11 #[.map (some mb)] w (VarsPost f n w) := by
  have MM := Lib.hid hM
  obtain ⟨D, ho, hh⟩ := hM
  have hsz := ho.size_le
  have hmap := ho.isMap
  have hkeys := strKeys_ok ho lawStr Try.underlying9
  have hkl := strKeys_le ho Try.underlying9
  have CK := Lib.hid ((callsIn_wide (n := 5)).1 (Try.maps_Keys_19 (some mb) w))
  have CS := Lib.hid ((callsIn_wide (n := 5)).1 (Try.slices_Sorted_keys_18_19 mb n D _ w ho (by unfold maxLen; omega) (by omega)))
  have HH := Lib.hid (And.intro hh (And.intro hkeys (And.intro hkl hsz))); clear hh hkeys hkl hsz ho
  have HN := Lib.hid hn; clear hn
  obtain ⟨iV, hiV, hzV, hzV1, hzV2⟩ := info_parts infoVr
  have IV := Lib.hid (And.intro hiV (And.intro hzV (And.intro hzV1 hzV2))); clear hiV hzV hzV1 hzV2
  go_enter Try.func11, Try.ntmps11
  go_wp2_with fail
  refine CK.out.mono ?_
  rintro e w' ⟨rfl, rfl⟩
  go_wp2_with fail
  refine CS.out.mono ?_
  rintro e w3 ⟨v, ss, rfl, hS, hrow, hnil, hb⟩
  obtain ⟨a3, cap3, rfl, hc3, hcm, hrow3⟩ := row_str hrow
  obtain ⟨K, hK⟩ : ∃ K, ss.mergeSort leB = K := ⟨_, rfl⟩
  have hkp : K.Perm ss := by rw [← hK]; exact List.mergeSort_perm ss leB
  have hkl : K.length = ss.length := hkp.length_eq
  have hrow3' : ss.length = 0 ∨ ∃ g, a3 = some ⟨g, 0, none⟩ ∧ g < w3.heap.size ∧ ∀ j x, K[j]? = some x → w3.cell? ⟨g, j, none⟩ = some (.string (mkB x)) := by
    rcases hrow3 with h | ⟨g, h1, h2, h3⟩
    · exact .inl h
    · refine .inr ⟨g, h1, h2, fun j x hx => h3 j _ ?_⟩
      have hK' : (ss.mergeSort fun x y => decide (x ≤ y)) = K := hK
      rw [hK', List.getElem?_map, hx]
      rfl
  have KW : Kp noB w w3 := by
    have h1 := ((Kp.refl noB w).alloc (.cells #[.map (some mb)] 40))
    exact h1.then (Kp.of_below hb)
  have KW := Lib.hid KW
  have hsl : ss.length ≤ n := by
    have h1 := HH.out.2.2.2
    have h2 := hS.length_eq
    have h3 : (strKeys D).length = Maps.size D := by
      obtain ⟨es, rfl⟩ := hmap
      simp [strKeys, Maps.size]
    omega
  have RW := Lib.hid hrow3'; clear hrow3' hrow3 hrow hnil hb
  obtain ⟨L, hL⟩ : ∃ L : List Vr, K.map (fun x => (mkB x, val f (mkB x))) = L := ⟨_, rfl⟩
  have hLl : L.length = ss.length := by rw [← hL, List.length_map, hkl]
  have hvo : VarsOf f L := by
    refine ⟨ss, hS.nodup_iff.2 HH.out.2.1.1, fun x => ?_, by rw [hK, hL]⟩
    rw [hS.mem_iff, HH.out.2.1.2 x]
    have h1 := HH.out.1 (mkB x)
    have h2 : key (mkB x) = .string x := by show Lit.string (mkB x).data.toList = _; rw [mkB_list]
    rw [h2] at h1
    cases hf : f (mkB x) with
    | none => rw [hf] at h1; simp only [h1]; simp
    | some u => rw [hf] at h1; simp only [h1.1]; simp
  have hLb : ∀ v ∈ L, v.1.size ≤ maxLen ∧ I64 v.2 := by
    intro v hv
    rw [← hL] at hv
    obtain ⟨x, hx, rfl⟩ := List.mem_map.1 hv
    refine ⟨?_, MM.out.val_i64 _⟩
    have h1 := HH.out.2.2.1 x (hS.mem_iff.1 (hkp.mem_iff.1 hx))
    simpa [mkB, ByteArray.size] using h1
  have LB := Lib.hid hLb; clear hLb
  have VO := Lib.hid hvo; clear hvo
  have hlm : ss.length ≤ 9223372036854775807 := by have := HN.out; omega
  have LL := Lib.hid hL
  have LK := Lib.hid (And.intro hkl hLl)
  clear hS hK hkp hc3 hcm hkl hLl hL
  go_wp2_with fail
  go_loopw [3, 10] (fun s3 i wr => VarsRel L w3.heap.size w3 s3 i wr) (fun _ i _ => ss.length - (intOf i).toNat)
  case atStart => exact ⟨0, rfl, Nat.zero_le _, by simpa [flatV] using World.ownsRow_nil w3 w3.heap.size 35 2, Kp.refl _ _⟩
  case round =>
    obtain ⟨j, rfl, hj, hO, hKr⟩ := hrel
    have hl1 : ss.length ≤ L.length := by have := LK.out; omega
    have hl2 : L.length ≤ ss.length := by have := LK.out; omega
    have OO := Lib.hid hO; clear hO
    have KR := Lib.hid hKr
    have hkrs := hKr.size
    by_cases hlt : j < ss.length
    · rcases RW.out with h0 | ⟨g, rfl, hg, hgc⟩
      · omega
      obtain ⟨x, hx⟩ : ∃ x, K[j]? = some x := ⟨K[j]'(by have := LK.out; omega), List.getElem?_eq_getElem _⟩
      have hcell := (hKr.cell hg id).trans (hgc j x hx); clear hgc hKr
      have hvL : L[j]? = some (mkB x, val f (mkB x)) := by rw [← LL.out, List.getElem?_map, hx]; rfl
      have hb := LB.out _ (List.mem_of_getElem? hvL)
      have TK := Lib.hid (take_snoc' L j _ hvL); clear hvL hx
      obtain ⟨nm, hnm⟩ : ∃ nm, mkB x = nm := ⟨_, rfl⟩
      rw [hnm] at hcell hb TK
      obtain ⟨q, hq⟩ : ∃ q, val f nm = q := ⟨_, rfl⟩
      have hlook := (MM.out.keep (KW.out.then KR.out) id).look hb.1
      rw [hq] at hlook hb TK
      have HBN := Lib.hid hb; clear hb
      clear hnm hq
      go_wp2_with (at_builtin; refine wpList_append_own _ rfl _ _ 23 rfl w3.heap.size 35 iV _ 2 24 Try.underlying23 IV.out.1 IV.out.2.1 IV.out.2.2.1 IV.out.2.2.2 rfl (by decide) _ j (flatV (L.take j)) rfl ?own _ 1 1 [.string nm, .int .i64 q] rfl rfl ?c1 ?c5 ?c2 ?c3 ?c4 ?hK)
      case own => exact OO.out.alloc _
      case c5 => exact ⟨rfl, rfl⟩
      case c2 => have := HN.out; unfold maxLen; omega
      case c3 => have := HN.out; omega
      case c4 => omega
      case hK =>
        intro v' w5 hown hgr _
        have O5 := Lib.hid hown; clear hown
        have G := Lib.hid hgr; clear hgr
        have hlow := OO.out.lt
        have KF : Kp noB w3 w5 := (KR.out.alloc _).grown G.out fun k hk hs => by have h1 := hlow k hs.symm; omega
        have KF := Lib.hid KF
        clear hlow
        go_wp2_with fail
        go_roundw
        case rel =>
          refine ⟨j + 1, by go_num, by omega, ?_, KF.out⟩
          rw [TK.out, flatV_append]
          exact O5.out
        case measure => simp [intOf]; omega
    · have hge : ss.length ≤ j := by omega
      have hj3 : j = L.length := by have := LK.out; omega
      go_wp2_with fail
      have hO := OO.out
      rw [hj3, List.take_length] at hO
      obtain ⟨a5, cap5, rfl, hV⟩ := RepVl.of_row hO LB.out (Nat.le_refl _)
      go_ret
      exact ⟨L, a5, cap5, rfl, VO.out, by have := LK.out; omega, hV, KW.out.then hKr⟩
end Go.Proofs.Ytoejpjnicpajlaa
