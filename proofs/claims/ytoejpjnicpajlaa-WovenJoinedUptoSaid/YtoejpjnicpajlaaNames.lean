/- The walks that gather a program's names: Names.expr, Names.block, newNames, Of. -/
import Derived.Test.YtoejpjnicpajlaaShallowB
import Derived.Test.YtoejpjnicpajlaaNamesF
import Derived.OpenShut
namespace Go.Proofs.Ytoejpjnicpajlaa
open Go.RowKit Go.Maps Go.WideMaps Go.ChangeMaps

theorem lawStr : Keyed Try.prog 9 := string_keyed Try.underlying9
theorem zeroInt (w : World) : (zeroValue 3).run Try.prog w = .ok (.int .i64 0) w := by kernel_rfl

/-- Block b is a map of names, at most n, that holds just these. -/
def NmAt (w : World) (b n : Nat) (L : List ByteArray) : Prop := ∃ D : DataW Unit, w.ownsMap Try.prog 9 (plainElem Try.prog 3) b n D ∧ ∀ s : ByteArray, (Maps.has D (key s) = true ↔ s ∈ L)
theorem NmAt.lt {w : World} {b n : Nat} {L : List ByteArray} (h : NmAt w b n L) : b < w.heap.size := by obtain ⟨D, ho, _⟩ := h; exact ho.lt
theorem NmAt.keep {S : Nat → Prop} {w w' : World} {b n : Nat} {L : List ByteArray} (h : NmAt w b n L) (k : Kp S w w') (hn : ¬ S b) : NmAt w' b n L := by
  obtain ⟨D, ⟨es, clock, hb, r⟩, hh⟩ := h
  exact ⟨D, ⟨es, clock, (k.block b (Array.getElem?_eq_some_iff.1 hb).1 hn).trans hb, r⟩, hh⟩
theorem NmAt.alloc {w : World} {b n : Nat} {L : List ByteArray} (h : NmAt w b n L) (o : Obj) : NmAt (w.alloc o) b n L := h.keep ((Kp.refl noB w).alloc o) id
theorem NmAt.mono {w : World} {b n n' : Nat} {L : List ByteArray} (h : NmAt w b n L) (hn : n ≤ n') : NmAt w b n' L := by
  obtain ⟨D, ho, hh⟩ := h
  exact ⟨D, ho.mono hn, hh⟩
theorem NmAt.put {w : World} {b n : Nat} {L : List ByteArray} {D : DataW Unit} {s : ByteArray} {d : DataW Unit} (ho : w.ownsMap Try.prog 9 (plainElem Try.prog 3) b n (D.put (key s) d)) (hm : Maps.IsMap D) (hh : ∀ s : ByteArray, (Maps.has D (key s) = true ↔ s ∈ L)) : NmAt w b n (L ++ [s]) := by
  refine ⟨_, ho, fun x => ?_⟩
  by_cases hx : x = s
  · subst hx
    rw [has_put_same hm (key_lit x)]
    simp
  · rw [has_put_other (fun h => hx (key_inj h)), hh]
    simp [hx]
theorem NmAt.made (w : World) : NmAt (w.alloc (.map #[] 0)) w.heap.size 0 [] := ⟨.map [], World.ownsMap_made _ _ _ _, fun s => by simp [Maps.has]⟩

def NExC (m : Nat) : Prop := ∀ (e0 : Ex) (v : Value) (w : World) (B b0 b1 b2 n : Nat) (L : List ByteArray), e0.sz ≤ m → RepE w B e0 v → B ≤ b2 → NmAt w b2 n L → n + e0.sz ≤ 4294967296 →
  Calls Try.prog 30 #[.agg #[.map (some b0), .map (some b1), .map (some b2)], v] w fun e w' => e = .returned (.tuple #[]) ∧ NmAt w' b2 (n + e0.sz) (L ++ rdE e0) ∧ Kp (oneB b2) w w'

/-- At the head of the loop over the kids: j are done. -/
def NExRel (ks : List Ex) (b2 n1 : Nat) (L1 : List ByteArray) (w : World) (i : Value) (wr : World) : Prop :=
  ∃ j : Nat, i = .int .i64 j ∧ j ≤ ks.length ∧ NmAt wr b2 (n1 + Ex.szs (ks.take j)) (L1 ++ rdEs (ks.take j)) ∧ Kp (oneB b2) w wr

set_option maxHeartbeats 4000000 in
set_option maxRecDepth 100000 in
theorem nEx_step (m : Nat) (ih : NExC m) : NExC (m + 1) := by
  intro e0 v w B b0 b1 b2 n L hm hr hB hN hn
  obtain ⟨k, q, s, ks⟩ := e0
  simp only [RepE] at hr
  obtain ⟨a, len, cap, rfl, hk, hq, hs, hsl, hks⟩ := hr
  simp only [Ex.sz] at hm hn
  have hlm : len ≤ 9223372036854775807 := by have := hsl.2.1; have := hsl.2.2.1; unfold maxLen at this; omega
  have HL := Lib.hid hsl.1; clear hsl
  have KS := Lib.hid hks; clear hks
  have HM := Lib.hid (And.intro hm hn); clear hm hn
  have hb2 := hN.lt
  have NN := Lib.hid hN; clear hN
  go_enter Try.func30, Try.ntmps30
  go_upto_if 8 with fail
  go_cut [] (fun wc => NmAt wc b2 (n + 1) (L ++ (if k = 2 then [s] else [])) ∧ Kp (oneB b2) w wc ∧ (w.heap.size + 2 ≤ wc.heap.size ∧ wc.cell? ⟨w.heap.size, 0, none⟩ = some (.map (some b0)) ∧ wc.cell? ⟨w.heap.size, 1, none⟩ = some (.map (some b1)) ∧ wc.cell? ⟨w.heap.size, 2, none⟩ = some (.map (some b2)) ∧ wc.cell? ⟨w.heap.size + 1, 3, none⟩ = some (.slice a len cap)))
  case first =>
    by_cases hk2 : k = 2
    · subst hk2
      obtain ⟨D, ho, hh⟩ := NN.out
      have hmap := ho.isMap
      have HH := Lib.hid hh; clear hh
      have HO := Lib.hid ho; clear ho
      have hn63 : n < maxLen := by have := HM.out.2; unfold maxLen; omega
      go_wp2_with (first | (at_lookup; go_loud (refine wpList_lookup_own_int _ rfl _ _ 54 rfl 9 3 .i64 lawStr Try.underlying54 Try.underlying3 (zeroInt _) b2 n D rfl ((HO.out.alloc _).alloc _) _ (key s) rfl (keyOf_string_mk Try.underlying9 hs) ?_); intro c _ _) | (at_mapUpdate; refine wpList_mapUpdate_own _ rfl _ _ _ 54 rfl 9 3 lawStr Try.underlying54 _ b2 n D rfl ((HO.out.alloc _).alloc _) hn63 _ _ (key s) rfl rfl (keyOf_string_mk Try.underlying9 hs) (.lit (.int .i64 _)) [] (plainElem_int Try.underlying3 (wrap64_wf _)) ?_; intro w1 hown1 hgrow1))
      go_meet
      have hg := Kp.of_grown hgrow1
      have t0 := two w (.cells #[.map (some b0), .map (some b1), .map (some b2)] 56) (.cells #[.int .i64 2, .int .i64 q, .string s, .slice a len cap] 29)
      have hsz := hg.size
      rw [t0.2.2] at hsz
      refine ⟨NmAt.put hown1 hmap HH.out, ((((Kp.refl (oneB b2) w).alloc _).alloc _).trans hg (fun b hb e => by simp at e; exact e)), by omega, ?_, ?_, ?_, ?_⟩
      · rw [hg.cell (by rw [t0.2.2]; omega) (fun e => by simp at e; omega)]; simp only [World.cell?, t0.1]; simp
      · rw [hg.cell (by rw [t0.2.2]; omega) (fun e => by simp at e; omega)]; simp only [World.cell?, t0.1]; simp
      · rw [hg.cell (by rw [t0.2.2]; omega) (fun e => by simp at e; omega)]; simp only [World.cell?, t0.1]; simp
      · rw [hg.cell (by rw [t0.2.2]; omega) (fun e => by simp at e; omega)]; simp only [World.cell?, t0.2.1]; simp
    · have hk1 : (k == 2) = false := by simpa using hk2
      go_wp2_with fail
      go_meet
      have t0 := two w (.cells #[.map (some b0), .map (some b1), .map (some b2)] 56) (.cells #[.int .i64 k, .int .i64 q, .string s, .slice a len cap] 29)
      simp only [hk2, if_false, List.append_nil]
      refine ⟨((NN.out.alloc _).alloc _).mono (by omega), ((Kp.refl _ w).alloc _).alloc _, by rw [t0.2.2]; omega, ?_, ?_, ?_, ?_⟩
      · simp only [World.cell?, t0.1]; simp
      · simp only [World.cell?, t0.1]; simp
      · simp only [World.cell?, t0.1]; simp
      · simp only [World.cell?, t0.2.1]; simp
  case rest =>
    obtain ⟨hN1, hK1, hsz, c0, c1, c2, c3⟩ := hcut
    have N1 := Lib.hid hN1; clear hN1
    have K1 := Lib.hid hK1; clear hK1
    have CC := Lib.hid (And.intro c0 (And.intro c1 c2)); clear c0 c1 c2
    obtain ⟨L1, hL1⟩ : ∃ L1, L ++ (if k = 2 then [s] else []) = L1 := ⟨_, rfl⟩
    have hN1 := N1.out
    rw [hL1] at hN1
    clear N1
    have N1 := Lib.hid hN1; clear hN1
    have HL1 := Lib.hid hL1; clear hL1
    go_wp2_with fail
    go_loopw [18] (fun i wr => NExRel ks b2 (n + 1) L1 wc i wr) (fun i _ => len - (intOf i).toNat)
    case atStart => exact ⟨0, rfl, Nat.zero_le _, by simpa [Ex.szs, rdEs] using N1.out, Kp.refl _ _⟩
    case round =>
      obtain ⟨j, rfl, hj, hNj, hKj⟩ := hrel
      have NJ := Lib.hid hNj; clear hNj
      have KJ := Lib.hid hKj
      have hks2 := hKj.size; clear hKj
      have hl1 : len ≤ ks.length := by have := HL.out; omega
      have hl2 : ks.length ≤ len := by have := HL.out; omega
      by_cases hlt : j < ks.length
      · have hlt' : j < len := by omega
        obtain ⟨e2, he2⟩ : ∃ e2, ks[j]? = some e2 := ⟨ks[j], List.getElem?_eq_getElem hlt⟩
        rcases KS.out with h0 | ⟨b, o, rfl, hbB, hes⟩
        · subst h0; simp at hlt
        have ag : Agree B w wr := (K1.out.then KJ.out).agree (by omega) (fun k hk (e : k = b2) => by omega)
        obtain ⟨v0, v1, v2, v3, g0, g1, g2, g3, hre⟩ := (hes.keep ag (Nat.le_refl _) ks b o hbB).get ks b o j e2 he2
        obtain ⟨k', q', s', a', len', cap', rfl, rfl, rfl, rfl⟩ := hre.forms
        have RE := Lib.hid hre; clear hre hes ag
        have T := Lib.hid (take_snoc' ks j e2 he2)
        have hsz2 : e2.sz ≤ Ex.szs ks := Ex.szs_mem ks e2 (List.mem_of_getElem? he2)
        have hst : Ex.szs (ks.take j) + e2.sz ≤ Ex.szs ks := by
          have h1 := Ex.szs_append (ks.take (j + 1)) (ks.drop (j + 1))
          rw [List.take_append_drop, T.out, Ex.szs_append] at h1
          simp only [Ex.szs] at h1
          omega
        have SZ := Lib.hid (And.intro hsz2 hst); clear hsz2 hst he2
        have d0 : wr.cell? ⟨w.heap.size, 0, none⟩ = some (.map (some b0)) := (KJ.out.cell (by omega) (fun (e : _ = b2) => by omega)).trans CC.out.1
        have d1 : wr.cell? ⟨w.heap.size, 1, none⟩ = some (.map (some b1)) := (KJ.out.cell (by omega) (fun (e : _ = b2) => by omega)).trans CC.out.2.1
        have d2 : wr.cell? ⟨w.heap.size, 2, none⟩ = some (.map (some b2)) := (KJ.out.cell (by omega) (fun (e : _ = b2) => by omega)).trans CC.out.2.2
        have hwl : w.heap.size < wr.heap.size := by omega
        go_wp2_with fail
        refine (ih e2 _ (wr.alloc _) B b0 b1 b2 (n + 1 + Ex.szs (ks.take j)) (L1 ++ rdEs (ks.take j)) (by have := SZ.out; have := HM.out.1; omega) (RE.out.keep ((Kp.refl noB wr).alloc _ |>.agree (by omega) fun _ _ h => h) (Nat.le_refl _)) hB (NJ.out.alloc _) (by have := SZ.out; have := HM.out.2; omega)).mono ?_
        rintro e w7 ⟨rfl, hN7, hK7⟩
        have N7 := Lib.hid hN7; clear hN7
        have K7 := Lib.hid ((KJ.out.alloc _).then hK7); clear hK7
        go_wp2_with fail
        go_roundw
        case rel =>
          refine ⟨j + 1, by go_num, by omega, ?_, K7.out⟩
          have h1 := N7.out
          rw [T.out, Ex.szs_append, rdEs_append]
          simp only [Ex.szs, rdEs, List.append_nil, Nat.add_zero]
          rw [← Nat.add_assoc, ← List.append_assoc]
          exact h1
        case measure => simp [intOf]; omega
      · have hge : ks.length ≤ j := by omega
        have hge' : len ≤ j := by omega
        go_wp2_with fail
        go_end0
        have hj2 : j = ks.length := by omega
        have h1 := NJ.out
        rw [hj2, List.take_length] at h1
        refine ⟨rfl, ?_, K1.out.then KJ.out⟩
        simp only [Ex.sz, rdE]
        rw [← List.append_assoc, HL1.out, ← Nat.add_assoc]
        exact h1

theorem nEx_any (m : Nat) : NExC m := by
  induction m with
  | zero => intro e0; have := e0.sz_pos; intros; omega
  | succ m ih => exact nEx_step m ih
end Go.Proofs.Ytoejpjnicpajlaa
