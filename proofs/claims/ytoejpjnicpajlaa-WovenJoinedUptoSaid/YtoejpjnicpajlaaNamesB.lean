/- The walks of Names.block, newNames, Of. -/
import Derived.Test.YtoejpjnicpajlaaNames
import Derived.Laws.ResultCell
namespace Go.Proofs.Ytoejpjnicpajlaa
open Go.RowKit Go.Maps Go.WideMaps Go.ChangeMaps

def threeB (b c d : Nat) : Nat → Prop := fun k => k = b ∨ k = c ∨ k = d

def NBkC (m : Nat) : Prop := ∀ (l : List St) (a : Option Addr) (len cap : Nat) (w : World) (B b0 b1 b2 n : Nat) (A D R : List ByteArray), St.szs l < m → RepSl w B l a len cap → B ≤ b0 → B ≤ b1 → B ≤ b2 → b0 ≠ b1 → b0 ≠ b2 → b1 ≠ b2 → NmAt w b0 n A → NmAt w b1 n D → NmAt w b2 n R → n + St.szs l ≤ 4294967296 →
  Calls Try.prog 26 #[.agg #[.map (some b0), .map (some b1), .map (some b2)], .slice a len cap] w fun e w' => e = .returned (.tuple #[]) ∧ NmAt w' b0 (n + St.szs l) (A ++ asSs l) ∧ NmAt w' b1 (n + St.szs l) (D ++ adSs l) ∧ NmAt w' b2 (n + St.szs l) (R ++ rdSs l) ∧ Kp (threeB b0 b1 b2) w w'

/-- The three maps, after so much. -/
def Nm3 (w : World) (b0 b1 b2 n : Nat) (A D R : List ByteArray) : Prop := NmAt w b0 n A ∧ NmAt w b1 n D ∧ NmAt w b2 n R
theorem Nm3.mono {w : World} {b0 b1 b2 n n' : Nat} {A D R : List ByteArray} (h : Nm3 w b0 b1 b2 n A D R) (hn : n ≤ n') : Nm3 w b0 b1 b2 n' A D R := ⟨h.1.mono hn, h.2.1.mono hn, h.2.2.mono hn⟩
theorem Nm3.alloc {w : World} {b0 b1 b2 n : Nat} {A D R : List ByteArray} (h : Nm3 w b0 b1 b2 n A D R) (o : Obj) : Nm3 (w.alloc o) b0 b1 b2 n A D R := ⟨h.1.alloc o, h.2.1.alloc o, h.2.2.alloc o⟩

def NBkRel (l : List St) (b0 b1 b2 n : Nat) (A D R : List ByteArray) (w : World) (i : Value) (wr : World) : Prop :=
  ∃ j : Nat, i = .int .i64 j ∧ j ≤ l.length ∧ Nm3 wr b0 b1 b2 (n + St.szs (l.take j)) (A ++ asSs (l.take j)) (D ++ adSs (l.take j)) (R ++ rdSs (l.take j)) ∧ Kp (threeB b0 b1 b2) w wr
def NBkRel2 (l : List (List St)) (b0 b1 b2 n : Nat) (A D R : List ByteArray) (w : World) (i : Value) (wr : World) : Prop :=
  ∃ j : Nat, i = .int .i64 j ∧ j ≤ l.length ∧ Nm3 wr b0 b1 b2 (n + St.szb (l.take j)) (A ++ asSb (l.take j)) (D ++ adSb (l.take j)) (R ++ rdSb (l.take j)) ∧ Kp (threeB b0 b1 b2) w wr

/-- Behind the switch. -/
def NBkCut (k : Int) (nm : ByteArray) (b0 b1 b2 n : Nat) (A D R : List ByteArray) (v2 v3 v4 v5 v7 : Value) (wr wc : World) : Prop :=
  Nm3 wc b0 b1 b2 (n + 1) (A ++ (if k = 1 then [nm] else [])) (D ++ (if k = 2 then [nm] else [])) R ∧ Kp (threeB b0 b1 b2) wr wc ∧ wr.heap.size < wc.heap.size ∧
    wc.cell? ⟨wr.heap.size, 2, none⟩ = some v2 ∧ wc.cell? ⟨wr.heap.size, 3, none⟩ = some v3 ∧ wc.cell? ⟨wr.heap.size, 4, none⟩ = some v4 ∧ wc.cell? ⟨wr.heap.size, 5, none⟩ = some v5 ∧ wc.cell? ⟨wr.heap.size, 7, none⟩ = some v7
theorem one_new (w : World) (A : Obj) : (w.alloc A).heap[w.heap.size]? = some A := heap_alloc_new w A
theorem NBkCut.of {k : Int} {nm : ByteArray} {b0 b1 b2 n : Nat} {A D R : List ByteArray} {wr wc : World} {v0 v1 v2 v3 v4 v5 v6 v7 : Value} {T : TypeId} {S : Nat → Prop} (hS : ∀ b, S b → b = b0 ∨ b = b1) (h0 : b0 < wr.heap.size) (h1 : b1 < wr.heap.size)
    (hk : Kp S (wr.alloc (.cells #[v0, v1, v2, v3, v4, v5, v6, v7] T)) wc) (hm : Nm3 wc b0 b1 b2 (n + 1) (A ++ (if k = 1 then [nm] else [])) (D ++ (if k = 2 then [nm] else [])) R) : NBkCut k nm b0 b1 b2 n A D R v2 v3 v4 v5 v7 wr wc := by
  have hn := one_new wr (.cells #[v0, v1, v2, v3, v4, v5, v6, v7] T)
  have hc := (hk.block wr.heap.size (by simp) (fun e => by have := hS _ e; omega)).trans hn
  refine ⟨hm, ((Kp.refl _ wr).alloc _).trans hk (fun b _ hb => ?_), by have := hk.size; simp at this; omega, ?_, ?_, ?_, ?_, ?_⟩
  · rcases hS b hb with rfl | rfl
    · exact .inl rfl
    · exact .inr (.inl rfl)
  all_goals (simp only [World.cell?, hc]; simp)

set_option maxHeartbeats 4000000 in
set_option maxRecDepth 100000 in
theorem nBk_step (m : Nat) (ih : NBkC m) : NBkC (m + 1) := by
  intro l a len cap w B b0 b1 b2 n A D R hm hr hB0 hB1 hB2 h01 h02 h12 hN0 hN1 hN2 hn
  have hlm : len ≤ 9223372036854775807 := by have := hr.1.2.1; have := hr.1.2.2.1; unfold maxLen at this; omega
  have HL := Lib.hid hr.1.1
  have RS := Lib.hid hr.2; clear hr
  have HM := Lib.hid (And.intro hm hn); clear hm hn
  have hb0 := hN0.lt
  have hb1 := hN1.lt
  have hb2 := hN2.lt
  have NN := Lib.hid (show Nm3 w b0 b1 b2 n A D R from ⟨hN0, hN1, hN2⟩); clear hN0 hN1 hN2
  go_enter Try.func26, Try.ntmps26
  go_wp2_with fail
  go_loopw [10] (fun i wr => NBkRel l b0 b1 b2 n A D R (w.alloc (.cells #[.map (some b0), .map (some b1), .map (some b2)] 56)) i wr) (fun i _ => len - (intOf i).toNat)
  case atStart => exact ⟨0, rfl, Nat.zero_le _, by simpa [St.szs, asSs, adSs, rdSs] using NN.out.alloc _, Kp.refl _ _⟩
  case round =>
    obtain ⟨j, rfl, hj, hNj, hKj⟩ := hrel
    have NJ := Lib.hid hNj; clear hNj
    have KJ := Lib.hid hKj
    have hks := hKj.size
    have KW : Kp (threeB b0 b1 b2) w wr := ((Kp.refl _ w).alloc _).then hKj
    clear hKj
    rw [World.size_alloc] at hks
    have KW := Lib.hid KW
    have hl1 : len ≤ l.length := by have := HL.out; omega
    have hl2 : l.length ≤ len := by have := HL.out; omega
    by_cases hlt : j < l.length
    · have hlt' : j < len := by omega
      obtain ⟨s, hs⟩ : ∃ s, l[j]? = some s := ⟨l[j], List.getElem?_eq_getElem hlt⟩
      rcases RS.out with h0 | ⟨b, o, rfl, hbB, hrs⟩
      · subst h0; simp at hlt
      have ag : Agree B w wr := KW.out.agree (by omega) (fun k hk (e : k = b0 ∨ k = b1 ∨ k = b2) => by omega)
      obtain ⟨v0, v1, v2, v3, v4, v5, v6, v7, g0, g1, g2, g3, g4, g5, g6, g7, hsr⟩ := (hrs.keep ag (Nat.le_refl _) l b o hbB).get l b o j s hs
      obtain ⟨k, nm, e0, q, bs⟩ := s
      simp only [RepS] at hsr
      obtain ⟨e0', e1', e2', e3', ba, blen, bcap, hv, hre, hk64, hq64, hnm, hbsl, hbr⟩ := hsr
      obtain ⟨ek, en, es', ea, el, ec, rfl, rfl, rfl, rfl⟩ := hre.forms
      simp at hv
      obtain ⟨rfl, rfl, rfl, rfl, rfl, rfl, rfl, rfl⟩ := hv
      have RE := Lib.hid hre; clear hre hrs ag
      have BSL := Lib.hid (And.intro hbsl hbr)
      have hblm : blen ≤ 9223372036854775807 := by have := hbsl.2.1; have := hbsl.2.2.1; unfold maxLen at this; omega
      clear hbsl hbr
      have T := Lib.hid (take_snoc' l j _ hs)
      have hst : St.szs (l.take j) + (1 + e0.sz + St.szb bs) ≤ St.szs l := by
        have h1 := St.szs_append (l.take (j + 1)) (l.drop (j + 1))
        rw [List.take_append_drop, T.out, St.szs_append] at h1
        simp only [St.szs, St.sz] at h1
        omega
      have SZ := Lib.hid hst; clear hst hs
      obtain ⟨nj, hnj⟩ : ∃ nj, n + St.szs (l.take j) = nj := ⟨_, rfl⟩
      obtain ⟨Aj, hAj⟩ : ∃ nj, A ++ asSs (l.take j) = nj := ⟨_, rfl⟩
      obtain ⟨Dj, hDj⟩ : ∃ nj, D ++ adSs (l.take j) = nj := ⟨_, rfl⟩
      obtain ⟨Rj, hRj⟩ : ∃ nj, R ++ rdSs (l.take j) = nj := ⟨_, rfl⟩
      have hNj := NJ.out
      rw [hnj, hAj, hDj, hRj] at hNj
      have NM := Lib.hid hNj; clear hNj NJ
      have NE := Lib.hid (And.intro hnj (And.intro hAj (And.intro hDj hRj))); clear hnj hAj hDj hRj
      have hn63 : nj < maxLen := by have := HM.out.2; have := SZ.out; have := NE.out.1; unfold maxLen; omega
      have hbx0 : wr.cell? ⟨w.heap.size, 0, none⟩ = some (.map (some b0)) := by
        rw [KJ.out.cell (by simp) (fun (e : _ = b0 ∨ _ = b1 ∨ _ = b2) => by omega)]; simp [World.cell?_alloc_new]
      have hbx1 : wr.cell? ⟨w.heap.size, 1, none⟩ = some (.map (some b1)) := by
        rw [KJ.out.cell (by simp) (fun (e : _ = b0 ∨ _ = b1 ∨ _ = b2) => by omega)]; simp [World.cell?_alloc_new]
      have hbx2 : wr.cell? ⟨w.heap.size, 2, none⟩ = some (.map (some b2)) := by
        rw [KJ.out.cell (by simp) (fun (e : _ = b0 ∨ _ = b1 ∨ _ = b2) => by omega)]; simp [World.cell?_alloc_new]
      have hwl : w.heap.size < wr.heap.size := by omega
      go_upto_block 2 with fail
      go_cut [] (fun wc => NBkCut k nm b0 b1 b2 nj Aj Dj Rj (.int .i64 ek) (.int .i64 en) (.string es') (.slice ea el ec) (.slice ba blen bcap) wr wc)
      case first =>
        by_cases hk1 : k = 1
        · subst hk1
          obtain ⟨E, ho, hh⟩ := (NM.out.1.alloc (.cells #[.int .i64 1, .string nm, .int .i64 ek, .int .i64 en, .string es', .slice ea el ec, .int .i64 q, .slice ba blen bcap] 33))
          have hmap := ho.isMap
          have HH := Lib.hid hh; clear hh
          have HO := Lib.hid ho; clear ho
          go_wp2_with (first | (at_lookup; refine wpList_lookup_own_int _ rfl _ _ 54 rfl 9 3 .i64 lawStr Try.underlying54 Try.underlying3 (zeroInt _) b0 nj E rfl HO.out _ (key nm) rfl (keyOf_string_mk Try.underlying9 hnm) ?_; intro c _ _) | (at_mapUpdate; refine wpList_mapUpdate_own _ rfl _ _ _ 54 rfl 9 3 lawStr Try.underlying54 _ b0 nj E rfl HO.out hn63 _ _ (key nm) rfl rfl (keyOf_string_mk Try.underlying9 hnm) (.lit (.int .i64 _)) [] (plainElem_int Try.underlying3 (wrap64_wf _)) ?_; intro w1 hown1 hgrow1))
          go_meet
          have hg := Kp.of_grown hgrow1
          refine NBkCut.of (S := fun k => some k = some b0) (fun b hb => .inl (by simpa using hb)) (by omega) (by omega) hg ⟨by simpa using NmAt.put hown1 hmap HH.out, ?_, ?_⟩
          · simpa using ((NM.out.2.1.alloc _).keep hg (fun e => by simp at e; omega)).mono (Nat.le_succ _)
          · exact ((NM.out.2.2.alloc _).keep hg (fun e => by simp at e; omega)).mono (Nat.le_succ _)
        · by_cases hk2 : k = 2
          · subst hk2
            obtain ⟨E, ho, hh⟩ := (NM.out.2.1.alloc (.cells #[.int .i64 2, .string nm, .int .i64 ek, .int .i64 en, .string es', .slice ea el ec, .int .i64 q, .slice ba blen bcap] 33))
            have hmap := ho.isMap
            have HH := Lib.hid hh; clear hh
            have HO := Lib.hid ho; clear ho
            clear hk1
            go_wp2_with (first | (at_lookup; refine wpList_lookup_own_int _ rfl _ _ 54 rfl 9 3 .i64 lawStr Try.underlying54 Try.underlying3 (zeroInt _) b1 nj E rfl HO.out _ (key nm) rfl (keyOf_string_mk Try.underlying9 hnm) ?_; intro c _ _) | (at_mapUpdate; refine wpList_mapUpdate_own _ rfl _ _ _ 54 rfl 9 3 lawStr Try.underlying54 _ b1 nj E rfl HO.out hn63 _ _ (key nm) rfl rfl (keyOf_string_mk Try.underlying9 hnm) (.lit (.int .i64 _)) [] (plainElem_int Try.underlying3 (wrap64_wf _)) ?_; intro w1 hown1 hgrow1))
            go_meet
            have hg := Kp.of_grown hgrow1
            refine NBkCut.of (S := fun k => some k = some b1) (fun b hb => .inr (by simpa using hb)) (by omega) (by omega) hg ⟨?_, by simpa using NmAt.put hown1 hmap HH.out, ?_⟩
            · simpa using ((NM.out.1.alloc _).keep hg (fun e => by simp at e; omega)).mono (Nat.le_succ _)
            · exact ((NM.out.2.2.alloc _).keep hg (fun e => by simp at e; omega)).mono (Nat.le_succ _)
          · have e1 : (k == 1) = false := by simpa using hk1
            have e2 : (k == 2) = false := by simpa using hk2
            have HK := Lib.hid (And.intro hk1 hk2); clear hk1 hk2
            go_wp2_with fail
            go_meet
            refine NBkCut.of (S := noB) (fun b hb => hb.elim) (by omega) (by omega) (Kp.refl _ _) ?_
            simp only [HK.out.1, HK.out.2, if_false, List.append_nil]
            exact (NM.out.alloc _).mono (Nat.le_succ _)
      case rest =>
        obtain ⟨hNc, hKc, hszc, c2, c3, c4, c5, c7⟩ := hcut
        obtain ⟨A1, hA1⟩ : ∃ A1, Aj ++ (if k = 1 then [nm] else []) = A1 := ⟨_, rfl⟩
        obtain ⟨D1, hD1⟩ : ∃ A1, Dj ++ (if k = 2 then [nm] else []) = A1 := ⟨_, rfl⟩
        rw [hA1, hD1] at hNc
        have A1E := Lib.hid (And.intro hA1 hD1); clear hA1 hD1
        have NC := Lib.hid hNc; clear hNc
        have KC := Lib.hid hKc; clear hKc
        have d0 : wc.cell? ⟨w.heap.size, 0, none⟩ = some (.map (some b0)) := (KC.out.cell hwl (fun (e : _ = b0 ∨ _ = b1 ∨ _ = b2) => by omega)).trans hbx0
        have d1 : wc.cell? ⟨w.heap.size, 1, none⟩ = some (.map (some b1)) := (KC.out.cell hwl (fun (e : _ = b0 ∨ _ = b1 ∨ _ = b2) => by omega)).trans hbx1
        have d2 : wc.cell? ⟨w.heap.size, 2, none⟩ = some (.map (some b2)) := (KC.out.cell hwl (fun (e : _ = b0 ∨ _ = b1 ∨ _ = b2) => by omega)).trans hbx2
        clear g0 g1 g2 g3 g4 g5 g6 g7
        go_wp2_with fail
        refine (nEx_any e0.sz e0 _ wc B b0 b1 b2 (nj + 1) Rj (Nat.le_refl _) (RE.out.keep (KC.out.agree (by omega) (fun k hk (e : k = b0 ∨ k = b1 ∨ k = b2) => by omega)) (Nat.le_refl _)) hB2 NC.out.2.2 (by have := SZ.out; have := HM.out.2; have := NE.out.1; omega)).mono ?_
        rintro e w7 ⟨rfl, hN7, hK7⟩
        have N7 := Lib.hid (show Nm3 w7 b0 b1 b2 (nj + 1 + e0.sz) A1 D1 (Rj ++ rdE e0) from ⟨(NC.out.1.keep hK7 (fun (e : b0 = b2) => h02 e)).mono (by omega), (NC.out.2.1.keep hK7 (fun (e : b1 = b2) => h12 e)).mono (by omega), hN7⟩)
        have hk7s := hK7.size
        have d70 : w7.cell? ⟨w.heap.size, 0, none⟩ = some (.map (some b0)) := (hK7.cell (by omega) (fun (e : _ = b2) => by omega)).trans d0
        have d71 : w7.cell? ⟨w.heap.size, 1, none⟩ = some (.map (some b1)) := (hK7.cell (by omega) (fun (e : _ = b2) => by omega)).trans d1
        have d72 : w7.cell? ⟨w.heap.size, 2, none⟩ = some (.map (some b2)) := (hK7.cell (by omega) (fun (e : _ = b2) => by omega)).trans d2
        have c77 : w7.cell? ⟨wr.heap.size, 7, none⟩ = some (.slice ba blen bcap) := (hK7.cell hszc (fun (e : _ = b2) => by omega)).trans c7
        have K7 := Lib.hid (KC.out.trans hK7 (fun b _ (hb : b = b2) => .inr (.inr hb)))
        clear hK7 hN7 d0 d1 d2 c2 c3 c4 c5 c7 NC
        go_wp2_with fail
        obtain ⟨wo, hwo⟩ : ∃ wo : World, wo = wr := ⟨_, rfl⟩
        subst hwo
        go_loopw [39] (fun i wr => NBkRel2 bs b0 b1 b2 (nj + 1 + e0.sz) A1 D1 (Rj ++ rdE e0) w7 i wr) (fun i _ => blen - (intOf i).toNat)
        case atStart => exact ⟨0, rfl, Nat.zero_le _, by simpa [St.szb, asSb, adSb, rdSb] using N7.out, Kp.refl _ _⟩
        case round =>
          obtain ⟨i, rfl, hi, hNi, hKi⟩ := hrel
          have NI := Lib.hid hNi; clear hNi
          have KI := Lib.hid hKi
          have hkis := hKi.size; clear hKi
          have hbl1 : blen ≤ bs.length := by have := BSL.out.1.1; omega
          have hbl2 : bs.length ≤ blen := by have := BSL.out.1.1; omega
          by_cases hlt2 : i < bs.length
          · have hlt2' : i < blen := by omega
            obtain ⟨l2, hl2'⟩ : ∃ l2, bs[i]? = some l2 := ⟨bs[i], List.getElem?_eq_getElem hlt2⟩
            rcases BSL.out.2 with h0 | ⟨b', o', rfl, hbB', hrb⟩
            · subst h0; simp at hlt2
            have ag : Agree B wo wr := (K7.out.then KI.out).agree (by omega) (fun k hk (e : k = b0 ∨ k = b1 ∨ k = b2) => by omega)
            obtain ⟨a2, len2, cap2, hcell, hsl2⟩ := (hrb.keep ag (Nat.le_refl _) bs b' o' hbB').get bs b' o' i l2 hl2'
            have SL2 := Lib.hid hsl2; clear hsl2 hrb ag
            have T2 := Lib.hid (take_snoc' bs i l2 hl2')
            have hs2 : St.szb (bs.take i) + 1 + St.szs l2 ≤ St.szb bs := by
              have h1 := szb_append (bs.take (i + 1)) (bs.drop (i + 1))
              rw [List.take_append_drop, T2.out, szb_snoc] at h1
              omega
            have S2 := Lib.hid hs2; clear hs2 hl2'
            have e0 : wr.cell? ⟨w.heap.size, 0, none⟩ = some (.map (some b0)) := (KI.out.cell (by omega) (fun (e : _ = b0 ∨ _ = b1 ∨ _ = b2) => by omega)).trans d70
            have e1 : wr.cell? ⟨w.heap.size, 1, none⟩ = some (.map (some b1)) := (KI.out.cell (by omega) (fun (e : _ = b0 ∨ _ = b1 ∨ _ = b2) => by omega)).trans d71
            have e2 : wr.cell? ⟨w.heap.size, 2, none⟩ = some (.map (some b2)) := (KI.out.cell (by omega) (fun (e : _ = b0 ∨ _ = b1 ∨ _ = b2) => by omega)).trans d72
            go_wp2_with fail
            refine (ih l2 a2 len2 cap2 wr B b0 b1 b2 (nj + 1 + _ + St.szb (bs.take i)) _ _ _ (by have := S2.out; have := SZ.out; have := HM.out.1; omega) SL2.out hB0 hB1 hB2 h01 h02 h12 NI.out.1 NI.out.2.1 NI.out.2.2 (by have := S2.out; have := SZ.out; have := HM.out.2; have := NE.out.1; omega)).mono ?_
            rintro e w9 ⟨rfl, hN90, hN91, hN92, hK9⟩
            have N9 := Lib.hid (And.intro hN90 (And.intro hN91 hN92)); clear hN90 hN91 hN92
            have K9 := Lib.hid (KI.out.then hK9); clear hK9
            go_wp2_with fail
            go_roundw
            case rel =>
              refine ⟨i + 1, by go_num, by omega, ?_, K9.out⟩
              obtain ⟨h1, h2, h3⟩ := N9.out
              rw [T2.out, szb_snoc, asSb_append, adSb_append, rdSb_append]
              simp only [asSb, adSb, rdSb, List.append_nil]
              rw [← List.append_assoc, ← List.append_assoc, ← List.append_assoc]
              exact ⟨h1.mono (by omega), h2.mono (by omega), h3.mono (by omega)⟩
            case measure => simp [intOf]; omega
          · have hge2 : bs.length ≤ i := by omega
            have hge2' : blen ≤ i := by omega
            go_wp2_with fail
            go_roundw
            case rel =>
              have hi2 : i = bs.length := by omega
              have h1 := NI.out
              rw [hi2, List.take_length] at h1
              obtain ⟨hA1, hD1⟩ := A1E.out
              obtain ⟨hnj, hAj, hDj, hRj⟩ := NE.out
              refine ⟨j + 1, by go_num, by omega, ?_, (KJ.out.then K7.out).then KI.out⟩
              rw [T.out, St.szs_append, asSs_append, adSs_append, rdSs_append]
              simp only [St.szs, St.sz, asSs, asS, adSs, adS, rdSs, rdS, List.append_nil, Nat.add_zero]
              rw [← hA1, ← hD1, ← hAj, ← hDj, ← hRj, ← hnj] at h1
              simp only [List.append_assoc, Nat.add_assoc] at h1 ⊢
              exact h1.mono (by omega)
            case measure => simp [intOf]; omega
    · have hge : l.length ≤ j := by omega
      have hge' : len ≤ j := by omega
      clear KW
      go_wp2_with fail
      go_end0
      have hj2 : j = l.length := by omega
      have h1 := NJ.out
      rw [hj2, List.take_length] at h1
      exact ⟨rfl, h1.1, h1.2.1, h1.2.2, ((Kp.refl _ w).alloc _).then KJ.out⟩

theorem nBk_any (m : Nat) : NBkC m := by
  induction m with
  | zero => intro l a len cap w B b0 b1 b2 n A D R hm; omega
  | succ m ih => exact nBk_step m ih

/-- A new set of names. -/
def NewNm (l : List St) (w : World) (e : Ending) (w' : World) : Prop :=
  ∃ b0 b1 b2 : Nat, e = .returned (.agg #[.map (some b0), .map (some b1), .map (some b2)]) ∧ w.heap.size ≤ b0 ∧ w.heap.size ≤ b1 ∧ w.heap.size ≤ b2 ∧ Nm3 w' b0 b1 b2 (St.szs l) (asSs l) (adSs l) (rdSs l) ∧ Kp noB w w'

theorem newNames_any (w : World) : Calls Try.prog 25 #[] w fun e w' => ∃ b0 b1 b2 : Nat, e = .returned (.agg #[.map (some b0), .map (some b1), .map (some b2)]) ∧ w.heap.size ≤ b0 ∧ b0 < b1 ∧ b1 < b2 ∧ Nm3 w' b0 b1 b2 0 [] [] [] ∧ Kp noB w w' := by
  have hmm := @run_makeMap Try.prog
  go_enter Try.func25, Try.ntmps25
  go_wp2
  refine bodyPost_ret (v := .agg #[.map (some (w.heap.size + 1)), .map (some (w.heap.size + 1 + 1)), .map (some (w.heap.size + 1 + 1 + 1))]) (by simp [results, Try.results25, go_sem]) rfl ⟨_, _, _, rfl, by omega, by omega, by omega, ?_, (((Kp.refl _ w).alloc _).alloc _).alloc _ |>.alloc _⟩
  have m0 := NmAt.made (w.alloc (.cells #[.map (some (w.heap.size + 1)), .map (some (w.heap.size + 1 + 1)), .map (some (w.heap.size + 1 + 1 + 1))] 56))
  have m1 := NmAt.made ((w.alloc (.cells #[.map (some (w.heap.size + 1)), .map (some (w.heap.size + 1 + 1)), .map (some (w.heap.size + 1 + 1 + 1))] 56)).alloc (.map #[] 0))
  have m2 := NmAt.made (((w.alloc (.cells #[.map (some (w.heap.size + 1)), .map (some (w.heap.size + 1 + 1)), .map (some (w.heap.size + 1 + 1 + 1))] 56)).alloc (.map #[] 0)).alloc (.map #[] 0))
  simp only [World.size_alloc] at m0 m1 m2
  exact ⟨(m0.alloc _).alloc _, m1.alloc _, m2⟩

set_option maxHeartbeats 1000000 in
set_option maxRecDepth 100000 in
theorem of_any (l : List St) (a : Option Addr) (len cap B : Nat) (w : World) (hr : RepSl w B l a len cap) (hB : B ≤ w.heap.size) (hn : St.szs l ≤ 1073741824) :
    Calls Try.prog 15 #[.slice a len cap] w (NewNm l w) := by
  have HN := Lib.hid hn; clear hn
  have HR := Lib.hid hr; clear hr
  go_enter Try.func15, Try.ntmps15
  go_wp2_with fail
  refine (newNames_any _).mono ?_
  rintro e w1 ⟨b0, b1, b2, rfl, h0, h1, h2, hN, hK⟩
  have N1 := Lib.hid hN; clear hN
  have K1 := Lib.hid hK
  have hks := hK.size; clear hK
  simp only [World.size_alloc] at h0 hks
  have hbx : w1.heap[w.heap.size]? = some (.cells #[.map none, .map none, .map none] 56 (0, 0)) := by
    rw [K1.out.block _ (by simp) id]
    exact one_new w _
  have r0 : w1.cell? ⟨w.heap.size, 0, none⟩ = some (.map none) := by simp [World.cell?, hbx]
  have r1 : w1.cell? ⟨w.heap.size, 1, none⟩ = some (.map none) := by simp [World.cell?, hbx]
  have r2 : w1.cell? ⟨w.heap.size, 2, none⟩ = some (.map none) := by simp [World.cell?, hbx]
  have rf : ∀ o, w1.frozen? ⟨w.heap.size, o, none⟩ = false := by intro o; simp [World.frozen?, hbx]
  have hwl : w.heap.size < w1.heap.size := by omega
  clear hbx
  go_wp2_with fail
  refine (nBk_any (St.szs l + 1) l a len cap _ B b0 b1 b2 0 [] [] [] (by omega) (HR.out.keep ((((Kp.refl noB w).alloc _).then K1.out).alloc _ |>.agree (by omega) fun _ _ h => h) (Nat.le_refl _)) (by omega) (by omega) (by omega) (by omega) (by omega) (by omega) (N1.out.1.alloc _) (N1.out.2.1.alloc _) (N1.out.2.2.alloc _) (by have := HN.out; omega)).mono ?_
  rintro e w2 ⟨rfl, hA, hD, hR, hK⟩
  have N2 := Lib.hid (show Nm3 w2 b0 b1 b2 (St.szs l) (asSs l) (adSs l) (rdSs l) by simp only [Nat.zero_add, List.nil_append] at hA hD hR; exact ⟨hA, hD, hR⟩); clear hA hD hR
  have K2 := Lib.hid (((((Kp.refl noB w).alloc _).then K1.out).alloc _).trans hK (fun k hk (e : k = b0 ∨ k = b1 ∨ k = b2) => by omega))
  have q0 : w2.cell? ⟨w1.heap.size, 0, none⟩ = some (.map (some b0)) := by rw [hK.cell (by simp) (fun (e : _ = b0 ∨ _ = b1 ∨ _ = b2) => by have := N1.out.1.lt; have := N1.out.2.1.lt; have := N1.out.2.2.lt; omega)]; simp
  have q1 : w2.cell? ⟨w1.heap.size, 1, none⟩ = some (.map (some b1)) := by rw [hK.cell (by simp) (fun (e : _ = b0 ∨ _ = b1 ∨ _ = b2) => by have := N1.out.1.lt; have := N1.out.2.1.lt; have := N1.out.2.2.lt; omega)]; simp
  have q2 : w2.cell? ⟨w1.heap.size, 2, none⟩ = some (.map (some b2)) := by rw [hK.cell (by simp) (fun (e : _ = b0 ∨ _ = b1 ∨ _ = b2) => by have := N1.out.1.lt; have := N1.out.2.1.lt; have := N1.out.2.2.lt; omega)]; simp
  have s0 : w2.cell? ⟨w.heap.size, 0, none⟩ = some (.map none) := by rw [hK.cell (by simp; omega) (fun (e : _ = b0 ∨ _ = b1 ∨ _ = b2) => by omega), World.cell?_alloc_lt (h := hwl)]; exact r0
  have s1 : w2.cell? ⟨w.heap.size, 1, none⟩ = some (.map none) := by rw [hK.cell (by simp; omega) (fun (e : _ = b0 ∨ _ = b1 ∨ _ = b2) => by omega), World.cell?_alloc_lt (h := hwl)]; exact r1
  have s2 : w2.cell? ⟨w.heap.size, 2, none⟩ = some (.map none) := by rw [hK.cell (by simp; omega) (fun (e : _ = b0 ∨ _ = b1 ∨ _ = b2) => by omega), World.cell?_alloc_lt (h := hwl)]; exact r2
  have sf : ∀ o, w2.frozen? ⟨w.heap.size, o, none⟩ = false := by
    intro o
    rw [hK.frozen (by simp; omega) (fun (e : _ = b0 ∨ _ = b1 ∨ _ = b2) => by omega)]
    rw [(((Kp.refl noB w1).alloc _).frozen hwl id)]
    exact rf o
  clear hK r0 r1 r2 rf
  go_wp2_with fail
  have KS : Kp (oneB w.heap.size) w2 (((w2.setCell ⟨w.heap.size, 0, none⟩ (.map (some b0))).setCell ⟨w.heap.size, 1, none⟩ (.map (some b1))).setCell ⟨w.heap.size, 2, none⟩ (.map (some b2))) :=
    (((Kp.refl (oneB w.heap.size) w2).setCell (p := ⟨w.heap.size, 0, none⟩) (fun _ => rfl) _).setCell (p := ⟨w.heap.size, 1, none⟩) (fun _ => rfl) _).setCell (p := ⟨w.heap.size, 2, none⟩) (fun _ => rfl) _
  refine bodyPost_ret (v := .agg #[.map (some b0), .map (some b1), .map (some b2)]) (by simp [results, Try.results15, go_sem, s0, s1, s2]) rfl ⟨b0, b1, b2, rfl, by omega, by omega, by omega, ⟨N2.out.1.keep KS (fun (e : b0 = _) => by omega), N2.out.2.1.keep KS (fun (e : b1 = _) => by omega), N2.out.2.2.keep KS (fun (e : b2 = _) => by omega)⟩, K2.out.trans KS (fun b hb (e : b = w.heap.size) => by omega)⟩
end Go.Proofs.Ytoejpjnicpajlaa
