/- The walk of doer.block. -/
import Derived.Test.YtoejpjnicpajlaaDoF
import Derived.Deep.CutBlock
import Derived.Deep.DeepCutAuto
import Derived.BigQuiet
set_option linter.unusedVariables false
namespace Go.Proofs.Ytoejpjnicpajlaa
open Go.RowKit Go.Maps Go.WideMaps Go.ChangeMaps

def BlkC (m : Nat) : Prop := ∀ (l : List St) (a : Option Addr) (len cap : Nat) (w : World) (B db mb n : Nat) (q mo : Int) (f : Vs), St.szs l < m → RepSl w B l a len cap → B ≤ db → B ≤ mb → mb ≠ db → okSs l = true → DoAt w db mb q mo → MmAt w mb n f →
  0 ≤ q → q ≤ mo → mo ≤ 4294967296 → (n : Int) + (mo - q) ≤ 1099511627776 →
  Calls Try.prog 10 #[.pointer (some ⟨db, 0, none⟩), .slice a len cap] w (BlkPost l f q n mo db mb w)

/-- At the head of the loop over the statements: j are done. -/
def BlkRel (l : List St) (f : Vs) (q : Int) (n : Nat) (mo : Int) (db mb : Nat) (w : World) (i : Value) (wr : World) : Prop :=
  ∃ j : Nat, i = .int .i64 j ∧ j ≤ l.length ∧ StAt q n mo db mb (denSs (l.take j) f) wr ∧ Kp (twoB mb db) w wr
set_option maxHeartbeats 4000000 in
set_option maxRecDepth 100000 in
theorem blk_step (m : Nat) (ih : BlkC m) : BlkC (m + 1) := by
  intro l a len cap w B db mb n q mo f hm hr hBd hBm hne hok hd hM hq0 hq hmo hn
  have hlm : len ≤ 9223372036854775807 := by have := hr.1.2.1; have := hr.1.2.2.1; unfold maxLen at this; omega
  have HL := Lib.hid hr.1.1
  have HR := Lib.hid hr.2; clear hr
  have HM := Lib.hid hm; clear hm
  have HB := Lib.hid (And.intro hBd (And.intro hBm hne)); clear hBd hBm hne
  have OK := Lib.hid hok; clear hok
  have HN := Lib.hid (And.intro hq0 (And.intro hq (And.intro hmo hn)))
  have hdw := hd.lt
  have hmw := hM.lt
  have S0 : StAt q n mo db mb (f, 0) w := ⟨by simpa using hq, by simpa using hd, by simpa using hM⟩
  have S0 := Lib.hid S0
  clear hq0 hq hmo hn hd hM
  have BX := fun (W : World) (A : Obj) => one_new W A
  have BX := Lib.hid BX
  go_enter Try.func10, Try.ntmps10
  go_wp2_with fail
  go_loopw [14] (fun i wr => BlkRel l f q n mo db mb w i wr) (fun i _ => len - (intOf i).toNat)
  case atStart => exact ⟨0, rfl, Nat.zero_le _, S0.out, Kp.refl _ _⟩
  case round =>
    obtain ⟨j, rfl, hj, hS, hK⟩ := hrel
    have hl1 : len ≤ l.length := by have := HL.out; omega
    have hl2 : l.length ≤ len := by have := HL.out; omega
    have hks := hK.size
    by_cases hlt : j < l.length
    · have hlt' : j < len := by omega
      obtain ⟨st, hst⟩ : ∃ v, l[j]? = some v := ⟨l[j], List.getElem?_eq_getElem hlt⟩
      rcases HR.out with h0 | ⟨b, o, rfl, hbB, hrv⟩
      · subst h0; simp at hlt
      have ag : Agree B w wr := hK.agree (by have := HB.out; omega) fun k hk e => by have := HB.out; rcases e with rfl | rfl <;> omega
      obtain ⟨v0, v1, v2, v3, v4, v5, v6, v7, g0, g1, g2, g3, g4, g5, g6, g7, hst0⟩ := (RepSs.keep ag (Nat.le_refl _) l b o hbB hrv).get l b o j st hst
      obtain ⟨k, nm, ek, en, es, ea, el, ec, x, a2, len2, cap2, rfl, rfl, rfl, rfl, rfl, rfl, rfl, rfl⟩ := hst0.forms
      have ST := Lib.hid (And.intro hst0 hst)
      have TK := Lib.hid (take_snoc' l j st hst); clear hst0 hst hrv
      have KK := Lib.hid hK; clear hK
      obtain ⟨r, hr⟩ : ∃ r, denSs (l.take j) f = r := ⟨_, rfl⟩
      rw [hr] at hS
      have RR := Lib.hid hr; clear hr
      have SS := Lib.hid hS
      have hdo := hS.2.1
      have hd1 := hdo.c1
      have hd2 := hdo.c2
      have hdf := hdo.f 1
      have hq1 := hS.1
      have hdr := hdo.lt
      have hq2 : 0 ≤ q + (r.2 : Int) := by have := HN.out; omega
      have hq3 : q + (r.2 : Int) ≤ 4294967296 := by have := HN.out; omega
      clear hS
      go_upto_if 20 with fail
      go_cut [] (fun wc => StepRel k r q n mo db mb (wr.alloc (.cells #[.int .i64 k, .string nm, .int .i64 ek, .int .i64 en, .string es, .slice ea el ec, .int .i64 x, .slice a2 len2 cap2] 33)) wc)
      case first =>
        by_cases hk3 : k ≤ 3
        · by_cases hfull : q + (r.2 : Int) = mo
          · go_wp2_with fail
            go_quiet (fail)
            go_wp2_with fail
            go_ret
            refine ⟨KK.out.then (((Kp.refl _ _).alloc _).drewN _), .inr ⟨rfl, ?_⟩⟩
            have h1 := denSs_take l (j + 1) f
            rw [TK.out, denSs_snoc, RR.out] at h1
            obtain ⟨hst0, hst⟩ := ST.out
            have hoks := okSs_get OK.out hst
            cases st with
            | mk k' nm' e' x' bs' =>
              simp only [RepS] at hst0
              obtain ⟨_, _, _, _, _, _, _, hv, _⟩ := hst0
              simp only [Value.agg.injEq, Array.mk.injEq, List.cons.injEq, Value.int.injEq, true_and] at hv
              obtain ⟨rfl, _⟩ := hv
              have h2 := okS_kind hoks
              have h3 := denS_step (nm := nm') (e := e') (n := x') (bs := bs') (show k = 1 ∨ k = 2 ∨ k = 3 by omega) r.1
              simp only [seqD] at h1
              omega
          · go_wp2_with fail
            go_quiet (fail)
            go_wp2_with fail
            go_meet
            exact StepRel.paid SS.out hk3 hfull HB.out.2.2 _ _
        · go_wp2_with fail
          go_meet
          exact StepRel.free SS.out (by omega) _
      case rest =>
        obtain ⟨hsc, hkc⟩ := hcut
        obtain ⟨hst0, hst⟩ := ST.out
        obtain ⟨k', nm', e, x', bs⟩ := st
        obtain ⟨rfl, rfl, rfl, hE, hBl, hnm, hxi⟩ := hst0.parts
        have hos := okSs_get OK.out hst
        have hkind := okS_kind hos
        have hob := okS_b hos
        have hoe := okS_e hos
        have hszs : e.sz + St.szb bs ≤ m := by
          have h1 := St.szs_mem l _ (List.mem_of_getElem? hst)
          have h2 := HM.out
          simp only [St.sz] at h1
          omega
        clear hst0 hst ST hos g0 g1 g2 g3 g4 g5 g6 g7
        obtain ⟨c0, c1, c2, c3, c4, c5, c6, c7⟩ := box8c _ _ _ _ _ _ _ _ _ _ _ _ hkc (by simp only [oneB]; omega)
        have hkw : Kp (twoB mb db) wr wc := (((Kp.refl _ wr).alloc _).trans hkc (fun k _ e => .inr e))
        have agc : Agree B wr wc := hkw.agree (by have := HB.out; omega) fun k hk e => by have := HB.out; rcases e with rfl | rfl <;> omega
        have EE := Lib.hid (RepE.keep agc (Nat.le_refl _) _ _ hE)
        have BB := Lib.hid (RepBl.keep agc (Nat.le_refl _) hBl); clear hE hBl
        have HS := Lib.hid hszs; clear hszs
        have SC := Lib.hid hsc; clear hsc SS hd1 hd2 hdf hdo
        have KW := Lib.hid hkw; clear hkw hkc agc
        have OB := Lib.hid hob; clear hob
        have OE := Lib.hid hoe; clear hoe
        obtain ⟨w1, hw1⟩ : ∃ w1 : World, w1 = wc := ⟨_, rfl⟩
        subst hw1
        have TOT : (seqD r (denS (.mk k' nm' e x' bs))).2 ≤ (denSs l f).2 := by
          have h1 := denSs_take l (j + 1) f
          rw [TK.out, denSs_snoc, RR.out] at h1
          exact h1
        have TOT := Lib.hid TOT
        go_upto_block 2 with fail
        go_cut [7] (fun v7 wd => MidRel B m r (.mk k' nm' e x' bs) q n mo db mb wr v7 wd)
        case first =>
          rcases hkind with rfl | rfl | rfl | rfl | rfl
          · have hbs : bs = [] := OB.out.2.1 (.inl rfl)
            subst hbs
            have hoke := OE.out (.inl rfl)
            have V64 := Lib.hid (evE_i64 _ (fun s => SC.out.2.2.val_i64 s) e hoke)
            obtain ⟨V, hV⟩ : ∃ V, evE e (val r.1) = V := ⟨_, rfl⟩
            have hd0 : w1.cell? ⟨db, 0, none⟩ = some (.map (some mb)) := SC.out.2.1.c0
            have hdw1 := SC.out.2.1.lt
            have hbx := cell_lt c0
            have SA0 : ∀ wk, Kp (oneB mb) w1 wk → wk.cell? ⟨db, 0, none⟩ = some (.map (some mb)) ∧ wk.cell? ⟨wr.heap.size, 1, none⟩ = some (.string nm') ∧ wk.cell? ⟨wr.heap.size, 2, none⟩ = some (.int .i64 ek) ∧ wk.cell? ⟨wr.heap.size, 3, none⟩ = some (.int .i64 en) ∧
                wk.cell? ⟨wr.heap.size, 4, none⟩ = some (.string es) ∧ wk.cell? ⟨wr.heap.size, 5, none⟩ = some (.slice ea el ec) := fun wk hk => by
              have h0 : ¬ oneB mb wr.heap.size := fun (e : wr.heap.size = mb) => by omega
              exact ⟨(hk.cell hdw1 (fun (e : db = mb) => HB.out.2.2 e.symm)).trans hd0, (hk.cell hbx h0).trans c1, (hk.cell hbx h0).trans c2, (hk.cell hbx h0).trans c3, (hk.cell hbx h0).trans c4, (hk.cell hbx h0).trans c5⟩
            have SA := Lib.hid SA0; clear SA0
            have CA : Calls Try.prog 16 #[.agg #[.int .i64 ek, .int .i64 en, .string es, .slice ea el ec], getF db] w1.drew (fun e w' => e = .returned (.int .i64 V) ∧ Kp noB w1 w' ∧ ∃ w2, (Instr.mapUpdate 40 (.map (some mb)) (.string nm') (.int .i64 V)).run Try.prog w' = .ok () w2 ∧ MmAt w2 mb (n + r.2 + 1) (setV r.1 nm' V) ∧ Kp (oneB mb) w1 w2) := by
              have k1 : Kp noB w1 w1.drew := (Kp.refl _ _).drew
              have hB1 : B ≤ w1.heap.size := by have := HB.out; omega
              refine (value_any e _ w1.drew B db mb (n + r.2) _ mo r.1 (RepE.keep (k1.agree hB1 fun _ _ h => h) (Nat.le_refl _) _ _ EE.out) (by have := HB.out; have h5 : w1.drew.heap.size = w1.heap.size := rfl; omega) hoke (SC.out.2.1.keep k1 id) (SC.out.2.2.keep k1 id)).mono ?_
              rintro e2 w2 ⟨rfl, hk2⟩
              rw [hV]
              have k2 := k1.then hk2
              rw [hV] at V64
              obtain ⟨w3, h3, h4, h5⟩ := (SC.out.2.2.keep k2 id).upd hnm V64.out (by have := HN.out; have := SC.out.1; unfold maxLen; simp at this; omega)
              exact ⟨rfl, k2, w3, h3, h4, k2.of_no.then h5⟩
            have CA := Lib.hid CA; have HV := Lib.hid hV; clear hV
            unfold getF at CA
            go_upto_region 11 with fail
            go_region_held3 (fun wk => wk.cell? ⟨db, 0, none⟩ = some (.map (some mb)) ∧ wk.cell? ⟨wr.heap.size, 1, none⟩ = some (.string nm') ∧ wk.cell? ⟨wr.heap.size, 2, none⟩ = some (.int .i64 ek) ∧ wk.cell? ⟨wr.heap.size, 3, none⟩ = some (.int .i64 en) ∧
                wk.cell? ⟨wr.heap.size, 4, none⟩ = some (.string es) ∧ wk.cell? ⟨wr.heap.size, 5, none⟩ = some (.slice ea el ec))
              (first | exact SA.out _ hkk2 | exact SA.out _ hkk1.of_no | exact SA.out _ (Kp.refl _ _).drew)
              (first | (go_at_call 16; with_reducible refine CA.out.mono ?_; rintro e' w' ⟨rfl, hkk1, w2, hrun2, hM2, hkk2⟩))
            go_wp2_with fail
            go_meet
            have hB1 : B ≤ w1.heap.size := by have := HB.out; omega
            refine ⟨[], a2, len2, cap2, (setV r.1 nm' V, r.2 + 1), rfl, RepBl.keep (hkk2.agree hB1 fun k hk (e : k = mb) => by have := HB.out; omega) (Nat.le_refl _) BB.out, ⟨SC.out.1, ?_, ?_⟩, ?_, rfl, by simp [St.szb], KW.out.trans hkk2 fun k _ e => .inl e⟩
            · exact SC.out.2.1.keep hkk2 (fun (e : db = mb) => HB.out.2.2 e.symm)
            · exact hM2.mono (by simp only; omega)
            · simp [denBs, seqD, denS, HV.out]
          · have hbs : bs = [] := OB.out.2.1 (.inr rfl)
            subst hbs
            have hoke := OE.out (.inr (.inl rfl))
            obtain ⟨V, hV⟩ : ∃ V, evE e (val r.1) = V := ⟨_, rfl⟩
            have HV := Lib.hid hV
            have hbx := cell_lt c0
            have hB1 : B ≤ w1.heap.size := by have := HB.out; have := SC.out.2.1.lt; omega
            go_wp2_with fail
            refine (value_any e _ w1 B db mb (n + r.2) _ mo r.1 EE.out hB1 hoke SC.out.2.1 SC.out.2.2).mono ?_
            rintro e2 w2 ⟨rfl, hk2⟩
            rw [hV]
            clear hV
            have hd0 : w2.cell? ⟨db, 0, none⟩ = some (.map (some mb)) := (SC.out.2.1.keep hk2 id).c0
            have hc1 : w2.cell? ⟨wr.heap.size, 1, none⟩ = some (.string nm') := (hk2.cell hbx id).trans c1
            have kd : Kp noB w1 w2.drew := hk2.drew
            have hlook := (SC.out.2.2.keep kd id).look hnm
            obtain ⟨w3, hrun3, hM3, hk3⟩ := (SC.out.2.2.keep kd id).upd hnm (w64_i64 (val r.1 nm' + V)) (by have := HN.out; have := SC.out.1; unfold maxLen; simp at this; omega)
            have hkk3 : Kp (oneB mb) w1 w3 := kd.of_no.then hk3
            have hd3 : w3.cell? ⟨db, 0, none⟩ = some (.map (some mb)) := (SC.out.2.1.keep hkk3 (fun (e : db = mb) => HB.out.2.2 e.symm)).c0
            have hc3 : w3.cell? ⟨wr.heap.size, 1, none⟩ = some (.string nm') := (hkk3.cell hbx (fun (e : wr.heap.size = mb) => by have := KW.out; omega)).trans c1
            unfold w64 at hrun3
            go_upto_region 14 with fail
            go_region_held3 (fun wk => wk.cell? ⟨db, 0, none⟩ = some (.map (some mb)) ∧ wk.cell? ⟨wr.heap.size, 1, none⟩ = some (.string nm'))
              (first | exact ⟨hd3, hc3⟩ | exact ⟨hd0, hc1⟩)
              (fail)
            go_wp2_with fail
            go_meet
            refine ⟨[], a2, len2, cap2, (setV r.1 nm' (w64 (val r.1 nm' + V)), r.2 + 1), rfl, RepBl.keep (hkk3.agree hB1 fun k hk (e : k = mb) => by have := HB.out; omega) (Nat.le_refl _) BB.out, ⟨SC.out.1, ?_, ?_⟩, ?_, rfl, by simp [St.szb], KW.out.trans hkk3 fun k _ e => .inl e⟩
            · exact SC.out.2.1.keep hkk3 (fun (e : db = mb) => HB.out.2.2 e.symm)
            · exact hM3.mono (by simp only; omega)
            · simp [denBs, seqD, denS, HV.out]
          · obtain ⟨b0, tl, rfl⟩ := take_one_or (OB.out.2.2.1 rfl)
            have hoke := OE.out (.inr (.inr rfl))
            obtain ⟨V, hV⟩ : ∃ V, evE e (val r.1) = V := ⟨_, rfl⟩
            have HV := Lib.hid hV
            have hbx := cell_lt c0
            have hB1 : B ≤ w1.heap.size := by have := HB.out; have := SC.out.2.1.lt; omega
            rcases BB.out.2 with h0 | ⟨b3, o3, rfl, hb3, hrs3⟩
            · cases h0
            have hln : len2 = tl.length + 1 := BB.out.1.1
            have hcap : len2 ≤ cap2 := BB.out.1.2.1
            have hcapm : cap2 ≤ 9223372036854775807 := by have := BB.out.1.2.2.1; unfold maxLen at this; omega
            have h1l : 1 ≤ len2 := by omega
            have RS := Lib.hid hrs3; clear hrs3
            have HLN := Lib.hid hln; clear hln
            by_cases hp : 0 < V
            · go_wp2_with fail
              refine (value_any e _ w1 B db mb (n + r.2) _ mo r.1 EE.out hB1 hoke SC.out.2.1 SC.out.2.2).mono ?_
              rintro e2 w2 ⟨rfl, hk2⟩
              rw [hV]
              clear hV
              have hc7 : w2.cell? ⟨wr.heap.size, 7, none⟩ = some (.slice (some ⟨b3, o3, none⟩) len2 cap2) := (hk2.cell hbx id).trans c7
              go_wp2_with fail
              go_meet
              exact ⟨[b0], _, _, _, (r.1, r.2 + 1), rfl, RepBs.hd (RepBs.keep (hk2.agree hB1 fun _ _ h => h) (Nat.le_refl _) _ _ _ hb3 RS.out) hb3 (by omega) hcapm, ⟨SC.out.1, SC.out.2.1.keep hk2 id, (SC.out.2.2.keep hk2 id).mono (by simp only; omega)⟩, by rw [denS_if HV.out, if_pos hp], by have := OB.out.1; simp only [okSb, Bool.and_eq_true] at this ⊢; exact ⟨this.1, trivial⟩, by have := HS.out; simp only [St.szb] at this ⊢; omega, KW.out.then hk2.of_no⟩
            · go_wp2_with fail
              refine (value_any e _ w1 B db mb (n + r.2) _ mo r.1 EE.out hB1 hoke SC.out.2.1 SC.out.2.2).mono ?_
              rintro e2 w2 ⟨rfl, hk2⟩
              rw [hV]
              clear hV
              have hc7 : w2.cell? ⟨wr.heap.size, 7, none⟩ = some (.slice (some ⟨b3, o3, none⟩) len2 cap2) := (hk2.cell hbx id).trans c7
              go_wp2_with fail
              all_goals go_meet
              all_goals have hrs3 := RepBs.keep (hk2.agree hB1 fun _ _ h => h) (Nat.le_refl _) _ _ _ hb3 RS.out
              · have htl : tl = [] := List.eq_nil_of_length_eq_zero (by have := HLN.out; omega)
                exact ⟨tl, _, _, _, (r.1, r.2 + 1), rfl, ⟨⟨by have := HLN.out; omega, by have := HLN.out; omega, by omega, fun _ => rfl⟩, .inl htl⟩, ⟨SC.out.1, SC.out.2.1.keep hk2 id, (SC.out.2.2.keep hk2 id).mono (by simp only; omega)⟩, by rw [denS_if HV.out, if_neg (by omega)], by have := OB.out.1; simp only [okSb, Bool.and_eq_true] at this; exact this.2, by have := HS.out; simp only [St.szb] at this ⊢; omega, KW.out.then hk2.of_no⟩
              · exact ⟨tl, _, _, _, (r.1, r.2 + 1), rfl, hrs3.tl hb3 HLN.out hcap hcapm, ⟨SC.out.1, SC.out.2.1.keep hk2 id, (SC.out.2.2.keep hk2 id).mono (by simp only; omega)⟩, by rw [denS_if HV.out, if_neg (by omega)], by have := OB.out.1; simp only [okSb, Bool.and_eq_true] at this; exact this.2, by have := HS.out; simp only [St.szb] at this ⊢; omega, KW.out.then hk2.of_no⟩
          · obtain ⟨hb1, hx0, hx1⟩ := OB.out.2.2.2 rfl
            obtain ⟨b0, rfl⟩ : ∃ b0, bs = [b0] := by
              match bs, hb1 with
              | [b0], _ => exact ⟨b0, rfl⟩
            have hbx := cell_lt c0
            have hdl := SC.out.2.1.lt
            have hB1 : B ≤ w1.heap.size := by have := HB.out; omega
            rcases BB.out.2 with h0 | ⟨b3, o3, rfl, hb3, hrs3⟩
            · cases h0
            have hln : len2 = 1 := BB.out.1.1
            subst hln
            have hrb := hrs3
            simp only [RepBs] at hrb
            obtain ⟨⟨a4, len4, cap4, g8, hsl4⟩, -⟩ := hrb
            have S4 := Lib.hid (show RepSl w1 B b0 a4 len4 cap4 from hsl4); clear hsl4 hrs3
            have O4 : okSs b0 = true ∧ St.szs b0 < m := by
              have h1 := OB.out.1
              have h2 := HS.out
              simp only [okSb, Bool.and_eq_true] at h1
              simp only [St.szb] at h2
              exact ⟨h1.1, by omega⟩
            have O4 := Lib.hid O4
            have HX := Lib.hid (And.intro hx0 hx1)
            go_wp2_with fail
            obtain ⟨wo, hwo⟩ : ∃ wo : World, wo = wr := ⟨_, rfl⟩
            subst hwo
            go_loopw [88] (fun i wz => RepRel (denSs b0) x'.toNat (seqD r (rep (denSs b0) x'.toNat)) q n mo db mb w1 i wz) (fun i _ => x'.toNat - (intOf i).toNat)
            case atStart => exact ⟨0, r, rfl, Nat.zero_le _, SC.out, by simp, Kp.refl _ _⟩
            case round =>
              obtain ⟨j2, r2, rfl, hj2, hS2, hT2, hK2⟩ := hrel
              have S2 := Lib.hid hS2
              have K2 := Lib.hid hK2
              have TT := Lib.hid hT2
              have hk2s := hK2.size
              by_cases hlt2 : j2 < x'.toNat
              · have hlt2' : (j2 : Int) < x' := by omega
                have hd1 := hS2.2.1.c1
                have hnb : ∀ k, k < B → ¬ twoB mb db k := fun k hk e => by have := HB.out; rcases e with rfl | rfl <;> omega
                have hc7 : wr.cell? ⟨wo.heap.size, 7, none⟩ = some (.slice (some ⟨b3, o3, none⟩) 1 cap2) := (hK2.cell hbx (fun e => by rcases e with e | e <;> omega)).trans c7
                have hg8 : wr.cell? ⟨b3, o3, none⟩ = some (.slice a4 len4 cap4) := (hK2.cell (by omega) (hnb b3 hb3)).trans g8
                have hsl5 := S4.out.keep (hK2.agree hB1 hnb) (Nat.le_refl _)
                clear hS2 hK2 hT2 hnb
                go_wp2_with fail
                refine (ih b0 a4 len4 cap4 wr B db mb (n + r2.2) (q + r2.2) mo r2.1 O4.out.2 hsl5 HB.out.1 HB.out.2.1 HB.out.2.2 O4.out.1 S2.out.2.1 S2.out.2.2 (by have := HN.out; omega) S2.out.1 HN.out.2.2.1 (by have := HN.out; omega)).mono ?_
                rintro e2 w' ⟨hk4, (⟨rfl, hs4⟩ | ⟨rfl, hlt4⟩)⟩
                · have hd4 := hs4.2.1.c1
                  have hS4 : StAt q n mo db mb (seqD r2 (denSs b0)) w' := hs4.of
                  by_cases hz : (denSs b0 r2.1).2 = 0
                  · rw [hz] at hd4
                    simp only [Int.natCast_zero, Int.add_zero] at hd4
                    go_wp2_with fail
                    go_meet
                    refine ⟨[], none, 0, 0, seqD r2 (denSs b0), rfl, ⟨⟨rfl, Nat.le_refl _, Nat.zero_le _, fun _ => rfl⟩, .inl rfl⟩, hS4, ?_, rfl, by simp [St.szb], (KW.out.then K2.out).then hk4⟩
                    rw [denS_rep, ← TT.out, show x'.toNat - j2 = (x'.toNat - (j2 + 1)) + 1 by omega, rep_stop _ _ _ hz]
                    simp [seqD, denBs]
                  · have hzb : (q + (r2.2 : Int) == q + (r2.2 : Int) + ((denSs b0 r2.1).2 : Int)) = false := by simp; omega
                    go_wp2_with fail
                    go_roundw
                    case rel =>
                      refine ⟨j2 + 1, seqD r2 (denSs b0), by go_num, by omega, hS4, ?_, K2.out.then hk4⟩
                      rw [← rep_step _ _ _ hz, show x'.toNat - (j2 + 1) + 1 = x'.toNat - j2 by omega]
                      exact TT.out
                    case measure => simp [intOf]; omega
                · go_wp2_with fail
                  go_ret
                  refine ⟨(KK.out.then (KW.out.then K2.out)).then hk4, .inr ⟨rfl, ?_⟩⟩
                  have h1 := rep_first (denSs b0) (x'.toNat - (j2 + 1)) r2
                  rw [show x'.toNat - (j2 + 1) + 1 = x'.toNat - j2 by omega, TT.out, ← denS_rep (nm := nm') (e := e) (t := [])] at h1
                  have h2 := TOT.out
                  simp only [seqD] at h1 h2
                  omega
              · have hge : ¬ (j2 : Int) < x' := by omega
                have hj3 : j2 = x'.toNat := by omega
                go_wp2_with fail
                go_meet
                refine ⟨[], none, 0, 0, r2, rfl, ⟨⟨rfl, Nat.le_refl _, Nat.zero_le _, fun _ => rfl⟩, .inl rfl⟩, S2.out, ?_, rfl, by simp [St.szb], KW.out.then K2.out⟩
                rw [denS_rep, ← TT.out, hj3]
                simp [seqD, denBs, rep]
          · go_wp2_with fail
            go_meet
            exact ⟨bs, a2, len2, cap2, (r.1, r.2), rfl, BB.out, SC.out, by simp [denS, seqD], OB.out.1, by have := HS.out; omega, KW.out⟩
        case rest =>
          obtain ⟨td, a3, len3, cap3, r1, rfl, hB3, hS1, hseq, hok3, hsz3, hkd⟩ := hcut
          clear c0 c1 c2 c3 c4 c5 c6 c7 EE BB HS SC KW OB OE hkind hq1 hq2 hq3
          have hl3 : len3 = td.length := hB3.1.1
          have hl3m : len3 ≤ 9223372036854775807 := by have := hB3.1.2.1; have := hB3.1.2.2.1; unfold maxLen at this; omega
          have B3 := Lib.hid hB3.2; clear hB3
          have S1 := Lib.hid hS1; clear hS1
          have SQ := Lib.hid hseq; clear hseq
          have O3 := Lib.hid (And.intro hok3 hsz3); clear hok3 hsz3
          have hkds := hkd.size
          have KD := Lib.hid (KK.out.then hkd); clear hkd
          have HL3 := Lib.hid hl3; clear hl3
          go_wp2_with fail
          obtain ⟨wo, hwo⟩ : ∃ wo : World, wo = wr := ⟨_, rfl⟩
          subst hwo
          obtain ⟨wd, hwd⟩ : ∃ wd : World, wd = wc := ⟨_, rfl⟩
          subst hwd
          go_loopw [110] (fun i wz => InRel td r1 q n mo db mb wd i wz) (fun i _ => len3 - (intOf i).toNat)
          case atStart => exact ⟨0, rfl, Nat.zero_le _, by simpa [denBs, seqD] using S1.out, Kp.refl _ _⟩
          case round =>
            obtain ⟨j2, rfl, hj2, hS2, hK2⟩ := hrel
            have hl3a : len3 ≤ td.length := by have := HL3.out; omega
            have hl3b : td.length ≤ len3 := by have := HL3.out; omega
            have hk2s := hK2.size
            by_cases hlt2 : j2 < td.length
            · have hlt2' : j2 < len3 := by omega
              obtain ⟨blk, hblk⟩ : ∃ v, td[j2]? = some v := ⟨td[j2], List.getElem?_eq_getElem hlt2⟩
              rcases B3.out with h0 | ⟨b3, o3, rfl, hb3B, hrv3⟩
              · subst h0; simp at hlt2
              have ag3 : Agree B wd wr := hK2.agree (by have := HB.out; omega) fun k hk e => by have := HB.out; rcases e with rfl | rfl <;> omega
              obtain ⟨a4, len4, cap4, g8, hsl4⟩ := (RepBs.keep ag3 (Nat.le_refl _) td b3 o3 hb3B hrv3).get td b3 o3 j2 blk hblk
              have S4 := Lib.hid hsl4; clear hsl4 hrv3
              have T3 := Lib.hid (take_snoc' td j2 blk hblk)
              have Q4 := Lib.hid (And.intro (okSb_get O3.out.1 hblk) (St.szb_mem td blk (List.mem_of_getElem? hblk))); clear hblk
              obtain ⟨r2, hr2⟩ : ∃ r2, seqD r1 (denBs (td.take j2)) = r2 := ⟨_, rfl⟩
              rw [hr2] at hS2
              have R2 := Lib.hid hr2; clear hr2
              have S2 := Lib.hid hS2; clear hS2
              have K2 := Lib.hid hK2; clear hK2
              go_wp2_with fail
              refine (ih blk a4 len4 cap4 wr B db mb (n + r2.2) (q + r2.2) mo r2.1 (by have := Q4.out.2; have := O3.out.2; omega) S4.out HB.out.1 HB.out.2.1 HB.out.2.2 Q4.out.1 S2.out.2.1 S2.out.2.2 (by have := HN.out; omega) S2.out.1 HN.out.2.2.1 (by have := HN.out; omega)).mono ?_
              rintro e w' ⟨hk4, (⟨rfl, hs4⟩ | ⟨rfl, hlt4⟩)⟩
              · go_wp2_with fail
                go_roundw
                case rel =>
                  refine ⟨j2 + 1, by go_num, by omega, ?_, K2.out.then hk4⟩
                  rw [T3.out, seqD_snoc, R2.out]
                  exact hs4.of
                case measure => simp [intOf]; omega
              · go_wp2_with fail
                go_ret
                refine ⟨(KD.out.then K2.out).then hk4, .inr ⟨rfl, ?_⟩⟩
                have h1 := seqD_take r1 td (j2 + 1)
                rw [T3.out, seqD_snoc, R2.out, SQ.out] at h1
                have h2 := TOT.out
                simp only [seqD] at h1 h2
                omega
            · have hge2 : len3 ≤ j2 := by omega
              have hj3 : j2 = td.length := by omega
              go_wp2_with fail
              subst hj3
              rw [List.take_length] at hS2
              go_roundw
              case rel =>
                refine ⟨j + 1, by go_num, by omega, ?_, KD.out.then hK2⟩
                rw [TK.out, denSs_snoc, RR.out, ← SQ.out]
                exact hS2
              case measure => simp [intOf]; omega
    · have hge : l.length ≤ j := by omega
      have hge' : len ≤ j := by omega
      have hj3 : j = l.length := by omega
      go_wp2_with fail
      go_ret
      rw [hj3, List.take_length] at hS
      exact ⟨hK, .inl ⟨rfl, hS⟩⟩
theorem blk_all : ∀ m, BlkC m
  | 0 => fun l a len cap w B db mb n q mo f hm => absurd hm (Nat.not_lt_zero _)
  | m + 1 => blk_step m (blk_all m)
theorem blk_any (l : List St) (a : Option Addr) (len cap : Nat) (w : World) (B db mb n : Nat) (q mo : Int) (f : Vs) (hr : RepSl w B l a len cap) (hBd : B ≤ db) (hBm : B ≤ mb) (hne : mb ≠ db) (hok : okSs l = true) (hd : DoAt w db mb q mo) (hM : MmAt w mb n f)
    (hq0 : 0 ≤ q) (hq : q ≤ mo) (hmo : mo ≤ 4294967296) (hn : (n : Int) + (mo - q) ≤ 1099511627776) :
    Calls Try.prog 10 #[.pointer (some ⟨db, 0, none⟩), .slice a len cap] w (BlkPost l f q n mo db mb w) :=
  blk_all (St.szs l + 1) l a len cap w B db mb n q mo f (Nat.lt_succ_self _) hr hBd hBm hne hok hd hM hq0 hq hmo hn
end Go.Proofs.Ytoejpjnicpajlaa
