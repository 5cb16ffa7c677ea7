/- The program's reader of patterns: parts with what stands behind them, rows, alternatives. Conditions: none beyond those that each lemma names. -/
import Derived.Test.YtbgkalolmichdaaPI
import Derived.Test.YtbgkalolmichdaaPG
namespace Go.Proofs.YtbgkalolmichdaaA
open Go Go.Proofs
set_option linter.unusedVariables false
set_option linter.unusedSimpArgs false
set_option maxRecDepth 20000
attribute [local simp ↓] X_skip X_exit X_ret X_region XD_eq X_seq X_cond X_block X_forget X_loop O_nil O_cons str_eq
attribute [local simp] Log.idle MOper.log Opd.tmps MOp.opds Gets_some A_true B_some B_none C_true C_false boolOf guardSays outOf stepK asPv St.opd St.tmp St.obj St.put St.apply look forgetS keep1 keepBox keepCells nodupB lenIs nth setN part_zero part_skip part_cons putN PV.asInt PV.asNum PV.asBool PV.asStr PV.asSl PV.cells PV.isAgg PV.one PV.fits PV.cell
  slK pv1 pvs toPV share1 share cellsK wdA partOf partOk intBin strBin boolBin binPV unPV pickAV capsOf argOf argsOf backK imp1 impL imp isFree allFree callK setElem partsK elemsOf optInt capIds enter resOf resAll outsOf leave ble_dec beq_dec int_bne int_beq

theorem sm_star {o : Int} {t : Str} {ks : List Pt} (op : Int) (h : (Pt.mk o t ks).sm) : (Pt.mk op ⟨#[]⟩ [.mk o t ks]).sm := by
  rw [Pt.sm, Pt.sms, Pt.sms]; exact ⟨by simp, h, trivial⟩
theorem sm_plus {o : Int} {t : Str} {ks : List Pt} (h : (Pt.mk o t ks).sm) : (Pt.mk 2 ⟨#[]⟩ [.mk o t ks, .mk 4 ⟨#[]⟩ [.mk o t ks]]).sm := by
  rw [Pt.sm, Pt.sms, Pt.sms, Pt.sms]; exact ⟨by simp, h, sm_star 4 h, trivial⟩
theorem pv_star (op o : Int) (t : Str) (ks : List Pt) : ([Pt.mk o t ks].map Pt.pv) = [.agg [.int .i64 o, .str t, .sl (ks.map Pt.pv)]] := by rw [List.map_cons, List.map_nil, Pt.pv_mk]
theorem pv_plus (o : Int) (t : Str) (ks : List Pt) : ([Pt.mk o t ks, .mk 4 ⟨#[]⟩ [.mk o t ks]].map Pt.pv) = [.agg [.int .i64 o, .str t, .sl (ks.map Pt.pv)], .agg [.int .i64 4, .str ⟨#[]⟩, .sl [.agg [.int .i64 o, .str t, .sl (ks.map Pt.pv)]]]] := by rw [List.map_cons, List.map_cons, List.map_nil, Pt.pv_mk, Pt.pv_mk, List.map_cons, List.map_nil, Pt.pv_mk]

set_option maxHeartbeats 4000000 in
theorem run_item (l : List UInt8) (i : Int) (hl : l.length ≤ 30) (hA : @Gets Res (EV 109 [rdr l i false]) ⟨RokS l (pAtom (l.drop i.toNat))⟩) :
    @Gets Res (EV 99 [rdr l i false]) ⟨RokS l (pItem (l.drop i.toNat))⟩ := by
  refine runG (c := m99c) code99 rfl rfl rfl ?_
  obtain ⟨r, hr, j, bad, p, rfl, j0, j1, hsm, hm⟩ := gets hA
  have hcp := run_copyPat p hsm
  rw [pItem]
  obtain ⟨o, t, ks⟩ := p
  rw [Pt.pv_mk] at hr hcp
  have n42 : EV 86 [rdr l j bad, .pv (.int .u8 42)] = some ([rdr l (tkI l j 42) bad], .pv (.bool (tk l j 42))) := take_fn l j bad 42 (by omega) j0 j1
  have n43 : EV 86 [rdr l j bad, .pv (.int .u8 43)] = some ([rdr l (tkI l j 43) bad], .pv (.bool (tk l j 43))) := take_fn l j bad 43 (by omega) j0 j1
  have n63 : EV 86 [rdr l j bad, .pv (.int .u8 63)] = some ([rdr l (tkI l j 63) bad], .pv (.bool (tk l j 63))) := take_fn l j bad 63 (by omega) j0 j1
  have i42 := tkI_in (b := 42) j0 j1
  have i43 := tkI_in (b := 43) j0 j1
  have i63 := tkI_in (b := 63) j0 j1
  simp -implicitDefEqProofs (maxSteps := 2000000) (disch := first | omega | (simp only [List.length_append, List.length_cons, List.length_nil, List.length_map, maxBytes]; omega) | (show apartAll _ _ = true; decide +kernel)) [wrap_in, ite_yes, dec_yes, dec_no, A_go, hr, n42]
  cases t42 : tk l j 42 with
  | true =>
    have e42 : tkI l j 42 = j + 1 := by simp [tkI, t42]
    simp -implicitDefEqProofs (maxSteps := 2000000) (disch := first | omega | (simp only [List.length_append, List.length_cons, List.length_nil, List.length_map, maxBytes]; omega) | (show apartAll _ _ = true; decide +kernel)) [wrap_in, ite_yes, dec_yes, dec_no, A_go, t42, e42]
    have hq : ∀ q r2, pAtom (l.drop i.toNat) = some (q, r2) → bad = false ∧ .mk o t ks = q ∧ suffix q r2 = (.mk 4 ⟨#[]⟩ [q], l.drop (j + 1).toNat) := fun q r2 h => by
      rw [h] at hm
      obtain ⟨h1, h2, h3⟩ := hm
      refine ⟨h1, h2, ?_⟩
      cases r2 with
      | nil => simp [tk, h3] at t42
      | cons x r3 =>
        have hx : x = 42 := by simpa [tk, h3] using t42
        subst hx
        rw [drop_next j0 h3]; rfl
    rw [← pv_star 4]
    cases hm2 : pAtom (l.drop i.toNat) with
    | none =>
      rw [hm2] at hm; simp only at hm; subst hm
      exact RokS_bad (by omega) (by omega) (sm_star 4 hsm)
    | some q =>
      obtain ⟨q, r2⟩ := q
      obtain ⟨rfl, rfl, h3⟩ := hq q r2 hm2
      simp only [h3]
      exact RokS_good (by omega) (by omega) (sm_star 4 hsm) rfl
  | false =>
    have e42 : tkI l j 42 = j := by simp [tkI, t42]
    simp -implicitDefEqProofs (maxSteps := 2000000) (disch := first | omega | (simp only [List.length_append, List.length_cons, List.length_nil, List.length_map, maxBytes]; omega) | (show apartAll _ _ = true; decide +kernel)) [wrap_in, ite_yes, dec_yes, dec_no, A_go, t42, e42, n43]
    cases t43 : tk l j 43 with
    | true =>
      have e43 : tkI l j 43 = j + 1 := by simp [tkI, t43]
      simp -implicitDefEqProofs (maxSteps := 2000000) (disch := first | omega | (simp only [List.length_append, List.length_cons, List.length_nil, List.length_map, maxBytes]; omega) | (show apartAll _ _ = true; decide +kernel)) [wrap_in, ite_yes, dec_yes, dec_no, A_go, t43, e43, hcp]
      have hq : ∀ q r2, pAtom (l.drop i.toNat) = some (q, r2) → bad = false ∧ .mk o t ks = q ∧ suffix q r2 = (.mk 2 ⟨#[]⟩ [q, .mk 4 ⟨#[]⟩ [q]], l.drop (j + 1).toNat) := fun q r2 h => by
        rw [h] at hm
        obtain ⟨h1, h2, h3⟩ := hm
        refine ⟨h1, h2, ?_⟩
        cases r2 with
        | nil => simp [tk, h3] at t43
        | cons x r3 =>
          have hx : x = 43 := by simpa [tk, h3] using t43
          subst hx
          rw [drop_next j0 h3]; rfl
      rw [← pv_plus]
      cases hm2 : pAtom (l.drop i.toNat) with
      | none =>
        rw [hm2] at hm; simp only at hm; subst hm
        exact RokS_bad (by omega) (by omega) (sm_plus hsm)
      | some q =>
        obtain ⟨q, r2⟩ := q
        obtain ⟨rfl, rfl, h3⟩ := hq q r2 hm2
        simp only [h3]
        exact RokS_good (by omega) (by omega) (sm_plus hsm) rfl
    | false =>
      have e43 : tkI l j 43 = j := by simp [tkI, t43]
      simp -implicitDefEqProofs (maxSteps := 2000000) (disch := first | omega | (simp only [List.length_append, List.length_cons, List.length_nil, List.length_map, maxBytes]; omega) | (show apartAll _ _ = true; decide +kernel)) [wrap_in, ite_yes, dec_yes, dec_no, A_go, t43, e43, n63]
      cases t63 : tk l j 63 with
      | true =>
        have e63 : tkI l j 63 = j + 1 := by simp [tkI, t63]
        simp -implicitDefEqProofs (maxSteps := 2000000) (disch := first | omega | (simp only [List.length_append, List.length_cons, List.length_nil, List.length_map, maxBytes]; omega) | (show apartAll _ _ = true; decide +kernel)) [wrap_in, ite_yes, dec_yes, dec_no, A_go, t63, e63]
        have hq : ∀ q r2, pAtom (l.drop i.toNat) = some (q, r2) → bad = false ∧ .mk o t ks = q ∧ suffix q r2 = (.mk 5 ⟨#[]⟩ [q], l.drop (j + 1).toNat) := fun q r2 h => by
          rw [h] at hm
          obtain ⟨h1, h2, h3⟩ := hm
          refine ⟨h1, h2, ?_⟩
          cases r2 with
          | nil => simp [tk, h3] at t63
          | cons x r3 =>
            have hx : x = 63 := by simpa [tk, h3] using t63
            subst hx
            rw [drop_next j0 h3]; rfl
        rw [← pv_star 5]
        cases hm2 : pAtom (l.drop i.toNat) with
        | none =>
          rw [hm2] at hm; simp only at hm; subst hm
          exact RokS_bad (by omega) (by omega) (sm_star 5 hsm)
        | some q =>
          obtain ⟨q, r2⟩ := q
          obtain ⟨rfl, rfl, h3⟩ := hq q r2 hm2
          simp only [h3]
          exact RokS_good (by omega) (by omega) (sm_star 5 hsm) rfl
      | false =>
        have e63 : tkI l j 63 = j := by simp [tkI, t63]
        simp -implicitDefEqProofs (maxSteps := 2000000) (disch := first | omega | (simp only [List.length_append, List.length_cons, List.length_nil, List.length_map, maxBytes]; omega) | (show apartAll _ _ = true; decide +kernel)) [wrap_in, ite_yes, dec_yes, dec_no, A_go, t63, e63]
        cases hm2 : pAtom (l.drop i.toNat) with
        | none =>
          rw [hm2] at hm; simp only at hm; subst hm
          exact RokS_bad (by omega) (by omega) hsm
        | some q =>
          obtain ⟨q, r2⟩ := q
          rw [hm2] at hm
          obtain ⟨rfl, rfl, h3⟩ := hm
          have hsx : suffix (.mk o t ks) r2 = (.mk o t ks, r2) := suffix_other fun x r' h => by
            subst h
            simp only [tk, h3, decide_eq_false_iff_not] at t42 t43 t63
            exact ⟨t42, t43, t63⟩
          simp only [hsx]
          exact RokS_good (by omega) (by omega) hsm h3
end Go.Proofs.YtbgkalolmichdaaA
