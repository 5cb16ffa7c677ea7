/- The program's reader of patterns: rows. Conditions: none beyond those that each lemma names. -/
import Derived.Test.YtbgkalolmichdaaPJ
namespace Go.Proofs.YtbgkalolmichdaaA
open Go Go.Proofs
set_option linter.unusedVariables false
set_option linter.unusedSimpArgs false
set_option maxRecDepth 20000
attribute [local simp ↓] X_skip X_exit X_ret X_region XD_eq X_seq X_cond X_block X_forget X_loop O_nil O_cons str_eq
attribute [local simp] Log.idle MOper.log Opd.tmps MOp.opds Gets_some A_true B_some B_none C_true C_false boolOf guardSays outOf stepK asPv St.opd St.tmp St.obj St.put St.apply look forgetS keep1 keepBox keepCells nodupB lenIs nth setN part_zero part_skip part_cons putN PV.asInt PV.asNum PV.asBool PV.asStr PV.asSl PV.cells PV.isAgg PV.one PV.fits PV.cell
  slK pv1 pvs toPV share1 share cellsK wdA partOf partOk intBin strBin boolBin binPV unPV pickAV capsOf argOf argsOf backK imp1 impL imp isFree allFree callK setElem partsK elemsOf optInt capIds enter resOf resAll outsOf leave ble_dec beq_dec int_bne int_beq

theorem sm_row {o : Int} {t : Str} {ks : List Pt} (h : ks.length ≤ 1000) (h2 : Pt.sms ks) : (Pt.mk o t ks).sm := by rw [Pt.sm]; exact ⟨h, h2⟩

theorem run_seq_bad (l : List UInt8) (i : Int) : EV 85 [rdr l i true] = some ([rdr l i true], .pv (.agg [.int .i64 2, .str ⟨#[]⟩, .sl []])) := by
  refine run (c := m85c) code85 rfl rfl rfl ?_
  simp -implicitDefEqProofs (maxSteps := 2000000) (disch := first | omega | (simp only [List.length_append, List.length_cons, List.length_nil, List.length_map, maxBytes]; omega) | (show apartAll _ _ = true; decide +kernel)) [wrap_in, ite_yes, dec_yes, dec_no, A_go]
  refine LP_ind1 (fun (_ : Unit) => ⟨[(3, .rw 192), (2, .ptr 128 0), (0, .ptr 0 0)], [(192, .row 3 [] true), (128, .box [.pv (.int .i64 0), .pv (.str ⟨#[]⟩), .nils] true), (0, .box [.pv (.str (mkS l)), .pv (.int .i64 i), .pv (.bool true)] true)]⟩)
    (fun _ => (([rdr l i true], .pv (.agg [.int .i64 2, .str ⟨#[]⟩, .sl []])) : Res)) (fun _ => True) (fun _ => 0) (fun _ _ IH => ?_) () trivial
  simp -implicitDefEqProofs (maxSteps := 2000000) (disch := first | omega | (simp only [List.length_append, List.length_cons, List.length_nil, List.length_map, maxBytes]; omega) | (show apartAll _ _ = true; decide +kernel)) [wrap_in, ite_yes, dec_yes, dec_no, A_go]

set_option maxHeartbeats 4000000 in
theorem run_seq (l : List UInt8) (i0 : Int) (hl : l.length ≤ 30) (h0 : 0 ≤ i0) (h1 : i0 ≤ l.length) (hA : ∀ i : Int, i0 ≤ i → i ≤ l.length → @Gets Res (EV 99 [rdr l i false]) ⟨RokS l (pItem (l.drop i.toNat))⟩) :
    @Gets Res (EV 85 [rdr l i0 false]) ⟨RokS l (pSeq (l.drop i0.toNat) [])⟩ := by
  refine runG (c := m85c) code85 rfl rfl rfl ?_
  simp -implicitDefEqProofs (maxSteps := 2000000) (disch := first | omega | (simp only [List.length_append, List.length_cons, List.length_nil, List.length_map, maxBytes]; omega) | (show apartAll _ _ = true; decide +kernel)) [wrap_in, ite_yes, dec_yes, dec_no, A_go]
  refine LP_indE3 (fun (i : Int) (acc : List Pt) (bad : Bool) => ⟨[(3, .rw 192), (2, .ptr 128 0), (0, .ptr 0 0)], [(192, .row 3 (acc.map Pt.pv) true), (128, .box [.pv (.int .i64 0), .pv (.str ⟨#[]⟩), .nils] true), (0, .box [.pv (.str (mkS l)), .pv (.int .i64 i), .pv (.bool bad)] true)]⟩)
    (fun i acc bad => RokS l (if bad then none else pSeq (l.drop i.toNat) acc)) (fun i acc bad => 0 ≤ i ∧ i ≤ l.length ∧ acc.length ≤ 31 ∧ Pt.sms acc ∧ (bad = false → i0 ≤ i ∧ acc.length ≤ i)) (fun i acc bad => if bad then 0 else 1 + (l.length - i).toNat) (fun i acc bad hi IH => ?_) i0 [] false ⟨by omega, by omega, by simp, trivial, fun _ => ⟨by omega, by simp; omega⟩⟩
  obtain ⟨g0, g1, g2, gs, g3⟩ := hi
  cases bad with
  | true =>
    by_cases ca : acc.length = 1
    · obtain ⟨p, rfl⟩ := acc_one ca
      obtain ⟨o, t, ks⟩ := p
      simp -implicitDefEqProofs (maxSteps := 2000000) (disch := first | omega | (simp only [List.length_append, List.length_cons, List.length_nil, List.length_map, maxBytes]; omega) | (show apartAll _ _ = true; decide +kernel)) [wrap_in, ite_yes, dec_yes, dec_no, A_go, Pt.pv_mk]
      rw [Pt.sms] at gs
      exact RokS_bad g0 g1 gs.1
    · simp -implicitDefEqProofs (maxSteps := 2000000) (disch := first | omega | (simp only [List.length_append, List.length_cons, List.length_nil, List.length_map, maxBytes]; omega) | (show apartAll _ _ = true; decide +kernel)) [wrap_in, ite_yes, dec_yes, dec_no, A_go, ca]
      exact RokS_bad g0 g1 (sm_row (by omega) gs)
  | false =>
    obtain ⟨g4, g5⟩ := g3 rfl
    change @Gets Res _ ⟨RokS l (pSeq (l.drop i.toNat) acc)⟩
    by_cases c : i < l.length
    · obtain ⟨x, hx, hat, hdr, _⟩ := idx_at g0 c
      have hs : sidx (mkS l) i = some (x.toNat : Int) := by rw [mk_sidx, if_pos g0, hat]; rfl
      have e124 := byte_eq (b := x) (n := 124) (by omega)
      have e41 := byte_eq (b := x) (n := 41) (by omega)
      by_cases c124 : (x.toNat : Int) = 124
      · have hst : stops (l.drop i.toNat) = true := by rw [hdr]; simp [stops, e124.1 c124]
        rw [pSeq_stop hst]
        by_cases ca : acc.length = 1
        · obtain ⟨p, rfl⟩ := acc_one ca
          obtain ⟨o, t, ks⟩ := p
          simp -implicitDefEqProofs (maxSteps := 2000000) (disch := first | omega | (simp only [List.length_append, List.length_cons, List.length_nil, List.length_map, maxBytes]; omega) | (show apartAll _ _ = true; decide +kernel)) [wrap_in, ite_yes, dec_yes, dec_no, A_go, mk_size, hs, c124, Pt.pv_mk]
          rw [Pt.sms] at gs
          exact RokS_good g0 g1 gs.1 rfl
        · rw [fin_not ca]
          simp -implicitDefEqProofs (maxSteps := 2000000) (disch := first | omega | (simp only [List.length_append, List.length_cons, List.length_nil, List.length_map, maxBytes]; omega) | (show apartAll _ _ = true; decide +kernel)) [wrap_in, ite_yes, dec_yes, dec_no, A_go, mk_size, hs, c124, ca]
          exact RokS_good g0 g1 (sm_row (by omega) gs) rfl
      · by_cases c41 : (x.toNat : Int) = 41
        · have hst : stops (l.drop i.toNat) = true := by rw [hdr]; simp [stops, e41.1 c41]
          rw [pSeq_stop hst]
          by_cases ca : acc.length = 1
          · obtain ⟨p, rfl⟩ := acc_one ca
            obtain ⟨o, t, ks⟩ := p
            simp -implicitDefEqProofs (maxSteps := 2000000) (disch := first | omega | (simp only [List.length_append, List.length_cons, List.length_nil, List.length_map, maxBytes]; omega) | (show apartAll _ _ = true; decide +kernel)) [wrap_in, ite_yes, dec_yes, dec_no, A_go, mk_size, hs, c41, Pt.pv_mk]
            rw [Pt.sms] at gs
            exact RokS_good g0 g1 gs.1 rfl
          · rw [fin_not ca]
            simp -implicitDefEqProofs (maxSteps := 2000000) (disch := first | omega | (simp only [List.length_append, List.length_cons, List.length_nil, List.length_map, maxBytes]; omega) | (show apartAll _ _ = true; decide +kernel)) [wrap_in, ite_yes, dec_yes, dec_no, A_go, mk_size, hs, c41, ca]
            exact RokS_good g0 g1 (sm_row (by omega) gs) rfl
        · have hst : stops (l.drop i.toNat) = false := by
            have f1 : ¬ x = 124 := fun h => c124 (e124.2 h)
            have f2 : ¬ x = 41 := fun h => c41 (e41.2 h)
            rw [hdr]; simp [stops, f1, f2]
          obtain ⟨r, hr, j, bad2, p, rfl, j0, j1, hsm, hm⟩ := gets (hA i (by omega) (by omega))
          obtain ⟨o, t, ks⟩ := p
          rw [Pt.pv_mk] at hr
          simp -implicitDefEqProofs (maxSteps := 2000000) (disch := first | omega | (simp only [List.length_append, List.length_cons, List.length_nil, List.length_map, maxBytes]; omega) | (show apartAll _ _ = true; decide +kernel)) [wrap_in, ite_yes, dec_yes, dec_no, A_go, mk_size, hs, c124, c41, hr]
          cases hm2 : pItem (l.drop i.toNat) with
          | none =>
            rw [hm2] at hm
            simp only at hm
            subst hm
            rw [pSeq_none hst hm2]
            have := IH j (acc ++ [.mk o t ks]) true ⟨j0, j1, by simp; omega, Pt.sms_snoc gs hsm, by simp⟩ (by simp; omega)
            rw [map_snoc] at this; exact this
          | some q =>
            obtain ⟨q, r2⟩ := q
            rw [hm2] at hm
            simp only at hm
            obtain ⟨rfl, rfl, hd2⟩ := hm
            have hlen := (p_len _ (l.drop i.toNat) (Nat.le_refl _)).2.1 _ _ hm2
            rw [← hd2] at hlen
            have hij := drop_lt hlen j0 g0
            rw [pSeq_step hst hm2]
            have := IH j (acc ++ [.mk o t ks]) false ⟨j0, j1, by simp; omega, Pt.sms_snoc gs hsm, fun _ => ⟨by omega, by simp; omega⟩⟩ (by simp; omega)
            rw [map_snoc, hd2] at this; exact this
    · have hst : l.drop i.toNat = [] := List.drop_eq_nil_iff.2 (by omega)
      have hss : stops (l.drop i.toNat) = true := by rw [hst]; rfl
      rw [pSeq_stop hss]
      by_cases ca : acc.length = 1
      · obtain ⟨p, rfl⟩ := acc_one ca
        obtain ⟨o, t, ks⟩ := p
        simp -implicitDefEqProofs (maxSteps := 2000000) (disch := first | omega | (simp only [List.length_append, List.length_cons, List.length_nil, List.length_map, maxBytes]; omega) | (show apartAll _ _ = true; decide +kernel)) [wrap_in, ite_yes, dec_yes, dec_no, A_go, mk_size, Pt.pv_mk]
        rw [Pt.sms] at gs
        exact RokS_good g0 g1 gs.1 rfl
      · rw [fin_not ca]
        simp -implicitDefEqProofs (maxSteps := 2000000) (disch := first | omega | (simp only [List.length_append, List.length_cons, List.length_nil, List.length_map, maxBytes]; omega) | (show apartAll _ _ = true; decide +kernel)) [wrap_in, ite_yes, dec_yes, dec_no, A_go, mk_size, ca]
        exact RokS_good g0 g1 (sm_row (by omega) gs) rfl
end Go.Proofs.YtbgkalolmichdaaA
