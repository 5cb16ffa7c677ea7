/- The reference's reader of patterns: rows and alternatives. Conditions: none beyond those that each lemma names. -/
import Derived.Test.YtbgkalolmichdaaPE
namespace Go.Proofs.YtbgkalolmichdaaA
open Go Go.Proofs
set_option linter.unusedVariables false
set_option linter.unusedSimpArgs false
set_option maxRecDepth 20000
attribute [local simp ↓] X_skip X_exit X_ret X_region XD_eq X_seq X_cond X_block X_forget X_loop O_nil O_cons str_eq
attribute [local simp] Log.idle MOper.log Opd.tmps MOp.opds Gets_some A_true B_some B_none C_true C_false boolOf guardSays outOf stepK asPv St.opd St.tmp St.obj St.put St.apply look forgetS keep1 keepBox keepCells nodupB lenIs nth setN part_zero part_skip part_cons putN PV.asInt PV.asNum PV.asBool PV.asStr PV.asSl PV.cells PV.isAgg PV.one PV.fits PV.cell
  slK pv1 pvs toPV share1 share cellsK wdA partOf partOk intBin strBin boolBin binPV unPV pickAV capsOf argOf argsOf backK imp1 impL imp isFree allFree callK setElem partsK elemsOf optInt capIds enter resOf resAll outsOf leave ble_dec beq_dec int_bne int_beq

theorem fin_one (op : Int) (p : Pt) : fin op [p] = p := rfl
theorem fin_not {op : Int} {acc : List Pt} (h : acc.length ≠ 1) : fin op acc = .mk op ⟨#[]⟩ acc := by
  match acc with
  | [] => rfl
  | [p] => simp at h
  | _ :: _ :: _ => rfl
theorem acc_one {acc : List Pt} (h : acc.length = 1) : ∃ p, acc = [p] := List.length_eq_one_iff.1 h
theorem map_snoc (acc : List Pt) (o : Int) (t : Str) (ks : List Pt) : (acc ++ [Pt.mk o t ks]).map Pt.pv = acc.map Pt.pv ++ [.agg [.int .i64 o, .str t, .sl (ks.map Pt.pv)]] := by
  rw [List.map_append, List.map_cons, List.map_nil, Pt.pv_mk]
theorem drop_lt {l : List UInt8} {i j : Int} (h : (l.drop j.toNat).length < (l.drop i.toNat).length) (j0 : 0 ≤ j) (i0 : 0 ≤ i) : i < j := by simp at h; omega
theorem suffix_other {p : Pt} {r : List UInt8} (h : ∀ x r', r = x :: r' → x ≠ 42 ∧ x ≠ 43 ∧ x ≠ 63) : suffix p r = (p, r) := by
  cases r with
  | nil => rfl
  | cons x r' =>
    obtain ⟨h1, h2, h3⟩ := h x r' rfl
    simp [suffix, h1, h2, h3]

set_option maxHeartbeats 4000000 in
theorem run_l5Seq (l : List UInt8) (i0 : Int) (hl : l.length ≤ 30) (h0 : 0 ≤ i0) (h1 : i0 ≤ l.length) (hA : ∀ i : Int, i0 ≤ i → i ≤ l.length → @Gets Res (EV 97 [rdr l i false]) ⟨Rok l (pAtom (l.drop i.toNat))⟩) :
    @Gets Res (EV 83 [rdr l i0 false]) ⟨Rok l (pSeq (l.drop i0.toNat) [])⟩ := by
  refine runG (c := m83c) code83 rfl rfl rfl ?_
  simp -implicitDefEqProofs (maxSteps := 2000000) (disch := first | omega | (simp only [List.length_append, List.length_cons, List.length_nil, List.length_map, maxBytes]; omega) | (show apartAll _ _ = true; decide +kernel)) [wrap_in, ite_yes, dec_yes, dec_no, A_go]
  refine LP_indE3 (fun (i : Int) (acc : List Pt) (bad : Bool) => ⟨[(3, .rw 192), (2, .ptr 128 0), (0, .ptr 0 0)], [(192, .row 3 (acc.map Pt.pv) true), (128, .box [.pv (.int .i64 0), .pv (.str ⟨#[]⟩), .nils] true), (0, .box [.pv (.str (mkS l)), .pv (.int .i64 i), .pv (.bool bad)] true)]⟩)
    (fun i acc bad => Rok l (if bad then none else pSeq (l.drop i.toNat) acc)) (fun i acc bad => 0 ≤ i ∧ i ≤ l.length ∧ acc.length ≤ 31 ∧ (bad = false → i0 ≤ i ∧ acc.length ≤ i)) (fun i acc bad => if bad then 0 else 1 + (l.length - i).toNat) (fun i acc bad hi IH => ?_) i0 [] false ⟨by omega, by omega, by simp, fun _ => ⟨by omega, by simp; omega⟩⟩
  obtain ⟨g0, g1, g2, g3⟩ := hi
  cases bad with
  | true =>
    by_cases ca : acc.length = 1
    · obtain ⟨p, rfl⟩ := acc_one ca
      obtain ⟨o, t, ks⟩ := p
      simp -implicitDefEqProofs (maxSteps := 2000000) (disch := first | omega | (simp only [List.length_append, List.length_cons, List.length_nil, List.length_map, maxBytes]; omega) | (show apartAll _ _ = true; decide +kernel)) [wrap_in, ite_yes, dec_yes, dec_no, A_go, Pt.pv_mk]
      exact Rok_bad g0 g1 o t ks
    · simp -implicitDefEqProofs (maxSteps := 2000000) (disch := first | omega | (simp only [List.length_append, List.length_cons, List.length_nil, List.length_map, maxBytes]; omega) | (show apartAll _ _ = true; decide +kernel)) [wrap_in, ite_yes, dec_yes, dec_no, A_go, ca]
      exact Rok_bad g0 g1 2 _ acc
  | false =>
    obtain ⟨g4, g5⟩ := g3 rfl
    change @Gets Res _ ⟨Rok l (pSeq (l.drop i.toNat) acc)⟩
    by_cases c : i < l.length
    · obtain ⟨x, hx, hat, hdr, _⟩ := idx_at g0 c
      have hs : sidx (mkS l) i = some (x.toNat : Int) := by rw [mk_sidx, if_pos g0, hat]; rfl
      have e124 := byte_eq (b := x) (n := 124) (by omega)
      have e41 := byte_eq (b := x) (n := 41) (by omega)
      by_cases c124 : (x.toNat : Int) = 124
      · have hst : stops (l.drop i.toNat) = true := by rw [hdr]; simp [stops, e124.1 c124]
        rw [pSeq_stop hst]
        by_cases ca : acc.length = 1
        · obtain ⟨p, rfl⟩ := acc_one ca
          obtain ⟨o, t, ks⟩ := p
          simp -implicitDefEqProofs (maxSteps := 2000000) (disch := first | omega | (simp only [List.length_append, List.length_cons, List.length_nil, List.length_map, maxBytes]; omega) | (show apartAll _ _ = true; decide +kernel)) [wrap_in, ite_yes, dec_yes, dec_no, A_go, mk_size, hs, c124, Pt.pv_mk]
          exact Rok_good g0 g1 o t ks rfl
        · rw [fin_not ca]
          simp -implicitDefEqProofs (maxSteps := 2000000) (disch := first | omega | (simp only [List.length_append, List.length_cons, List.length_nil, List.length_map, maxBytes]; omega) | (show apartAll _ _ = true; decide +kernel)) [wrap_in, ite_yes, dec_yes, dec_no, A_go, mk_size, hs, c124, ca]
          exact Rok_good g0 g1 2 _ acc rfl
      · by_cases c41 : (x.toNat : Int) = 41
        · have hst : stops (l.drop i.toNat) = true := by rw [hdr]; simp [stops, e41.1 c41]
          rw [pSeq_stop hst]
          by_cases ca : acc.length = 1
          · obtain ⟨p, rfl⟩ := acc_one ca
            obtain ⟨o, t, ks⟩ := p
            simp -implicitDefEqProofs (maxSteps := 2000000) (disch := first | omega | (simp only [List.length_append, List.length_cons, List.length_nil, List.length_map, maxBytes]; omega) | (show apartAll _ _ = true; decide +kernel)) [wrap_in, ite_yes, dec_yes, dec_no, A_go, mk_size, hs, c41, Pt.pv_mk]
            exact Rok_good g0 g1 o t ks rfl
          · rw [fin_not ca]
            simp -implicitDefEqProofs (maxSteps := 2000000) (disch := first | omega | (simp only [List.length_append, List.length_cons, List.length_nil, List.length_map, maxBytes]; omega) | (show apartAll _ _ = true; decide +kernel)) [wrap_in, ite_yes, dec_yes, dec_no, A_go, mk_size, hs, c41, ca]
            exact Rok_good g0 g1 2 _ acc rfl
        · have hst : stops (l.drop i.toNat) = false := by
            have f1 : ¬ x = 124 := fun h => c124 (e124.2 h)
            have f2 : ¬ x = 41 := fun h => c41 (e41.2 h)
            rw [hdr]; simp [stops, f1, f2]
          obtain ⟨r, hr, j, bad2, p, rfl, j0, j1, hm⟩ := gets (hA i (by omega) (by omega))
          cases hm2 : pAtom (l.drop i.toNat) with
          | none =>
            obtain ⟨o, t, ks⟩ := p
            rw [Pt.pv_mk] at hr
            rw [hm2] at hm
            simp only at hm
            subst hm
            rw [pSeq_none hst (by rw [pItem, hm2])]
            have n1 := run_next_bad l j 42
            have n2 := run_next_bad l j 43
            have n3 := run_next_bad l j 63
            simp -implicitDefEqProofs (maxSteps := 2000000) (disch := first | omega | (simp only [List.length_append, List.length_cons, List.length_nil, List.length_map, maxBytes]; omega) | (show apartAll _ _ = true; decide +kernel)) [wrap_in, ite_yes, dec_yes, dec_no, A_go, mk_size, hs, c124, c41, hr, n1, n2, n3]
            have := IH j (acc ++ [.mk o t ks]) true ⟨j0, j1, by simp; omega, by simp⟩ (by simp; omega)
            rw [map_snoc] at this; exact this
          | some q =>
            obtain ⟨q, r2⟩ := q
            rw [hm2] at hm
            simp only at hm
            obtain ⟨rfl, rfl, hd2⟩ := hm
            have hlen := (p_len _ (l.drop i.toNat) (Nat.le_refl _)).1 _ _ hm2
            rw [← hd2] at hlen
            have hij := drop_lt hlen j0 g0
            have hsm := (p_sm _ (l.drop i.toNat) (Nat.le_refl _) (by simp; omega)).1 _ _ hm2
            have htw := run_l5Twin _ hsm
            have hit : pItem (l.drop i.toNat) = some (suffix p r2) := by rw [pItem, hm2]
            obtain ⟨o, t, ks⟩ := p
            rw [Pt.pv_mk] at hr htw
            simp -implicitDefEqProofs (maxSteps := 2000000) (disch := first | omega | (simp only [List.length_append, List.length_cons, List.length_nil, List.length_map, maxBytes]; omega) | (show apartAll _ _ = true; decide +kernel)) [wrap_in, ite_yes, dec_yes, dec_no, A_go, mk_size, hs, c124, c41, hr]
            cases hr2 : r2 with
            | nil =>
              subst hr2
              rw [pSeq_step hst hit]
              have n1 : EV 84 [rdr l j false, .pv (.int .u8 42)] = some ([rdr l j false], .pv (.bool false)) := next_no (by omega) j0 j1 (b := 42) (by rw [hd2]; simp)
              have n2 : EV 84 [rdr l j false, .pv (.int .u8 43)] = some ([rdr l j false], .pv (.bool false)) := next_no (by omega) j0 j1 (b := 43) (by rw [hd2]; simp)
              have n3 : EV 84 [rdr l j false, .pv (.int .u8 63)] = some ([rdr l j false], .pv (.bool false)) := next_no (by omega) j0 j1 (b := 63) (by rw [hd2]; simp)
              simp -implicitDefEqProofs (maxSteps := 2000000) (disch := first | omega | (simp only [List.length_append, List.length_cons, List.length_nil, List.length_map, maxBytes]; omega) | (show apartAll _ _ = true; decide +kernel)) [wrap_in, ite_yes, dec_yes, dec_no, A_go, n1, n2, n3]
              have := IH j (acc ++ [.mk o t ks]) false ⟨j0, j1, by simp; omega, fun _ => ⟨by omega, by simp; omega⟩⟩ (by simp; omega)
              rw [map_snoc, hd2] at this; exact this
            | cons y r3 =>
              subst hr2
              have hj : j < l.length := by have := congrArg List.length hd2; simp at this; omega
              have hd3 := drop_next j0 hd2
              by_cases y42 : y = 42
              · subst y42
                rw [pSeq_step hst hit]
                have n1 : EV 84 [rdr l j false, .pv (.int .u8 42)] = some ([rdr l (j + 1) false], .pv (.bool true)) := next_yes (by omega) j0 j1 hd2
                simp -implicitDefEqProofs (maxSteps := 2000000) (disch := first | omega | (simp only [List.length_append, List.length_cons, List.length_nil, List.length_map, maxBytes]; omega) | (show apartAll _ _ = true; decide +kernel)) [wrap_in, ite_yes, dec_yes, dec_no, A_go, n1]
                have := IH (j + 1) (acc ++ [.mk 4 ⟨#[]⟩ [.mk o t ks]]) false ⟨by omega, by omega, by simp; omega, fun _ => ⟨by omega, by simp; omega⟩⟩ (by simp; omega)
                rw [map_snoc, hd3, List.map_cons, List.map_nil, Pt.pv_mk] at this; exact this
              · have n1 : EV 84 [rdr l j false, .pv (.int .u8 42)] = some ([rdr l j false], .pv (.bool false)) := next_no (by omega) j0 j1 (b := 42) (by rw [hd2]; simp [y42])
                by_cases y43 : y = 43
                · subst y43
                  rw [pSeq_step hst hit]
                  have n2 : EV 84 [rdr l j false, .pv (.int .u8 43)] = some ([rdr l (j + 1) false], .pv (.bool true)) := next_yes (by omega) j0 j1 hd2
                  simp -implicitDefEqProofs (maxSteps := 2000000) (disch := first | omega | (simp only [List.length_append, List.length_cons, List.length_nil, List.length_map, maxBytes]; omega) | (show apartAll _ _ = true; decide +kernel)) [wrap_in, ite_yes, dec_yes, dec_no, A_go, n1, n2, htw]
                  have := IH (j + 1) (acc ++ [.mk 2 ⟨#[]⟩ [.mk o t ks, .mk 4 ⟨#[]⟩ [.mk o t ks]]]) false ⟨by omega, by omega, by simp; omega, fun _ => ⟨by omega, by simp; omega⟩⟩ (by simp; omega)
                  rw [map_snoc, hd3, List.map_cons, List.map_cons, List.map_nil, Pt.pv_mk, Pt.pv_mk, List.map_cons, List.map_nil, Pt.pv_mk] at this; exact this
                · have n2 : EV 84 [rdr l j false, .pv (.int .u8 43)] = some ([rdr l j false], .pv (.bool false)) := next_no (by omega) j0 j1 (b := 43) (by rw [hd2]; simp [y43])
                  by_cases y63 : y = 63
                  · subst y63
                    rw [pSeq_step hst hit]
                    have n3 : EV 84 [rdr l j false, .pv (.int .u8 63)] = some ([rdr l (j + 1) false], .pv (.bool true)) := next_yes (by omega) j0 j1 hd2
                    simp -implicitDefEqProofs (maxSteps := 2000000) (disch := first | omega | (simp only [List.length_append, List.length_cons, List.length_nil, List.length_map, maxBytes]; omega) | (show apartAll _ _ = true; decide +kernel)) [wrap_in, ite_yes, dec_yes, dec_no, A_go, n1, n2, n3]
                    have := IH (j + 1) (acc ++ [.mk 5 ⟨#[]⟩ [.mk o t ks]]) false ⟨by omega, by omega, by simp; omega, fun _ => ⟨by omega, by simp; omega⟩⟩ (by simp; omega)
                    rw [map_snoc, hd3, List.map_cons, List.map_nil, Pt.pv_mk] at this; exact this
                  · have n3 : EV 84 [rdr l j false, .pv (.int .u8 63)] = some ([rdr l j false], .pv (.bool false)) := next_no (by omega) j0 j1 (b := 63) (by rw [hd2]; simp [y63])
                    rw [suffix_other (by rintro x' r' h; cases h; exact ⟨y42, y43, y63⟩)] at hit
                    rw [pSeq_step hst hit]
                    simp -implicitDefEqProofs (maxSteps := 2000000) (disch := first | omega | (simp only [List.length_append, List.length_cons, List.length_nil, List.length_map, maxBytes]; omega) | (show apartAll _ _ = true; decide +kernel)) [wrap_in, ite_yes, dec_yes, dec_no, A_go, n1, n2, n3]
                    have := IH j (acc ++ [.mk o t ks]) false ⟨j0, j1, by simp; omega, fun _ => ⟨by omega, by simp; omega⟩⟩ (by simp; omega)
                    rw [map_snoc, hd2] at this; exact this
    · have hst : stops (l.drop i.toNat) = true := by rw [drop_end c g0]; rfl
      rw [pSeq_stop hst]
      by_cases ca : acc.length = 1
      · obtain ⟨p, rfl⟩ := acc_one ca
        obtain ⟨o, t, ks⟩ := p
        simp -implicitDefEqProofs (maxSteps := 2000000) (disch := first | omega | (simp only [List.length_append, List.length_cons, List.length_nil, List.length_map, maxBytes]; omega) | (show apartAll _ _ = true; decide +kernel)) [wrap_in, ite_yes, dec_yes, dec_no, A_go, mk_size, Pt.pv_mk]
        exact Rok_good g0 g1 o t ks rfl
      · rw [fin_not ca]
        simp -implicitDefEqProofs (maxSteps := 2000000) (disch := first | omega | (simp only [List.length_append, List.length_cons, List.length_nil, List.length_map, maxBytes]; omega) | (show apartAll _ _ = true; decide +kernel)) [wrap_in, ite_yes, dec_yes, dec_no, A_go, mk_size, ca]
        exact Rok_good g0 g1 2 _ acc rfl

set_option maxHeartbeats 4000000 in
theorem run_l5Alt (l : List UInt8) (i0 : Int) (hl : l.length ≤ 30) (h0 : 0 ≤ i0) (h1 : i0 ≤ l.length) (hA : ∀ i : Int, i0 ≤ i → i ≤ l.length → @Gets Res (EV 83 [rdr l i false]) ⟨Rok l (pSeq (l.drop i.toNat) [])⟩) :
    @Gets Res (EV 70 [rdr l i0 false]) ⟨Rok l (pAlt (l.drop i0.toNat))⟩ := by
  refine runG (c := m70c) code70 rfl rfl rfl ?_
  obtain ⟨r, hr, j, bad2, p, rfl, j0, j1, hm⟩ := gets (hA i0 (by omega) (by omega))
  have key : ∀ (o : Int) (t : Str) (ks : List Pt), p = .mk o t ks → True := fun _ _ _ _ => trivial
  clear key
  have hQ : ∃ m, pAlt (l.drop i0.toNat) = m ∧ (bad2 = true → m = none) ∧ (bad2 = false → m = pAlts (l.drop j.toNat) [p] ∧ i0 ≤ j) := by
    refine ⟨_, rfl, ?_, ?_⟩
    · rintro rfl
      cases hm2 : pSeq (l.drop i0.toNat) [] with
      | none => exact pAlt_none hm2
      | some q => rw [hm2] at hm; simp at hm
    · rintro rfl
      cases hm2 : pSeq (l.drop i0.toNat) [] with
      | none => rw [hm2] at hm; simp at hm
      | some q =>
        obtain ⟨q, r2⟩ := q
        rw [hm2] at hm
        obtain ⟨_, rfl, hd⟩ := hm
        have hlen := (p_len _ (l.drop i0.toNat) (Nat.le_refl _)).2.2.1 _ _ _ hm2
        rw [← hd] at hlen
        exact ⟨by rw [pAlt_step hm2, hd], by simp at hlen; omega⟩
  obtain ⟨m, hQ, hb1, hb2⟩ := hQ
  rw [hQ]
  clear hQ hm
  have hp1 : (p.pv :: []) = [p].map Pt.pv := rfl
  rcases hpq : p with ⟨o, t, ks⟩
  rw [hpq, Pt.pv_mk] at hr hp1
  simp -implicitDefEqProofs (maxSteps := 2000000) (disch := first | omega | (simp only [List.length_append, List.length_cons, List.length_nil, List.length_map, maxBytes]; omega) | (show apartAll _ _ = true; decide +kernel)) [wrap_in, ite_yes, dec_yes, dec_no, A_go, hr]
  rw [hp1, ← hpq]
  refine LP_indE3 (fun (i : Int) (acc : List Pt) (bad : Bool) => ⟨[(3, .rw 192), (2, .ptr 128 0), (0, .ptr 0 0)], [(192, .row 3 (acc.map Pt.pv) true), (128, .box [.pv (.int .i64 0), .pv (.str ⟨#[]⟩), .nils] true), (0, .box [.pv (.str (mkS l)), .pv (.int .i64 i), .pv (.bool bad)] true)]⟩)
    (fun i acc bad => Rok l m) (fun i acc bad => 0 ≤ i ∧ i ≤ l.length ∧ acc.length ≤ 32 ∧ (bad = true → m = none) ∧ (bad = false → m = pAlts (l.drop i.toNat) acc ∧ i0 ≤ i ∧ acc.length ≤ i + 1)) (fun i acc bad => if bad then 0 else 1 + (l.length - i).toNat) (fun i acc bad hi IH => ?_) j [p] bad2 ⟨j0, j1, by simp, hb1, fun h => ⟨(hb2 h).1, (hb2 h).2, by simp; omega⟩⟩
  clear hr hp1 hpq hb1 hb2
  obtain ⟨g0, g1, g2, g3, g4⟩ := hi
  cases bad with
  | true =>
    rw [g3 rfl]
    have n1 := run_next_bad l i 124
    by_cases ca : acc.length = 1
    · obtain ⟨p, rfl⟩ := acc_one ca
      obtain ⟨o, t, ks⟩ := p
      simp -implicitDefEqProofs (maxSteps := 2000000) (disch := first | omega | (simp only [List.length_append, List.length_cons, List.length_nil, List.length_map, maxBytes]; omega) | (show apartAll _ _ = true; decide +kernel)) [wrap_in, ite_yes, dec_yes, dec_no, A_go, Pt.pv_mk, n1]
      exact Rok_bad g0 g1 o t ks
    · simp -implicitDefEqProofs (maxSteps := 2000000) (disch := first | omega | (simp only [List.length_append, List.length_cons, List.length_nil, List.length_map, maxBytes]; omega) | (show apartAll _ _ = true; decide +kernel)) [wrap_in, ite_yes, dec_yes, dec_no, A_go, ca, n1]
      exact Rok_bad g0 g1 3 _ acc
  | false =>
    obtain ⟨g5, g6, g7⟩ := g4 rfl
    by_cases hx : ∃ r', l.drop i.toNat = 124 :: r'
    · obtain ⟨r', hx⟩ := hx
      have n1 : EV 84 [rdr l i false, .pv (.int .u8 124)] = some ([rdr l (i + 1) false], .pv (.bool true)) := next_yes (by omega) g0 g1 hx
      have hil : i < l.length := by have := congrArg List.length hx; simp at this; omega
      have hd := drop_next g0 hx
      obtain ⟨r, hr, j, bad2, p, rfl, j0, j1, hm⟩ := gets (hA (i + 1) (by omega) (by omega))
      obtain ⟨o, t, ks⟩ := p
      rw [Pt.pv_mk] at hr
      rw [hd] at hm
      simp -implicitDefEqProofs (maxSteps := 2000000) (disch := first | omega | (simp only [List.length_append, List.length_cons, List.length_nil, List.length_map, maxBytes]; omega) | (show apartAll _ _ = true; decide +kernel)) [wrap_in, ite_yes, dec_yes, dec_no, A_go, n1, hr]
      cases hm2 : pSeq r' [] with
      | none =>
        rw [hm2] at hm
        simp only at hm
        subst hm
        have := IH j (acc ++ [.mk o t ks]) true ⟨j0, j1, by simp; omega, fun _ => by rw [g5, hx, pAlts_none hm2], by simp⟩ (by simp; omega)
        rw [map_snoc] at this; exact this
      | some q =>
        obtain ⟨q, r2⟩ := q
        rw [hm2] at hm
        simp only at hm
        obtain ⟨rfl, rfl, hd2⟩ := hm
        have hlen := (p_len _ r' (Nat.le_refl _)).2.2.1 _ _ _ hm2
        rw [← hd2, ← hd] at hlen
        have hij : i + 1 ≤ j := by simp at hlen; omega
        have := IH j (acc ++ [.mk o t ks]) false ⟨j0, j1, by simp; omega, by simp, fun _ => ⟨by rw [g5, hx, pAlts_step hm2, hd2], by omega, by simp; omega⟩⟩ (by simp; omega)
        rw [map_snoc] at this; exact this
    · have n1 : EV 84 [rdr l i false, .pv (.int .u8 124)] = some ([rdr l i false], .pv (.bool false)) := next_no (by omega) g0 g1 (b := 124) (fun r' h => hx ⟨r', h⟩)
      rw [g5, pAlts_stop fun r' h => hx ⟨r', h⟩]
      by_cases ca : acc.length = 1
      · obtain ⟨p, rfl⟩ := acc_one ca
        obtain ⟨o, t, ks⟩ := p
        simp -implicitDefEqProofs (maxSteps := 2000000) (disch := first | omega | (simp only [List.length_append, List.length_cons, List.length_nil, List.length_map, maxBytes]; omega) | (show apartAll _ _ = true; decide +kernel)) [wrap_in, ite_yes, dec_yes, dec_no, A_go, Pt.pv_mk, n1]
        exact Rok_good g0 g1 o t ks rfl
      · rw [fin_not ca]
        simp -implicitDefEqProofs (maxSteps := 2000000) (disch := first | omega | (simp only [List.length_append, List.length_cons, List.length_nil, List.length_map, maxBytes]; omega) | (show apartAll _ _ = true; decide +kernel)) [wrap_in, ite_yes, dec_yes, dec_no, A_go, ca, n1]
        exact Rok_good g0 g1 3 _ acc rfl

/-- All at once: by what is left of the text. -/
theorem run_spec_alts (l : List UInt8) (hl : l.length ≤ 30) : ∀ (n : Nat) (i : Int), 0 ≤ i → i ≤ l.length → (l.length - i).toNat ≤ n → @Gets Res (EV 70 [rdr l i false]) ⟨Rok l (pAlt (l.drop i.toNat))⟩ := by
  intro n
  induction n with
  | zero =>
    intro i h0 h1 hn
    exact run_l5Alt l i hl h0 h1 fun j hj0 hj1 => run_l5Seq l j hl (by omega) hj1 fun k hk0 hk1 => run_l5Atom l k hl (by omega) hk1 fun m hm0 hm1 => absurd hm1 (by omega)
  | succ n ih =>
    intro i h0 h1 hn
    exact run_l5Alt l i hl h0 h1 fun j hj0 hj1 => run_l5Seq l j hl (by omega) hj1 fun k hk0 hk1 => run_l5Atom l k hl (by omega) hk1 fun m hm0 hm1 => ih m (by omega) hm1 (by omega)

/-- What both readers of a whole pattern answer. -/
def parsed (l : List UInt8) : Option Pt := if 30 < l.length then none else match pAlt l with
  | some (p, []) => some p
  | _ => none
def parsedRes (l : List UInt8) : Res := match parsed l with
  | some p => ([], .tup [.pv p.pv, .pv (.bool true)])
  | none => ([], .tup [.pv (.agg [.int .i64 0, .str ⟨#[]⟩, .sl []]), .pv (.bool false)])
theorem parsed_some {l : List UInt8} {p : Pt} (h : ¬ 30 < l.length) (h2 : pAlt l = some (p, [])) : parsedRes l = ([], .tup [.pv p.pv, .pv (.bool true)]) := by
  simp [parsedRes, parsed, h, h2]
theorem parsed_none {l : List UInt8} (h : 30 < l.length ∨ ∀ p, pAlt l ≠ some (p, [])) : parsedRes l = ([], .tup [.pv (.agg [.int .i64 0, .str ⟨#[]⟩, .sl []]), .pv (.bool false)]) := by
  have : parsed l = none := by
    unfold parsed
    by_cases c : 30 < l.length
    · rw [if_pos c]
    · rw [if_neg c]
      split
      · rename_i p hp; exact absurd hp ((h.resolve_left c) p)
      · rfl
  simp [parsedRes, this]
theorem run_spec_ParsePattern (l : List UInt8) (hl : l.length ≤ 1048576) : EV 48 [.pv (.str (mkS l))] = some (parsedRes l) := by
  refine run (c := m48c) code48 rfl rfl rfl ?_
  by_cases c : (30 : Int) < l.length
  · rw [parsed_none (.inl (by omega))]
    simp -implicitDefEqProofs (maxSteps := 2000000) (disch := first | omega | (simp only [List.length_append, List.length_cons, List.length_nil, List.length_map, maxBytes]; omega) | (show apartAll _ _ = true; decide +kernel)) [wrap_in, ite_yes, dec_yes, dec_no, A_go, mk_size]
  · obtain ⟨r, hr, j, bad2, p, rfl, j0, j1, hm⟩ := gets (run_spec_alts l (by omega) l.length 0 (by omega) (by omega) (by omega))
    have hm : match pAlt l with
      | some (q, r2) => bad2 = false ∧ p = q ∧ l.drop j.toNat = r2
      | none => bad2 = true := hm
    obtain ⟨o, t, ks⟩ := p
    rw [Pt.pv_mk] at hr
    cases hm2 : pAlt l with
    | none =>
      rw [hm2] at hm
      simp only at hm
      subst hm
      rw [parsed_none (.inr (by simp [hm2]))]
      simp -implicitDefEqProofs (maxSteps := 2000000) (disch := first | omega | (simp only [List.length_append, List.length_cons, List.length_nil, List.length_map, maxBytes]; omega) | (show apartAll _ _ = true; decide +kernel)) [wrap_in, ite_yes, dec_yes, dec_no, A_go, mk_size, hr]
    | some q =>
      obtain ⟨q, r2⟩ := q
      rw [hm2] at hm
      simp only at hm
      obtain ⟨rfl, rfl, hd⟩ := hm
      by_cases cj : j = l.length
      · have : r2 = [] := by rw [← hd, cj]; simp
        subst this
        rw [parsed_some (by omega) hm2, Pt.pv_mk]
        simp -implicitDefEqProofs (maxSteps := 2000000) (disch := first | omega | (simp only [List.length_append, List.length_cons, List.length_nil, List.length_map, maxBytes]; omega) | (show apartAll _ _ = true; decide +kernel)) [wrap_in, ite_yes, dec_yes, dec_no, A_go, mk_size, hr, cj]
      · have : r2 ≠ [] := by
          rw [← hd]; intro h; have := List.drop_eq_nil_iff.1 h; omega
        rw [parsed_none (.inr (by rintro p' h; rw [hm2] at h; cases h; exact this rfl))]
        simp -implicitDefEqProofs (maxSteps := 2000000) (disch := first | omega | (simp only [List.length_append, List.length_cons, List.length_nil, List.length_map, maxBytes]; omega) | (show apartAll _ _ = true; decide +kernel)) [wrap_in, ite_yes, dec_yes, dec_no, A_go, mk_size, hr, cj]
end Go.Proofs.YtbgkalolmichdaaA
