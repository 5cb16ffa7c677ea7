/- The program's reader of patterns: alternatives, the whole; the law that both answer alike which texts are patterns. Conditions: none beyond those that each lemma names. -/
import Derived.Test.YtbgkalolmichdaaPK
namespace Go.Proofs.YtbgkalolmichdaaA
open Go Go.Proofs
set_option linter.unusedVariables false
set_option linter.unusedSimpArgs false
set_option maxRecDepth 20000
attribute [local simp ↓] X_skip X_exit X_ret X_region XD_eq X_seq X_cond X_block X_forget X_loop O_nil O_cons str_eq
attribute [local simp] Log.idle MOper.log Opd.tmps MOp.opds Gets_some A_true B_some B_none C_true C_false boolOf guardSays outOf stepK asPv St.opd St.tmp St.obj St.put St.apply look forgetS keep1 keepBox keepCells nodupB lenIs nth setN part_zero part_skip part_cons putN PV.asInt PV.asNum PV.asBool PV.asStr PV.asSl PV.cells PV.isAgg PV.one PV.fits PV.cell
  slK pv1 pvs toPV share1 share cellsK wdA partOf partOk intBin strBin boolBin binPV unPV pickAV capsOf argOf argsOf backK imp1 impL imp isFree allFree callK setElem partsK elemsOf optInt capIds enter resOf resAll outsOf leave ble_dec beq_dec int_bne int_beq

set_option maxHeartbeats 4000000 in
theorem run_alt (l : List UInt8) (i0 : Int) (hl : l.length ≤ 30) (h0 : 0 ≤ i0) (h1 : i0 ≤ l.length) (hA : ∀ i : Int, i0 ≤ i → i ≤ l.length → @Gets Res (EV 85 [rdr l i false]) ⟨RokS l (pSeq (l.drop i.toNat) [])⟩) :
    @Gets Res (EV 71 [rdr l i0 false]) ⟨RokS l (pAlt (l.drop i0.toNat))⟩ := by
  refine runG (c := m71c) code71 rfl rfl rfl ?_
  obtain ⟨r, hr, j, bad2, p, rfl, j0, j1, hps, hm⟩ := gets (hA i0 (by omega) (by omega))
  have hQ : ∃ m, pAlt (l.drop i0.toNat) = m ∧ (bad2 = true → m = none) ∧ (bad2 = false → m = pAlts (l.drop j.toNat) [p] ∧ i0 ≤ j) := by
    refine ⟨_, rfl, ?_, ?_⟩
    · rintro rfl
      cases hm2 : pSeq (l.drop i0.toNat) [] with
      | none => exact pAlt_none hm2
      | some q => rw [hm2] at hm; simp at hm
    · rintro rfl
      cases hm2 : pSeq (l.drop i0.toNat) [] with
      | none => rw [hm2] at hm; simp at hm
      | some q =>
        obtain ⟨q, r2⟩ := q
        rw [hm2] at hm
        obtain ⟨_, rfl, hd⟩ := hm
        have hlen := (p_len _ (l.drop i0.toNat) (Nat.le_refl _)).2.2.1 _ _ _ hm2
        rw [← hd] at hlen
        exact ⟨by rw [pAlt_step hm2, hd], by simp at hlen; omega⟩
  obtain ⟨m, hQ, hb1, hb2⟩ := hQ
  rw [hQ]
  clear hQ hm
  have hp1 : (p.pv :: []) = [p].map Pt.pv := rfl
  have hps1 : Pt.sms [p] := by rw [Pt.sms, Pt.sms]; exact ⟨hps, trivial⟩
  rcases hpq : p with ⟨o, t, ks⟩
  rw [hpq, Pt.pv_mk] at hr hp1
  simp -implicitDefEqProofs (maxSteps := 2000000) (disch := first | omega | (simp only [List.length_append, List.length_cons, List.length_nil, List.length_map, maxBytes]; omega) | (show apartAll _ _ = true; decide +kernel)) [wrap_in, ite_yes, dec_yes, dec_no, A_go, hr]
  rw [hp1, ← hpq]
  refine LP_indE3 (fun (i : Int) (acc : List Pt) (bad : Bool) => ⟨[(3, .rw 192), (2, .ptr 128 0), (0, .ptr 0 0)], [(192, .row 3 (acc.map Pt.pv) true), (128, .box [.pv (.int .i64 0), .pv (.str ⟨#[]⟩), .nils] true), (0, .box [.pv (.str (mkS l)), .pv (.int .i64 i), .pv (.bool bad)] true)]⟩)
    (fun i acc bad => RokS l m) (fun i acc bad => 0 ≤ i ∧ i ≤ l.length ∧ acc.length ≤ 33 + i ∧ Pt.sms acc ∧ (bad = true → m = none) ∧ (bad = false → m = pAlts (l.drop i.toNat) acc ∧ i0 ≤ i ∧ acc.length ≤ i + 1)) (fun i acc bad => if bad then (l.length - i).toNat else 100 + (l.length - i).toNat) (fun i acc bad hi IH => ?_) j [p] bad2 ⟨j0, j1, by simp; omega, hps1, hb1, fun h => ⟨(hb2 h).1, (hb2 h).2, by simp; omega⟩⟩
  clear hr hp1 hpq hb1 hb2
  obtain ⟨g0, g1, g2, gs, g3, g4⟩ := hi
  cases bad with
  | true =>
    rw [g3 rfl]
    have n1 : EV 86 [rdr l i true, .pv (.int .u8 124)] = some ([rdr l (tkI l i 124) true], .pv (.bool (tk l i 124))) := take_fn l i true 124 (by omega) g0 g1
    have tin := tkI_in (b := 124) g0 g1
    have ns := run_seq_bad l (tkI l i 124)
    cases t124 : tk l i 124 with
    | true =>
      have e : tkI l i 124 = i + 1 := by simp [tkI, t124]
      rw [t124, e] at n1
      rw [e] at ns tin
      simp -implicitDefEqProofs (maxSteps := 2000000) (disch := first | omega | (simp only [List.length_append, List.length_cons, List.length_nil, List.length_map, maxBytes]; omega) | (show apartAll _ _ = true; decide +kernel)) [wrap_in, ite_yes, dec_yes, dec_no, A_go, n1, ns]
      have := IH (i + 1) (acc ++ [.mk 2 ⟨#[]⟩ []]) true ⟨by omega, by omega, by simp; omega, Pt.sms_snoc gs (sm_nil 2 _), fun _ => g3 rfl, by simp⟩ (by simp; omega)
      rw [g3 rfl, map_snoc] at this; exact this
    | false =>
      have e : tkI l i 124 = i := by simp [tkI, t124]
      rw [t124, e] at n1
      by_cases ca : acc.length = 1
      · obtain ⟨p, rfl⟩ := acc_one ca
        obtain ⟨o, t, ks⟩ := p
        simp -implicitDefEqProofs (maxSteps := 2000000) (disch := first | omega | (simp only [List.length_append, List.length_cons, List.length_nil, List.length_map, maxBytes]; omega) | (show apartAll _ _ = true; decide +kernel)) [wrap_in, ite_yes, dec_yes, dec_no, A_go, Pt.pv_mk, n1]
        rw [Pt.sms] at gs
        exact RokS_bad g0 g1 gs.1
      · simp -implicitDefEqProofs (maxSteps := 2000000) (disch := first | omega | (simp only [List.length_append, List.length_cons, List.length_nil, List.length_map, maxBytes]; omega) | (show apartAll _ _ = true; decide +kernel)) [wrap_in, ite_yes, dec_yes, dec_no, A_go, ca, n1]
        exact RokS_bad g0 g1 (sm_row (by omega) gs)
  | false =>
    obtain ⟨g5, g6, g7⟩ := g4 rfl
    have n1 : EV 86 [rdr l i false, .pv (.int .u8 124)] = some ([rdr l (tkI l i 124) false], .pv (.bool (tk l i 124))) := take_fn l i false 124 (by omega) g0 g1
    have tin := tkI_in (b := 124) g0 g1
    cases t124 : tk l i 124 with
    | true =>
      have e : tkI l i 124 = i + 1 := by simp [tkI, t124]
      rw [t124, e] at n1
      rw [e] at tin
      obtain ⟨r', hx⟩ : ∃ r', l.drop i.toNat = 124 :: r' := by
        cases hd : l.drop i.toNat with
        | nil => simp [tk, hd] at t124
        | cons x r' => exact ⟨r', by simp only [tk, hd, decide_eq_true_eq] at t124; rw [t124]⟩
      have hil : i < l.length := by omega
      have hd := drop_next g0 hx
      obtain ⟨r, hr, j, bad2, p, rfl, j0, j1, hps2, hm⟩ := gets (hA (i + 1) (by omega) (by omega))
      obtain ⟨o, t, ks⟩ := p
      rw [Pt.pv_mk] at hr
      rw [hd] at hm
      simp -implicitDefEqProofs (maxSteps := 2000000) (disch := first | omega | (simp only [List.length_append, List.length_cons, List.length_nil, List.length_map, maxBytes]; omega) | (show apartAll _ _ = true; decide +kernel)) [wrap_in, ite_yes, dec_yes, dec_no, A_go, n1, hr]
      cases hm2 : pSeq r' [] with
      | none =>
        rw [hm2] at hm
        simp only at hm
        subst hm
        have := IH j (acc ++ [.mk o t ks]) true ⟨j0, j1, by simp; omega, Pt.sms_snoc gs hps2, fun _ => by rw [g5, hx, pAlts_none hm2], by simp⟩ (by simp; omega)
        rw [map_snoc] at this; exact this
      | some q =>
        obtain ⟨q, r2⟩ := q
        rw [hm2] at hm
        simp only at hm
        obtain ⟨rfl, rfl, hd2⟩ := hm
        have hlen := (p_len _ r' (Nat.le_refl _)).2.2.1 _ _ _ hm2
        rw [← hd2, ← hd] at hlen
        have hij : i + 1 ≤ j := by simp at hlen; omega
        have := IH j (acc ++ [.mk o t ks]) false ⟨j0, j1, by simp; omega, Pt.sms_snoc gs hps2, by simp, fun _ => ⟨by rw [g5, hx, pAlts_step hm2, hd2], by omega, by simp; omega⟩⟩ (by simp; omega)
        rw [map_snoc] at this; exact this
    | false =>
      have e : tkI l i 124 = i := by simp [tkI, t124]
      rw [t124, e] at n1
      rw [g5, pAlts_stop fun r' h => by simp [tk, h] at t124]
      by_cases ca : acc.length = 1
      · obtain ⟨p, rfl⟩ := acc_one ca
        obtain ⟨o, t, ks⟩ := p
        simp -implicitDefEqProofs (maxSteps := 2000000) (disch := first | omega | (simp only [List.length_append, List.length_cons, List.length_nil, List.length_map, maxBytes]; omega) | (show apartAll _ _ = true; decide +kernel)) [wrap_in, ite_yes, dec_yes, dec_no, A_go, Pt.pv_mk, n1]
        rw [Pt.sms] at gs
        exact RokS_good g0 g1 gs.1 rfl
      · rw [fin_not ca]
        simp -implicitDefEqProofs (maxSteps := 2000000) (disch := first | omega | (simp only [List.length_append, List.length_cons, List.length_nil, List.length_map, maxBytes]; omega) | (show apartAll _ _ = true; decide +kernel)) [wrap_in, ite_yes, dec_yes, dec_no, A_go, ca, n1]
        exact RokS_good g0 g1 (sm_row (by omega) gs) rfl

/-- All at once: by what is left of the text. -/
theorem run_impl_alts (l : List UInt8) (hl : l.length ≤ 30) : ∀ (n : Nat) (i : Int), 0 ≤ i → i ≤ l.length → (l.length - i).toNat ≤ n → @Gets Res (EV 71 [rdr l i false]) ⟨RokS l (pAlt (l.drop i.toNat))⟩ := by
  intro n
  induction n with
  | zero =>
    intro i h0 h1 hn
    exact run_alt l i hl h0 h1 fun j hj0 hj1 => run_seq l j hl (by omega) hj1 fun k hk0 hk1 => run_item l k hl (run_atom l k hl (by omega) hk1 fun m hm0 hm1 => absurd hm1 (by omega))
  | succ n ih =>
    intro i h0 h1 hn
    exact run_alt l i hl h0 h1 fun j hj0 hj1 => run_seq l j hl (by omega) hj1 fun k hk0 hk1 => run_item l k hl (run_atom l k hl (by omega) hk1 fun m hm0 hm1 => ih m (by omega) hm1 (by omega))

theorem run_impl_ParsePattern (l : List UInt8) (hl : l.length ≤ 1048576) : EV 49 [.pv (.str (mkS l))] = some (parsedRes l) := by
  refine run (c := m49c) code49 rfl rfl rfl ?_
  by_cases c : (30 : Int) < l.length
  · rw [parsed_none (.inl (by omega))]
    simp -implicitDefEqProofs (maxSteps := 2000000) (disch := first | omega | (simp only [List.length_append, List.length_cons, List.length_nil, List.length_map, maxBytes]; omega) | (show apartAll _ _ = true; decide +kernel)) [wrap_in, ite_yes, dec_yes, dec_no, A_go, mk_size]
  · obtain ⟨r, hr, j, bad2, p, rfl, j0, j1, hps, hm⟩ := gets (run_impl_alts l (by omega) l.length 0 (by omega) (by omega) (by omega))
    have hm : match pAlt l with
      | some (q, r2) => bad2 = false ∧ p = q ∧ l.drop j.toNat = r2
      | none => bad2 = true := hm
    obtain ⟨o, t, ks⟩ := p
    rw [Pt.pv_mk] at hr
    cases hm2 : pAlt l with
    | none =>
      rw [hm2] at hm
      simp only at hm
      subst hm
      rw [parsed_none (.inr (by simp [hm2]))]
      simp -implicitDefEqProofs (maxSteps := 2000000) (disch := first | omega | (simp only [List.length_append, List.length_cons, List.length_nil, List.length_map, maxBytes]; omega) | (show apartAll _ _ = true; decide +kernel)) [wrap_in, ite_yes, dec_yes, dec_no, A_go, mk_size, hr]
    | some q =>
      obtain ⟨q, r2⟩ := q
      rw [hm2] at hm
      simp only at hm
      obtain ⟨rfl, rfl, hd⟩ := hm
      by_cases cj : j = l.length
      · have : r2 = [] := by rw [← hd, cj]; simp
        subst this
        rw [parsed_some (by omega) hm2, Pt.pv_mk]
        simp -implicitDefEqProofs (maxSteps := 2000000) (disch := first | omega | (simp only [List.length_append, List.length_cons, List.length_nil, List.length_map, maxBytes]; omega) | (show apartAll _ _ = true; decide +kernel)) [wrap_in, ite_yes, dec_yes, dec_no, A_go, mk_size, hr, cj]
      · have : r2 ≠ [] := by
          rw [← hd]; intro h; have := List.drop_eq_nil_iff.1 h; omega
        rw [parsed_none (.inr (by rintro p' h; rw [hm2] at h; cases h; exact this rfl))]
        simp -implicitDefEqProofs (maxSteps := 2000000) (disch := first | omega | (simp only [List.length_append, List.length_cons, List.length_nil, List.length_map, maxBytes]; omega) | (show apartAll _ _ = true; decide +kernel)) [wrap_in, ite_yes, dec_yes, dec_no, A_go, mk_size, hr, cj]

theorem run_spec_IsPattern (l : List UInt8) (hl : l.length ≤ 1048576) : EV 25 [.pv (.str (mkS l))] = some ([], .pv (.bool (parsed l).isSome)) := by
  refine run (c := m25c) code25 rfl rfl rfl ?_
  have h := run_spec_ParsePattern l hl
  unfold parsedRes at h
  cases hp : parsed l with
  | none => rw [hp] at h; simp -implicitDefEqProofs (maxSteps := 2000000) (disch := first | omega | (simp only [List.length_append, List.length_cons, List.length_nil, List.length_map, maxBytes]; omega) | (show apartAll _ _ = true; decide +kernel)) [wrap_in, ite_yes, dec_yes, dec_no, A_go, h]
  | some p => rw [hp] at h; obtain ⟨o, t, ks⟩ := p; simp only [Pt.pv_mk] at h; simp -implicitDefEqProofs (maxSteps := 2000000) (disch := first | omega | (simp only [List.length_append, List.length_cons, List.length_nil, List.length_map, maxBytes]; omega) | (show apartAll _ _ = true; decide +kernel)) [wrap_in, ite_yes, dec_yes, dec_no, A_go, h]
theorem run_impl_IsPattern (l : List UInt8) (hl : l.length ≤ 1048576) : EV 26 [.pv (.str (mkS l))] = some ([], .pv (.bool (parsed l).isSome)) := by
  refine run (c := m26c) code26 rfl rfl rfl ?_
  have h := run_impl_ParsePattern l hl
  unfold parsedRes at h
  cases hp : parsed l with
  | none => rw [hp] at h; simp -implicitDefEqProofs (maxSteps := 2000000) (disch := first | omega | (simp only [List.length_append, List.length_cons, List.length_nil, List.length_map, maxBytes]; omega) | (show apartAll _ _ = true; decide +kernel)) [wrap_in, ite_yes, dec_yes, dec_no, A_go, h]
  | some p => rw [hp] at h; obtain ⟨o, t, ks⟩ := p; simp only [Pt.pv_mk] at h; simp -implicitDefEqProofs (maxSteps := 2000000) (disch := first | omega | (simp only [List.length_append, List.length_cons, List.length_nil, List.length_map, maxBytes]; omega) | (show apartAll _ _ = true; decide +kernel)) [wrap_in, ite_yes, dec_yes, dec_no, A_go, h]

theorem run_FnExactIsPattern (s : Str) (hs : s.size ≤ 9223372036854775807) : EV 7 [.pv (.str s)] = some ([], .pv (.bool true)) := by
  obtain ⟨l, rfl⟩ : ∃ l, s = mkS l := ⟨s.data.toList, rfl⟩
  rw [mk_size] at hs
  refine run (c := m7c) code7 rfl rfl rfl ?_
  by_cases hg : (1048576 : Int) < l.length
  · simp -implicitDefEqProofs (maxSteps := 2000000) (disch := first | omega | (simp only [List.length_append, List.length_cons, List.length_nil, List.length_map, maxBytes]; omega) | (show apartAll _ _ = true; decide +kernel)) [wrap_in, ite_yes, dec_yes, dec_no, A_go, mk_size]
  · have h1 := run_spec_IsPattern l (by omega)
    have h2 := run_impl_IsPattern l (by omega)
    simp -implicitDefEqProofs (maxSteps := 2000000) (disch := first | omega | (simp only [List.length_append, List.length_cons, List.length_nil, List.length_map, maxBytes]; omega) | (show apartAll _ _ = true; decide +kernel)) [wrap_in, ite_yes, dec_yes, dec_no, A_go, mk_size, h1, h2]
end Go.Proofs.YtbgkalolmichdaaA
