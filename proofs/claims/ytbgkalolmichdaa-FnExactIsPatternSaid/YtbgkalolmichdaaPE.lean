/- The reference's reader of patterns answers what the plain function says. Conditions: none beyond those that each lemma names. -/
import Derived.Test.YtbgkalolmichdaaPD
namespace Go.Proofs.YtbgkalolmichdaaA
open Go Go.Proofs
set_option linter.unusedVariables false
set_option linter.unusedSimpArgs false
set_option maxRecDepth 20000
attribute [local simp ↓] X_skip X_exit X_ret X_region XD_eq X_seq X_cond X_block X_forget X_loop O_nil O_cons str_eq
attribute [local simp] Log.idle MOper.log Opd.tmps MOp.opds Gets_some A_true B_some B_none C_true C_false boolOf guardSays outOf stepK asPv St.opd St.tmp St.obj St.put St.apply look forgetS keep1 keepBox keepCells nodupB lenIs nth setN part_zero part_skip part_cons putN PV.asInt PV.asNum PV.asBool PV.asStr PV.asSl PV.cells PV.isAgg PV.one PV.fits PV.cell
  slK pv1 pvs toPV share1 share cellsK wdA partOf partOk intBin strBin boolBin binPV unPV pickAV capsOf argOf argsOf backK imp1 impL imp isFree allFree callK setElem partsK elemsOf optInt capIds enter resOf resAll outsOf leave ble_dec beq_dec int_bne int_beq

/-- The reference's readers at all places behind one. -/
def AltS (l : List UInt8) (i0 : Int) : Prop := ∀ i : Int, i0 < i → i ≤ l.length → @Gets Res (EV 70 [rdr l i false]) ⟨Rok l (pAlt (l.drop i.toNat))⟩

set_option maxHeartbeats 4000000 in
theorem run_l5Atom (l : List UInt8) (i : Int) (hl : l.length ≤ 30) (h0 : 0 ≤ i) (h1 : i ≤ l.length) (hA : AltS l i) :
    @Gets Res (EV 97 [rdr l i false]) ⟨Rok l (pAtom (l.drop i.toNat))⟩ := by
  refine runG (c := m97c) code97 rfl rfl rfl ?_
  by_cases c : i < l.length
  · obtain ⟨b, hb, hat, hdr, _⟩ := idx_at h0 c
    have hs : sidx (mkS l) i = some (b.toNat : Int) := by rw [mk_sidx, if_pos h0, hat]; rfl
    have hbb := byte_lt b
    rw [hdr, pAtom]
    by_cases c40 : b = 40
    · subst c40
      rw [if_pos rfl]
      have hn : EV 84 [rdr l i false, .pv (.int .u8 40)] = some ([rdr l (i + 1) false], .pv (.bool true)) := next_yes (by omega) h0 (by omega) hdr
      obtain ⟨r, hr, j, bad, p, rfl, j0, j1, hm⟩ := gets (hA (i + 1) (by omega) (by omega))
      obtain ⟨o, t, ks⟩ := p
      rw [Pt.pv_mk] at hr
      cases hm2 : pAlt (l.drop (i + 1).toNat) with
      | none =>
        rw [hm2] at hm
        simp only at hm
        subst hm
        have hn2 := run_next_bad l j 41
        simp -implicitDefEqProofs (maxSteps := 2000000) (disch := first | omega | (simp only [List.length_append, List.length_cons, List.length_nil, List.length_map, maxBytes]; omega) | (show apartAll _ _ = true; decide +kernel)) [wrap_in, ite_yes, dec_yes, dec_no, A_go, hn, hr, hn2, Pt.pv_mk]
        exact Rok_bad j0 j1 o t ks
      | some q =>
        obtain ⟨q, r2⟩ := q
        rw [hm2] at hm
        simp only at hm
        obtain ⟨rfl, rfl, hd2⟩ := hm
        cases r2 with
        | nil =>
          have hn2 : EV 84 [rdr l j false, .pv (.int .u8 41)] = some ([rdr l j false], .pv (.bool false)) := next_no (by omega) j0 j1 (b := 41) (by rw [hd2]; simp)
          simp -implicitDefEqProofs (maxSteps := 2000000) (disch := first | omega | (simp only [List.length_append, List.length_cons, List.length_nil, List.length_map, maxBytes]; omega) | (show apartAll _ _ = true; decide +kernel)) [wrap_in, ite_yes, dec_yes, dec_no, A_go, hn, hr, hn2, Pt.pv_mk]
          exact Rok_bad j0 j1 o t ks
        | cons x r3 =>
          have hj : j < l.length := by have := congrArg List.length hd2; simp at this; omega
          by_cases cx : x = 41
          · subst cx
            have hn2 : EV 84 [rdr l j false, .pv (.int .u8 41)] = some ([rdr l (j + 1) false], .pv (.bool true)) := next_yes (by omega) j0 j1 hd2
            simp -implicitDefEqProofs (maxSteps := 2000000) (disch := first | omega | (simp only [List.length_append, List.length_cons, List.length_nil, List.length_map, maxBytes]; omega) | (show apartAll _ _ = true; decide +kernel)) [wrap_in, ite_yes, dec_yes, dec_no, A_go, hn, hr, hn2, Pt.pv_mk]
            exact Rok_good (by omega) (by omega) o t ks (drop_next j0 hd2)
          · have hn2 : EV 84 [rdr l j false, .pv (.int .u8 41)] = some ([rdr l j false], .pv (.bool false)) := next_no (by omega) j0 j1 (b := 41) (by rw [hd2]; simp [cx])
            simp -implicitDefEqProofs (maxSteps := 2000000) (disch := first | omega | (simp only [List.length_append, List.length_cons, List.length_nil, List.length_map, maxBytes]; omega) | (show apartAll _ _ = true; decide +kernel)) [wrap_in, ite_yes, dec_yes, dec_no, A_go, hn, hr, hn2, Pt.pv_mk]
            have e : close (some (Pt.mk o t ks, x :: r3)) = none := by simp [close, cx]
            rw [e]
            exact Rok_bad j0 j1 o t ks
    · have hn : EV 84 [rdr l i false, .pv (.int .u8 40)] = some ([rdr l i false], .pv (.bool false)) := next_no (by omega) h0 (by omega) (b := 40) (by rw [hdr]; simp [c40])
      rw [if_neg c40]
      by_cases c91 : b = 91
      · subst c91
        rw [if_pos rfl]
        have hn2 : EV 84 [rdr l i false, .pv (.int .u8 91)] = some ([rdr l (i + 1) false], .pv (.bool true)) := next_yes (by omega) h0 (by omega) hdr
        obtain ⟨r, hr, j, bad, p, rfl, j0, j1, hm⟩ := gets (run_l5Class l (i + 1) hl (by omega) (by omega))
        obtain ⟨o, t, ks⟩ := p
        rw [Pt.pv_mk] at hr
        simp -implicitDefEqProofs (maxSteps := 2000000) (disch := first | omega | (simp only [List.length_append, List.length_cons, List.length_nil, List.length_map, maxBytes]; omega) | (show apartAll _ _ = true; decide +kernel)) [wrap_in, ite_yes, dec_yes, dec_no, A_go, hn, hr, hn2, Pt.pv_mk]
        exact ⟨j, bad, .mk o t ks, by rw [Pt.pv_mk], j0, j1, hm⟩
      · have hn2 : EV 84 [rdr l i false, .pv (.int .u8 91)] = some ([rdr l i false], .pv (.bool false)) := next_no (by omega) h0 (by omega) (b := 91) (by rw [hdr]; simp [c91])
        rw [if_neg c91]
        by_cases c46 : b = 46
        · subst c46
          rw [if_pos rfl]
          have hn3 : EV 84 [rdr l i false, .pv (.int .u8 46)] = some ([rdr l (i + 1) false], .pv (.bool true)) := next_yes (by omega) h0 (by omega) hdr
          simp -implicitDefEqProofs (maxSteps := 2000000) (disch := first | omega | (simp only [List.length_append, List.length_cons, List.length_nil, List.length_map, maxBytes]; omega) | (show apartAll _ _ = true; decide +kernel)) [wrap_in, ite_yes, dec_yes, dec_no, A_go, hn, hn2, hn3, run_l5Any]
          exact Rok_good (by omega) (by omega) 1 _ [] rfl
        · have hn3 : EV 84 [rdr l i false, .pv (.int .u8 46)] = some ([rdr l i false], .pv (.bool false)) := next_no (by omega) h0 (by omega) (b := 46) (by rw [hdr]; simp [c46])
          rw [if_neg c46]
          have k1 := run_l3Letter b.toNat (by omega) hbb
          have k2 := run_l3Digit b.toNat (by omega) hbb
          have e45 := byte_eq (b := b) (n := 45) (by omega)
          have hex : ((l.take (i + 1).toNat).drop i.toNat) = [b] := by
            have e1 : (i + 1).toNat = i.toNat + 1 := by omega
            rw [e1, ← List.take_append_getElem (by omega : i.toNat < l.length)] 
            have hl' : (l.take i.toNat).length = i.toNat := by simp; omega
            rw [List.drop_append_of_le_length (by omega), List.drop_eq_nil_iff.2 (by omega)]
            have := (List.getElem?_eq_some_iff.1 hat).2
            simp [this]
          have e1 : i + 1 - 1 = i := by omega
          unfold one
          cases l1 : lower (b.toNat : Int) with
          | true =>
            rw [l1] at k1
            simp -implicitDefEqProofs (maxSteps := 2000000) (disch := first | omega | (simp only [List.length_append, List.length_cons, List.length_nil, List.length_map, maxBytes]; omega) | (show apartAll _ _ = true; decide +kernel)) [wrap_in, ite_yes, dec_yes, dec_no, A_go, hn, hn2, hn3, mk_size, hs, k1, e1, mk_ext, hex]
            exact Rok_good (by omega) (by omega) 1 _ [] rfl
          | false =>
            rw [l1] at k1
            cases l2 : digit (b.toNat : Int) with
            | true =>
              rw [l2] at k2
              simp -implicitDefEqProofs (maxSteps := 2000000) (disch := first | omega | (simp only [List.length_append, List.length_cons, List.length_nil, List.length_map, maxBytes]; omega) | (show apartAll _ _ = true; decide +kernel)) [wrap_in, ite_yes, dec_yes, dec_no, A_go, hn, hn2, hn3, mk_size, hs, k1, k2, e1, mk_ext, hex]
              exact Rok_good (by omega) (by omega) 1 _ [] rfl
            | false =>
              rw [l2] at k2
              by_cases c45 : (b.toNat : Int) = 45
              · have c45o := c45
                have c45 := decide_eq_true c45
                simp -implicitDefEqProofs (maxSteps := 2000000) (disch := first | omega | (simp only [List.length_append, List.length_cons, List.length_nil, List.length_map, maxBytes]; omega) | (show apartAll _ _ = true; decide +kernel)) [wrap_in, ite_yes, dec_yes, dec_no, A_go, hn, hn2, hn3, mk_size, hs, k1, k2, e1, mk_ext, hex, c45]
                have c45p : b = 45 := e45.1 c45o
                rw [if_pos c45p]
                exact Rok_good (by omega) (by omega) 1 _ [] rfl
              · have c45' : ¬ b = 45 := fun h => c45 (e45.2 h)
                simp -implicitDefEqProofs (maxSteps := 2000000) (disch := first | omega | (simp only [List.length_append, List.length_cons, List.length_nil, List.length_map, maxBytes]; omega) | (show apartAll _ _ = true; decide +kernel)) [wrap_in, ite_yes, dec_yes, dec_no, A_go, hn, hn2, hn3, mk_size, hs, k1, k2, c45, c45']
                exact Rok_bad h0 h1 0 _ []
  · have n1 : ∀ b : UInt8, EV 84 [rdr l i false, .pv (.int .u8 b.toNat)] = some ([rdr l i false], .pv (.bool false)) := fun b => next_no (by omega) h0 h1 (by rw [drop_end c h0]; simp)
    have n40 : EV 84 [rdr l i false, .pv (.int .u8 40)] = some ([rdr l i false], .pv (.bool false)) := n1 40
    have n91 : EV 84 [rdr l i false, .pv (.int .u8 91)] = some ([rdr l i false], .pv (.bool false)) := n1 91
    have n46 : EV 84 [rdr l i false, .pv (.int .u8 46)] = some ([rdr l i false], .pv (.bool false)) := n1 46
    rw [drop_end c h0, pAtom]
    simp -implicitDefEqProofs (maxSteps := 2000000) (disch := first | omega | (simp only [List.length_append, List.length_cons, List.length_nil, List.length_map, maxBytes]; omega) | (show apartAll _ _ = true; decide +kernel)) [wrap_in, ite_yes, dec_yes, dec_no, A_go, n40, n91, n46, mk_size]
    exact Rok_bad h0 h1 0 _ []
end Go.Proofs.YtbgkalolmichdaaA
