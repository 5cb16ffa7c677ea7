/- Copies of patterns. Conditions: none beyond those that each lemma names. -/
import Derived.Test.YtbgkalolmichdaaPA
namespace Go.Proofs.YtbgkalolmichdaaA
open Go Go.Proofs
set_option linter.unusedVariables false
set_option linter.unusedSimpArgs false
set_option maxRecDepth 20000
attribute [local simp ↓] X_skip X_exit X_ret X_region XD_eq X_seq X_cond X_block X_forget X_loop O_nil O_cons str_eq
attribute [local simp] Log.idle MOper.log Opd.tmps MOp.opds Gets_some A_true B_some B_none C_true C_false boolOf guardSays outOf stepK asPv St.opd St.tmp St.obj St.put St.apply look forgetS keep1 keepBox keepCells nodupB lenIs nth setN part_zero part_skip part_cons putN PV.asInt PV.asNum PV.asBool PV.asStr PV.asSl PV.cells PV.isAgg PV.one PV.fits PV.cell
  slK pv1 pvs toPV share1 share cellsK wdA partOf partOk intBin strBin boolBin binPV unPV pickAV capsOf argOf argsOf backK imp1 impL imp isFree allFree callK setElem partsK elemsOf optInt capIds enter resOf resAll outsOf leave ble_dec beq_dec int_bne int_beq
mutual
/-- No row in it is long. -/
def Pt.sm : Pt → Prop
  | .mk _ _ ks => ks.length ≤ 1000 ∧ Pt.sms ks
def Pt.sms : List Pt → Prop
  | [] => True
  | e :: es => e.sm ∧ Pt.sms es
end
theorem Pt.sms_mem : ∀ {es : List Pt} {e : Pt}, Pt.sms es → e ∈ es → e.sm
  | [], e, _, h => by cases h
  | x :: es, e, hs, h => by
    rw [Pt.sms] at hs
    rcases List.mem_cons.1 h with rfl | h
    · exact hs.1
    · exact Pt.sms_mem hs.2 h
theorem Pt.sms_snoc : ∀ {es : List Pt} {e : Pt}, Pt.sms es → e.sm → Pt.sms (es ++ [e])
  | [], e, _, h => by rw [List.nil_append, Pt.sms, Pt.sms]; exact ⟨h, trivial⟩
  | x :: es, e, hs, h => by
    rw [Pt.sms] at hs
    rw [List.cons_append, Pt.sms]
    exact ⟨hs.1, Pt.sms_snoc hs.2 h⟩

theorem take_next {ks : List Pt} {i : Nat} (h : i < ks.length) : (ks.map Pt.pv).take i ++ [ks[i].pv] = (ks.map Pt.pv).take (i + 1) := by
  rw [← List.map_take, ← List.map_take, ← List.take_append_getElem h, List.map_append]; rfl
theorem Pt.agg (p : Pt) : ∃ cs, p.pv = .agg cs ∧ lenIs cs 3 = true := by
  obtain ⟨o, t, ks⟩ := p; rw [Pt.pv_mk]; exact ⟨_, rfl, rfl⟩
theorem idx_nat {ks : List Pt} {i : Nat} (h : i < ks.length) : idx (ks.map Pt.pv) (i : Int) = some ks[i].pv := by
  rw [idx, if_pos (by omega)]; simp [h]

theorem run_copyPat : ∀ p : Pt, p.sm → EV 110 [.pv p.pv] = some ([], .pv p.pv) := by
  refine Pt.ind fun o t ks ih hw => ?_
  rw [Pt.sm] at hw
  have hk : ∀ k ∈ ks, EV 110 [.pv k.pv] = some ([], .pv k.pv) := fun k hk => ih k hk (Pt.sms_mem hw.2 hk)
  have hlen : ks.length ≤ 1000 := hw.1
  clear ih hw
  rw [Pt.pv_mk]
  refine run (c := m110c) code110 rfl rfl rfl ?_
  simp -implicitDefEqProofs (maxSteps := 2000000) (disch := first | omega | (simp only [List.length_append, List.length_cons, List.length_nil, List.length_map, maxBytes]; omega) | (show apartAll _ _ = true; decide +kernel)) [wrap_in, ite_yes, dec_yes, dec_no, A_go]
  refine LP_ind1 (fun (i : Nat) => ⟨[(10, .pv (.int .i64 i)), (9, .pv (.int .i64 ks.length)), (8, .pv (.sl (ks.map Pt.pv))), (3, .rw 192), (2, .ptr 128 0), (1, .ptr 64 0)], [(192, .row 3 ((ks.map Pt.pv).take i) true), (128, .box [.pv (.int .i64 0), .pv (.str ⟨#[]⟩), .nils] true), (64, .box [.pv (.int .i64 o), .pv (.str t), .pv (.sl (ks.map Pt.pv))] true)]⟩)
    (fun i => ([], XV.pv (.agg [.int .i64 o, .str t, .sl (ks.map Pt.pv)]))) (fun i => i ≤ ks.length) (fun i => ks.length - i) (fun i hi IH => ?_) 0 (by omega)
  by_cases c : i < ks.length
  · have hx := idx_nat c
    have h1 := hk _ (List.getElem_mem c)
    have hn := take_next c
    have hl : ((ks.map Pt.pv).take i).length = i := by simp; omega
    rcases hq : ks[i] with ⟨o', t', ks'⟩
    rw [hq, Pt.pv_mk] at hx h1 hn
    simp -implicitDefEqProofs (maxSteps := 2000000) (disch := first | omega | (simp only [List.length_append, List.length_cons, List.length_nil, List.length_map, maxBytes]; omega) | (show apartAll _ _ = true; decide +kernel)) [wrap_in, ite_yes, dec_yes, dec_no, A_go, hx, h1, hl]
    have := IH (i + 1) (by omega) (by omega)
    rw [← hn] at this; exact this
  · have : i = ks.length := by omega
    subst this
    simp -implicitDefEqProofs (maxSteps := 2000000) (disch := first | omega | (simp only [List.length_append, List.length_cons, List.length_nil, List.length_map, maxBytes]; omega) | (show apartAll _ _ = true; decide +kernel)) [wrap_in, ite_yes, dec_yes, dec_no, A_go]
    exact List.take_of_length_le (by simp)

theorem run_l5Twin : ∀ p : Pt, p.sm → EV 98 [.pv p.pv] = some ([], .pv p.pv) := by
  refine Pt.ind fun o t ks ih hw => ?_
  rw [Pt.sm] at hw
  have hk : ∀ k ∈ ks, EV 98 [.pv k.pv] = some ([], .pv k.pv) := fun k hk => ih k hk (Pt.sms_mem hw.2 hk)
  have hlen : ks.length ≤ 1000 := hw.1
  clear ih hw
  rw [Pt.pv_mk]
  refine run (c := m98c) code98 rfl rfl rfl ?_
  simp -implicitDefEqProofs (maxSteps := 2000000) (disch := first | omega | (simp only [List.length_append, List.length_cons, List.length_nil, List.length_map, maxBytes]; omega) | (show apartAll _ _ = true; decide +kernel)) [wrap_in, ite_yes, dec_yes, dec_no, A_go]
  by_cases c0 : 0 < ks.length
  · rw [LX_eq]
    have hx := idx_nat c0
    have h1 := hk _ (List.getElem_mem c0)
    have hn := take_next c0
    rcases hq : ks[0] with ⟨o', t', ks'⟩
    rw [hq, Pt.pv_mk] at hx h1 hn
    rw [List.take_zero, List.nil_append] at hn
    have hx : idx (ks.map Pt.pv) 0 = some (.agg [.int .i64 o', .str t', .sl (ks'.map Pt.pv)]) := hx
    simp -implicitDefEqProofs (maxSteps := 2000000) (disch := first | omega | (simp only [List.length_append, List.length_cons, List.length_nil, List.length_map, maxBytes]; omega) | (show apartAll _ _ = true; decide +kernel)) [wrap_in, ite_yes, dec_yes, dec_no, A_go, hx, h1]
    rw [hn]
    refine LP_ind1 (fun (i : Nat) => ⟨[(4, .pv (.int .i64 i)), (3, .ptr 192 0), (2, .ptr 128 0), (1, .ptr 64 0)], [(192, .box [.pv (.int .i64 o), .pv (.str t), .rw 195] true), (195, .row 3 ((ks.map Pt.pv).take i) true), (128, .box [.pv (.int .i64 0), .pv (.str ⟨#[]⟩), .nils] true), (64, .box [.pv (.int .i64 o), .pv (.str t), .pv (.sl (ks.map Pt.pv))] true)]⟩)
      (fun i => ([], XV.pv (.agg [.int .i64 o, .str t, .sl (ks.map Pt.pv)]))) (fun i => i ≤ ks.length) (fun i => ks.length - i) (fun i hi IH => ?_) 1 (by omega)
    clear hx h1 hn hq
    by_cases c : i < ks.length
    · have hx := idx_nat c
      have h1 := hk _ (List.getElem_mem c)
      have hn := take_next c
      have hl : ((ks.map Pt.pv).take i).length = i := by simp; omega
      rcases hq : ks[i] with ⟨o', t', ks'⟩
      rw [hq, Pt.pv_mk] at hx h1 hn
      simp -implicitDefEqProofs (maxSteps := 2000000) (disch := first | omega | (simp only [List.length_append, List.length_cons, List.length_nil, List.length_map, maxBytes]; omega) | (show apartAll _ _ = true; decide +kernel)) [wrap_in, ite_yes, dec_yes, dec_no, A_go, hx, h1, hl]
      have := IH (i + 1) (by omega) (by omega)
      rw [← hn] at this; exact this
    · have : i = ks.length := by omega
      subst this
      simp -implicitDefEqProofs (maxSteps := 2000000) (disch := first | omega | (simp only [List.length_append, List.length_cons, List.length_nil, List.length_map, maxBytes]; omega) | (show apartAll _ _ = true; decide +kernel)) [wrap_in, ite_yes, dec_yes, dec_no, A_go]
      exact List.take_of_length_le (by simp)
  · have : ks = [] := List.length_eq_zero_iff.1 (by omega)
    subst this
    rw [LX_eq]
    simp -implicitDefEqProofs (maxSteps := 2000000) (disch := first | omega | (simp only [List.length_append, List.length_cons, List.length_nil, List.length_map, maxBytes]; omega) | (show apartAll _ _ = true; decide +kernel)) [wrap_in, ite_yes, dec_yes, dec_no, A_go]
end Go.Proofs.YtbgkalolmichdaaA
