/- Patterns: their plain values, and the small functions on them. Conditions: none beyond those that each lemma names. -/
import Derived.Test.YtbgkalolmichdaaNA
namespace Go.Proofs.YtbgkalolmichdaaA
open Go Go.Proofs
set_option linter.unusedVariables false
set_option linter.unusedSimpArgs false
set_option maxRecDepth 20000
attribute [local simp ↓] X_skip X_exit X_ret X_region XD_eq X_seq X_cond X_block X_forget X_loop O_nil O_cons str_eq
attribute [local simp] Log.idle MOper.log Opd.tmps MOp.opds Gets_some A_true B_some B_none C_true C_false boolOf guardSays outOf stepK asPv St.opd St.tmp St.obj St.put St.apply look forgetS keep1 keepBox keepCells nodupB lenIs nth setN part_zero part_skip part_cons putN PV.asInt PV.asNum PV.asBool PV.asStr PV.asSl PV.cells PV.isAgg PV.one PV.fits PV.cell
  slK pv1 pvs toPV share1 share cellsK wdA partOf partOk intBin strBin boolBin binPV unPV pickAV capsOf argOf argsOf backK imp1 impL imp isFree allFree callK setElem partsK elemsOf optInt capIds enter resOf resAll outsOf leave ble_dec beq_dec int_bne int_beq

inductive Pt where
  | mk (op : Int) (text : Str) (kids : List Pt)
mutual
def Pt.pv : Pt → PV
  | .mk o t ks => .agg [.int .i64 o, .str t, .sl (Pt.pvs ks)]
def Pt.pvs : List Pt → List PV
  | [] => []
  | e :: es => e.pv :: Pt.pvs es
end
theorem Pt.pvs_eq : ∀ es : List Pt, Pt.pvs es = es.map Pt.pv
  | [] => rfl
  | e :: es => by rw [Pt.pvs, Pt.pvs_eq es]; rfl
theorem Pt.pv_mk (o : Int) (t : Str) (ks : List Pt) : (Pt.mk o t ks).pv = .agg [.int .i64 o, .str t, .sl (ks.map Pt.pv)] := by rw [Pt.pv, Pt.pvs_eq]
def Pt.kids : Pt → List Pt | .mk _ _ ks => ks
theorem Pt.ind {p : Pt → Prop} (h : ∀ o t ks, (∀ k ∈ ks, p k) → p (.mk o t ks)) : ∀ e, p e
  | .mk o t ks => h o t ks fun k hk => Pt.ind h k
/-! ### Bytes -/
def charB (n : Int) : Bool := lower n || digit n || decide (n = 95) || decide (n = 45) || decide (n = 46)
theorem run_isChar (n : Int) : EV 117 [.pv (.int .u8 n)] = some ([], .pv (.bool (charB n))) := by
  refine run (c := m117c) code117 rfl rfl rfl ?_
  have h1 := run_isLower n
  have h2 := run_isDigit n
  unfold charB
  cases hl : lower n with
  | true => simp -implicitDefEqProofs (maxSteps := 2000000) [h1, hl]
  | false =>
    cases hd : digit n with
    | true => simp -implicitDefEqProofs (maxSteps := 2000000) [h1, h2, hl, hd]
    | false =>
      cases c1 : decide (n = 95) with
      | true => simp -implicitDefEqProofs (maxSteps := 2000000) [h1, h2, hl, hd, c1]
      | false =>
        cases c2 : decide (n = 45) with
        | true => simp -implicitDefEqProofs (maxSteps := 2000000) [h1, h2, hl, hd, c1, c2]
        | false => simp -implicitDefEqProofs (maxSteps := 2000000) [h1, h2, hl, hd, c1, c2]
theorem run_l3Letter (n : Int) (h0 : 0 ≤ n) (h1 : n < 256) : EV 107 [.pv (.int .u8 n)] = some ([], .pv (.bool (lower n))) := by
  refine run (c := m107c) code107 rfl rfl rfl ?_
  have h := run_l1In 97 122 n
  simp -implicitDefEqProofs (maxSteps := 2000000) (disch := first | omega | (simp only [List.length_append, List.length_cons, List.length_nil, List.length_map, maxBytes]; omega) | (show apartAll _ _ = true; decide +kernel)) [wrap_in, ite_yes, dec_yes, dec_no, A_go, h, lower]
theorem run_l3Digit (n : Int) (h0 : 0 ≤ n) (h1 : n < 256) : EV 108 [.pv (.int .u8 n)] = some ([], .pv (.bool (digit n))) := by
  refine run (c := m108c) code108 rfl rfl rfl ?_
  have h := run_l1In 48 57 n
  simp -implicitDefEqProofs (maxSteps := 2000000) (disch := first | omega | (simp only [List.length_append, List.length_cons, List.length_nil, List.length_map, maxBytes]; omega) | (show apartAll _ _ = true; decide +kernel)) [wrap_in, ite_yes, dec_yes, dec_no, A_go, h, digit]
theorem run_l5Char (n : Int) (g0 : 0 ≤ n) (g1 : n < 256) : EV 114 [.pv (.int .u8 n)] = some ([], .pv (.bool (charB n))) := by
  refine run (c := m114c) code114 rfl rfl rfl ?_
  have h1 := run_l3Letter n g0 g1
  have h2 := run_l3Digit n g0 g1
  unfold charB
  cases hl : lower n with
  | true => simp -implicitDefEqProofs (maxSteps := 2000000) [h1, hl]
  | false =>
    cases hd : digit n with
    | true => simp -implicitDefEqProofs (maxSteps := 2000000) [h1, h2, hl, hd]
    | false =>
      cases c1 : decide (n = 95) with
      | true => simp -implicitDefEqProofs (maxSteps := 2000000) [h1, h2, hl, hd, c1]
      | false =>
        cases c2 : decide (n = 45) with
        | true => simp -implicitDefEqProofs (maxSteps := 2000000) [h1, h2, hl, hd, c1, c2]
        | false => simp -implicitDefEqProofs (maxSteps := 2000000) [h1, h2, hl, hd, c1, c2]

/-! ### The reader -/
/-- A reader over a text: where it stands, and whether something was wrong. -/
abbrev rdr (l : List UInt8) (i : Int) (bad : Bool) : XV := .box [.str (mkS l), .int .i64 i, .bool bad]

theorem run_take (l : List UInt8) (i : Int) (bad : Bool) (b : UInt8) (hl : l.length ≤ 1048576) (h0 : 0 ≤ i) (h1 : i ≤ l.length) :
    EV 86 [rdr l i bad, .pv (.int .u8 b.toNat)] = some (match l.drop i.toNat with
      | [] => ([rdr l i bad], .pv (.bool false))
      | x :: _ => if x = b then ([rdr l (i + 1) bad], .pv (.bool true)) else ([rdr l i bad], .pv (.bool false))) := by
  refine run (c := m86c) code86 rfl rfl rfl ?_
  by_cases c : i < l.length
  · obtain ⟨x, hx, hat, hdr, _⟩ := idx_at h0 c
    have hs : sidx (mkS l) i = some (x.toNat : Int) := by rw [mk_sidx, if_pos h0, hat]; rfl
    rw [hdr]
    by_cases e : x = b
    · subst e
      simp -implicitDefEqProofs (maxSteps := 2000000) (disch := first | omega | (simp only [List.length_append, List.length_cons, List.length_nil, List.length_map, maxBytes]; omega) | (show apartAll _ _ = true; decide +kernel)) [wrap_in, ite_yes, dec_yes, dec_no, A_go, mk_size, hs]
    · have e2 : ¬ ((x.toNat : Int) = b.toNat) := fun h => e (UInt8.toNat_inj.1 (by omega))
      simp -implicitDefEqProofs (maxSteps := 2000000) (disch := first | omega | (simp only [List.length_append, List.length_cons, List.length_nil, List.length_map, maxBytes]; omega) | (show apartAll _ _ = true; decide +kernel)) [wrap_in, ite_yes, dec_yes, dec_no, A_go, mk_size, hs, e, e2]
  · rw [drop_end c h0]
    simp -implicitDefEqProofs (maxSteps := 2000000) (disch := first | omega | (simp only [List.length_append, List.length_cons, List.length_nil, List.length_map, maxBytes]; omega) | (show apartAll _ _ = true; decide +kernel)) [wrap_in, ite_yes, dec_yes, dec_no, A_go, mk_size]

theorem run_next (l : List UInt8) (i : Int) (b : UInt8) (hl : l.length ≤ 1048576) (h0 : 0 ≤ i) (h1 : i ≤ l.length) :
    EV 84 [rdr l i false, .pv (.int .u8 b.toNat)] = some (match l.drop i.toNat with
      | [] => ([rdr l i false], .pv (.bool false))
      | x :: _ => if x = b then ([rdr l (i + 1) false], .pv (.bool true)) else ([rdr l i false], .pv (.bool false))) := by
  refine run (c := m84c) code84 rfl rfl rfl ?_
  by_cases c : i < l.length
  · obtain ⟨x, hx, hat, hdr, _⟩ := idx_at h0 c
    have hs : sidx (mkS l) i = some (x.toNat : Int) := by rw [mk_sidx, if_pos h0, hat]; rfl
    rw [hdr]
    by_cases e : x = b
    · subst e
      simp -implicitDefEqProofs (maxSteps := 2000000) (disch := first | omega | (simp only [List.length_append, List.length_cons, List.length_nil, List.length_map, maxBytes]; omega) | (show apartAll _ _ = true; decide +kernel)) [wrap_in, ite_yes, dec_yes, dec_no, A_go, mk_size, hs]
    · have e2 : ¬ ((x.toNat : Int) = b.toNat) := fun h => e (UInt8.toNat_inj.1 (by omega))
      simp -implicitDefEqProofs (maxSteps := 2000000) (disch := first | omega | (simp only [List.length_append, List.length_cons, List.length_nil, List.length_map, maxBytes]; omega) | (show apartAll _ _ = true; decide +kernel)) [wrap_in, ite_yes, dec_yes, dec_no, A_go, mk_size, hs, e, e2]
  · rw [drop_end c h0]
    simp -implicitDefEqProofs (maxSteps := 2000000) (disch := first | omega | (simp only [List.length_append, List.length_cons, List.length_nil, List.length_map, maxBytes]; omega) | (show apartAll _ _ = true; decide +kernel)) [wrap_in, ite_yes, dec_yes, dec_no, A_go, mk_size]
theorem run_next_bad (l : List UInt8) (i : Int) (b : Int) : EV 84 [rdr l i true, .pv (.int .u8 b)] = some ([rdr l i true], .pv (.bool false)) := by
  refine run (c := m84c) code84 rfl rfl rfl ?_
  simp -implicitDefEqProofs (maxSteps := 2000000) (disch := first | omega | (simp only [List.length_append, List.length_cons, List.length_nil, List.length_map, maxBytes]; omega) | (show apartAll _ _ = true; decide +kernel)) [wrap_in, ite_yes, dec_yes, dec_no, A_go]

theorem run_char (l : List UInt8) (i : Int) (bad : Bool) (hl : l.length ≤ 1048576) (h0 : 0 ≤ i) (h1 : i ≤ l.length) :
    EV 116 [rdr l i bad] = some (match l.drop i.toNat with
      | [] => ([rdr l i true], .pv (.int .u8 0))
      | x :: _ => if charB x.toNat = true then ([rdr l (i + 1) bad], .pv (.int .u8 x.toNat)) else ([rdr l i true], .pv (.int .u8 0))) := by
  refine run (c := m116c) code116 rfl rfl rfl ?_
  by_cases c : i < l.length
  · obtain ⟨x, hx, hat, hdr, _⟩ := idx_at h0 c
    have hs : sidx (mkS l) i = some (x.toNat : Int) := by rw [mk_sidx, if_pos h0, hat]; rfl
    have hc := run_isChar x.toNat
    rw [hdr]
    cases e : charB (x.toNat : Int) with
    | true =>
      rw [e] at hc
      have e3 : i + 1 - 1 = i := by omega
      simp -implicitDefEqProofs (maxSteps := 2000000) (disch := first | omega | (simp only [List.length_append, List.length_cons, List.length_nil, List.length_map, maxBytes]; omega) | (show apartAll _ _ = true; decide +kernel)) [wrap_in, ite_yes, dec_yes, dec_no, A_go, mk_size, hs, hc, e, e3]
    | false =>
      rw [e] at hc
      simp -implicitDefEqProofs (maxSteps := 2000000) (disch := first | omega | (simp only [List.length_append, List.length_cons, List.length_nil, List.length_map, maxBytes]; omega) | (show apartAll _ _ = true; decide +kernel)) [wrap_in, ite_yes, dec_yes, dec_no, A_go, mk_size, hs, hc, e]
  · rw [drop_end c h0]
    simp -implicitDefEqProofs (maxSteps := 2000000) (disch := first | omega | (simp only [List.length_append, List.length_cons, List.length_nil, List.length_map, maxBytes]; omega) | (show apartAll _ _ = true; decide +kernel)) [wrap_in, ite_yes, dec_yes, dec_no, A_go, mk_size]
end Go.Proofs.YtbgkalolmichdaaA
