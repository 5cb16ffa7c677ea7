/- The functions of FnExactFormatBraces: what they answer. Conditions: none beyond those that each lemma names. -/
import Derived.Test.YtbgkalolmichdaaNF
namespace Go.Proofs.YtbgkalolmichdaaA
open Go Go.Proofs
set_option linter.unusedVariables false
set_option linter.unusedSimpArgs false
set_option maxRecDepth 20000
attribute [local simp ↓] X_skip X_exit X_ret X_region XD_eq X_seq X_cond X_block X_forget X_loop O_nil O_cons str_eq
attribute [local simp] Log.idle MOper.log Opd.tmps MOp.opds B_some B_none C_true C_false boolOf guardSays outOf stepK asPv St.opd St.tmp St.obj St.put St.apply look forgetS keep1 keepBox keepCells nodupB lenIs nth setN part putN PV.asInt PV.asNum PV.asBool PV.asStr PV.asSl PV.cells PV.isAgg PV.one PV.fits PV.cell
  slK pv1 pvs toPV share1 share cellsK partOf partOk intBin strBin boolBin binPV unPV pickAV capsOf argOf argsOf backK imp1 impL imp isFree allFree callK setElem partsK elemsOf optInt capIds enter resOf resAll outsOf leave ble_dec beq_dec int_bne int_beq

def quoteB (b : UInt8) : List UInt8 := if b = 34 ∨ b = 92 then [92, b] else [b]
def quote (l : List UInt8) : List UInt8 := 34 :: (l.flatMap quoteB ++ [34])
theorem quote_len (l : List UInt8) : (quote l).length ≤ 2 * l.length + 2 := by
  have : (l.flatMap quoteB).length ≤ 2 * l.length := by
    induction l with
    | nil => simp
    | cons b l ih => simp only [List.flatMap_cons, List.length_append, List.length_cons, quoteB]; split <;> simp only [List.length_cons, List.length_nil] <;> omega
  simp only [quote, List.length_cons, List.length_append, List.length_nil]; omega
theorem run_impl_QuoteText (l : List UInt8) (hl : l.length ≤ 1048576) : EV 76 [.pv (.str (mkS l))] = some ([], .pv (.str (mkS (quote l)))) := by
  refine run (c := m76c) code76 rfl rfl rfl ?_
  simp -implicitDefEqProofs (disch := first | omega | (simp only [List.length_append, List.length_cons, List.length_nil, List.length_map, maxBytes]; omega)) [wrap_in, ite_yes, dec_yes, dec_no]
  have e0 : quote l = [34] ++ l.flatMap quoteB ++ [34] := rfl
  rw [e0]
  refine LX_str (mkS l) (fun i (out : List UInt8) => ⟨[(4, .pv (.int .i64 i)), (3, .rw 192), (0, .pv (.str (mkS l)))], [(192, .row 0 (out.map bpv) true)]⟩) (fun rest out => ([], XV.pv (.str (mkS (out ++ rest.flatMap quoteB ++ [34]))))) (fun i out => out.length ≤ 2 * i + 1) (by rw [mk_size]; omega) (fun i out hi hn c => ?_) (fun i e rest out hi he h0 c hd hx hw hb IH => ?_) 0 [34] (by omega) (by omega) (by simp)
  · rw [mk_size] at *
    have hso := strOf_bpv (out ++ [34])
    rw [List.map_append] at hso
    have hso : strOf (out.map bpv ++ [PV.int .u8 34]) = some (mkS (out ++ [34])) := hso
    simp -implicitDefEqProofs (disch := first | omega | (simp only [List.length_append, List.length_cons, List.length_nil, List.length_map, maxBytes]; omega)) [wrap_in, ite_yes, dec_yes, dec_no, bpv_fits, mk_size, hso]
  · rw [mk_size] at *
    have q34 := byte_eq (b := e) (n := 34) (by omega)
    have q92 := byte_eq (b := e) (n := 92) (by omega)
    by_cases c1 : (e.toNat : Int) = 34
    · have hq : quoteB e = [92, e] := by rw [quoteB, if_pos (.inl (q34.1 c1))]
      simp -implicitDefEqProofs (disch := first | omega | (simp only [List.length_append, List.length_cons, List.length_nil, List.length_map, maxBytes]; omega)) [wrap_in, ite_yes, dec_yes, dec_no, bpv_fits, mk_size, hx, hq]
      have := IH (out ++ [92, e]) (by simp only [List.length_append, List.length_cons, List.length_nil]; omega)
      rw [List.map_append, List.append_assoc, List.append_assoc] at this; exact this
    · by_cases c2 : (e.toNat : Int) = 92
      · have hq : quoteB e = [92, e] := by rw [quoteB, if_pos (.inr (q92.1 c2))]
        simp -implicitDefEqProofs (disch := first | omega | (simp only [List.length_append, List.length_cons, List.length_nil, List.length_map, maxBytes]; omega)) [wrap_in, ite_yes, dec_yes, dec_no, bpv_fits, mk_size, hx, hq]
        have := IH (out ++ [92, e]) (by simp only [List.length_append, List.length_cons, List.length_nil]; omega)
        rw [List.map_append, List.append_assoc, List.append_assoc] at this; exact this
      · have hq : quoteB e = [e] := by rw [quoteB, if_neg]; rintro (h | h); exact c1 (q34.2 h); exact c2 (q92.2 h)
        simp -implicitDefEqProofs (disch := first | omega | (simp only [List.length_append, List.length_cons, List.length_nil, List.length_map, maxBytes]; omega)) [wrap_in, ite_yes, dec_yes, dec_no, bpv_fits, mk_size, hx, hq]
        have := IH (out ++ [e]) (by simp only [List.length_append, List.length_cons, List.length_nil]; omega)
        rw [List.map_append, List.append_assoc, List.append_assoc] at this; exact this

theorem run_spec_QuoteText (l : List UInt8) (hl : l.length ≤ 1048576) : EV 74 [.pv (.str (mkS l))] = some ([], .pv (.str (mkS (quote l)))) := by
  refine run (c := m74c) code74 rfl rfl rfl ?_
  simp -implicitDefEqProofs (disch := first | omega | (simp only [List.length_append, List.length_cons, List.length_nil, List.length_map, maxBytes]; omega)) [wrap_in, ite_yes, dec_yes, dec_no]
  have e0 : quote l = [34] ++ l.flatMap quoteB ++ [34] := rfl
  rw [e0]
  refine LX_str (mkS l) (fun i (out : List UInt8) => ⟨[(4, .pv (.int .i64 i)), (3, .rw 192), (0, .pv (.str (mkS l)))], [(192, .row 0 (out.map bpv) true)]⟩) (fun rest out => ([], XV.pv (.str (mkS (out ++ rest.flatMap quoteB ++ [34]))))) (fun i out => out.length ≤ 2 * i + 1) (by rw [mk_size]; omega) (fun i out hi hn c => ?_) (fun i e rest out hi he h0 c hd hx hw hb IH => ?_) 0 [34] (by omega) (by omega) (by simp)
  · rw [mk_size] at *
    have hso := strOf_bpv (out ++ [34])
    rw [List.map_append] at hso
    have hso : strOf (out.map bpv ++ [PV.int .u8 34]) = some (mkS (out ++ [34])) := hso
    simp -implicitDefEqProofs (disch := first | omega | (simp only [List.length_append, List.length_cons, List.length_nil, List.length_map, maxBytes]; omega)) [wrap_in, ite_yes, dec_yes, dec_no, bpv_fits, mk_size, hso]
  · rw [mk_size] at *
    have q34 := byte_eq (b := e) (n := 34) (by omega)
    have q92 := byte_eq (b := e) (n := 92) (by omega)
    by_cases c1 : (e.toNat : Int) = 34
    · have hq : quoteB e = [92, e] := by rw [quoteB, if_pos (.inl (q34.1 c1))]
      simp -implicitDefEqProofs (disch := first | omega | (simp only [List.length_append, List.length_cons, List.length_nil, List.length_map, maxBytes]; omega)) [wrap_in, ite_yes, dec_yes, dec_no, bpv_fits, mk_size, hx, hq]
      have := IH (out ++ [92, e]) (by simp only [List.length_append, List.length_cons, List.length_nil]; omega)
      rw [List.map_append, List.append_assoc, List.append_assoc] at this; exact this
    · by_cases c2 : (e.toNat : Int) = 92
      · have hq : quoteB e = [92, e] := by rw [quoteB, if_pos (.inr (q92.1 c2))]
        simp -implicitDefEqProofs (disch := first | omega | (simp only [List.length_append, List.length_cons, List.length_nil, List.length_map, maxBytes]; omega)) [wrap_in, ite_yes, dec_yes, dec_no, bpv_fits, mk_size, hx, hq]
        have := IH (out ++ [92, e]) (by simp only [List.length_append, List.length_cons, List.length_nil]; omega)
        rw [List.map_append, List.append_assoc, List.append_assoc] at this; exact this
      · have hq : quoteB e = [e] := by rw [quoteB, if_neg]; rintro (h | h); exact c1 (q34.2 h); exact c2 (q92.2 h)
        simp -implicitDefEqProofs (disch := first | omega | (simp only [List.length_append, List.length_cons, List.length_nil, List.length_map, maxBytes]; omega)) [wrap_in, ite_yes, dec_yes, dec_no, bpv_fits, mk_size, hx, hq]
        have := IH (out ++ [e]) (by simp only [List.length_append, List.length_cons, List.length_nil]; omega)
        rw [List.map_append, List.append_assoc, List.append_assoc] at this; exact this

mutual
/-- A node as the braces have it, behind an indent. -/
def Nd.pr : Nd → List UInt8 → List UInt8
  | .mk n v ks, ind => ind ++ (bs n ++ ((if bs v = [] then [] else 32 :: quote (bs v)) ++ (if ks.length = 0 then [59, 10] else [32, 123, 10] ++ (Nd.prs ks (ind ++ [32, 32]) ++ (ind ++ [125, 10])))))
def Nd.prs : List Nd → List UInt8 → List UInt8
  | [], _ => []
  | e :: es, ind => e.pr ind ++ Nd.prs es ind
end

theorem run_spec_l20Print : ∀ es : List Nd, es.length + Nd.sw es ≤ 1048576 → ∀ ind : List UInt8, ind.length + (Nd.prs es ind).length ≤ 1073741824 → EV 52 [.pv (.sl (es.map Nd.pv)), .pv (.str (mkS ind))] = some ([], .pv (.str (mkS (Nd.prs es ind)))) := by
  refine Nd.inds fun es ih hs ind hB => ?_
  refine run (c := m52c) code52 rfl rfl rfl ?_
  simp -implicitDefEqProofs (disch := first | omega | (simp only [List.length_append, List.length_cons, List.length_nil, List.length_map, maxBytes]; omega)) [wrap_in, ite_yes, dec_yes, dec_no]
  refine LX_list es (fun i (s : List UInt8) => ⟨[(6, .pv (.int .i64 i)), (5, .pv (.str (mkS s))), (1, .pv (.str (mkS ind))), (0, .pv (.sl (es.map Nd.pv)))], []⟩) (fun rest s => ([], XV.pv (.str (mkS (s ++ Nd.prs rest ind))))) (fun i s => s.length + (Nd.prs (es.drop i.toNat) ind).length ≤ 1073741824) (by omega)
    (fun i s hn _ c => ?_) (fun i e rest s hn he h0 c hd hat hx hw IH => ?_) 0 [] (by omega) (by omega) (by show _ + (Nd.prs es ind).length ≤ _; simp; omega)
  · simp -implicitDefEqProofs (disch := first | omega | (simp only [List.length_append, List.length_cons, List.length_nil, List.length_map, maxBytes]; omega)) [wrap_in, ite_yes, dec_yes, dec_no, Nd.prs]
  · have hr := drop_next h0 hd
    rw [hr] at IH
    obtain ⟨nm, v, ks⟩ := e
    have hk := Nd.sw_mem he
    simp only [Nd.kids] at hk
    rw [hd, Nd.prs] at hn
    rw [Nd.prs]
    have hv := Nd.w_mem he
    simp only [Nd.w] at hv
    rw [Nd.pr] at hn ⊢
    obtain ⟨nl, rfl⟩ := to_mk nm
    obtain ⟨vl, rfl⟩ := to_mk v
    rw [mk_size, mk_size] at hv
    simp only [bs_mk] at hn ⊢
    have hq := run_spec_QuoteText vl (by omega)
    by_cases c3 : vl = []
    · rw [if_pos c3] at hn ⊢
      by_cases c4 : ks.length = 0
      · rw [if_pos c4] at hn ⊢
        simp only [List.length_append, List.length_cons, List.length_nil] at hn
        have c5 : ks = [] := List.length_eq_zero_iff.1 c4
        simp -implicitDefEqProofs (disch := first | omega | (simp only [List.length_append, List.length_cons, List.length_nil, List.length_map, maxBytes]; omega)) [wrap_in, ite_yes, dec_yes, dec_no, hx, Nd.pv_mk, c3, c5, hq, lit_mk, mk_app, mk_size, mk_eq]
        have := IH (s ++ (ind ++ (nl ++ [59, 10]))) (by simp only [List.length_append, List.length_cons, List.length_nil]; omega)
        simp only [List.append_assoc, List.cons_append, List.nil_append] at this; exact this
      · rw [if_neg c4] at hn ⊢
        simp only [List.length_append, List.length_cons, List.length_nil] at hn
        have hst : EV 52 [.pv (.sl (ks.map Nd.pv)), .pv (.str (mkS (ind ++ [32, 32])))] = some ([], .pv (.str (mkS (Nd.prs ks (ind ++ [32, 32]))))) := ih _ he (by simp only [Nd.kids]; omega) (ind ++ [32, 32]) (by simp only [Nd.kids, List.length_append, List.length_cons, List.length_nil]; omega)
        have c5 : ¬ ks = [] := fun h => c4 (by rw [h]; rfl)
        simp -implicitDefEqProofs (disch := first | omega | (simp only [List.length_append, List.length_cons, List.length_nil, List.length_map, maxBytes]; omega)) [wrap_in, ite_yes, dec_yes, dec_no, hx, Nd.pv_mk, c3, c5, hq, lit_mk, mk_app, mk_size, mk_eq, hst]
        have := IH (s ++ (ind ++ (nl ++ ([32, 123, 10] ++ (Nd.prs ks (ind ++ [32, 32]) ++ (ind ++ [125, 10])))))) (by simp only [List.length_append, List.length_cons, List.length_nil]; omega)
        simp only [List.append_assoc, List.cons_append, List.nil_append] at this; exact this
    · rw [if_neg c3] at hn ⊢
      by_cases c4 : ks.length = 0
      · rw [if_pos c4] at hn ⊢
        simp only [List.length_append, List.length_cons, List.length_nil] at hn
        have c5 : ks = [] := List.length_eq_zero_iff.1 c4
        simp -implicitDefEqProofs (disch := first | omega | (simp only [List.length_append, List.length_cons, List.length_nil, List.length_map, maxBytes]; omega)) [wrap_in, ite_yes, dec_yes, dec_no, hx, Nd.pv_mk, c3, c5, hq, lit_mk, mk_app, mk_size, mk_eq]
        have := IH (s ++ (ind ++ (nl ++ (32 :: quote vl ++ [59, 10])))) (by simp only [List.length_append, List.length_cons, List.length_nil]; omega)
        simp only [List.append_assoc, List.cons_append, List.nil_append] at this; exact this
      · rw [if_neg c4] at hn ⊢
        simp only [List.length_append, List.length_cons, List.length_nil] at hn
        have hst : EV 52 [.pv (.sl (ks.map Nd.pv)), .pv (.str (mkS (ind ++ [32, 32])))] = some ([], .pv (.str (mkS (Nd.prs ks (ind ++ [32, 32]))))) := ih _ he (by simp only [Nd.kids]; omega) (ind ++ [32, 32]) (by simp only [Nd.kids, List.length_append, List.length_cons, List.length_nil]; omega)
        have c5 : ¬ ks = [] := fun h => c4 (by rw [h]; rfl)
        simp -implicitDefEqProofs (disch := first | omega | (simp only [List.length_append, List.length_cons, List.length_nil, List.length_map, maxBytes]; omega)) [wrap_in, ite_yes, dec_yes, dec_no, hx, Nd.pv_mk, c3, c5, hq, lit_mk, mk_app, mk_size, mk_eq, hst]
        have := IH (s ++ (ind ++ (nl ++ (32 :: quote vl ++ ([32, 123, 10] ++ (Nd.prs ks (ind ++ [32, 32]) ++ (ind ++ [125, 10]))))))) (by simp only [List.length_append, List.length_cons, List.length_nil]; omega)
        simp only [List.append_assoc, List.cons_append, List.nil_append] at this; exact this

def indent (d : Nat) : List UInt8 := Lib.repeatL [32, 32] d
theorem indent_succ (d : Nat) : indent (d + 1) = indent d ++ [32, 32] := by
  induction d with
  | zero => rfl
  | succ d ih => rw [indent, Lib.repeatL, ← indent, ih, ← List.append_assoc, ← ih]; congr 1
theorem indent_len (d : Nat) : (indent d).length = 2 * d := by rw [indent, Lib.repeatL_length]; simp; omega
theorem run_Repeat (d : Nat) (hd : d ≤ 1048576) : EV 75 [.pv (.str (mkS [32, 32])), .pv (.int .i64 d)] = some ([], .pv (.str (mkS (indent d)))) := by
  refine Ev_prim (F := repeatF) rfl ?_
  rw [repeatF, if_pos ⟨by omega, by omega, by rw [mk_size]; simp⟩, bs_mk]
  rfl

theorem run_impl_formatBraces : ∀ es : List Nd, es.length + Nd.sw es ≤ 1048576 → ∀ d : Nat, d + (Nd.prs es (indent d)).length ≤ 1073741824 → d + es.length + Nd.sw es ≤ 1048576 → EV 53 [.pv (.sl (es.map Nd.pv)), .pv (.int .i64 d)] = some ([], .pv (.str (mkS (Nd.prs es (indent d))))) := by
  refine Nd.inds fun es ih hs d hB hd1 => ?_
  refine run (c := m53c) code53 rfl rfl rfl ?_
  have hrep := run_Repeat d (by omega)
  simp -implicitDefEqProofs (disch := first | omega | (simp only [List.length_append, List.length_cons, List.length_nil, List.length_map, maxBytes]; omega)) [wrap_in, ite_yes, dec_yes, dec_no, lit_mk, hrep]
  refine LX_list es (fun i (s : List UInt8) => ⟨[(13, .pv (.int .i64 i)), (12, .pv (.int .i64 es.length)), (11, .pv (.sl (es.map Nd.pv))), (6, .pv (.str (mkS (indent d)))), (5, .pv (.str (mkS s))), (1, .pv (.int .i64 d))], []⟩) (fun rest s => ([], XV.pv (.str (mkS (s ++ Nd.prs rest (indent d)))))) (fun i s => s.length + (Nd.prs (es.drop i.toNat) (indent d)).length ≤ 1073741824) (by omega)
    (fun i s hn _ c => ?_) (fun i e rest s hn he h0 c hd hat hx hw IH => ?_) 0 [] (by omega) (by omega) (by show _ + (Nd.prs es (indent d)).length ≤ _; simp; omega)
  · simp -implicitDefEqProofs (disch := first | omega | (simp only [List.length_append, List.length_cons, List.length_nil, List.length_map, maxBytes]; omega)) [wrap_in, ite_yes, dec_yes, dec_no, Nd.prs]
  · have hr := drop_next h0 hd
    rw [hr] at IH
    obtain ⟨nm, v, ks⟩ := e
    have hk := Nd.sw_mem he
    simp only [Nd.kids] at hk
    rw [hd, Nd.prs] at hn
    rw [Nd.prs]
    have hv := Nd.w_mem he
    simp only [Nd.w] at hv
    rw [Nd.pr, ← indent_succ] at hn ⊢
    obtain ⟨nl, rfl⟩ := to_mk nm
    obtain ⟨vl, rfl⟩ := to_mk v
    rw [mk_size, mk_size] at hv
    simp only [bs_mk] at hn ⊢
    have hq := run_impl_QuoteText vl (by omega)
    have hel : 1 ≤ es.length := by omega
    have hil := indent_len d
    by_cases c3 : vl = []
    · rw [if_pos c3] at hn ⊢
      by_cases c4 : ks.length = 0
      · rw [if_pos c4] at hn ⊢
        simp only [List.length_append, List.length_cons, List.length_nil] at hn
        have c5 : ks = [] := List.length_eq_zero_iff.1 c4
        simp -implicitDefEqProofs (disch := first | omega | (simp only [List.length_append, List.length_cons, List.length_nil, List.length_map, maxBytes]; omega)) [wrap_in, ite_yes, dec_yes, dec_no, hx, Nd.pv_mk, c3, c5, hq, lit_mk, mk_app, mk_size, mk_eq]
        have := IH (s ++ (indent d ++ (nl ++ [59, 10]))) (by simp only [List.length_append, List.length_cons, List.length_nil]; omega)
        simp only [List.append_assoc, List.cons_append, List.nil_append] at this; exact this
      · rw [if_neg c4] at hn ⊢
        simp only [List.length_append, List.length_cons, List.length_nil] at hn
        have c5 : ¬ ks = [] := fun h => c4 (by rw [h]; rfl)
        have hst : EV 53 [.pv (.sl (ks.map Nd.pv)), .pv (.int .i64 ((d : Int) + 1))] = some ([], .pv (.str (mkS (Nd.prs ks (indent (d + 1)))))) := ih _ he (by simp only [Nd.kids]; omega) (d + 1) (by simp only [Nd.kids]; omega) (by simp only [Nd.kids]; omega)
        simp -implicitDefEqProofs (disch := first | omega | (simp only [List.length_append, List.length_cons, List.length_nil, List.length_map, maxBytes]; omega)) [wrap_in, ite_yes, dec_yes, dec_no, hx, Nd.pv_mk, c3, c5, hq, lit_mk, mk_app, mk_size, mk_eq, hst]
        have := IH (s ++ (indent d ++ (nl ++ ([32, 123, 10] ++ (Nd.prs ks (indent (d + 1)) ++ (indent d ++ [125, 10])))))) (by simp only [List.length_append, List.length_cons, List.length_nil]; omega)
        simp only [List.append_assoc, List.cons_append, List.nil_append] at this; exact this
    · rw [if_neg c3] at hn ⊢
      by_cases c4 : ks.length = 0
      · rw [if_pos c4] at hn ⊢
        simp only [List.length_append, List.length_cons, List.length_nil] at hn
        have c5 : ks = [] := List.length_eq_zero_iff.1 c4
        simp -implicitDefEqProofs (disch := first | omega | (simp only [List.length_append, List.length_cons, List.length_nil, List.length_map, maxBytes]; omega)) [wrap_in, ite_yes, dec_yes, dec_no, hx, Nd.pv_mk, c3, c5, hq, lit_mk, mk_app, mk_size, mk_eq]
        have := IH (s ++ (indent d ++ (nl ++ (32 :: quote vl ++ [59, 10])))) (by simp only [List.length_append, List.length_cons, List.length_nil]; omega)
        simp only [List.append_assoc, List.cons_append, List.nil_append] at this; exact this
      · rw [if_neg c4] at hn ⊢
        simp only [List.length_append, List.length_cons, List.length_nil] at hn
        have c5 : ¬ ks = [] := fun h => c4 (by rw [h]; rfl)
        have hst : EV 53 [.pv (.sl (ks.map Nd.pv)), .pv (.int .i64 ((d : Int) + 1))] = some ([], .pv (.str (mkS (Nd.prs ks (indent (d + 1)))))) := ih _ he (by simp only [Nd.kids]; omega) (d + 1) (by simp only [Nd.kids]; omega) (by simp only [Nd.kids]; omega)
        simp -implicitDefEqProofs (disch := first | omega | (simp only [List.length_append, List.length_cons, List.length_nil, List.length_map, maxBytes]; omega)) [wrap_in, ite_yes, dec_yes, dec_no, hx, Nd.pv_mk, c3, c5, hq, lit_mk, mk_app, mk_size, mk_eq, hst]
        have := IH (s ++ (indent d ++ (nl ++ (32 :: quote vl ++ ([32, 123, 10] ++ (Nd.prs ks (indent (d + 1)) ++ (indent d ++ [125, 10]))))))) (by simp only [List.length_append, List.length_cons, List.length_nil]; omega)
        simp only [List.append_assoc, List.cons_append, List.nil_append] at this; exact this

/-! ### How long it gets -/
theorem prs_len : ∀ es : List Nd, Nd.fms es = true → ∀ ind : List UInt8, (Nd.prs es ind).length ≤ (es.length + Nd.csum es) * (2 * ind.length + 4 * Nd.deps es + 200) := Nd.inds' (fun _ ind => by simp [Nd.prs]) fun nm v ks es h1 h2 hf ind => by
  rw [Nd.fms, Nd.fm, own, Bool.and_eq_true, Bool.and_eq_true, Bool.and_eq_true, Bool.and_eq_true] at hf
  obtain ⟨⟨⟨⟨f1, f2⟩, f3⟩, f4⟩, f5⟩ := hf
  have a := h1 f4 (ind ++ [32, 32])
  have b := h2 f5 ind
  have n1 : (bs nm).length ≤ 16 := by
    rw [nameOk_eq] at f1; simp only [Bool.and_eq_true, decide_eq_true_eq] at f1; rw [← size_bs]; omega
  have n2 : (bs v).length ≤ 40 := by
    simp only [textOk, Bool.and_eq_true, decide_eq_true_eq] at f2; rw [← size_bs]; omega
  have n3 := quote_len (bs v)
  rw [Nd.prs, Nd.pr, Nd.deps, Nd.dep, Nd.csum, Nd.cnt, List.length_cons]
  have m1 : (if bs v = [] then [] else 32 :: quote (bs v)).length ≤ 83 := by split <;> simp <;> omega
  have m2 : (if ks.length = 0 then [59, 10] else [32, 123, 10] ++ (Nd.prs ks (ind ++ [32, 32]) ++ (ind ++ [125, 10]))).length ≤ (Nd.prs ks (ind ++ [32, 32])).length + ind.length + 5 := by split <;> simp <;> omega
  rw [List.length_append, List.length_append, List.length_append, List.length_append]
  have e1 : (ind ++ [32, 32]).length = ind.length + 2 := by simp
  rw [e1] at a
  generalize (Nd.prs ks (ind ++ [32, 32])).length = A at *
  generalize (Nd.prs es ind).length = B at *
  generalize (if bs v = [] then [] else 32 :: quote (bs v)).length = C at *
  generalize ind.length = I at *
  generalize ks.length + Nd.csum ks = M at *
  have k1 : 2 * (I + 2) + 4 * Nd.deps ks + 200 ≤ 2 * I + 4 * max (1 + Nd.deps ks) (Nd.deps es) + 200 := by omega
  have k2 : 2 * I + 4 * Nd.deps es + 200 ≤ 2 * I + 4 * max (1 + Nd.deps ks) (Nd.deps es) + 200 := by omega
  have k3 : 2 * I + 200 ≤ 2 * I + 4 * max (1 + Nd.deps ks) (Nd.deps es) + 200 := by omega
  generalize 2 * I + 4 * max (1 + Nd.deps ks) (Nd.deps es) + 200 = T at *
  have a2 := Nat.le_trans a (Nat.mul_le_mul_left M k1)
  have b2 := Nat.le_trans b (Nat.mul_le_mul_left _ k2)
  have e2 : (es.length + 1 + (M + Nd.csum es)) * T = (es.length + Nd.csum es) * T + M * T + T := by
    rw [← Nat.add_mul, ← Nat.succ_mul]; congr 1; omega
  rw [e2]
  omega

theorem run_spec_FormatBraces (es : List Nd) (hs : es.length + Nd.sw es ≤ 1048576) : EV 29 [.pv (.sl (es.map Nd.pv))] = some ([], .pv (.str (mkS (if formOk es then Nd.prs es [] else [])))) := by
  refine run (c := m29c) code29 rfl rfl rfl ?_
  have h1 := run_spec_IsForm es hs
  cases hf : formOk es with
  | false =>
    rw [hf] at h1
    simp -implicitDefEqProofs (disch := first | omega | (simp only [List.length_append, List.length_cons, List.length_nil, List.length_map, maxBytes]; omega)) [wrap_in, ite_yes, dec_yes, dec_no, h1, lit_mk]
  | true =>
    rw [hf] at h1
    simp only [formOk, Bool.and_eq_true, decide_eq_true_eq] at hf
    have hl := prs_len es hf.2 []
    have : (es.length + Nd.csum es) * (2 * ([] : List UInt8).length + 4 * Nd.deps es + 200) ≤ 120 * 240 := Nat.mul_le_mul hf.1.1 (by simp; omega)
    have h2 := run_spec_l20Print es hs [] (by simp; omega)
    simp -implicitDefEqProofs (disch := first | omega | (simp only [List.length_append, List.length_cons, List.length_nil, List.length_map, maxBytes]; omega)) [wrap_in, ite_yes, dec_yes, dec_no, h1, lit_mk, h2]

theorem run_impl_FormatBraces (es : List Nd) (hs : es.length + Nd.sw es ≤ 1048576) : EV 30 [.pv (.sl (es.map Nd.pv))] = some ([], .pv (.str (mkS (if formOk es then Nd.prs es [] else [])))) := by
  refine run (c := m30c) code30 rfl rfl rfl ?_
  have h1 := run_impl_IsForm es hs
  cases hf : formOk es with
  | false =>
    rw [hf] at h1
    simp -implicitDefEqProofs (disch := first | omega | (simp only [List.length_append, List.length_cons, List.length_nil, List.length_map, maxBytes]; omega)) [wrap_in, ite_yes, dec_yes, dec_no, h1, lit_mk]
  | true =>
    rw [hf] at h1
    simp only [formOk, Bool.and_eq_true, decide_eq_true_eq] at hf
    have hl := prs_len es hf.2 []
    have : (es.length + Nd.csum es) * (2 * ([] : List UInt8).length + 4 * Nd.deps es + 200) ≤ 120 * 240 := Nat.mul_le_mul hf.1.1 (by simp; omega)
    have h2 := run_impl_formatBraces es hs 0 (by show _ + (Nd.prs es []).length ≤ _; omega) (by omega)
    have h2 : EV 53 [.pv (.sl (es.map Nd.pv)), .pv (.int .i64 0)] = some ([], .pv (.str (mkS (Nd.prs es [])))) := h2
    simp -implicitDefEqProofs (disch := first | omega | (simp only [List.length_append, List.length_cons, List.length_nil, List.length_map, maxBytes]; omega)) [wrap_in, ite_yes, dec_yes, dec_no, h1, lit_mk, h2]

theorem run_FnExactFormatBraces (es : List Nd) (hlen : es.length ≤ 9223372036854775807) (hok : Nd.oks es) : EV 9 [.pv (.sl (es.map Nd.pv))] = some ([], .pv (.bool true)) := by
  refine run (c := m9c) code9 rfl rfl rfl ?_
  have h1 := run_szNodeS es hlen hok 1048576 (by omega) (by omega)
  by_cases c : lim (es.length + Nd.sw es) 1048576 < 0
  · simp -implicitDefEqProofs [h1, c]
  · have hs := Nd.lim_small c
    simp -implicitDefEqProofs [h1, c, run_toNodeS es hs, run_spec_FormatBraces es hs, run_impl_FormatBraces es hs, run_eqNodeS es hs]
end Go.Proofs.YtbgkalolmichdaaA
