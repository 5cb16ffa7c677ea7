/- Sets of bytes, and the texts that stand for them. Conditions: none beyond those that each lemma names. -/
import Derived.Test.YtbgkalolmichdaaPA
namespace Go.Proofs.YtbgkalolmichdaaA
open Go Go.Proofs
set_option linter.unusedVariables false
set_option linter.unusedSimpArgs false
set_option maxRecDepth 20000
attribute [local simp ↓] X_skip X_exit X_ret X_region XD_eq X_seq X_cond X_block X_forget X_loop O_nil O_cons str_eq
attribute [local simp] Log.idle MOper.log Opd.tmps MOp.opds Gets_some A_true B_some B_none C_true C_false boolOf guardSays outOf stepK asPv St.opd St.tmp St.obj St.put St.apply look forgetS keep1 keepBox keepCells nodupB lenIs nth setN part_zero part_skip part_cons putN PV.asInt PV.asNum PV.asBool PV.asStr PV.asSl PV.cells PV.isAgg PV.one PV.fits PV.cell
  slK pv1 pvs toPV share1 share cellsK wdA partOf partOk intBin strBin boolBin binPV unPV pickAV capsOf argOf argsOf backK imp1 impL imp isFree allFree callK setElem partsK elemsOf optInt capIds enter resOf resAll outsOf leave ble_dec beq_dec int_bne int_beq

def arrB (l : List Bool) : List AV := l.map fun b => .pv (.bool b)
def arrP (l : List Bool) : List PV := l.map .bool
theorem uni_arr (n : Nat) (b : Bool) : uni n (AV.pv (.bool b)) = arrB (List.replicate n b) := by simp [uni, arrB]
theorem lenIs_iff' {α : Type} : ∀ (l : List α) (n : Nat), lenIs l n = true ↔ l.length = n
  | [], 0 => by simp [lenIs]
  | [], n + 1 => by simp [lenIs]
  | x :: l, 0 => by simp [lenIs]
  | x :: l, n + 1 => by simp [lenIs, lenIs_iff' l n]
theorem lenIs_arr {l : List Bool} {n : Nat} (h : l.length = n) : lenIs (arrB l) n = true := by rw [lenIs_iff']; simpa [arrB] using h
theorem lenIs_arrP {l : List Bool} {n : Nat} (h : l.length = n) : lenIs (arrP l) n = true := by rw [lenIs_iff']; simpa [arrP] using h
theorem len_arr (l : List Bool) : (arrB l).length = l.length := by simp [arrB]
theorem setN_set {α : Type} : ∀ (l : List α) (i : Nat) (v : α), setN l i v = l.set i v
  | [], i, v => by simp [setN]
  | x :: l, 0, v => rfl
  | x :: l, i + 1, v => by rw [setN, setN_set l i v]; rfl
theorem putN_all {α : Type} : ∀ (l' pre l : List α), l.length = l'.length → putN (pre ++ l) pre.length l' = pre ++ l'
  | [], pre, l, h => by rw [List.length_nil, List.length_eq_zero_iff] at h; subst h; rfl
  | v :: vs, pre, [], h => by simp at h
  | v :: vs, pre, x :: l, h => by
    rw [putN, setN_set]
    have : (pre ++ x :: l).set pre.length v = (pre ++ [v]) ++ l := by
      rw [List.set_append_right _ _ (Nat.le_refl _)]; simp
    rw [this]
    have := putN_all vs (pre ++ [v]) l (by simpa using h)
    simpa using this
theorem putN_arr {l l' : List Bool} (h : l.length = l'.length) : putN (arrB l) 0 (arrB l') = arrB l' := by
  have := putN_all (arrB l') [] (arrB l) (by rw [len_arr, len_arr]; exact h)
  simpa using this
theorem nth_get {α : Type} (d : α) : ∀ (l : List α) (i : Nat), nth d l i = (l[i]?).getD d
  | [], i => by simp [nth]
  | x :: l, 0 => rfl
  | x :: l, i + 1 => by rw [nth, nth_get d l i]; simp
theorem part_drop {α : Type} (d : α) : ∀ (n : Nat) (l : List α) (off : Nat), l.length = off + n → part d l off n = l.drop off
  | 0, l, off, h => by rw [part, List.drop_eq_nil_iff.2 (by omega)]
  | n + 1, l, off, h => by
    have hlt : off < l.length := by omega
    rw [part, part_drop d n l (off + 1) (by omega), nth_get, List.drop_eq_getElem_cons hlt, List.getElem?_eq_getElem hlt]
    rfl
theorem part_arr {l : List Bool} {n : Nat} (h : l.length = n) : part AV.undef (arrB l) 0 n = arrB l := by rw [part_drop _ _ _ _ (by rw [len_arr]; omega)]; rfl
theorem part_arrP {l : List Bool} {n : Nat} (h : l.length = n) : part PV.nilp (arrP l) 0 n = arrP l := by rw [part_drop _ _ _ _ (by simp [arrP]; omega)]; rfl
theorem map_arrP (l : List Bool) : (arrP l).map AV.pv = arrB l := by simp [arrP, arrB]
theorem setN_arr (l : List Bool) (i : Nat) (b : Bool) : setN (arrB l) i (.pv (.bool b)) = arrB (l.set i b) := by rw [setN_set]; simp [arrB, List.map_set]
theorem nth_arr {l : List Bool} {i : Nat} (h : i < l.length) : nth AV.undef (arrB l) i = .pv (.bool (l.getD i false)) := by
  rw [nth_get]; simp [arrB, List.getD, h]
theorem pvs_arr (σ : St) : ∀ l : List Bool, pvs σ (arrB l) = some (arrP l, [])
  | [] => rfl
  | b :: l => by
    have ih := pvs_arr σ l
    rw [arrB] at ih ⊢
    rw [List.map_cons, pvs, ih]; rfl
theorem keep_arr (σ : St) : ∀ (l : List Bool) (d : Nat), keepCells σ d (arrB l) = (arrB l, [])
  | [], d => rfl
  | b :: l, d => by
    have ih := keep_arr σ l (d + 1)
    rw [arrB] at ih ⊢
    rw [List.map_cons, keepCells, ih]

/-- The bytes of a set, from one on. -/
def txtFrom (l : List Bool) (i : Nat) : List UInt8 := ((List.range' i (256 - i)).filter fun j => l.getD j false).map UInt8.ofNat
theorem txtFrom_step (l : List Bool) (i : Nat) (h : i < 256) : txtFrom l i = (if l.getD i false then [UInt8.ofNat i] else []) ++ txtFrom l (i + 1) := by
  unfold txtFrom
  rw [show 256 - i = (256 - (i + 1)) + 1 by omega, List.range'_succ, List.filter_cons]
  cases l.getD i false <;> simp
theorem txtFrom_end (l : List Bool) : txtFrom l 256 = [] := by simp [txtFrom]
theorem bpv_ofNat (i : Nat) (h : i < 256) : PV.int .u8 (i : Int) = bpv (UInt8.ofNat i) := by
  simp only [bpv, UInt8.toNat_ofNat']
  congr 1; omega
def charsP (l : List Bool) : Pt := .mk 1 (mkS (txtFrom l 0)) []

theorem wrap_u8 {x : Int} (h0 : 0 ≤ x) (h1 : x < 256) : IntKind.u8.wrap x = x := by
  simp [IntKind.wrap, IntKind.bits, IntKind.signed]; omega

theorem cellsK_arrP {R : Type} {l : List Bool} (h : l.length = 256) (k : List AV → Option R) : cellsK 256 (.pv (.agg (arrP l))) k = k (arrB l) := by
  have h1 : lenIs (arrP l) 256 = true := lenIs_arrP h
  have h2 : part PV.nilp (arrP l) 0 256 = arrP l := part_arrP h
  show (bif lenIs (arrP l) 256 then k ((part PV.nilp (arrP l) 0 256).map .pv) else none) = _
  rw [h1, h2, map_arrP]; rfl
theorem cellsK_arr {R : Type} {l : List Bool} (h : l.length = 256) (k : List AV → Option R) : cellsK 256 (.agg (arrB l)) k = k (arrB l) := by
  have h1 : lenIs (arrB l) 256 = true := lenIs_arr h
  show (bif lenIs (arrB l) 256 then k (arrB l) else none) = _
  rw [h1]; rfl
attribute [local simp] lenIs_arrP lenIs_arr nth_arr putN_arr part_arr part_arrP keep_arr setN_arr len_arr pvs_arr map_arrP uni_arr
theorem run_class (l : List Bool) (hl : l.length = 256) : EV 115 [.pv (.agg (arrP l))] = some ([], .pv (charsP l).pv) := by
  refine run (c := m115c) code115 rfl rfl rfl ?_
  simp -implicitDefEqProofs (maxSteps := 2000000) (disch := first | omega | (simp only [List.length_append, List.length_cons, List.length_nil, List.length_map, maxBytes]; omega) | (show apartAll _ _ = true; decide +kernel)) [wrap_in, ite_yes, dec_yes, dec_no, A_go, map_arrP]
  refine LP_ind2 (fun (i : Nat) (out : List UInt8) => ⟨[(6, .pv (.int .i64 i)), (3, .rw 192), (2, .ptr 128 0), (1, .ptr 64 0)], [(192, .row 0 (out.map bpv) true), (128, .box [.pv (.int .i64 0), .pv (.str ⟨#[]⟩), .nils] true), (64, .box (arrB l) true)]⟩)
    (fun i out => ([], XV.pv (Pt.mk 1 (mkS (out ++ txtFrom l i)) []).pv)) (fun i out => i ≤ 256 ∧ out.length ≤ i) (fun i out => 256 - i) (fun i out hi IH => ?_) 0 [] ⟨by omega, by simp⟩
  by_cases c : i < 256
  · rw [txtFrom_step l i c]
    have c' : i < l.length := by omega
    have hg : l.getD i false = l[i] := by simp [List.getD, c']
    rw [hg]
    cases hb : l[i] with
    | true =>
      simp -implicitDefEqProofs (maxSteps := 2000000) (disch := first | omega | (simp only [List.length_append, List.length_cons, List.length_nil, List.length_map, maxBytes]; omega) | (show apartAll _ _ = true; decide +kernel)) [wrap_in, ite_yes, dec_yes, dec_no, A_go, wrap_u8, bpv_fits, hb]
      have := IH (i + 1) (out ++ [UInt8.ofNat i]) ⟨by omega, by simp; omega⟩ (by omega)
      rw [bpv_app, ← bpv_ofNat i c, List.append_assoc] at this; exact this
    | false =>
      simp -implicitDefEqProofs (maxSteps := 2000000) (disch := first | omega | (simp only [List.length_append, List.length_cons, List.length_nil, List.length_map, maxBytes]; omega) | (show apartAll _ _ = true; decide +kernel)) [wrap_in, ite_yes, dec_yes, dec_no, A_go, wrap_u8, hb]
      exact IH (i + 1) out ⟨by omega, by omega⟩ (by omega)
  · have : i = 256 := by omega
    subst this
    simp -implicitDefEqProofs (maxSteps := 2000000) (disch := first | omega | (simp only [List.length_append, List.length_cons, List.length_nil, List.length_map, maxBytes]; omega) | (show apartAll _ _ = true; decide +kernel)) [wrap_in, ite_yes, dec_yes, dec_no, A_go, txtFrom_end, strOf_bpv, Pt.pv_mk]

/-- All bytes of texts. -/
def anyTxt : List UInt8 := (List.range' 32 95).map UInt8.ofNat
theorem run_l5Any : EV 106 [] = some ([], .pv (.str (mkS anyTxt))) := by
  refine run (c := m106c) code106 rfl rfl rfl ?_
  simp -implicitDefEqProofs (maxSteps := 2000000) (disch := first | omega | (simp only [List.length_append, List.length_cons, List.length_nil, List.length_map, maxBytes]; omega) | (show apartAll _ _ = true; decide +kernel)) [wrap_in, ite_yes, dec_yes, dec_no, A_go]
  refine LP_ind2 (fun (i : Nat) (out : List UInt8) => ⟨[(2, .pv (.int .i64 i)), (1, .rw 64)], [(64, .row 0 (out.map bpv) true)]⟩)
    (fun i out => ([], XV.pv (.str (mkS anyTxt)))) (fun i out => 32 ≤ i ∧ i ≤ 127 ∧ out = (List.range' 32 (i - 32)).map UInt8.ofNat) (fun i out => 127 - i) (fun i out hi IH => ?_) 32 [] ⟨by omega, by omega, rfl⟩
  by_cases c : i < 127
  · have e2 : out.length = i - 32 := by rw [hi.2.2]; simp
    simp -implicitDefEqProofs (maxSteps := 2000000) (disch := first | omega | (simp only [List.length_append, List.length_cons, List.length_nil, List.length_map, maxBytes]; omega) | (show apartAll _ _ = true; decide +kernel)) [wrap_in, ite_yes, dec_yes, dec_no, A_go, wrap_u8, bpv_fits]
    have := IH (i + 1) (out ++ [UInt8.ofNat i]) ⟨by omega, by omega, by rw [hi.2.2, show i + 1 - 32 = (i - 32) + 1 by omega, List.range'_concat, List.map_append, show 32 + 1 * (i - 32) = i by omega]; rfl⟩ (by omega)
    rw [bpv_app, ← bpv_ofNat i (by omega)] at this; exact this
  · have : i = 127 := by omega
    subst this
    have h2 : out = anyTxt := hi.2.2
    simp -implicitDefEqProofs (maxSteps := 2000000) (disch := first | omega | (simp only [List.length_append, List.length_cons, List.length_nil, List.length_map, maxBytes]; omega) | (show apartAll _ _ = true; decide +kernel)) [wrap_in, ite_yes, dec_yes, dec_no, A_go, strOf_bpv, h2]

/-! ### Rows of truth values -/
theorem len_arrP (l : List Bool) : (arrP l).length = l.length := by simp [arrP]
theorem get_arrP (l : List Bool) (i : Nat) (h : i < (arrP l).length) : (arrP l)[i] = .bool (l[i]'(by simpa [arrP] using h)) := by simp [arrP]
theorem set_arrP (l : List Bool) (i : Nat) (b : Bool) : (arrP l).set i (.bool b) = arrP (l.set i b) := by simp [arrP, List.map_set]
theorem uni_arrP (n : Nat) (b : Bool) : List.replicate n (PV.bool b) = arrP (List.replicate n b) := by simp [arrP]
/-- Some places of a set from one on. -/
def setR : List Bool → Nat → Nat → List Bool
  | l, _, 0 => l
  | l, x, n + 1 => setR (l.set x true) (x + 1) n
theorem setR_len : ∀ (n : Nat) (l : List Bool) (x : Nat), (setR l x n).length = l.length
  | 0, l, x => rfl
  | n + 1, l, x => by rw [setR, setR_len n]; simp
end Go.Proofs.YtbgkalolmichdaaA
