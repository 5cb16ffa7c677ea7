/- The readers of a class in a pattern: both answer what one plain function says. Conditions: none beyond those that each lemma names. -/
import Derived.Test.YtbgkalolmichdaaPB
import Derived.Test.YtbgkalolmichdaaDX
namespace Go.Proofs.YtbgkalolmichdaaA
open Go Go.Proofs
set_option linter.unusedVariables false
set_option linter.unusedSimpArgs false
set_option maxRecDepth 20000
attribute [local simp ↓] X_skip X_exit X_ret X_region XD_eq X_seq X_cond X_block X_forget X_loop O_nil O_cons str_eq
attribute [local simp] Log.idle MOper.log Opd.tmps MOp.opds Gets_some A_true B_some B_none C_true C_false boolOf guardSays outOf stepK asPv St.opd St.tmp St.obj St.put St.apply look forgetS keep1 keepBox keepCells nodupB lenIs nth setN part_zero part_skip part_cons putN PV.asInt PV.asNum PV.asBool PV.asStr PV.asSl PV.cells PV.isAgg PV.one PV.fits PV.cell
  slK pv1 pvs toPV share1 share cellsK wdA partOf partOk intBin strBin boolBin binPV unPV pickAV capsOf argOf argsOf backK imp1 impL imp isFree allFree callK setElem partsK elemsOf optInt capIds enter resOf resAll outsOf leave ble_dec beq_dec int_bne int_beq
attribute [local simp] lenIs_arrP lenIs_arr nth_arr putN_arr part_arr part_arrP keep_arr setN_arr len_arr pvs_arr map_arrP uni_arr len_arrP get_arrP set_arrP uni_arrP

/-- The upper end of a range of bytes, and what comes behind it. -/
def cstep (a : UInt8) : List UInt8 → Option (UInt8 × List UInt8)
  | [] => some (a, [])
  | t :: r => if t = 126 then (match r with
      | [] => none
      | z :: r3 => if charB z.toNat = true ∧ a.toNat ≤ z.toNat then some (z, r3) else none) else some (a, t :: r)
theorem cstep_len {a z : UInt8} {r r' : List UInt8} (h : cstep a r = some (z, r')) : r'.length ≤ r.length ∧ a.toNat ≤ z.toNat := by
  unfold cstep at h
  split at h
  · cases h; simp
  · split at h
    · split at h
      · cases h
      · split at h
        · rename_i hc; cases h; simp; exact ⟨by omega, hc.2⟩
        · cases h
    · cases h; simp
def cls (r : List UInt8) (has : List Bool) (first : Bool) : Option (List Bool × List UInt8) :=
  match r with
  | [] => none
  | a :: r => if a = 93 ∧ first = false then some (has, r) else if charB a.toNat = false then none else
    match h : cstep a r with
    | none => none
    | some (z, r') => cls r' (setR has a.toNat (z.toNat + 1 - a.toNat)) false
termination_by r.length
decreasing_by have := (cstep_len h).1; simp; omega

theorem cls_one {a z : UInt8} {r r' : List UInt8} {has : List Bool} {f : Bool} (h1 : a ≠ 93) (h2 : charB a.toNat = true) (h3 : cstep a r = some (z, r')) : cls (a :: r) has f = cls r' (setR has a.toNat (z.toNat + 1 - a.toNat)) false := by
  rw [cls, if_neg (fun h => h1 h.1), if_neg (by rw [h2]; simp)]
  split
  · rename_i h; rw [h3] at h; cases h
  · rename_i h; rw [h3] at h; cases h; rfl
theorem cls_bad {a : UInt8} {r : List UInt8} {has : List Bool} {f : Bool} (h1 : a ≠ 93) (h2 : charB a.toNat = true) (h3 : cstep a r = none) : cls (a :: r) has f = none := by
  rw [cls, if_neg (fun h => h1 h.1), if_neg (by rw [h2]; simp)]
  split
  · rfl
  · rename_i h; rw [h3] at h; cases h

/-- What a reader of patterns answers, told by a plain function's answer. -/
def Rok (l : List UInt8) (m : Option (Pt × List UInt8)) (r : Res) : Prop :=
  ∃ (j : Int) (bad : Bool) (p : Pt), r = ([rdr l j bad], .pv p.pv) ∧ 0 ≤ j ∧ j ≤ l.length ∧ match m with
    | some (q, r2) => bad = false ∧ p = q ∧ l.drop j.toNat = r2
    | none => bad = true
def mcls (m : Option (List Bool × List UInt8)) : Option (Pt × List UInt8) := m.map fun x => (charsP x.1, x.2)

theorem not93 {a : UInt8} (h : charB a.toNat = true) : a ≠ 93 := by
  rintro rfl; revert h; decide

/-- No byte. -/
def noB : List Bool := List.replicate 256 false
theorem noB_len : noB.length = 256 := by simp [noB]
theorem rep256 : List.replicate (Int.toNat 256) (PV.bool false) = arrP noB := by rw [noB, ← uni_arrP]; rfl
theorem uni256 : uni 256 (AV.pv (PV.bool false)) = arrB noB := by rw [uni_arr]; rfl

theorem next_yes {l : List UInt8} {i : Int} {b : UInt8} {r : List UInt8} (hl : l.length ≤ 1048576) (h0 : 0 ≤ i) (h1 : i ≤ l.length) (hd : l.drop i.toNat = b :: r) : EV 84 [rdr l i false, .pv (.int .u8 b.toNat)] = some ([rdr l (i + 1) false], .pv (.bool true)) := by
  rw [run_next l i b hl h0 h1, hd]; simp
theorem next_no {l : List UInt8} {i : Int} {b : UInt8} (hl : l.length ≤ 1048576) (h0 : 0 ≤ i) (h1 : i ≤ l.length) (hd : ∀ r, l.drop i.toNat ≠ b :: r) : EV 84 [rdr l i false, .pv (.int .u8 b.toNat)] = some ([rdr l i false], .pv (.bool false)) := by
  rw [run_next l i b hl h0 h1]
  cases h : l.drop i.toNat with
  | nil => rfl
  | cons x r =>
    have : x ≠ b := fun e => hd r (by rw [h, e])
    simp [this]
theorem Rok_bad {l : List UInt8} {j : Int} (h0 : 0 ≤ j) (h1 : j ≤ l.length) (o : Int) (t : Str) (ks : List Pt) : Rok l none ([.box [.str (mkS l), .int .i64 j, .bool true]], .pv (.agg [.int .i64 o, .str t, .sl (ks.map Pt.pv)])) :=
  ⟨j, true, .mk o t ks, by rw [Pt.pv_mk], h0, h1, rfl⟩
theorem Rok_good {l : List UInt8} {j : Int} (h0 : 0 ≤ j) (h1 : j ≤ l.length) (o : Int) (t : Str) (ks : List Pt) {r : List UInt8} (h : l.drop j.toNat = r) : Rok l (some (.mk o t ks, r)) ([.box [.str (mkS l), .int .i64 j, .bool false]], .pv (.agg [.int .i64 o, .str t, .sl (ks.map Pt.pv)])) :=
  ⟨j, false, .mk o t ks, by rw [Pt.pv_mk], h0, h1, rfl, rfl, h⟩
theorem wrap_i64u (a : UInt8) : IntKind.i64.wrap (a.toNat : Int) = a.toNat := by have := byte_lt a; exact wrap_in (by omega) (by omega)

set_option maxHeartbeats 4000000 in
theorem run_l5Class (l : List UInt8) (i0 : Int) (hl : l.length ≤ 30) (h0 : 0 ≤ i0) (h1 : i0 ≤ l.length) :
    @Gets Res (EV 105 [rdr l i0 false]) ⟨Rok l (mcls (cls (l.drop i0.toNat) noB true))⟩ := by
  refine runG (c := m105c) code105 rfl rfl rfl ?_
  simp -implicitDefEqProofs (maxSteps := 2000000) (disch := first | omega | (simp only [List.length_append, List.length_cons, List.length_nil, List.length_map, maxBytes]; omega) | (show apartAll _ _ = true; decide +kernel)) [wrap_in, ite_yes, dec_yes, dec_no, A_go, ↓rep256]
  refine LP_indE3 (fun (i : Int) (has : List Bool) (f : Bool) => ⟨[(4, .pv (.int .i64 i0)), (3, .rw 192), (2, .ptr 128 0), (0, .ptr 0 0)], [(192, .row 0 (arrP has) true), (128, .box [.pv (.int .i64 0), .pv (.str ⟨#[]⟩), .nils] true), (0, .box [.pv (.str (mkS l)), .pv (.int .i64 i), .pv (.bool false)] true)]⟩)
    (fun i has f => Rok l (mcls (cls (l.drop i.toNat) has f))) (fun i has f => i0 ≤ i ∧ i ≤ l.length ∧ has.length = 256 ∧ f = decide (i = i0)) (fun i has f => (l.length - i).toNat) (fun i has f hi IH => ?_) i0 noB true ⟨by omega, by omega, noB_len, by simp⟩
  have g0 : 0 ≤ i := by omega
  by_cases c : i < l.length
  · obtain ⟨a, ha, hat, hdr, _⟩ := idx_at g0 c
    have hs : sidx (mkS l) i = some (a.toNat : Int) := by rw [mk_sidx, if_pos g0, hat]; rfl
    have hab := byte_lt a
    rw [hdr]
    by_cases c93 : a = 93
    · subst c93
      have hn : EV 84 [rdr l i false, .pv (.int .u8 93)] = some ([rdr l (i + 1) false], .pv (.bool true)) := next_yes (by omega) g0 (by omega) hdr
      cases f with
      | true =>
        have e1 : i = i0 := by have := hi.2.2.2; simpa using this.symm
        subst e1
        rw [cls, if_neg (by simp), if_pos (by decide)]
        simp -implicitDefEqProofs (maxSteps := 2000000) (disch := first | omega | (simp only [List.length_append, List.length_cons, List.length_nil, List.length_map, maxBytes]; omega) | (show apartAll _ _ = true; decide +kernel)) [wrap_in, ite_yes, dec_yes, dec_no, A_go, hn]
        refine LP_indE2 (fun (x : Nat) (out : List UInt8) => ⟨[(9, .pv (.int .i64 x)), (8, .rw 512), (3, .rw 192), (2, .ptr 128 0)], [(512, .row 0 (out.map bpv) true), (192, .row 0 (arrP has) true), (128, .box [.pv (.int .i64 0), .pv (.str ⟨#[]⟩), .nils] true), (0, .box [.pv (.str (mkS l)), .pv (.int .i64 (i + 1)), .pv (.bool true)] true)]⟩)
          (fun x out => Rok l (mcls none)) (fun x out => x ≤ 256 ∧ out.length ≤ x ∧ out ++ txtFrom has x = txtFrom has 0) (fun x out => 256 - x) (fun x out hx IHx => ?_) 0 [] ⟨by omega, by simp, rfl⟩
        by_cases cx : x < 256
        · have hst := txtFrom_step has x cx
          have c' : x < has.length := by omega
          have hg : has.getD x false = has[x] := by simp [List.getD, c']
          rw [hg] at hst
          have hq : (arrP has)[x]? = some (.bool has[x]) := by simp [arrP, c']
          cases hb : has[x] with
          | true =>
            rw [hb] at hst
            rw [hb] at hq
            simp -implicitDefEqProofs (maxSteps := 2000000) (disch := first | omega | (simp only [List.length_append, List.length_cons, List.length_nil, List.length_map, maxBytes]; omega) | (show apartAll _ _ = true; decide +kernel)) [wrap_in, ite_yes, dec_yes, dec_no, A_go, wrap_u8, bpv_fits, hq]
            have := IHx (x + 1) (out ++ [UInt8.ofNat x]) ⟨by omega, by simp; omega, by rw [← hx.2.2, hst, List.append_assoc]; rfl⟩ (by omega)
            rw [bpv_app, ← bpv_ofNat x cx] at this; exact this
          | false =>
            rw [hb] at hst
            rw [hb] at hq
            simp -implicitDefEqProofs (maxSteps := 2000000) (disch := first | omega | (simp only [List.length_append, List.length_cons, List.length_nil, List.length_map, maxBytes]; omega) | (show apartAll _ _ = true; decide +kernel)) [wrap_in, ite_yes, dec_yes, dec_no, A_go, wrap_u8, hq]
            exact IHx (x + 1) out ⟨by omega, by omega, by rw [← hx.2.2, hst]; rfl⟩ (by omega)
        · have : x = 256 := by omega
          subst this
          rw [txtFrom_end, List.append_nil] at hx
          simp -implicitDefEqProofs (maxSteps := 2000000) (disch := first | omega | (simp only [List.length_append, List.length_cons, List.length_nil, List.length_map, maxBytes]; omega) | (show apartAll _ _ = true; decide +kernel)) [wrap_in, ite_yes, dec_yes, dec_no, A_go, strOf_bpv]
          exact Rok_bad (by omega) (by omega) 1 _ []
      | false =>
        have e1 : ¬ i = i0 := by have := hi.2.2.2; simpa using this.symm
        have e2 : ¬ i + 1 = i0 + 1 := by omega
        rw [cls, if_pos ⟨rfl, rfl⟩]
        simp -implicitDefEqProofs (maxSteps := 2000000) (disch := first | omega | (simp only [List.length_append, List.length_cons, List.length_nil, List.length_map, maxBytes]; omega) | (show apartAll _ _ = true; decide +kernel)) [wrap_in, ite_yes, dec_yes, dec_no, A_go, hn, e2]
        refine LP_indE2 (fun (x : Nat) (out : List UInt8) => ⟨[(9, .pv (.int .i64 x)), (8, .rw 512), (3, .rw 192), (2, .ptr 128 0)], [(512, .row 0 (out.map bpv) true), (192, .row 0 (arrP has) true), (128, .box [.pv (.int .i64 0), .pv (.str ⟨#[]⟩), .nils] true), (0, .box [.pv (.str (mkS l)), .pv (.int .i64 (i + 1)), .pv (.bool false)] true)]⟩)
          (fun x out => Rok l (mcls (some (has, l.drop (i + 1).toNat)))) (fun x out => x ≤ 256 ∧ out.length ≤ x ∧ out ++ txtFrom has x = txtFrom has 0) (fun x out => 256 - x) (fun x out hx IHx => ?_) 0 [] ⟨by omega, by simp, rfl⟩
        by_cases cx : x < 256
        · have hst := txtFrom_step has x cx
          have c' : x < has.length := by omega
          have hg : has.getD x false = has[x] := by simp [List.getD, c']
          rw [hg] at hst
          have hq : (arrP has)[x]? = some (.bool has[x]) := by simp [arrP, c']
          cases hb : has[x] with
          | true =>
            rw [hb] at hst
            rw [hb] at hq
            simp -implicitDefEqProofs (maxSteps := 2000000) (disch := first | omega | (simp only [List.length_append, List.length_cons, List.length_nil, List.length_map, maxBytes]; omega) | (show apartAll _ _ = true; decide +kernel)) [wrap_in, ite_yes, dec_yes, dec_no, A_go, wrap_u8, bpv_fits, hq]
            have := IHx (x + 1) (out ++ [UInt8.ofNat x]) ⟨by omega, by simp; omega, by rw [← hx.2.2, hst, List.append_assoc]; rfl⟩ (by omega)
            rw [bpv_app, ← bpv_ofNat x cx] at this; exact this
          | false =>
            rw [hb] at hst
            rw [hb] at hq
            simp -implicitDefEqProofs (maxSteps := 2000000) (disch := first | omega | (simp only [List.length_append, List.length_cons, List.length_nil, List.length_map, maxBytes]; omega) | (show apartAll _ _ = true; decide +kernel)) [wrap_in, ite_yes, dec_yes, dec_no, A_go, wrap_u8, hq]
            exact IHx (x + 1) out ⟨by omega, by omega, by rw [← hx.2.2, hst]; rfl⟩ (by omega)
        · have : x = 256 := by omega
          subst this
          rw [txtFrom_end, List.append_nil] at hx
          simp -implicitDefEqProofs (maxSteps := 2000000) (disch := first | omega | (simp only [List.length_append, List.length_cons, List.length_nil, List.length_map, maxBytes]; omega) | (show apartAll _ _ = true; decide +kernel)) [wrap_in, ite_yes, dec_yes, dec_no, A_go, strOf_bpv]
          rw [hx.2.2]; exact Rok_good (by omega) (by omega) 1 _ [] rfl
    · have hn : EV 84 [rdr l i false, .pv (.int .u8 93)] = some ([rdr l i false], .pv (.bool false)) := next_no (by omega) g0 (by omega) (b := 93) (by rw [hdr]; simp [c93])
      have hc := run_l5Char a.toNat (by omega) hab
      cases hch : charB (a.toNat : Int) with
      | false =>
        rw [hch] at hc
        rw [cls, if_neg (fun h => c93 h.1), if_pos hch]
        simp -implicitDefEqProofs (maxSteps := 2000000) (disch := first | omega | (simp only [List.length_append, List.length_cons, List.length_nil, List.length_map, maxBytes]; omega) | (show apartAll _ _ = true; decide +kernel)) [wrap_in, ite_yes, dec_yes, dec_no, A_go, hn, mk_size, hs, hc]
        exact Rok_bad (by omega) (by omega) 0 _ []
      | true =>
        rw [hch] at hc
        cases hr : l.drop (i + 1).toNat with
        | nil =>
          have hcs : cstep a [] = some (a, []) := rfl
          rw [cls_one c93 hch hcs]
          have hn2 : EV 84 [rdr l (i + 1) false, .pv (.int .u8 126)] = some ([rdr l (i + 1) false], .pv (.bool false)) := next_no (by omega) (by omega) (by omega) (b := 126) (by rw [hr]; simp)
          simp -implicitDefEqProofs (maxSteps := 2000000) (disch := first | omega | (simp only [List.length_append, List.length_cons, List.length_nil, List.length_map, maxBytes]; omega) | (show apartAll _ _ = true; decide +kernel)) [wrap_in, ite_yes, dec_yes, dec_no, A_go, hn, mk_size, hs, hc, hn2, wrap_i64u]
          refine LP_indE2 (fun (x : Nat) (h' : List Bool) => ⟨[(7, .pv (.int .i64 x)), (6, .pv (.int .u8 a.toNat)), (4, .pv (.int .i64 i0)), (3, .rw 192), (2, .ptr 128 0), (0, .ptr 0 0)], [(192, .row 0 (arrP h') true), (128, .box [.pv (.int .i64 0), .pv (.str ⟨#[]⟩), .nils] true), (0, .box [.pv (.str (mkS l)), .pv (.int .i64 (i + 1)), .pv (.bool false)] true)]⟩)
            (fun x h' => Rok l (mcls (cls [] (setR has a.toNat (a.toNat + 1 - a.toNat)) false))) (fun x h' => h'.length = 256 ∧ x ≤ a.toNat + 1 ∧ setR h' x (a.toNat + 1 - x) = setR has a.toNat (a.toNat + 1 - a.toNat)) (fun x h' => a.toNat + 1 - x) (fun x h' hx IHx => ?_) a.toNat has ⟨hi.2.2.1, by omega, rfl⟩
          by_cases cx : x ≤ a.toNat
          · have hq : (arrP h')[x]? = some (.bool (h'[x]'(by have := byte_lt a; have := byte_lt a; omega))) := by simp [arrP]
            simp -implicitDefEqProofs (maxSteps := 2000000) (disch := first | omega | (simp only [List.length_append, List.length_cons, List.length_nil, List.length_map, maxBytes]; omega) | (show apartAll _ _ = true; decide +kernel)) [wrap_in, ite_yes, dec_yes, dec_no, A_go, wrap_i64u, hq]
            refine IHx (x + 1) (h'.set x true) ⟨by simp; exact hx.1, by omega, ?_⟩ (by omega)
            rw [← hx.2.2, show a.toNat + 1 - x = (a.toNat + 1 - (x + 1)) + 1 by omega, setR]
          · have e0 : a.toNat + 1 - x = 0 := by omega
            rw [e0, setR] at hx
            simp -implicitDefEqProofs (maxSteps := 2000000) (disch := first | omega | (simp only [List.length_append, List.length_cons, List.length_nil, List.length_map, maxBytes]; omega) | (show apartAll _ _ = true; decide +kernel)) [wrap_in, ite_yes, dec_yes, dec_no, A_go, wrap_i64u]
            have := IH (i + 1) h' false ⟨by omega, by omega, hx.1, by simp; omega⟩ (by omega)
            rw [hr] at this; rw [← hx.2.2]; exact this
        | cons t r2 =>
          have hlt2 : i + 1 < l.length := by
            have := congrArg List.length hr; simp at this; omega
          by_cases ct : t = 126
          · subst ct
            have hn2 : EV 84 [rdr l (i + 1) false, .pv (.int .u8 126)] = some ([rdr l (i + 1 + 1) false], .pv (.bool true)) := next_yes (by omega) (by omega) (by omega) hr
            have e2 : i + 1 + 1 = i + 2 := by omega
            have hr2 : l.drop (i + 2).toNat = r2 := by rw [← e2]; exact drop_next (by omega) hr
            rw [e2] at hn2
            cases r2 with
            | nil =>
              have hcs : cstep a [126] = none := rfl
              rw [cls_bad c93 hch hcs]
              have hle : (l.length : Int) ≤ i + 2 := by
                have := congrArg List.length hr2; simp at this; omega
              simp -implicitDefEqProofs (maxSteps := 2000000) (disch := first | omega | (simp only [List.length_append, List.length_cons, List.length_nil, List.length_map, maxBytes]; omega) | (show apartAll _ _ = true; decide +kernel)) [wrap_in, ite_yes, dec_yes, dec_no, A_go, hn, mk_size, hs, hc, hn2]
              exact Rok_bad (by omega) (by omega) 0 _ []
            | cons z r3 =>
              have hlt3 : i + 2 < l.length := by
                have := congrArg List.length hr2; simp at this; omega
              have hs2 : sidx (mkS l) (i + 2) = some (z.toNat : Int) := by
                rw [mk_sidx, if_pos (by omega)]
                have : l[(i + 2).toNat]? = (l.drop (i + 2).toNat)[0]? := by rw [List.getElem?_drop]; rfl
                rw [this, hr2]; rfl
              have hzb := byte_lt z
              have hcz := run_l5Char z.toNat (by omega) hzb
              have e3 : i + 2 + 1 = i + 3 := by omega
              have hr3 : l.drop (i + 3).toNat = r3 := by rw [← e3]; exact drop_next (by omega) hr2
              cases hzc : charB (z.toNat : Int) with
              | false =>
                rw [hzc] at hcz
                have hcs : cstep a (126 :: z :: r3) = none := by simp [cstep, hzc]
                rw [cls_bad c93 hch hcs]
                simp -implicitDefEqProofs (maxSteps := 2000000) (disch := first | omega | (simp only [List.length_append, List.length_cons, List.length_nil, List.length_map, maxBytes]; omega) | (show apartAll _ _ = true; decide +kernel)) [wrap_in, ite_yes, dec_yes, dec_no, A_go, hn, mk_size, hs, hc, hn2, hs2, hcz]
                exact Rok_bad (by omega) (by omega) 0 _ []
              | true =>
                rw [hzc] at hcz
                by_cases hza : (z.toNat : Int) < a.toNat
                · have hcs : cstep a (126 :: z :: r3) = none := by simp [cstep, hzc]; omega
                  rw [cls_bad c93 hch hcs]
                  simp -implicitDefEqProofs (maxSteps := 2000000) (disch := first | omega | (simp only [List.length_append, List.length_cons, List.length_nil, List.length_map, maxBytes]; omega) | (show apartAll _ _ = true; decide +kernel)) [wrap_in, ite_yes, dec_yes, dec_no, A_go, hn, mk_size, hs, hc, hn2, hs2, hcz]
                  exact Rok_bad (by omega) (by omega) 0 _ []
                · have hcs : cstep a (126 :: z :: r3) = some (z, r3) := by simp [cstep, hzc]; omega
                  rw [cls_one c93 hch hcs]
                  simp -implicitDefEqProofs (maxSteps := 2000000) (disch := first | omega | (simp only [List.length_append, List.length_cons, List.length_nil, List.length_map, maxBytes]; omega) | (show apartAll _ _ = true; decide +kernel)) [wrap_in, ite_yes, dec_yes, dec_no, A_go, hn, mk_size, hs, hc, hn2, hs2, hcz, wrap_i64u, e3]
                  refine LP_indE2 (fun (x : Nat) (h' : List Bool) => ⟨[(7, .pv (.int .i64 x)), (6, .pv (.int .u8 z.toNat)), (4, .pv (.int .i64 i0)), (3, .rw 192), (2, .ptr 128 0), (0, .ptr 0 0)], [(192, .row 0 (arrP h') true), (128, .box [.pv (.int .i64 0), .pv (.str ⟨#[]⟩), .nils] true), (0, .box [.pv (.str (mkS l)), .pv (.int .i64 (i + 3)), .pv (.bool false)] true)]⟩)
                    (fun x h' => Rok l (mcls (cls r3 (setR has a.toNat (z.toNat + 1 - a.toNat)) false))) (fun x h' => h'.length = 256 ∧ x ≤ z.toNat + 1 ∧ setR h' x (z.toNat + 1 - x) = setR has a.toNat (z.toNat + 1 - a.toNat)) (fun x h' => z.toNat + 1 - x) (fun x h' hx IHx => ?_) a.toNat has ⟨hi.2.2.1, by omega, rfl⟩
                  by_cases cx : x ≤ z.toNat
                  · have hq : (arrP h')[x]? = some (.bool (h'[x]'(by have := byte_lt a; have := byte_lt z; omega))) := by simp [arrP]
                    simp -implicitDefEqProofs (maxSteps := 2000000) (disch := first | omega | (simp only [List.length_append, List.length_cons, List.length_nil, List.length_map, maxBytes]; omega) | (show apartAll _ _ = true; decide +kernel)) [wrap_in, ite_yes, dec_yes, dec_no, A_go, wrap_i64u, hq]
                    refine IHx (x + 1) (h'.set x true) ⟨by simp; exact hx.1, by omega, ?_⟩ (by omega)
                    rw [← hx.2.2, show z.toNat + 1 - x = (z.toNat + 1 - (x + 1)) + 1 by omega, setR]
                  · have e0 : z.toNat + 1 - x = 0 := by omega
                    rw [e0, setR] at hx
                    simp -implicitDefEqProofs (maxSteps := 2000000) (disch := first | omega | (simp only [List.length_append, List.length_cons, List.length_nil, List.length_map, maxBytes]; omega) | (show apartAll _ _ = true; decide +kernel)) [wrap_in, ite_yes, dec_yes, dec_no, A_go, wrap_i64u]
                    have := IH (i + 3) h' false ⟨by omega, by omega, hx.1, by simp; omega⟩ (by omega)
                    rw [hr3] at this; rw [← hx.2.2]; exact this
          · have hcs : cstep a (t :: r2) = some (a, t :: r2) := by simp [cstep, ct]
            rw [cls_one c93 hch hcs]
            have hn2 : EV 84 [rdr l (i + 1) false, .pv (.int .u8 126)] = some ([rdr l (i + 1) false], .pv (.bool false)) := next_no (by omega) (by omega) (by omega) (b := 126) (by rw [hr]; simp [ct])
            simp -implicitDefEqProofs (maxSteps := 2000000) (disch := first | omega | (simp only [List.length_append, List.length_cons, List.length_nil, List.length_map, maxBytes]; omega) | (show apartAll _ _ = true; decide +kernel)) [wrap_in, ite_yes, dec_yes, dec_no, A_go, hn, mk_size, hs, hc, hn2, wrap_i64u]
            refine LP_indE2 (fun (x : Nat) (h' : List Bool) => ⟨[(7, .pv (.int .i64 x)), (6, .pv (.int .u8 a.toNat)), (4, .pv (.int .i64 i0)), (3, .rw 192), (2, .ptr 128 0), (0, .ptr 0 0)], [(192, .row 0 (arrP h') true), (128, .box [.pv (.int .i64 0), .pv (.str ⟨#[]⟩), .nils] true), (0, .box [.pv (.str (mkS l)), .pv (.int .i64 (i + 1)), .pv (.bool false)] true)]⟩)
              (fun x h' => Rok l (mcls (cls (t :: r2) (setR has a.toNat (a.toNat + 1 - a.toNat)) false))) (fun x h' => h'.length = 256 ∧ x ≤ a.toNat + 1 ∧ setR h' x (a.toNat + 1 - x) = setR has a.toNat (a.toNat + 1 - a.toNat)) (fun x h' => a.toNat + 1 - x) (fun x h' hx IHx => ?_) a.toNat has ⟨hi.2.2.1, by omega, rfl⟩
            by_cases cx : x ≤ a.toNat
            · have hq : (arrP h')[x]? = some (.bool (h'[x]'(by have := byte_lt a; have := byte_lt a; omega))) := by simp [arrP]
              simp -implicitDefEqProofs (maxSteps := 2000000) (disch := first | omega | (simp only [List.length_append, List.length_cons, List.length_nil, List.length_map, maxBytes]; omega) | (show apartAll _ _ = true; decide +kernel)) [wrap_in, ite_yes, dec_yes, dec_no, A_go, wrap_i64u, hq]
              refine IHx (x + 1) (h'.set x true) ⟨by simp; exact hx.1, by omega, ?_⟩ (by omega)
              rw [← hx.2.2, show a.toNat + 1 - x = (a.toNat + 1 - (x + 1)) + 1 by omega, setR]
            · have e0 : a.toNat + 1 - x = 0 := by omega
              rw [e0, setR] at hx
              simp -implicitDefEqProofs (maxSteps := 2000000) (disch := first | omega | (simp only [List.length_append, List.length_cons, List.length_nil, List.length_map, maxBytes]; omega) | (show apartAll _ _ = true; decide +kernel)) [wrap_in, ite_yes, dec_yes, dec_no, A_go, wrap_i64u]
              have := IH (i + 1) h' false ⟨by omega, by omega, hx.1, by simp; omega⟩ (by omega)
              rw [hr] at this; rw [← hx.2.2]; exact this
  · have hn : EV 84 [rdr l i false, .pv (.int .u8 93)] = some ([rdr l i false], .pv (.bool false)) := next_no (by omega) g0 (by omega) (b := 93) (by rw [drop_end c g0]; simp)
    rw [drop_end c (by omega), cls]
    simp -implicitDefEqProofs (maxSteps := 2000000) (disch := first | omega | (simp only [List.length_append, List.length_cons, List.length_nil, List.length_map, maxBytes]; omega) | (show apartAll _ _ = true; decide +kernel)) [wrap_in, ite_yes, dec_yes, dec_no, A_go, hn, mk_size]
    exact Rok_bad (by omega) (by omega) 0 _ []
end Go.Proofs.YtbgkalolmichdaaA
