/- The program's reader of one part of a pattern. Conditions: none beyond those that each lemma names. -/
import Derived.Test.YtbgkalolmichdaaPH
namespace Go.Proofs.YtbgkalolmichdaaA
open Go Go.Proofs
set_option linter.unusedVariables false
set_option linter.unusedSimpArgs false
set_option maxRecDepth 20000
attribute [local simp ↓] X_skip X_exit X_ret X_region XD_eq X_seq X_cond X_block X_forget X_loop O_nil O_cons str_eq
attribute [local simp] Log.idle MOper.log Opd.tmps MOp.opds Gets_some A_true B_some B_none C_true C_false boolOf guardSays outOf stepK asPv St.opd St.tmp St.obj St.put St.apply look forgetS keep1 keepBox keepCells nodupB lenIs nth setN part_zero part_skip part_cons putN PV.asInt PV.asNum PV.asBool PV.asStr PV.asSl PV.cells PV.isAgg PV.one PV.fits PV.cell
  slK pv1 pvs toPV share1 share cellsK wdA partOf partOk intBin strBin boolBin binPV unPV pickAV capsOf argOf argsOf backK imp1 impL imp isFree allFree callK setElem partsK elemsOf optInt capIds enter resOf resAll outsOf leave ble_dec beq_dec int_bne int_beq
attribute [local simp] lenIs_arrP lenIs_arr nth_arr putN_arr part_arr part_arrP keep_arr setN_arr len_arr pvs_arr map_arrP uni256 noB_len len_arrP get_arrP set_arrP

def AltI (l : List UInt8) (i0 : Int) : Prop := ∀ i : Int, i0 < i → i ≤ l.length → @Gets Res (EV 71 [rdr l i false]) ⟨RokS l (pAlt (l.drop i.toNat))⟩
theorem any_txt : txtFrom (setR noB 32 95) 0 = anyTxt := by decide +kernel
theorem tk_no {l : List UInt8} {i : Int} {b x : UInt8} {r : List UInt8} (h : l.drop i.toNat = x :: r) (hne : ¬ x = b) : tk l i b = false := by simp [tk, h, hne]
theorem tk_yes {l : List UInt8} {i : Int} {b : UInt8} {r : List UInt8} (h : l.drop i.toNat = b :: r) : tk l i b = true := by simp [tk, h]

set_option maxHeartbeats 8000000 in
theorem run_atom (l : List UInt8) (i : Int) (hl : l.length ≤ 30) (h0 : 0 ≤ i) (h1 : i ≤ l.length) (hA : AltI l i) :
    @Gets Res (EV 109 [rdr l i false]) ⟨RokS l (pAtom (l.drop i.toNat))⟩ := by
  refine runG (c := m109c) code109 rfl rfl rfl ?_
  have n40 : EV 86 [rdr l i false, .pv (.int .u8 40)] = some ([rdr l (tkI l i 40) false], .pv (.bool (tk l i 40))) := take_fn l i false 40 (by omega) h0 h1
  have n46 : EV 86 [rdr l i false, .pv (.int .u8 46)] = some ([rdr l (tkI l i 46) false], .pv (.bool (tk l i 46))) := take_fn l i false 46 (by omega) h0 h1
  have n91 : EV 86 [rdr l i false, .pv (.int .u8 91)] = some ([rdr l (tkI l i 91) false], .pv (.bool (tk l i 91))) := take_fn l i false 91 (by omega) h0 h1
  have hch := char_fn l i false (by omega) h0 h1
  have hnb := noB_len
  simp -implicitDefEqProofs (maxSteps := 2000000) (disch := first | omega | (simp only [List.length_append, List.length_cons, List.length_nil, List.length_map, maxBytes]; omega) | (show apartAll _ _ = true; decide +kernel)) [wrap_in, ite_yes, dec_yes, dec_no, A_go, n40]
  cases hd : l.drop i.toNat with
  | nil =>
    rw [pAtom]
    have t40 : tk l i 40 = false := by simp [tk, hd]
    have t46 : tk l i 46 = false := by simp [tk, hd]
    have t91 : tk l i 91 = false := by simp [tk, hd]
    have c1 : chOk l i = false := by simp [chOk, hd]
    have c2 : chV l i = 0 := by simp [chV, hd]
    have c3 : chI l i = i := by simp [chI, c1]
    simp only [tkI, t46, t91, Bool.false_eq_true, if_false] at n46 n91
    rw [c1, c2, c3] at hch
    have hch : EV 116 [rdr l i false] = some ([rdr l i true], .pv (.int .u8 0)) := hch
    have hso : strOf [PV.int .u8 0] = some (mkS [0]) := strOf_bpv [0]
    simp -implicitDefEqProofs (maxSteps := 2000000) (disch := first | omega | (simp only [List.length_append, List.length_cons, List.length_nil, List.length_map, maxBytes]; omega) | (show apartAll _ _ = true; decide +kernel)) [wrap_in, ite_yes, dec_yes, dec_no, A_go, tkI, t40, t46, t91, n46, n91, hch, hso]
    exact RokS_bad0 h0 h1 1 _
  | cons b r' =>
    have hil := in_lt hd h0
    have hdn := drop_next h0 hd
    by_cases c40 : b = 40
    · subst c40
      rw [pAtom, if_pos rfl, ← hdn]
      have y40 := tk_yes hd
      obtain ⟨r, hr, j, bad, p, rfl, j0, j1, hsm, hm⟩ := gets (hA (i + 1) (by omega) (by omega))
      obtain ⟨o, t, ks⟩ := p
      rw [Pt.pv_mk] at hr
      have n41 : EV 86 [rdr l j bad, .pv (.int .u8 41)] = some ([rdr l (tkI l j 41) bad], .pv (.bool (tk l j 41))) := take_fn l j bad 41 (by omega) j0 j1
      have tin := tkI_in (b := 41) j0 j1
      have e40 : tkI l i 40 = i + 1 := by simp [tkI, y40]
      simp -implicitDefEqProofs (maxSteps := 2000000) (disch := first | omega | (simp only [List.length_append, List.length_cons, List.length_nil, List.length_map, maxBytes]; omega) | (show apartAll _ _ = true; decide +kernel)) [wrap_in, ite_yes, dec_yes, dec_no, A_go, e40, y40, hr, n41]
      cases hm2 : pAlt (l.drop (i + 1).toNat) with
      | none =>
        rw [hm2] at hm
        simp only at hm
        subst hm
        cases ht : tk l j 41 with
        | true =>
          simp -implicitDefEqProofs (maxSteps := 2000000) (disch := first | omega | (simp only [List.length_append, List.length_cons, List.length_nil, List.length_map, maxBytes]; omega) | (show apartAll _ _ = true; decide +kernel)) [wrap_in, ite_yes, dec_yes, dec_no, A_go, ht, Pt.pv_mk]
          exact RokS_bad (by omega) tin.2 hsm
        | false =>
          simp -implicitDefEqProofs (maxSteps := 2000000) (disch := first | omega | (simp only [List.length_append, List.length_cons, List.length_nil, List.length_map, maxBytes]; omega) | (show apartAll _ _ = true; decide +kernel)) [wrap_in, ite_yes, dec_yes, dec_no, A_go, ht, Pt.pv_mk]
          exact RokS_bad (by omega) tin.2 hsm
      | some q =>
        obtain ⟨q, r2⟩ := q
        rw [hm2] at hm
        simp only at hm
        obtain ⟨rfl, rfl, hd2⟩ := hm
        cases r2 with
        | nil =>
          have ht : tk l j 41 = false := by simp [tk, hd2]
          simp -implicitDefEqProofs (maxSteps := 2000000) (disch := first | omega | (simp only [List.length_append, List.length_cons, List.length_nil, List.length_map, maxBytes]; omega) | (show apartAll _ _ = true; decide +kernel)) [wrap_in, ite_yes, dec_yes, dec_no, A_go, ht, Pt.pv_mk]
          exact RokS_bad (by omega) tin.2 hsm
        | cons x r3 =>
          by_cases cx : x = 41
          · subst cx
            have hj := in_lt hd2 j0
            have y41 := tk_yes hd2
            have e41 : tkI l j 41 = j + 1 := by simp [tkI, y41]
            simp -implicitDefEqProofs (maxSteps := 2000000) (disch := first | omega | (simp only [List.length_append, List.length_cons, List.length_nil, List.length_map, maxBytes]; omega) | (show apartAll _ _ = true; decide +kernel)) [wrap_in, ite_yes, dec_yes, dec_no, A_go, y41, e41, Pt.pv_mk]
            exact RokS_good (by omega) (by omega) hsm (drop_next j0 hd2)
          · have ht := tk_no (b := 41) hd2 cx
            have e : close (some (Pt.mk o t ks, x :: r3)) = none := by simp [close, cx]
            rw [e]
            simp -implicitDefEqProofs (maxSteps := 2000000) (disch := first | omega | (simp only [List.length_append, List.length_cons, List.length_nil, List.length_map, maxBytes]; omega) | (show apartAll _ _ = true; decide +kernel)) [wrap_in, ite_yes, dec_yes, dec_no, A_go, ht, Pt.pv_mk]
            exact RokS_bad (by omega) tin.2 hsm
    · have t40 := tk_no (b := 40) hd c40
      have e40 : tkI l i 40 = i := by simp [tkI, t40]
      rw [pAtom, if_neg c40]
      by_cases c46 : b = 46
      · subst c46
        have y46 := tk_yes hd
        have e46 : tkI l i 46 = i + 1 := by simp [tkI, y46]
        rw [if_neg (by decide), if_pos rfl]
        simp -implicitDefEqProofs (maxSteps := 2000000) (disch := first | omega | (simp only [List.length_append, List.length_cons, List.length_nil, List.length_map, maxBytes]; omega) | (show apartAll _ _ = true; decide +kernel)) [wrap_in, ite_yes, dec_yes, dec_no, A_go, e40, t40, n46, y46, e46]
        refine LP_indE2 (fun (x : Nat) (h' : List Bool) => ⟨[(5, .pv (.int .i64 x)), (3, .ptr 192 0), (2, .ptr 128 0)], [(192, .box (arrB h') true), (128, .box [.pv (.int .i64 0), .pv (.str ⟨#[]⟩), .nils] true), (0, .box [.pv (.str (mkS l)), .pv (.int .i64 (i + 1)), .pv (.bool false)] true)]⟩)
          (fun x h' => RokS l (some (charPt anyTxt, r'))) (fun x h' => h'.length = 256 ∧ 32 ≤ x ∧ x ≤ 127 ∧ setR h' x (127 - x) = setR noB 32 95) (fun x h' => 127 - x) (fun x h' hx IHx => ?_) 32 noB ⟨noB_len, by omega, by omega, rfl⟩
        clear n40 n46 n91 hch
        by_cases cx : x < 127
        · simp -implicitDefEqProofs (maxSteps := 2000000) (disch := first | omega | (simp only [List.length_append, List.length_cons, List.length_nil, List.length_map, maxBytes]; omega) | (show apartAll _ _ = true; decide +kernel)) [wrap_in, ite_yes, dec_yes, dec_no, A_go]
          refine IHx (x + 1) (h'.set x true) ⟨by simp; exact hx.1, by omega, by omega, ?_⟩ (by omega)
          rw [← hx.2.2.2, show 127 - x = (127 - (x + 1)) + 1 by omega, setR]
        · have : x = 127 := by omega
          subst this
          have hh : h' = setR noB 32 95 := hx.2.2.2
          have hcl := run_class h' hx.1
          rw [charsP, Pt.pv_mk, hh, any_txt, ← hh] at hcl
          simp -implicitDefEqProofs (maxSteps := 2000000) (disch := first | omega | (simp only [List.length_append, List.length_cons, List.length_nil, List.length_map, maxBytes]; omega) | (show apartAll _ _ = true; decide +kernel)) [wrap_in, ite_yes, dec_yes, dec_no, A_go, hcl]
          exact RokS_good0 (by omega) (by omega) 1 _ hdn
      · have t46 := tk_no (b := 46) hd c46
        have e46 : tkI l i 46 = i := by simp [tkI, t46]
        by_cases c91 : b = 91
        · subst c91
          have y91 := tk_yes hd
          have e91 : tkI l i 91 = i + 1 := by simp [tkI, y91]
          rw [if_pos rfl, ← hdn]
          simp -implicitDefEqProofs (maxSteps := 2000000) (disch := first | omega | (simp only [List.length_append, List.length_cons, List.length_nil, List.length_map, maxBytes]; omega) | (show apartAll _ _ = true; decide +kernel)) [wrap_in, ite_yes, dec_yes, dec_no, A_go, e40, t40, n46, t46, e46, n91, y91, e91]
          have kq : mcls (cls (l.drop (i + 1).toNat) noB true) = mcls (cls (l.drop (i + 1).toNat) noB (decide ((0 : Int) = 0))) := rfl
          clear n40 n46 n91 hch
          refine LP_indE4 (fun (j n : Int) (has : List Bool) (bad : Bool) => ⟨[(6, .pv (.int .i64 n)), (3, .ptr 192 0), (2, .ptr 128 0), (0, .ptr 0 0)], [(192, .box (arrB has) true), (128, .box [.pv (.int .i64 0), .pv (.str ⟨#[]⟩), .nils] true), (0, .box [.pv (.str (mkS l)), .pv (.int .i64 j), .pv (.bool bad)] true)]⟩)
            (fun j n has bad => RokS l (if bad then none else mcls (cls (l.drop j.toNat) has (decide (n = 0))))) (fun j n has bad => 0 ≤ j ∧ j ≤ l.length ∧ has.length = 256 ∧ 0 ≤ n ∧ n ≤ 31 ∧ (bad = false → n ≤ j)) (fun j n has bad => if bad then 0 else 1 + (l.length - j).toNat) (fun j n has bad hi IH => ?_) (i + 1) 0 noB false ⟨by omega, by omega, noB_len, by omega, by omega, fun _ => by omega⟩
          clear kq e40 t40 t46 e46 y91 e91 hd hdn hA
          obtain ⟨g0, g1, g2, g3, g4, g5⟩ := hi
          cases bad with
          | true =>
            have hcl := run_class has g2
            rw [charsP, Pt.pv_mk] at hcl
            simp -implicitDefEqProofs (maxSteps := 2000000) (disch := first | omega | (simp only [List.length_append, List.length_cons, List.length_nil, List.length_map, maxBytes]; omega) | (show apartAll _ _ = true; decide +kernel)) [wrap_in, ite_yes, dec_yes, dec_no, A_go, hcl]
            exact RokS_bad0 g0 g1 1 _
          | false =>
            have g6 := g5 rfl
            change @Gets Res _ ⟨RokS l (mcls (cls (l.drop j.toNat) has (decide (n = 0))))⟩
            have n93 : EV 86 [rdr l j false, .pv (.int .u8 93)] = some ([rdr l (tkI l j 93) false], .pv (.bool (tk l j 93))) := take_fn l j false 93 (by omega) g0 g1
            have hc1 : EV 116 [rdr l j false] = some ([rdr l (chI l j) (!chOk l j)], .pv (.int .u8 (chV l j).toNat)) := by have := char_fn l j false (by omega) g0 g1; simpa using this
            have hin := chI_in g0 g1
            have ht1 : EV 86 [rdr l (chI l j) (!chOk l j), .pv (.int .u8 126)] = some ([rdr l (tkI l (chI l j) 126) (!chOk l j)], .pv (.bool (tk l (chI l j) 126))) := take_fn l (chI l j) (!chOk l j) 126 (by omega) (by omega) hin.2.1
            by_cases hout : n ≠ 0 ∧ tk l j 93 = true
            · obtain ⟨hn0, h93⟩ := hout
              have e93 : tkI l j 93 = j + 1 := by simp [tkI, h93]
              have hcl := run_class has g2
              rw [charsP, Pt.pv_mk] at hcl
              have hin2 := tkI_in (b := 93) g0 g1
              rw [e93] at hin2
              have hcls : cls (l.drop j.toNat) has (decide (n = 0)) = some (has, l.drop (j + 1).toNat) := by
                cases hdj : l.drop j.toNat with
                | nil => simp [tk, hdj] at h93
                | cons x r =>
                  have : x = 93 := by simpa [tk, hdj] using h93
                  subst this
                  rw [cls, if_pos ⟨rfl, decide_eq_false hn0⟩, drop_next g0 hdj]
              rw [hcls]
              simp -implicitDefEqProofs (maxSteps := 2000000) (disch := first | omega | (simp only [List.length_append, List.length_cons, List.length_nil, List.length_map, maxBytes]; omega) | (show apartAll _ _ = true; decide +kernel)) [wrap_in, ite_yes, dec_yes, dec_no, A_go, n93, h93, e93, hcl, hn0]
              exact RokS_good0 (by omega) (by omega) 1 _ rfl
            · have hf : decide (n = 0) = true ∨ tk l j 93 = false := by
                by_cases c : n = 0
                · exact .inl (decide_eq_true c)
                · right; cases h : tk l j 93 with
                  | false => rfl
                  | true => exact absurd ⟨c, h⟩ hout
              have hrc := round_cls (has := has) g0 g1 hf
              have hmc : ∀ (b : Bool) (x : Option (List Bool × List UInt8)), mcls (if b then none else x) = if b then none else mcls x := fun b x => by cases b <;> rfl
              rw [hrc, hmc]
              have e93 : ¬ n = 0 → tkI l j 93 = j ∧ tk l j 93 = false := fun h => by
                have := hf.resolve_left (by simp [h]); exact ⟨by simp [tkI, this], this⟩
              clear hrc hmc hf hout
              have body : ∀ (hn : EV 86 [rdr l j false, .pv (.int .u8 93)] = some ([rdr l j false], .pv (.bool false)) ∨ n = 0), True := fun _ => trivial
              clear body
              cases t : tk l (chI l j) 126 with
              | false =>
                have e1 : rI l j = chI l j := by simp [rI, t]
                have e2 : rZ l j = chV l j := by simp [rZ, t]
                have e3 : rB l j = !chOk l j := by simp [rB, t, e2]
                have e4 : tkI l (chI l j) 126 = chI l j := by simp [tkI, t]
                rw [e1, e2, e3]
                rw [t, e4] at ht1
                clear e1 e2 e3 e4 t
                by_cases c0 : n = 0
                · subst c0
                  simp -implicitDefEqProofs (maxSteps := 2000000) (disch := first | omega | (simp only [List.length_append, List.length_cons, List.length_nil, List.length_map, maxBytes]; omega) | (show apartAll _ _ = true; decide +kernel)) [wrap_in, ite_yes, dec_yes, dec_no, A_go, hc1, ht1, wrap_i64u]
                  refine LP_indE2 (fun (x : Nat) (h' : List Bool) => ⟨[(9, .pv (.int .i64 x)), (8, .pv (.int .u8 (chV l j).toNat)), (6, .pv (.int .i64 (0))), (3, .ptr 192 0), (2, .ptr 128 0), (0, .ptr 0 0)], [(192, .box (arrB h') true), (128, .box [.pv (.int .i64 0), .pv (.str ⟨#[]⟩), .nils] true), (0, .box [.pv (.str (mkS l)), .pv (.int .i64 (chI l j)), .pv (.bool (!chOk l j))] true)]⟩)
                    (fun x h' => RokS l (if (!chOk l j) then none else mcls (cls (l.drop (chI l j).toNat) (setR has (chV l j).toNat ((chV l j).toNat + 1 - (chV l j).toNat)) false))) (fun x h' => h'.length = 256 ∧ x ≤ max (chV l j).toNat ((chV l j).toNat + 1) ∧ setR h' x ((chV l j).toNat + 1 - x) = setR has (chV l j).toNat ((chV l j).toNat + 1 - (chV l j).toNat)) (fun x h' => (chV l j).toNat + 1 - x) (fun x h' hx IHx => ?_) (chV l j).toNat has ⟨g2, by omega, rfl⟩
                  have zb := byte_lt (chV l j)
                  have ab := byte_lt (chV l j)
                  clear hc1 ht1 n93 
                  by_cases cx : x ≤ (chV l j).toNat
                  · simp -implicitDefEqProofs (maxSteps := 2000000) (disch := first | omega | (simp only [List.length_append, List.length_cons, List.length_nil, List.length_map, maxBytes]; omega) | (show apartAll _ _ = true; decide +kernel)) [wrap_in, ite_yes, dec_yes, dec_no, A_go, wrap_i64u]
                    refine IHx (x + 1) (h'.set x true) ⟨by simp; exact hx.1, by omega, ?_⟩ (by omega)
                    rw [← hx.2.2, show (chV l j).toNat + 1 - x = ((chV l j).toNat + 1 - (x + 1)) + 1 by omega, setR]
                  · have e0 : (chV l j).toNat + 1 - x = 0 := by omega
                    rw [e0, setR] at hx
                    simp -implicitDefEqProofs (maxSteps := 2000000) (disch := first | omega | (simp only [List.length_append, List.length_cons, List.length_nil, List.length_map, maxBytes]; omega) | (show apartAll _ _ = true; decide +kernel)) [wrap_in, ite_yes, dec_yes, dec_no, A_go, wrap_i64u]
                    have := IH (chI l j) (0 + 1) h' (!chOk l j) ⟨by omega, by omega, hx.1, by omega, by omega, fun h => ?_⟩ ?_
                    · rw [show decide ((0 : Int) + 1 = 0) = false from decide_eq_false (by omega)] at this
                      rw [← hx.2.2]; exact this
                    · have := hin.2.2 (by simpa using h); omega
                    · cases hck : chOk l j with
                      | false => simp; omega
                      | true => have := hin.2.2 hck; simp; omega
                · rw [(e93 c0).1, (e93 c0).2] at n93
                  simp -implicitDefEqProofs (maxSteps := 2000000) (disch := first | omega | (simp only [List.length_append, List.length_cons, List.length_nil, List.length_map, maxBytes]; omega) | (show apartAll _ _ = true; decide +kernel)) [wrap_in, ite_yes, dec_yes, dec_no, A_go, c0, n93, hc1, ht1, wrap_i64u]
                  refine LP_indE2 (fun (x : Nat) (h' : List Bool) => ⟨[(9, .pv (.int .i64 x)), (8, .pv (.int .u8 (chV l j).toNat)), (6, .pv (.int .i64 (n))), (3, .ptr 192 0), (2, .ptr 128 0), (0, .ptr 0 0)], [(192, .box (arrB h') true), (128, .box [.pv (.int .i64 0), .pv (.str ⟨#[]⟩), .nils] true), (0, .box [.pv (.str (mkS l)), .pv (.int .i64 (chI l j)), .pv (.bool (!chOk l j))] true)]⟩)
                    (fun x h' => RokS l (if (!chOk l j) then none else mcls (cls (l.drop (chI l j).toNat) (setR has (chV l j).toNat ((chV l j).toNat + 1 - (chV l j).toNat)) false))) (fun x h' => h'.length = 256 ∧ x ≤ max (chV l j).toNat ((chV l j).toNat + 1) ∧ setR h' x ((chV l j).toNat + 1 - x) = setR has (chV l j).toNat ((chV l j).toNat + 1 - (chV l j).toNat)) (fun x h' => (chV l j).toNat + 1 - x) (fun x h' hx IHx => ?_) (chV l j).toNat has ⟨g2, by omega, rfl⟩
                  have zb := byte_lt (chV l j)
                  have ab := byte_lt (chV l j)
                  clear hc1 ht1 n93 
                  by_cases cx : x ≤ (chV l j).toNat
                  · simp -implicitDefEqProofs (maxSteps := 2000000) (disch := first | omega | (simp only [List.length_append, List.length_cons, List.length_nil, List.length_map, maxBytes]; omega) | (show apartAll _ _ = true; decide +kernel)) [wrap_in, ite_yes, dec_yes, dec_no, A_go, wrap_i64u]
                    refine IHx (x + 1) (h'.set x true) ⟨by simp; exact hx.1, by omega, ?_⟩ (by omega)
                    rw [← hx.2.2, show (chV l j).toNat + 1 - x = ((chV l j).toNat + 1 - (x + 1)) + 1 by omega, setR]
                  · have e0 : (chV l j).toNat + 1 - x = 0 := by omega
                    rw [e0, setR] at hx
                    simp -implicitDefEqProofs (maxSteps := 2000000) (disch := first | omega | (simp only [List.length_append, List.length_cons, List.length_nil, List.length_map, maxBytes]; omega) | (show apartAll _ _ = true; decide +kernel)) [wrap_in, ite_yes, dec_yes, dec_no, A_go, wrap_i64u]
                    have := IH (chI l j) (n + 1) h' (!chOk l j) ⟨by omega, by omega, hx.1, by omega, by omega, fun h => ?_⟩ ?_
                    · rw [show decide ((n : Int) + 1 = 0) = false from decide_eq_false (by omega)] at this
                      rw [← hx.2.2]; exact this
                    · have := hin.2.2 (by simpa using h); omega
                    · cases hck : chOk l j with
                      | false => simp; omega
                      | true => have := hin.2.2 hck; simp; omega
              | true =>
                have e4 : tkI l (chI l j) 126 = chI l j + 1 := by simp [tkI, t]
                rw [t, e4] at ht1
                have hb1 : chI l j + 1 ≤ l.length := by
                  have := (tkI_in (b := 126) (l := l) (i := chI l j) (by omega) hin.2.1).2
                  rw [e4] at this; exact this
                have hin3 := chI_in (l := l) (i := chI l j + 1) (by omega) hb1
                have hc2 : EV 116 [rdr l (chI l j + 1) (!chOk l j)] = some ([rdr l (chI l (chI l j + 1)) (!chOk l j || !chOk l (chI l j + 1))], .pv (.int .u8 (chV l (chI l j + 1)).toNat)) := char_fn l (chI l j + 1) (!chOk l j) (by omega) (by omega) hb1
                have e1 : rI l j = chI l (chI l j + 1) := by simp [rI, t]
                have e2 : rZ l j = chV l (chI l j + 1) := by simp [rZ, t]
                by_cases hza : ((chV l (chI l j + 1)).toNat : Int) < (chV l j).toNat
                · have e3 : rB l j = true := by simp [rB, t, e2]; omega
                  rw [e1, e2, e3]
                  clear e1 e2 e3 e4 t
                  by_cases c0 : n = 0
                  · subst c0
                    simp -implicitDefEqProofs (maxSteps := 2000000) (disch := first | omega | (simp only [List.length_append, List.length_cons, List.length_nil, List.length_map, maxBytes]; omega) | (show apartAll _ _ = true; decide +kernel)) [wrap_in, ite_yes, dec_yes, dec_no, A_go, hc1, ht1, hc2, hza, wrap_i64u]
                    refine LP_indE2 (fun (x : Nat) (h' : List Bool) => ⟨[(9, .pv (.int .i64 x)), (8, .pv (.int .u8 (chV l (chI l j + 1)).toNat)), (6, .pv (.int .i64 (0))), (3, .ptr 192 0), (2, .ptr 128 0), (0, .ptr 0 0)], [(192, .box (arrB h') true), (128, .box [.pv (.int .i64 0), .pv (.str ⟨#[]⟩), .nils] true), (0, .box [.pv (.str (mkS l)), .pv (.int .i64 (chI l (chI l j + 1))), .pv (.bool (true))] true)]⟩)
                      (fun x h' => RokS l (if (true) then none else mcls (cls (l.drop (chI l (chI l j + 1)).toNat) (setR has (chV l j).toNat ((chV l (chI l j + 1)).toNat + 1 - (chV l j).toNat)) false))) (fun x h' => h'.length = 256 ∧ x ≤ max (chV l j).toNat ((chV l (chI l j + 1)).toNat + 1) ∧ setR h' x ((chV l (chI l j + 1)).toNat + 1 - x) = setR has (chV l j).toNat ((chV l (chI l j + 1)).toNat + 1 - (chV l j).toNat)) (fun x h' => (chV l (chI l j + 1)).toNat + 1 - x) (fun x h' hx IHx => ?_) (chV l j).toNat has ⟨g2, by omega, rfl⟩
                    have zb := byte_lt (chV l (chI l j + 1))
                    have ab := byte_lt (chV l j)
                    clear hc1 ht1 n93 hc2
                    by_cases cx : x ≤ (chV l (chI l j + 1)).toNat
                    · simp -implicitDefEqProofs (maxSteps := 2000000) (disch := first | omega | (simp only [List.length_append, List.length_cons, List.length_nil, List.length_map, maxBytes]; omega) | (show apartAll _ _ = true; decide +kernel)) [wrap_in, ite_yes, dec_yes, dec_no, A_go, wrap_i64u]
                      refine IHx (x + 1) (h'.set x true) ⟨by simp; exact hx.1, by omega, ?_⟩ (by omega)
                      rw [← hx.2.2, show (chV l (chI l j + 1)).toNat + 1 - x = ((chV l (chI l j + 1)).toNat + 1 - (x + 1)) + 1 by omega, setR]
                    · have e0 : (chV l (chI l j + 1)).toNat + 1 - x = 0 := by omega
                      rw [e0, setR] at hx
                      simp -implicitDefEqProofs (maxSteps := 2000000) (disch := first | omega | (simp only [List.length_append, List.length_cons, List.length_nil, List.length_map, maxBytes]; omega) | (show apartAll _ _ = true; decide +kernel)) [wrap_in, ite_yes, dec_yes, dec_no, A_go, wrap_i64u]
                      have := IH (chI l (chI l j + 1)) (0 + 1) h' (true) ⟨by omega, by omega, hx.1, by omega, by omega, fun h => ?_⟩ ?_
                      · rw [show decide ((0 : Int) + 1 = 0) = false from decide_eq_false (by omega)] at this
                        rw [← hx.2.2]; exact this
                      · cases h
                      · simp; omega
                  · rw [(e93 c0).1, (e93 c0).2] at n93
                    simp -implicitDefEqProofs (maxSteps := 2000000) (disch := first | omega | (simp only [List.length_append, List.length_cons, List.length_nil, List.length_map, maxBytes]; omega) | (show apartAll _ _ = true; decide +kernel)) [wrap_in, ite_yes, dec_yes, dec_no, A_go, c0, n93, hc1, ht1, hc2, hza, wrap_i64u]
                    refine LP_indE2 (fun (x : Nat) (h' : List Bool) => ⟨[(9, .pv (.int .i64 x)), (8, .pv (.int .u8 (chV l (chI l j + 1)).toNat)), (6, .pv (.int .i64 (n))), (3, .ptr 192 0), (2, .ptr 128 0), (0, .ptr 0 0)], [(192, .box (arrB h') true), (128, .box [.pv (.int .i64 0), .pv (.str ⟨#[]⟩), .nils] true), (0, .box [.pv (.str (mkS l)), .pv (.int .i64 (chI l (chI l j + 1))), .pv (.bool (true))] true)]⟩)
                      (fun x h' => RokS l (if (true) then none else mcls (cls (l.drop (chI l (chI l j + 1)).toNat) (setR has (chV l j).toNat ((chV l (chI l j + 1)).toNat + 1 - (chV l j).toNat)) false))) (fun x h' => h'.length = 256 ∧ x ≤ max (chV l j).toNat ((chV l (chI l j + 1)).toNat + 1) ∧ setR h' x ((chV l (chI l j + 1)).toNat + 1 - x) = setR has (chV l j).toNat ((chV l (chI l j + 1)).toNat + 1 - (chV l j).toNat)) (fun x h' => (chV l (chI l j + 1)).toNat + 1 - x) (fun x h' hx IHx => ?_) (chV l j).toNat has ⟨g2, by omega, rfl⟩
                    have zb := byte_lt (chV l (chI l j + 1))
                    have ab := byte_lt (chV l j)
                    clear hc1 ht1 n93 hc2
                    by_cases cx : x ≤ (chV l (chI l j + 1)).toNat
                    · simp -implicitDefEqProofs (maxSteps := 2000000) (disch := first | omega | (simp only [List.length_append, List.length_cons, List.length_nil, List.length_map, maxBytes]; omega) | (show apartAll _ _ = true; decide +kernel)) [wrap_in, ite_yes, dec_yes, dec_no, A_go, wrap_i64u]
                      refine IHx (x + 1) (h'.set x true) ⟨by simp; exact hx.1, by omega, ?_⟩ (by omega)
                      rw [← hx.2.2, show (chV l (chI l j + 1)).toNat + 1 - x = ((chV l (chI l j + 1)).toNat + 1 - (x + 1)) + 1 by omega, setR]
                    · have e0 : (chV l (chI l j + 1)).toNat + 1 - x = 0 := by omega
                      rw [e0, setR] at hx
                      simp -implicitDefEqProofs (maxSteps := 2000000) (disch := first | omega | (simp only [List.length_append, List.length_cons, List.length_nil, List.length_map, maxBytes]; omega) | (show apartAll _ _ = true; decide +kernel)) [wrap_in, ite_yes, dec_yes, dec_no, A_go, wrap_i64u]
                      have := IH (chI l (chI l j + 1)) (n + 1) h' (true) ⟨by omega, by omega, hx.1, by omega, by omega, fun h => ?_⟩ ?_
                      · rw [show decide ((n : Int) + 1 = 0) = false from decide_eq_false (by omega)] at this
                        rw [← hx.2.2]; exact this
                      · cases h
                      · simp; omega
                · have e3 : rB l j = (!chOk l j || !chOk l (chI l j + 1)) := by
                    have : ¬ (chV l (chI l j + 1)).toNat < (chV l j).toNat := by omega
                    simp [rB, t, e2, this]
                  rw [e1, e2, e3]
                  clear e1 e2 e3 e4 t
                  by_cases c0 : n = 0
                  · subst c0
                    simp -implicitDefEqProofs (maxSteps := 2000000) (disch := first | omega | (simp only [List.length_append, List.length_cons, List.length_nil, List.length_map, maxBytes]; omega) | (show apartAll _ _ = true; decide +kernel)) [wrap_in, ite_yes, dec_yes, dec_no, A_go, hc1, ht1, hc2, hza, wrap_i64u]
                    refine LP_indE2 (fun (x : Nat) (h' : List Bool) => ⟨[(9, .pv (.int .i64 x)), (8, .pv (.int .u8 (chV l (chI l j + 1)).toNat)), (6, .pv (.int .i64 (0))), (3, .ptr 192 0), (2, .ptr 128 0), (0, .ptr 0 0)], [(192, .box (arrB h') true), (128, .box [.pv (.int .i64 0), .pv (.str ⟨#[]⟩), .nils] true), (0, .box [.pv (.str (mkS l)), .pv (.int .i64 (chI l (chI l j + 1))), .pv (.bool (!chOk l j || !chOk l (chI l j + 1)))] true)]⟩)
                      (fun x h' => RokS l (if (!chOk l j || !chOk l (chI l j + 1)) then none else mcls (cls (l.drop (chI l (chI l j + 1)).toNat) (setR has (chV l j).toNat ((chV l (chI l j + 1)).toNat + 1 - (chV l j).toNat)) false))) (fun x h' => h'.length = 256 ∧ x ≤ max (chV l j).toNat ((chV l (chI l j + 1)).toNat + 1) ∧ setR h' x ((chV l (chI l j + 1)).toNat + 1 - x) = setR has (chV l j).toNat ((chV l (chI l j + 1)).toNat + 1 - (chV l j).toNat)) (fun x h' => (chV l (chI l j + 1)).toNat + 1 - x) (fun x h' hx IHx => ?_) (chV l j).toNat has ⟨g2, by omega, rfl⟩
                    have zb := byte_lt (chV l (chI l j + 1))
                    have ab := byte_lt (chV l j)
                    clear hc1 ht1 n93 hc2
                    by_cases cx : x ≤ (chV l (chI l j + 1)).toNat
                    · simp -implicitDefEqProofs (maxSteps := 2000000) (disch := first | omega | (simp only [List.length_append, List.length_cons, List.length_nil, List.length_map, maxBytes]; omega) | (show apartAll _ _ = true; decide +kernel)) [wrap_in, ite_yes, dec_yes, dec_no, A_go, wrap_i64u]
                      refine IHx (x + 1) (h'.set x true) ⟨by simp; exact hx.1, by omega, ?_⟩ (by omega)
                      rw [← hx.2.2, show (chV l (chI l j + 1)).toNat + 1 - x = ((chV l (chI l j + 1)).toNat + 1 - (x + 1)) + 1 by omega, setR]
                    · have e0 : (chV l (chI l j + 1)).toNat + 1 - x = 0 := by omega
                      rw [e0, setR] at hx
                      simp -implicitDefEqProofs (maxSteps := 2000000) (disch := first | omega | (simp only [List.length_append, List.length_cons, List.length_nil, List.length_map, maxBytes]; omega) | (show apartAll _ _ = true; decide +kernel)) [wrap_in, ite_yes, dec_yes, dec_no, A_go, wrap_i64u]
                      have := IH (chI l (chI l j + 1)) (0 + 1) h' (!chOk l j || !chOk l (chI l j + 1)) ⟨by omega, by omega, hx.1, by omega, by omega, fun h => ?_⟩ ?_
                      · rw [show decide ((0 : Int) + 1 = 0) = false from decide_eq_false (by omega)] at this
                        rw [← hx.2.2]; exact this
                      · omega
                      · cases (!chOk l j || !chOk l (chI l j + 1)) <;> simp <;> omega
                  · rw [(e93 c0).1, (e93 c0).2] at n93
                    simp -implicitDefEqProofs (maxSteps := 2000000) (disch := first | omega | (simp only [List.length_append, List.length_cons, List.length_nil, List.length_map, maxBytes]; omega) | (show apartAll _ _ = true; decide +kernel)) [wrap_in, ite_yes, dec_yes, dec_no, A_go, c0, n93, hc1, ht1, hc2, hza, wrap_i64u]
                    refine LP_indE2 (fun (x : Nat) (h' : List Bool) => ⟨[(9, .pv (.int .i64 x)), (8, .pv (.int .u8 (chV l (chI l j + 1)).toNat)), (6, .pv (.int .i64 (n))), (3, .ptr 192 0), (2, .ptr 128 0), (0, .ptr 0 0)], [(192, .box (arrB h') true), (128, .box [.pv (.int .i64 0), .pv (.str ⟨#[]⟩), .nils] true), (0, .box [.pv (.str (mkS l)), .pv (.int .i64 (chI l (chI l j + 1))), .pv (.bool (!chOk l j || !chOk l (chI l j + 1)))] true)]⟩)
                      (fun x h' => RokS l (if (!chOk l j || !chOk l (chI l j + 1)) then none else mcls (cls (l.drop (chI l (chI l j + 1)).toNat) (setR has (chV l j).toNat ((chV l (chI l j + 1)).toNat + 1 - (chV l j).toNat)) false))) (fun x h' => h'.length = 256 ∧ x ≤ max (chV l j).toNat ((chV l (chI l j + 1)).toNat + 1) ∧ setR h' x ((chV l (chI l j + 1)).toNat + 1 - x) = setR has (chV l j).toNat ((chV l (chI l j + 1)).toNat + 1 - (chV l j).toNat)) (fun x h' => (chV l (chI l j + 1)).toNat + 1 - x) (fun x h' hx IHx => ?_) (chV l j).toNat has ⟨g2, by omega, rfl⟩
                    have zb := byte_lt (chV l (chI l j + 1))
                    have ab := byte_lt (chV l j)
                    clear hc1 ht1 n93 hc2
                    by_cases cx : x ≤ (chV l (chI l j + 1)).toNat
                    · simp -implicitDefEqProofs (maxSteps := 2000000) (disch := first | omega | (simp only [List.length_append, List.length_cons, List.length_nil, List.length_map, maxBytes]; omega) | (show apartAll _ _ = true; decide +kernel)) [wrap_in, ite_yes, dec_yes, dec_no, A_go, wrap_i64u]
                      refine IHx (x + 1) (h'.set x true) ⟨by simp; exact hx.1, by omega, ?_⟩ (by omega)
                      rw [← hx.2.2, show (chV l (chI l j + 1)).toNat + 1 - x = ((chV l (chI l j + 1)).toNat + 1 - (x + 1)) + 1 by omega, setR]
                    · have e0 : (chV l (chI l j + 1)).toNat + 1 - x = 0 := by omega
                      rw [e0, setR] at hx
                      simp -implicitDefEqProofs (maxSteps := 2000000) (disch := first | omega | (simp only [List.length_append, List.length_cons, List.length_nil, List.length_map, maxBytes]; omega) | (show apartAll _ _ = true; decide +kernel)) [wrap_in, ite_yes, dec_yes, dec_no, A_go, wrap_i64u]
                      have := IH (chI l (chI l j + 1)) (n + 1) h' (!chOk l j || !chOk l (chI l j + 1)) ⟨by omega, by omega, hx.1, by omega, by omega, fun h => ?_⟩ ?_
                      · rw [show decide ((n : Int) + 1 = 0) = false from decide_eq_false (by omega)] at this
                        rw [← hx.2.2]; exact this
                      · omega
                      · cases (!chOk l j || !chOk l (chI l j + 1)) <;> simp <;> omega
        · have t91 := tk_no (b := 91) hd c91
          have e91 : tkI l i 91 = i := by simp [tkI, t91]
          rw [if_neg c91, if_neg c46]
          have hbb := byte_lt b
          have e95 := byte_eq (b := b) (n := 95) (by omega)
          have e46' := byte_eq (b := b) (n := 46) (by omega)
          have e45' := byte_eq (b := b) (n := 45) (by omega)
          have hso : strOf [PV.int .u8 (b.toNat : Int)] = some (mkS [b]) := strOf_bpv [b]
          cases hcb : charB (b.toNat : Int) with
          | false =>
            have q1 : chOk l i = false := by simp [chOk, hd, hcb]
            have q2 : chV l i = 0 := by simp [chV, hd, hcb]
            have q3 : chI l i = i := by simp [chI, q1]
            rw [q1, q2, q3] at hch
            have hch : EV 116 [rdr l i false] = some ([rdr l i true], .pv (.int .u8 0)) := hch
            have hso : strOf [PV.int .u8 0] = some (mkS [0]) := strOf_bpv [0]
            have ho : one b = false := by
              revert hcb; unfold one charB; cases lower (b.toNat : Int) <;> cases digit (b.toNat : Int) <;> simp
              intro h1 h2 h3 h4; exact h2 (e45'.2 h4)
            rw [ho]
            simp -implicitDefEqProofs (maxSteps := 2000000) (disch := first | omega | (simp only [List.length_append, List.length_cons, List.length_nil, List.length_map, maxBytes]; omega) | (show apartAll _ _ = true; decide +kernel)) [wrap_in, ite_yes, dec_yes, dec_no, A_go, e40, t40, n46, t46, e46, n91, t91, e91, hch, hso]
            exact RokS_bad0 h0 h1 1 _
          | true =>
            have q1 : chOk l i = true := by simp [chOk, hd, hcb]
            have q2 : chV l i = b := by simp [chV, hd, hcb]
            have q3 : chI l i = i + 1 := by simp [chI, q1]
            rw [q1, q2, q3] at hch
            have hch : EV 116 [rdr l i false] = some ([rdr l (i + 1) false], .pv (.int .u8 b.toNat)) := hch
            by_cases c95 : (b.toNat : Int) = 95
            · have ho : one b = false := by
                have := e95.1 c95; subst this; decide
              have c95d := decide_eq_true c95
              rw [ho]
              simp -implicitDefEqProofs (maxSteps := 2000000) (disch := first | omega | (simp only [List.length_append, List.length_cons, List.length_nil, List.length_map, maxBytes]; omega) | (show apartAll _ _ = true; decide +kernel)) [wrap_in, ite_yes, dec_yes, dec_no, A_go, e40, t40, n46, t46, e46, n91, t91, e91, hch, hso, c95d]
              exact RokS_bad0 (by omega) (by omega) 1 _
            · have c46' : ¬ (b.toNat : Int) = 46 := fun h => c46 (e46'.1 h)
              have ho : one b = true := by
                revert hcb; unfold one charB
                cases lower (b.toNat : Int) <;> cases digit (b.toNat : Int) <;> simp [c95, c46']
                intro h; exact e45'.1 h
              rw [ho]
              simp -implicitDefEqProofs (maxSteps := 2000000) (disch := first | omega | (simp only [List.length_append, List.length_cons, List.length_nil, List.length_map, maxBytes]; omega) | (show apartAll _ _ = true; decide +kernel)) [wrap_in, ite_yes, dec_yes, dec_no, A_go, e40, t40, n46, t46, e46, n91, t91, e91, hch, hso, c95, c46']
              exact RokS_good0 (by omega) (by omega) 1 _ hdn
end Go.Proofs.YtbgkalolmichdaaA
