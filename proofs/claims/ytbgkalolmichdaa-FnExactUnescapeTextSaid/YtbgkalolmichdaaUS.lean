/- The functions of FnExactUnescapeText: what they answer. Conditions: none beyond those that each lemma names. -/
import Derived.Test.YtbgkalolmichdaaDA
import Derived.Test.YtbgkalolmichdaaDB0
namespace Go.Proofs.YtbgkalolmichdaaA
open Go Go.Proofs
set_option linter.unusedVariables false
set_option linter.unusedSimpArgs false
set_option maxRecDepth 20000
attribute [local simp ↓] X_skip X_exit X_ret X_region XD_eq X_seq X_cond X_block X_forget X_loop O_nil O_cons str_eq
attribute [local simp] Log.idle MOper.log Opd.tmps MOp.opds B_some B_none C_true C_false boolOf guardSays outOf stepK asPv St.opd St.tmp St.obj St.put St.apply look forgetS keep1 keepBox keepCells nodupB lenIs nth setN part putN PV.asInt PV.asNum PV.asBool PV.asStr PV.asSl PV.cells PV.isAgg PV.one PV.fits PV.cell
  slK pv1 pvs toPV share1 share cellsK partOf partOk intBin strBin boolBin binPV unPV pickAV capsOf argOf argsOf backK imp1 impL imp isFree allFree callK setElem partsK elemsOf optInt capIds enter resOf resAll outsOf leave ble_dec beq_dec int_bne int_beq

theorem run_HasPrefix' (l p : List UInt8) : EV 68 [.pv (.str (mkS l)), .pv (.str (mkS p))] = some ([], .pv (.bool (p.isPrefixOf l))) := by
  refine run (c := m68c) code68 rfl rfl rfl ?_
  have h := pre_at p l 0 (Nat.zero_le _)
  rw [List.drop_zero, Nat.zero_add, List.drop_zero] at h
  rw [← h]
  by_cases c : p.length ≤ l.length
  · have c2 : (p.length : Int) ≤ l.length := by omega
    simp -implicitDefEqProofs [mk_size, c, c2, mk_ext, mk_eq]
  · have c2 : ¬ (p.length : Int) ≤ l.length := by omega
    simp -implicitDefEqProofs [mk_size, c, c2]
theorem run_HasPrefix (l p : List UInt8) : EV 36 [.pv (.str (mkS l)), .pv (.str (mkS p))] = some ([], .pv (.bool (p.isPrefixOf l))) := by
  refine run (c := m36c) code36 rfl rfl rfl ?_
  simp -implicitDefEqProofs [run_HasPrefix']

/-- The byte that the text begins with, and how many bytes stand for it. -/
def unStep (l : List UInt8) : Option (UInt8 × Nat) :=
  if [38, 108, 116, 59].isPrefixOf l then some (60, 4) else if [38, 103, 116, 59].isPrefixOf l then some (62, 4) else if [38, 97, 109, 112, 59].isPrefixOf l then some (38, 5) else
  match l with
  | [] => none
  | b :: _ => if b = 60 ∨ b = 62 ∨ b = 38 then none else some (b, 1)
def unesc (l out : List UInt8) : Option (List UInt8) :=
  match l with
  | [] => some out
  | b :: r => match unStep (b :: r) with
    | none => none
    | some (c, k) => unesc (r.drop (k - 1)) (out ++ [c])
termination_by l.length
decreasing_by simp; omega
def unRes (l out : List UInt8) : Res := match unesc l out with
  | some o => ([], .tup [.pv (.str (mkS o)), .pv (.bool true)])
  | none => ([], .tup [.pv (.str (mkS [])), .pv (.bool false)])
theorem unRes_nil (out : List UInt8) : unRes [] out = ([], .tup [.pv (.str (mkS out)), .pv (.bool true)]) := by rw [unRes, unesc]
theorem unRes_some {b c : UInt8} {r out : List UInt8} {k : Nat} (h : unStep (b :: r) = some (c, k)) : unRes (b :: r) out = unRes (r.drop (k - 1)) (out ++ [c]) := by rw [unRes, unesc, h]; rfl
theorem unRes_none {b : UInt8} {r out : List UInt8} (h : unStep (b :: r) = none) : unRes (b :: r) out = ([], .tup [.pv (.str (mkS [])), .pv (.bool false)]) := by rw [unRes, unesc, h]

set_option maxHeartbeats 1000000 in
theorem run_impl_UnescapeText (l : List UInt8) (hl : l.length ≤ 1048576) : EV 12 [.pv (.str (mkS l))] = some (unRes l []) := by
  refine run (c := m12c) code12 rfl rfl rfl ?_
  simp -implicitDefEqProofs
  refine LP_ind2 (fun (l out : List UInt8) => ⟨[(4, .rw 256), (0, .pv (.str (mkS l)))], [(256, .row 0 (out.map bpv) true)]⟩) unRes (fun l out => l.length + out.length ≤ 1048576) (fun l out => l.length) (fun l out hi IH => ?_) l [] (by simpa using hl)
  have hmb : out.length + 1 ≤ maxBytes := by simp only [maxBytes]; omega
  cases l with
  | nil =>
    rw [unRes_nil]
    simp -implicitDefEqProofs [lit_mk, mk_eq, strOf_bpv]
  | cons b r =>
    have h1 := run_HasPrefix (b :: r) [38, 108, 116, 59]
    have h2 := run_HasPrefix (b :: r) [38, 103, 116, 59]
    have h3 := run_HasPrefix (b :: r) [38, 97, 109, 112, 59]
    simp only [List.length_cons] at hi
    cases c1 : [38, 108, 116, 59].isPrefixOf (b :: r) with
    | true =>
      rw [c1] at h1
      have hs : unStep (b :: r) = some (60, 4) := by rw [unStep, if_pos c1]
      have hlen : 3 ≤ r.length := by
        have := (List.isPrefixOf_iff_prefix.1 c1).length_le; simp at this; omega
      rw [unRes_some hs]
      have h4 : (4 : Int) ≤ r.length + 1 := by omega
      simp -implicitDefEqProofs [lit_mk, mk_eq, h1, bpv_fits, hmb, mk_size, mk_ext, h4]
      have := IH (r.drop 3) (out ++ [60]) (by simp; omega) (by simp; omega); rw [bpv_app] at this; exact this
    | false =>
      rw [c1] at h1
      cases c2 : [38, 103, 116, 59].isPrefixOf (b :: r) with
      | true =>
        rw [c2] at h2
        have hs : unStep (b :: r) = some (62, 4) := by rw [unStep, c1, c2]; rfl
        have hlen : 3 ≤ r.length := by
          have := (List.isPrefixOf_iff_prefix.1 c2).length_le; simp at this; omega
        rw [unRes_some hs]
        have h4 : (4 : Int) ≤ r.length + 1 := by omega
        simp -implicitDefEqProofs [lit_mk, mk_eq, h1, h2, bpv_fits, hmb, mk_size, mk_ext, h4]
        have := IH (r.drop 3) (out ++ [62]) (by simp; omega) (by simp; omega); rw [bpv_app] at this; exact this
      | false =>
        rw [c2] at h2
        cases c3 : [38, 97, 109, 112, 59].isPrefixOf (b :: r) with
        | true =>
          rw [c3] at h3
          have hs : unStep (b :: r) = some (38, 5) := by rw [unStep, c1, c2, c3]; rfl
          have hlen : 4 ≤ r.length := by
            have := (List.isPrefixOf_iff_prefix.1 c3).length_le; simp at this; omega
          rw [unRes_some hs]
          have h4 : (5 : Int) ≤ r.length + 1 := by omega
          simp -implicitDefEqProofs [lit_mk, mk_eq, h1, h2, h3, bpv_fits, hmb, mk_size, mk_ext, h4]
          have := IH (r.drop 4) (out ++ [38]) (by simp; omega) (by simp; omega); rw [bpv_app] at this; exact this
        | false =>
          rw [c3] at h3
          have e60 := byte_eq (b := b) (n := 60) (by omega)
          have e62 := byte_eq (b := b) (n := 62) (by omega)
          have e38 := byte_eq (b := b) (n := 38) (by omega)
          by_cases b60 : (b.toNat : Int) = 60
          · have hs : unStep (b :: r) = none := by rw [unStep, c1, c2, c3]; simp [e60.1 b60]
            rw [unRes_none hs]
            simp -implicitDefEqProofs [lit_mk, mk_eq, h1, h2, h3, mk_sidx0, b60]
          · by_cases b62 : (b.toNat : Int) = 62
            · have hs : unStep (b :: r) = none := by rw [unStep, c1, c2, c3]; simp [e62.1 b62]
              rw [unRes_none hs]
              simp -implicitDefEqProofs [lit_mk, mk_eq, h1, h2, h3, mk_sidx0, b62]
            · by_cases b38 : (b.toNat : Int) = 38
              · have hs : unStep (b :: r) = none := by rw [unStep, c1, c2, c3]; simp [e38.1 b38]
                rw [unRes_none hs]
                simp -implicitDefEqProofs [lit_mk, mk_eq, h1, h2, h3, mk_sidx0, b38]
              · have hs : unStep (b :: r) = some (b, 1) := by
                  have f1 : ¬ b = 60 := fun h => b60 (e60.2 h)
                  have f2 : ¬ b = 62 := fun h => b62 (e62.2 h)
                  have f3 : ¬ b = 38 := fun h => b38 (e38.2 h)
                  rw [unStep, c1, c2, c3]; simp [f1, f2, f3]
                rw [unRes_some hs]
                have h4 : (1 : Int) ≤ r.length + 1 := by omega
                simp -implicitDefEqProofs [lit_mk, mk_eq, h1, h2, h3, mk_sidx0, b60, b62, b38, bpv_fits, hmb, mk_size, mk_ext, h4]
                have := IH r (out ++ [b]) (by simp; omega) (by simp); rw [bpv_app] at this; exact this

theorem pre_not {b x : UInt8} {p r : List UInt8} (h : ¬ b = x) : (x :: p).isPrefixOf (b :: r) = false := by
  have : ¬ x = b := fun e => h e.symm
  simp [List.isPrefixOf, this]

set_option maxHeartbeats 2000000 in
theorem run_spec_UnescapeText (l : List UInt8) (hl : l.length ≤ 1048576) : EV 11 [.pv (.str (mkS l))] = some (unRes l []) := by
  refine run (c := m11c) code11 rfl rfl rfl ?_
  simp -implicitDefEqProofs
  refine LP_ind2 (fun (i : Int) (out : List UInt8) => ⟨[(5, .pv (.int .i64 i)), (4, .rw 256), (0, .pv (.str (mkS l)))], [(256, .row 0 (out.map bpv) true)]⟩) (fun i out => unRes (l.drop i.toNat) out) (fun i out => 0 ≤ i ∧ i ≤ l.length ∧ out.length ≤ i) (fun i out => (l.length - i).toNat) (fun i out hi IH => ?_) 0 [] (by simp)
  have hmb : out.length + 1 ≤ maxBytes := by simp only [maxBytes]; omega
  by_cases c : i < l.length
  · obtain ⟨b, hb, hx, hd, _⟩ := idx_at hi.1 c
    have w3 : IntKind.i64.wrap (i + 3) = i + 3 := wrap_in (by omega) (by omega)
    have w4 : IntKind.i64.wrap (i + 4) = i + 4 := wrap_in (by omega) (by omega)
    have w5 : IntKind.i64.wrap (i + 5) = i + 5 := wrap_in (by omega) (by omega)
    have w1 : IntKind.i64.wrap (i + 1) = i + 1 := wrap_in (by omega) (by omega)
    have w31 : IntKind.i64.wrap (i + 3 + 1) = i + 4 := by rw [wrap_in (by omega) (by omega)]; omega
    have w41 : IntKind.i64.wrap (i + 4 + 1) = i + 5 := by rw [wrap_in (by omega) (by omega)]; omega
    have t4 : (i + 4).toNat = i.toNat + 4 := by omega
    have t5 : (i + 5).toNat = i.toNat + 5 := by omega
    have d1 : (l.drop (i + 1).toNat) = (b :: l.drop (i + 1).toNat).drop 1 := rfl
    have d4 : (l.drop (i + 4).toNat) = (l.drop (i + 1).toNat).drop 3 := by rw [List.drop_drop]; congr 1; omega
    have d5 : (l.drop (i + 5).toNat) = (l.drop (i + 1).toNat).drop 4 := by rw [List.drop_drop]; congr 1; omega
    have p1 := pre_at [38, 108, 116, 59] l i.toNat (by omega)
    have p2 := pre_at [38, 103, 116, 59] l i.toNat (by omega)
    have p3 := pre_at [38, 97, 109, 112, 59] l i.toNat (by omega)
    simp only [List.length_cons, List.length_nil, Nat.zero_add, Nat.reduceAdd] at p1 p2 p3
    rw [hd] at p1 p2 p3 ⊢
    have e60 := byte_eq (b := b) (n := 60) (by omega)
    have e62 := byte_eq (b := b) (n := 62) (by omega)
    have e38 := byte_eq (b := b) (n := 38) (by omega)
    have hs0 : sidx (mkS l) i = some (b.toNat : Int) := by rw [mk_sidx, if_pos hi.1, hx]; rfl
    by_cases b60 : (b.toNat : Int) = 60
    · have hs : unStep (b :: l.drop (i + 1).toNat) = none := by rw [unStep, pre_not (by rw [e60.1 b60]; decide), pre_not (by rw [e60.1 b60]; decide), pre_not (by rw [e60.1 b60]; decide)]; simp [e60.1 b60]
      rw [unRes_none hs]
      simp -implicitDefEqProofs [c, mk_size, hs0, b60, lit_mk]
    · by_cases b62 : (b.toNat : Int) = 62
      · have hs : unStep (b :: l.drop (i + 1).toNat) = none := by rw [unStep, pre_not (by rw [e62.1 b62]; decide), pre_not (by rw [e62.1 b62]; decide), pre_not (by rw [e62.1 b62]; decide)]; simp [e62.1 b62]
        rw [unRes_none hs]
        simp -implicitDefEqProofs [c, mk_size, hs0, b62, lit_mk]
      · by_cases b38 : (b.toNat : Int) = 38
        · cases c1 : [38, 108, 116, 59].isPrefixOf (b :: l.drop (i + 1).toNat) with
          | true =>
            have hs : unStep (b :: l.drop (i + 1).toNat) = some (60, 4) := by rw [unStep, if_pos c1]
            rw [unRes_some hs, ← d4]
            rw [c1] at p1
            simp only [Bool.and_eq_true, decide_eq_true_eq] at p1
            have q1 : i + 4 ≤ (l.length : Int) := by omega
            have q2 : i ≤ i + 4 := by omega
            simp -implicitDefEqProofs [c, mk_size, hs0, b38, lit_mk, w4, w3, w31, q1, q2, hi.1, mk_ext, mk_eq, t4, p1.2, bpv_fits, hmb]
            have := IH (i + 4) (out ++ [60]) (by simp; omega) (by omega); rw [bpv_app, t4] at this; exact this
          | false =>
            rw [c1] at p1
            by_cases q1 : i + 4 ≤ (l.length : Int)
            · have q2 : i ≤ i + 4 := by omega
              have q3 : i.toNat + 4 ≤ l.length := by omega
              rw [decide_eq_true q3, Bool.true_and] at p1 p2
              cases c2 : [38, 103, 116, 59].isPrefixOf (b :: l.drop (i + 1).toNat) with
              | true =>
                have hs : unStep (b :: l.drop (i + 1).toNat) = some (62, 4) := by rw [unStep, c1, c2]; rfl
                rw [unRes_some hs, ← d4]
                rw [c2] at p2
                simp -implicitDefEqProofs [c, mk_size, hs0, b38, lit_mk, w4, w3, w31, q1, q2, hi.1, mk_ext, mk_eq, t4, p1, p2, bpv_fits, hmb]
                have := IH (i + 4) (out ++ [62]) (by simp; omega) (by omega); rw [bpv_app, t4] at this; exact this
              | false =>
                rw [c2] at p2
                cases c3 : [38, 97, 109, 112, 59].isPrefixOf (b :: l.drop (i + 1).toNat) with
                | true =>
                  have hs : unStep (b :: l.drop (i + 1).toNat) = some (38, 5) := by rw [unStep, c1, c2, c3]; rfl
                  rw [unRes_some hs, ← d5]
                  rw [c3] at p3
                  simp only [Bool.and_eq_true, decide_eq_true_eq] at p3
                  have q5 : i + 5 ≤ (l.length : Int) := by omega
                  have q6 : i ≤ i + 5 := by omega
                  have p3' := decide_eq_true p3.2
                  simp -implicitDefEqProofs [c, mk_size, hs0, b38, lit_mk, w4, w5, w41, q1, q2, q5, q6, hi.1, mk_ext, mk_eq, t4, t5, p1, p2, p3', bpv_fits, hmb]
                  have := IH (i + 5) (out ++ [38]) (by simp; omega) (by omega); rw [bpv_app, t5] at this; exact this
                | false =>
                  have hs : unStep (b :: l.drop (i + 1).toNat) = none := by rw [unStep, c1, c2, c3]; simp [e38.1 b38]
                  rw [unRes_none hs]
                  rw [c3] at p3
                  by_cases q5 : i + 5 ≤ (l.length : Int)
                  · have q6 : i ≤ i + 5 := by omega
                    have q7 : i.toNat + 5 ≤ l.length := by omega
                    rw [decide_eq_true q7, Bool.true_and] at p3
                    simp -implicitDefEqProofs [c, mk_size, hs0, b38, lit_mk, w4, w5, q1, q2, q5, q6, hi.1, mk_ext, mk_eq, t4, t5, p1, p2, p3]
                  · simp -implicitDefEqProofs [c, mk_size, hs0, b38, lit_mk, w4, w5, q1, q2, q5, hi.1, mk_ext, mk_eq, t4, t5, p1, p2]
            · have q5 : ¬ i + 5 ≤ (l.length : Int) := by omega
              have hlen : (b :: l.drop (i + 1).toNat).length ≤ 3 := by simp; omega
              have n1 : ∀ p : List UInt8, 4 ≤ p.length → p.isPrefixOf (b :: l.drop (i + 1).toNat) = false := fun p hp => by
                cases e : p.isPrefixOf (b :: l.drop (i + 1).toNat) with
                | false => rfl
                | true => have := (List.isPrefixOf_iff_prefix.1 e).length_le; omega
              have hs : unStep (b :: l.drop (i + 1).toNat) = none := by rw [unStep, n1 _ (by simp), n1 _ (by simp), n1 _ (by simp)]; simp [e38.1 b38]
              rw [unRes_none hs]
              simp -implicitDefEqProofs [c, mk_size, hs0, b38, lit_mk, w4, w5, q1, q5]
        · have hs : unStep (b :: l.drop (i + 1).toNat) = some (b, 1) := by
            have f1 : ¬ b = 60 := fun h => b60 (e60.2 h)
            have f2 : ¬ b = 62 := fun h => b62 (e62.2 h)
            have f3 : ¬ b = 38 := fun h => b38 (e38.2 h)
            rw [unStep, pre_not f3, pre_not f3, pre_not f3]; simp [f1, f2, f3]
          rw [unRes_some hs]
          simp -implicitDefEqProofs [c, mk_size, hs0, b60, b62, b38, lit_mk, w1, bpv_fits, hmb]
          have := IH (i + 1) (out ++ [b]) (by simp; omega) (by omega); rw [bpv_app] at this; exact this
  · rw [drop_end c hi.1, unRes_nil]
    simp -implicitDefEqProofs [c, mk_size, strOf_bpv]

theorem run_FnExactUnescapeText (s : Str) (hs : s.size ≤ 9223372036854775807) : EV 3 [.pv (.str s)] = some ([], .pv (.bool true)) := by
  refine run (c := m3c) code3 rfl rfl rfl ?_
  obtain ⟨l, rfl⟩ := to_mk s
  by_cases c : (1048576 : Int) < l.length
  · simp -implicitDefEqProofs [mk_size, c]
  · have h1 := run_spec_UnescapeText l (by omega)
    have h2 := run_impl_UnescapeText l (by omega)
    cases hu : unesc l [] with
    | none =>
      simp only [unRes, hu] at h1 h2
      simp -implicitDefEqProofs [mk_size, c, h1, h2]
    | some o =>
      simp only [unRes, hu] at h1 h2
      simp -implicitDefEqProofs [mk_size, c, h1, h2]
end Go.Proofs.YtbgkalolmichdaaA
