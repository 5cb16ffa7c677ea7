/- The functions of FnExactCountEdits and FnExactSameEdits: what they answer. Conditions: none beyond those that each lemma names. -/
import Derived.Test.YtbgkalolmichdaaDB
namespace Go.Proofs.YtbgkalolmichdaaA
open Go Go.Proofs
set_option linter.unusedVariables false
set_option linter.unusedSimpArgs false
set_option maxRecDepth 20000
attribute [local simp ↓] X_skip X_exit X_ret X_region XD_eq X_seq X_cond X_block X_forget X_loop O_nil O_cons
attribute [local simp] Log.idle MOper.log Opd.tmps MOp.opds B_some B_none C_true C_false boolOf outOf stepK asPv St.opd St.tmp St.obj St.put St.apply look forgetS keep1 keepBox keepCells nodupB lenIs nth setN part putN PV.asInt PV.asNum PV.asBool PV.asStr PV.asSl PV.cells PV.isAgg PV.one PV.fits PV.cell
  slK pv1 pvs toPV share1 share cellsK partOf partOk intBin strBin boolBin binPV unPV pickAV capsOf argOf argsOf backK imp1 impL imp isFree allFree callK setElem partsK elemsOf optInt capIds enter resOf resAll outsOf leave ble_dec beq_dec int_bne int_beq str_eq

mutual
def E.cnt : E → Int
  | .mk _ _ _ ks => E.cntFrom ks ks.length
def E.cntFrom : List E → Int → Int
  | [], n => n
  | e :: es, n => E.cntFrom es (IntKind.i64.wrap (n + e.cnt))
end
mutual
def E.w : E → Nat
  | .mk _ n v ks => n.size + v.size + (ks.length + E.sw ks)
def E.sw : List E → Nat
  | [] => 0
  | e :: es => e.w + E.sw es
end

theorem E.sw_mem : ∀ {es : List E} {e : E}, e ∈ es → e.kids.length + E.sw e.kids ≤ E.sw es
  | [], e, h => by cases h
  | x :: es, e, h => by
    rw [E.sw]
    rcases List.mem_cons.1 h with rfl | h
    · cases e; rw [E.w]; simp only [E.kids]; omega
    · have := E.sw_mem h; omega

theorem run_spec_CountEdits : ∀ es : List E, es.length ≤ 9223372036854775807 → E.oks es → EV 14 [.pv (.sl (es.map E.pv))] = some ([], .pv (.int .i64 (E.cntFrom es es.length))) := by
  refine E.inds fun es ih hlen hok => ?_
  refine run (c := m14c) code14 rfl rfl rfl ?_
  simp -implicitDefEqProofs
  refine LP_ind2 (fun (i n : Int) => ⟨[(4, .pv (.int .i64 i)), (3, .pv (.int .i64 n)), (0, .pv (.sl (es.map E.pv)))], []⟩) (fun i n => ([], XV.pv (.int .i64 (E.cntFrom (es.drop i.toNat) n))))
    (fun i n => 0 ≤ i ∧ i ≤ es.length) (fun i n => (es.length - i).toNat) (fun i n hi IH => ?_) 0 _ ⟨by omega, by omega⟩
  by_cases c : i < es.length
  · obtain ⟨⟨o, nm, vl, ks⟩, he, hat, hdr, hidx⟩ := idx_at hi.1 c
    have hw : IntKind.i64.wrap (i + 1) = i + 1 := wrap_in (by omega) (by omega)
    have hk := E.oks_mem hok _ he
    simp only [E.ok, maxLen_eq] at hk
    simp -implicitDefEqProofs [c, hidx, E.pv_mk, hw, show EV 14 [.pv (.sl (ks.map E.pv))] = _ from ih _ he hk.2.2.1 hk.2.2.2]
    rw [hdr, E.cntFrom, E.cnt]
    exact IH _ _ (by omega) (by omega)
  · simp -implicitDefEqProofs [c, drop_end c hi.1, E.cntFrom]

theorem run_impl_CountEdits : ∀ es : List E, es.length ≤ 9223372036854775807 → E.oks es → EV 16 [.pv (.sl (es.map E.pv))] = some ([], .pv (.int .i64 (E.cntFrom es es.length))) := by
  refine E.inds fun es ih hlen hok => ?_
  refine run (c := m16c) code16 rfl rfl rfl ?_
  simp -implicitDefEqProofs
  refine LP_ind2 (fun (i n : Int) => ⟨[(10, .pv (.int .i64 i)), (9, .pv (.int .i64 es.length)), (8, .pv (.sl (es.map E.pv))), (3, .pv (.int .i64 n))], []⟩) (fun i n => ([], XV.pv (.int .i64 (E.cntFrom (es.drop i.toNat) n))))
    (fun i n => 0 ≤ i ∧ i ≤ es.length) (fun i n => (es.length - i).toNat) (fun i n hi IH => ?_) 0 _ ⟨by omega, by omega⟩
  by_cases c : i < es.length
  · obtain ⟨⟨o, nm, vl, ks⟩, he, hat, hdr, hidx⟩ := idx_at hi.1 c
    have hw : IntKind.i64.wrap (i + 1) = i + 1 := wrap_in (by omega) (by omega)
    have hk := E.oks_mem hok _ he
    simp only [E.ok, maxLen_eq] at hk
    simp -implicitDefEqProofs [c, hidx, E.pv_mk, hw, show EV 16 [.pv (.sl (ks.map E.pv))] = _ from ih _ he hk.2.2.1 hk.2.2.2]
    rw [hdr, E.cntFrom, E.cnt]
    exact IH _ _ (by omega) (by omega)
  · simp -implicitDefEqProofs [c, drop_end c hi.1, E.cntFrom]

/-! ### Sizes -/
theorem step_szEdit (e : E) (hok : e.ok) (ih : ∀ l : Int, 0 ≤ l → l ≤ 1048576 → EV 13 [.pv (.sl (e.kids.map E.pv)), .pv (.int .i64 l)] = some ([], .pv (.int .i64 (lim (e.kids.length + E.sw e.kids) l)))) (l : Int) (h0 : 0 ≤ l) (h1 : l ≤ 1048576) :
    EV 37 [.pv e.pv, .pv (.int .i64 l)] = some ([], .pv (.int .i64 (lim e.w l))) := by
  obtain ⟨o, n, v, ks⟩ := e
  simp only [E.ok, maxLen_eq] at hok
  simp only [E.kids] at ih
  rw [E.pv_mk, E.w]
  refine run (c := m37c) code37 rfl rfl rfl ?_
  have w1 : IntKind.i64.wrap (l - n.size) = l - n.size := wrap_in (by omega) (by omega)
  by_cases c1 : l - n.size < 0
  · have : lim (n.size + v.size + (ks.length + E.sw ks)) l = -1 := by rw [lim, if_neg (by omega)]
    simp -implicitDefEqProofs [w1, c1, this]
  · have w2 : IntKind.i64.wrap (l - n.size - v.size) = l - n.size - v.size := wrap_in (by omega) (by omega)
    by_cases c2 : l - n.size - v.size < 0
    · have : lim (n.size + v.size + (ks.length + E.sw ks)) l = -1 := by rw [lim, if_neg (by omega)]
      simp -implicitDefEqProofs [w1, c1, w2, c2, this]
    · have hc := ih (l - n.size - v.size) (by omega) (by omega)
      have e1 : l - n.size - v.size = lim (n.size + v.size) l := by rw [lim, if_pos (by omega)]; omega
      have e2 : lim (ks.length + E.sw ks) (l - n.size - v.size) = lim (n.size + v.size + (ks.length + E.sw ks)) l := by rw [e1, lim_lim]; omega
      rw [e2] at hc
      by_cases c3 : lim (n.size + v.size + (ks.length + E.sw ks)) l < 0
      · simp -implicitDefEqProofs [w1, c1, w2, c2, hc, c3, lim_neg' _ _ c3 h0]
      · simp -implicitDefEqProofs [w1, c1, w2, c2, hc, c3]

theorem run_szEditS : ∀ es : List E, es.length ≤ 9223372036854775807 → E.oks es → ∀ l : Int, 0 ≤ l → l ≤ 1048576 → EV 13 [.pv (.sl (es.map E.pv)), .pv (.int .i64 l)] = some ([], .pv (.int .i64 (lim (es.length + E.sw es) l))) := by
  refine E.inds fun es ih hlen hok l h0 h1 => ?_
  refine run (c := m13c) code13 rfl rfl rfl ?_
  have w1 : IntKind.i64.wrap (l - es.length) = l - es.length := wrap_in (by omega) (by omega)
  by_cases c1 : l - es.length < 0
  · have : lim (es.length + E.sw es) l = -1 := by rw [lim, if_neg (by omega)]
    simp -implicitDefEqProofs [w1, c1, this]
  · simp -implicitDefEqProofs [w1, c1]
    have e1 : lim (es.length + E.sw es) l = lim (E.sw es) (l - es.length) := by
      have : lim es.length l = l - es.length := by rw [lim, if_pos (by omega)]
      rw [← this, lim_lim]; omega
    rw [e1]
    refine LP_ind2 (fun (i n : Int) => ⟨[(5, .pv (.int .i64 i)), (1, .pv (.int .i64 n)), (0, .pv (.sl (es.map E.pv)))], []⟩) (fun i n => ([], XV.pv (.int .i64 (lim (E.sw (es.drop i.toNat)) n))))
      (fun i n => 0 ≤ i ∧ i ≤ es.length ∧ 0 ≤ n ∧ n ≤ 1048576) (fun i n => (es.length - i).toNat) (fun i n hi IH => ?_) 0 _ ⟨by omega, by omega, by omega, by omega⟩
    by_cases c : i < es.length
    · obtain ⟨e, he, hat, hdr, hidx⟩ := idx_at hi.1 c
      have hw : IntKind.i64.wrap (i + 1) = i + 1 := wrap_in (by omega) (by omega)
      have hk := E.oks_mem hok _ he
      have hst := step_szEdit e hk (by cases e; simp only [E.ok, maxLen_eq] at hk; exact ih _ he hk.2.2.1 hk.2.2.2) n hi.2.2.1 hi.2.2.2
      have hl := lim_le e.w n hi.2.2.1
      have hf : (E.pv e).isAgg 4 = true := by cases e; rfl
      rw [hdr, E.sw]
      by_cases c3 : lim e.w n < 0
      · rw [lim_neg _ _ _ c3 hi.2.2.1]
        obtain ⟨o, nm, vl, ks⟩ := e
        rw [E.pv_mk] at hst
        simp -implicitDefEqProofs [c, hidx, hw, hst, c3, E.pv_mk]
      · rw [← lim_lim _ _ _ (by omega)]
        obtain ⟨o, nm, vl, ks⟩ := e
        rw [E.pv_mk] at hst
        simp -implicitDefEqProofs [c, hidx, hw, hst, c3, E.pv_mk]
        exact IH _ _ (by omega) (by omega)
    · simp -implicitDefEqProofs [c, drop_end c hi.1, E.sw, lim, hi]

/-! ### Copies -/
theorem step_toEdit (e : E) (ih : EV 15 [.pv (.sl (e.kids.map E.pv))] = some ([], .row 4 (e.kids.map E.pv))) : EV 38 [.pv e.pv] = some ([], .pv e.pv) := by
  obtain ⟨o, n, v, ks⟩ := e
  simp only [E.kids] at ih
  rw [E.pv_mk]
  refine run (c := m38c) code38 rfl rfl rfl ?_
  simp -implicitDefEqProofs [ih]

theorem run_toEditS : ∀ es : List E, es.length + E.sw es ≤ 1048576 → EV 15 [.pv (.sl (es.map E.pv))] = some ([], .row 4 (es.map E.pv)) := by
  refine E.inds fun es ih hw => ?_
  refine run (c := m15c) code15 rfl rfl rfl ?_
  have hb : (es.length : Int) * 64 ≤ maxBytes := by simp only [maxBytes]; omega
  simp -implicitDefEqProofs [hb]
  rw [← filled_zero E.pv]
  refine LP_ind1 (fun (i : Int) => ⟨[(4, .pv (.int .i64 i)), (3, .rw 192), (0, .pv (.sl (es.map E.pv)))], [(192, .row 4 (filled E.pv _ es i) true)]⟩) (fun i => ([], XV.row 4 (es.map E.pv)))
    (fun i => 0 ≤ i ∧ i ≤ es.length) (fun i => (es.length - i).toNat) (fun i hi IH => ?_) 0 ⟨by omega, by omega⟩
  by_cases c : i < es.length
  · obtain ⟨e, he, hat, hdr, hidx⟩ := idx_at hi.1 c
    have hw : IntKind.i64.wrap (i + 1) = i + 1 := wrap_in (by omega) (by omega)
    have hst := step_toEdit e (ih e he (by have := E.sw_mem he; omega))
    have h1 := filled_set E.pv (PV.agg [.int .i64 0, .str ⟨#[]⟩, .str ⟨#[]⟩, .sl []]) es hi.1 hat
    have h2 := filled_get E.pv (PV.agg [.int .i64 0, .str ⟨#[]⟩, .str ⟨#[]⟩, .sl []]) es hi.1 c
    have h3 := filled_len E.pv (PV.agg [.int .i64 0, .str ⟨#[]⟩, .str ⟨#[]⟩, .sl []]) es hi.2
    obtain ⟨o, n, v, ks⟩ := e
    rw [E.pv_mk] at hst h1
    simp -implicitDefEqProofs [c, hidx, hw, hst, E.pv_mk, hi.1, h1, h2, h3]
    exact IH _ (by omega) (by omega)
  · simp -implicitDefEqProofs [c, filled_all _ _ _ hi.1 c]

/-! ### Comparing with itself -/
theorem step_eqEdit (e : E) (ih : EV 17 [.pv (.sl (e.kids.map E.pv)), .pv (.sl (e.kids.map E.pv))] = some ([], .pv (.bool true))) : EV 39 [.pv e.pv, .pv e.pv] = some ([], .pv (.bool true)) := by
  obtain ⟨o, n, v, ks⟩ := e
  simp only [E.kids] at ih
  rw [E.pv_mk]
  refine run (c := m39c) code39 rfl rfl rfl ?_
  simp -implicitDefEqProofs [ih]

theorem run_eqEditS : ∀ es : List E, es.length + E.sw es ≤ 1048576 → EV 17 [.pv (.sl (es.map E.pv)), .pv (.sl (es.map E.pv))] = some ([], .pv (.bool true)) := by
  refine E.inds fun es ih hw => ?_
  refine run (c := m17c) code17 rfl rfl rfl ?_
  simp -implicitDefEqProofs
  refine LP_ind1 (fun (i : Int) => ⟨[(5, .pv (.int .i64 i)), (1, .pv (.sl (es.map E.pv))), (0, .pv (.sl (es.map E.pv)))], []⟩) (fun i => ([], XV.pv (.bool true)))
    (fun i => 0 ≤ i ∧ i ≤ es.length) (fun i => (es.length - i).toNat) (fun i hi IH => ?_) 0 ⟨by omega, by omega⟩
  by_cases c : i < es.length
  · obtain ⟨e, he, hat, hdr, hidx⟩ := idx_at hi.1 c
    have hw : IntKind.i64.wrap (i + 1) = i + 1 := wrap_in (by omega) (by omega)
    have hst := step_eqEdit e (ih e he (by have := E.sw_mem he; omega))
    obtain ⟨o, n, v, ks⟩ := e
    rw [E.pv_mk] at hst
    simp -implicitDefEqProofs [c, hidx, hw, hst, E.pv_mk]
    exact IH _ (by omega) (by omega)
  · simp -implicitDefEqProofs [c]

/-! ### The same edits -/
open Classical in
noncomputable def same (es fs : List E) : Bool := decide (es = fs)
theorem same_nil : same [] [] = true := by simp [same]
theorem same_cons (o : Int) (n v : Str) (ks es : List E) (o' : Int) (n' v' : Str) (ks' fs : List E) : same (.mk o n v ks :: es) (.mk o' n' v' ks' :: fs) = (decide (o = o') && decide (n = n') && decide (v = v') && same ks ks' && same es fs) := by
  rw [Bool.eq_iff_iff]; simp [same, and_assoc]
theorem same_len {es fs : List E} (h : es.length ≠ fs.length) : same es fs = false := by
  simp only [same, decide_eq_false_iff_not]; rintro rfl; exact h rfl

theorem run_spec_SameEdits : ∀ es : List E, es.length + E.sw es ≤ 1048576 → ∀ fs : List E, fs.length + E.sw fs ≤ 1048576 → EV 18 [.pv (.sl (es.map E.pv)), .pv (.sl (fs.map E.pv))] = some ([], .pv (.bool (same es fs))) := by
  refine E.inds fun es ih hw fs hw2 => ?_
  refine run (c := m18c) code18 rfl rfl rfl ?_
  by_cases hl : es.length = fs.length
  · simp -implicitDefEqProofs [hl]
    refine LP_ind1 (fun (i : Int) => ⟨[(5, .pv (.int .i64 i)), (1, .pv (.sl (fs.map E.pv))), (0, .pv (.sl (es.map E.pv)))], []⟩) (fun i => ([], XV.pv (.bool (same (es.drop i.toNat) (fs.drop i.toNat)))))
      (fun i => 0 ≤ i ∧ i ≤ es.length) (fun i => (es.length - i).toNat) (fun i hi IH => ?_) 0 ⟨by omega, by omega⟩
    by_cases c : i < es.length
    · obtain ⟨⟨o, n, v, ks⟩, he, hat, hdr, hidx⟩ := idx_at hi.1 c
      obtain ⟨⟨o', n', v', ks'⟩, he', hat', hdr', hidx'⟩ := idx_at hi.1 (show i < fs.length by omega)
      have hw : IntKind.i64.wrap (i + 1) = i + 1 := wrap_in (by omega) (by omega)
      have hst : EV 18 [.pv (.sl (ks.map E.pv)), .pv (.sl (ks'.map E.pv))] = some ([], .pv (.bool (same ks ks'))) := ih _ he (by have := E.sw_mem he; simp only [E.kids] at *; omega) ks' (by have := E.sw_mem he'; simp only [E.kids] at *; omega)
      rw [hdr, hdr', same_cons]
      by_cases c1 : o = o'
      · by_cases c2 : n = n'
        · by_cases c3 : v = v'
          · cases c4 : same ks ks' with
            | true =>
              rw [c4] at hst
              simp -implicitDefEqProofs [c, ← hl, hidx, hidx', hw, hst, E.pv_mk, c1, c2, c3, str_eq]
              exact IH _ (by omega) (by omega)
            | false =>
              rw [c4] at hst
              simp -implicitDefEqProofs [c, ← hl, hidx, hidx', hw, hst, E.pv_mk, c1, c2, c3, str_eq]
          · simp -implicitDefEqProofs [c, ← hl, hidx, hidx', hw, hst, E.pv_mk, c1, c2, c3, str_eq]
        · simp -implicitDefEqProofs [c, ← hl, hidx, hidx', hw, hst, E.pv_mk, c1, c2, str_eq]
      · simp -implicitDefEqProofs [c, ← hl, hidx, hidx', hw, hst, E.pv_mk, c1, str_eq]
    · simp -implicitDefEqProofs [c, drop_end c hi.1, drop_end (es := fs) (by omega) hi.1, same_nil, ← hl]
  · have : ¬ ((es.length : Int) = fs.length) := by omega
    simp -implicitDefEqProofs [this, same_len hl]

theorem run_impl_SameEdits : ∀ es : List E, es.length + E.sw es ≤ 1048576 → ∀ fs : List E, fs.length + E.sw fs ≤ 1048576 → EV 19 [.pv (.sl (es.map E.pv)), .pv (.sl (fs.map E.pv))] = some ([], .pv (.bool (same es fs))) := by
  refine E.inds fun es ih hw fs hw2 => ?_
  refine run (c := m19c) code19 rfl rfl rfl ?_
  by_cases hl : es.length = fs.length
  · simp -implicitDefEqProofs [← hl]
    refine LP_ind1 (fun (i : Int) => ⟨[(13, .pv (.int .i64 i)), (12, .pv (.int .i64 es.length)), (1, .pv (.sl (fs.map E.pv))), (0, .pv (.sl (es.map E.pv)))], []⟩) (fun i => ([], XV.pv (.bool (same (es.drop i.toNat) (fs.drop i.toNat)))))
      (fun i => 0 ≤ i ∧ i ≤ es.length) (fun i => (es.length - i).toNat) (fun i hi IH => ?_) 0 ⟨by omega, by omega⟩
    by_cases c : i < es.length
    · obtain ⟨⟨o, n, v, ks⟩, he, hat, hdr, hidx⟩ := idx_at hi.1 c
      obtain ⟨⟨o', n', v', ks'⟩, he', hat', hdr', hidx'⟩ := idx_at hi.1 (show i < fs.length by omega)
      have hw : IntKind.i64.wrap (i + 1) = i + 1 := wrap_in (by omega) (by omega)
      have hst : EV 19 [.pv (.sl (ks.map E.pv)), .pv (.sl (ks'.map E.pv))] = some ([], .pv (.bool (same ks ks'))) := ih _ he (by have := E.sw_mem he; simp only [E.kids] at *; omega) ks' (by have := E.sw_mem he'; simp only [E.kids] at *; omega)
      rw [hdr, hdr', same_cons]
      by_cases c1 : o = o'
      · by_cases c2 : n = n'
        · by_cases c3 : v = v'
          · cases c4 : same ks ks' with
            | true =>
              rw [c4] at hst
              simp -implicitDefEqProofs [c, ← hl, hidx, hidx', hw, hst, E.pv_mk, c1, c2, c3, str_eq]
              exact IH _ (by omega) (by omega)
            | false =>
              rw [c4] at hst
              simp -implicitDefEqProofs [c, ← hl, hidx, hidx', hw, hst, E.pv_mk, c1, c2, c3, str_eq]
          · simp -implicitDefEqProofs [c, ← hl, hidx, hidx', hw, hst, E.pv_mk, c1, c2, c3, str_eq]
        · simp -implicitDefEqProofs [c, ← hl, hidx, hidx', hw, hst, E.pv_mk, c1, c2, str_eq]
      · simp -implicitDefEqProofs [c, ← hl, hidx, hidx', hw, hst, E.pv_mk, c1, str_eq]
    · simp -implicitDefEqProofs [c, drop_end c hi.1, drop_end (es := fs) (by omega) hi.1, same_nil, ← hl]
  · have : ¬ ((es.length : Int) = fs.length) := by omega
    simp -implicitDefEqProofs [this, same_len hl]

/-! ### The laws -/
theorem E.lim_small {es : List E} (h : ¬ lim (es.length + E.sw es) 1048576 < 0) : es.length + E.sw es ≤ 1048576 := by
  by_cases c : ((es.length + E.sw es : Nat) : Int) ≤ 1048576
  · omega
  · rw [lim_no c] at h; omega

theorem run_FnExactCountEdits (es : List E) (hlen : es.length ≤ 9223372036854775807) (hok : E.oks es) : EV 4 [.pv (.sl (es.map E.pv))] = some ([], .pv (.bool true)) := by
  refine run (c := m4c) code4 rfl rfl rfl ?_
  have h1 := run_szEditS es hlen hok 1048576 (by omega) (by omega)
  by_cases c : lim (es.length + E.sw es) 1048576 < 0
  · simp -implicitDefEqProofs [h1, c]
  · have hs := E.lim_small c
    simp -implicitDefEqProofs [h1, c, run_toEditS es hs, run_spec_CountEdits es hlen hok, run_impl_CountEdits es hlen hok, run_eqEditS es hs]

theorem run_FnExactSameEdits (es : List E) (hlen : es.length ≤ 9223372036854775807) (hok : E.oks es) (fs : List E) (hlen2 : fs.length ≤ 9223372036854775807) (hok2 : E.oks fs) :
    EV 5 [.pv (.sl (es.map E.pv)), .pv (.sl (fs.map E.pv))] = some ([], .pv (.bool true)) := by
  refine run (c := m5c) code5 rfl rfl rfl ?_
  have h1 := run_szEditS es hlen hok 1048576 (by omega) (by omega)
  by_cases c : lim (es.length + E.sw es) 1048576 < 0
  · simp -implicitDefEqProofs [h1, c]
  · have hs := E.lim_small c
    have hl := lim_le (es.length + E.sw es) 1048576 (by omega)
    have h2 := run_szEditS fs hlen2 hok2 (lim (es.length + E.sw es) 1048576) (by omega) (by omega)
    rw [lim_lim _ _ _ (by omega)] at h2
    by_cases c2 : lim (es.length + E.sw es + (fs.length + E.sw fs)) 1048576 < 0
    · simp -implicitDefEqProofs [h1, c, h2, c2]
    · have hs2 : fs.length + E.sw fs ≤ 1048576 := by
        by_cases d : ((es.length + E.sw es + (fs.length + E.sw fs) : Nat) : Int) ≤ 1048576
        · omega
        · rw [lim_no d] at c2; omega
      simp -implicitDefEqProofs [h1, c, h2, c2, run_toEditS es hs, run_toEditS fs hs2, run_spec_SameEdits es hs fs hs2, run_impl_SameEdits es hs fs hs2, run_eqEditS es hs, run_eqEditS fs hs2]
end Go.Proofs.YtbgkalolmichdaaA
