/- The laws' own functions of nodes: sizes, copies, comparing. Conditions: none beyond those that each lemma names. -/
import Derived.Test.YtbgkalolmichdaaNB
namespace Go.Proofs.YtbgkalolmichdaaA
open Go Go.Proofs
set_option linter.unusedVariables false
set_option linter.unusedSimpArgs false
set_option maxRecDepth 20000
attribute [local simp ↓] X_skip X_exit X_ret X_region XD_eq X_seq X_cond X_block X_forget X_loop O_nil O_cons str_eq
attribute [local simp] Log.idle MOper.log Opd.tmps MOp.opds B_some B_none C_true C_false boolOf guardSays outOf stepK asPv St.opd St.tmp St.obj St.put St.apply look forgetS keep1 keepBox keepCells nodupB lenIs nth setN part putN PV.asInt PV.asNum PV.asBool PV.asStr PV.asSl PV.cells PV.isAgg PV.one PV.fits PV.cell
  slK pv1 pvs toPV share1 share cellsK partOf partOk intBin strBin boolBin binPV unPV pickAV capsOf argOf argsOf backK imp1 impL imp isFree allFree callK setElem partsK elemsOf optInt capIds enter resOf resAll outsOf leave ble_dec beq_dec int_bne int_beq

mutual
def Nd.w : Nd → Nat
  | .mk n v ks => n.size + v.size + (ks.length + Nd.sw ks)
def Nd.sw : List Nd → Nat
  | [] => 0
  | e :: es => e.w + Nd.sw es
end

theorem Nd.sw_mem : ∀ {es : List Nd} {e : Nd}, e ∈ es → e.kids.length + Nd.sw e.kids ≤ Nd.sw es
  | [], e, h => by cases h
  | x :: es, e, h => by
    rw [Nd.sw]
    rcases List.mem_cons.1 h with rfl | h
    · cases e; rw [Nd.w]; simp only [Nd.kids]; omega
    · have := Nd.sw_mem h; omega

/-! ### Sizes -/
theorem Nd.w_mem : ∀ {es : List Nd} {e : Nd}, e ∈ es → e.w ≤ Nd.sw es
  | [], e, h => by cases h
  | x :: es, e, h => by
    rw [Nd.sw]
    rcases List.mem_cons.1 h with rfl | h
    · omega
    · have := Nd.w_mem h; omega

theorem step_szNode (e : Nd) (hok : e.ok) (ih : ∀ l : Int, 0 ≤ l → l ≤ 1048576 → EV 20 [.pv (.sl (e.kids.map Nd.pv)), .pv (.int .i64 l)] = some ([], .pv (.int .i64 (lim (e.kids.length + Nd.sw e.kids) l)))) (l : Int) (h0 : 0 ≤ l) (h1 : l ≤ 1048576) :
    EV 40 [.pv e.pv, .pv (.int .i64 l)] = some ([], .pv (.int .i64 (lim e.w l))) := by
  obtain ⟨n, v, ks⟩ := e
  simp only [Nd.ok, maxLen_eq] at hok
  simp only [Nd.kids] at ih
  rw [Nd.pv_mk, Nd.w]
  refine run (c := m40c) code40 rfl rfl rfl ?_
  have w1 : IntKind.i64.wrap (l - n.size) = l - n.size := wrap_in (by omega) (by omega)
  by_cases c1 : l - n.size < 0
  · have : lim (n.size + v.size + (ks.length + Nd.sw ks)) l = -1 := by rw [lim, if_neg (by omega)]
    simp -implicitDefEqProofs [w1, c1, this]
  · have w2 : IntKind.i64.wrap (l - n.size - v.size) = l - n.size - v.size := wrap_in (by omega) (by omega)
    by_cases c2 : l - n.size - v.size < 0
    · have : lim (n.size + v.size + (ks.length + Nd.sw ks)) l = -1 := by rw [lim, if_neg (by omega)]
      simp -implicitDefEqProofs [w1, c1, w2, c2, this]
    · have hc := ih (l - n.size - v.size) (by omega) (by omega)
      have e1 : l - n.size - v.size = lim (n.size + v.size) l := by rw [lim, if_pos (by omega)]; omega
      have e2 : lim (ks.length + Nd.sw ks) (l - n.size - v.size) = lim (n.size + v.size + (ks.length + Nd.sw ks)) l := by rw [e1, lim_lim]; omega
      rw [e2] at hc
      by_cases c3 : lim (n.size + v.size + (ks.length + Nd.sw ks)) l < 0
      · simp -implicitDefEqProofs [w1, c1, w2, c2, hc, c3, lim_neg' _ _ c3 h0]
      · simp -implicitDefEqProofs [w1, c1, w2, c2, hc, c3]

theorem run_szNodeS : ∀ es : List Nd, es.length ≤ 9223372036854775807 → Nd.oks es → ∀ l : Int, 0 ≤ l → l ≤ 1048576 → EV 20 [.pv (.sl (es.map Nd.pv)), .pv (.int .i64 l)] = some ([], .pv (.int .i64 (lim (es.length + Nd.sw es) l))) := by
  refine Nd.inds fun es ih hlen hok l h0 h1 => ?_
  refine run (c := m20c) code20 rfl rfl rfl ?_
  have w1 : IntKind.i64.wrap (l - es.length) = l - es.length := wrap_in (by omega) (by omega)
  by_cases c1 : l - es.length < 0
  · have : lim (es.length + Nd.sw es) l = -1 := by rw [lim, if_neg (by omega)]
    simp -implicitDefEqProofs [w1, c1, this]
  · simp -implicitDefEqProofs [w1, c1]
    have e1 : lim (es.length + Nd.sw es) l = lim (Nd.sw es) (l - es.length) := by
      have : lim es.length l = l - es.length := by rw [lim, if_pos (by omega)]
      rw [← this, lim_lim]; omega
    rw [e1]
    refine LP_ind2 (fun (i n : Int) => ⟨[(5, .pv (.int .i64 i)), (1, .pv (.int .i64 n)), (0, .pv (.sl (es.map Nd.pv)))], []⟩) (fun i n => ([], XV.pv (.int .i64 (lim (Nd.sw (es.drop i.toNat)) n))))
      (fun i n => 0 ≤ i ∧ i ≤ es.length ∧ 0 ≤ n ∧ n ≤ 1048576) (fun i n => (es.length - i).toNat) (fun i n hi IH => ?_) 0 _ ⟨by omega, by omega, by omega, by omega⟩
    by_cases c : i < es.length
    · obtain ⟨e, he, hat, hdr, hidx⟩ := idx_at hi.1 c
      have hw : IntKind.i64.wrap (i + 1) = i + 1 := wrap_in (by omega) (by omega)
      have hk := Nd.oks_mem hok _ he
      have hst := step_szNode e hk (by cases e; simp only [Nd.ok, maxLen_eq] at hk; exact ih _ he hk.2.2.1 hk.2.2.2) n hi.2.2.1 hi.2.2.2
      have hl := lim_le e.w n hi.2.2.1
      have hf : (Nd.pv e).isAgg 3 = true := by cases e; rfl
      rw [hdr, Nd.sw]
      by_cases c3 : lim e.w n < 0
      · rw [lim_neg _ _ _ c3 hi.2.2.1]
        obtain ⟨nm, vl, ks⟩ := e
        rw [Nd.pv_mk] at hst
        simp -implicitDefEqProofs [c, hidx, hw, hst, c3, Nd.pv_mk]
      · rw [← lim_lim _ _ _ (by omega)]
        obtain ⟨nm, vl, ks⟩ := e
        rw [Nd.pv_mk] at hst
        simp -implicitDefEqProofs [c, hidx, hw, hst, c3, Nd.pv_mk]
        exact IH _ _ (by omega) (by omega)
    · simp -implicitDefEqProofs [c, drop_end c hi.1, Nd.sw, lim, hi]

/-! ### Copies -/
theorem step_toNode (e : Nd) (ih : EV 22 [.pv (.sl (e.kids.map Nd.pv))] = some ([], .row 3 (e.kids.map Nd.pv))) : EV 43 [.pv e.pv] = some ([], .pv e.pv) := by
  obtain ⟨n, v, ks⟩ := e
  simp only [Nd.kids] at ih
  rw [Nd.pv_mk]
  refine run (c := m43c) code43 rfl rfl rfl ?_
  simp -implicitDefEqProofs [ih]

theorem run_toNodeS : ∀ es : List Nd, es.length + Nd.sw es ≤ 1048576 → EV 22 [.pv (.sl (es.map Nd.pv))] = some ([], .row 3 (es.map Nd.pv)) := by
  refine Nd.inds fun es ih hw => ?_
  refine run (c := m22c) code22 rfl rfl rfl ?_
  have hb : (es.length : Int) * 56 ≤ maxBytes := by simp only [maxBytes]; omega
  simp -implicitDefEqProofs [hb]
  rw [← filled_zero Nd.pv]
  refine LP_ind1 (fun (i : Int) => ⟨[(4, .pv (.int .i64 i)), (3, .rw 192), (0, .pv (.sl (es.map Nd.pv)))], [(192, .row 3 (filled Nd.pv _ es i) true)]⟩) (fun i => ([], XV.row 3 (es.map Nd.pv)))
    (fun i => 0 ≤ i ∧ i ≤ es.length) (fun i => (es.length - i).toNat) (fun i hi IH => ?_) 0 ⟨by omega, by omega⟩
  by_cases c : i < es.length
  · obtain ⟨e, he, hat, hdr, hidx⟩ := idx_at hi.1 c
    have hw : IntKind.i64.wrap (i + 1) = i + 1 := wrap_in (by omega) (by omega)
    have hst := step_toNode e (ih e he (by have := Nd.sw_mem he; omega))
    have h1 := filled_set Nd.pv (PV.agg [.str ⟨#[]⟩, .str ⟨#[]⟩, .sl []]) es hi.1 hat
    have h2 := filled_get Nd.pv (PV.agg [.str ⟨#[]⟩, .str ⟨#[]⟩, .sl []]) es hi.1 c
    have h3 := filled_len Nd.pv (PV.agg [.str ⟨#[]⟩, .str ⟨#[]⟩, .sl []]) es hi.2
    obtain ⟨n, v, ks⟩ := e
    rw [Nd.pv_mk] at hst h1
    simp -implicitDefEqProofs [c, hidx, hw, hst, Nd.pv_mk, hi.1, h1, h2, h3]
    exact IH _ (by omega) (by omega)
  · simp -implicitDefEqProofs [c, filled_all _ _ _ hi.1 c]

/-! ### Comparing with itself -/
theorem step_eqNode (e : Nd) (ih : EV 24 [.pv (.sl (e.kids.map Nd.pv)), .pv (.sl (e.kids.map Nd.pv))] = some ([], .pv (.bool true))) : EV 47 [.pv e.pv, .pv e.pv] = some ([], .pv (.bool true)) := by
  obtain ⟨n, v, ks⟩ := e
  simp only [Nd.kids] at ih
  rw [Nd.pv_mk]
  refine run (c := m47c) code47 rfl rfl rfl ?_
  simp -implicitDefEqProofs [ih]

theorem run_eqNodeS : ∀ es : List Nd, es.length + Nd.sw es ≤ 1048576 → EV 24 [.pv (.sl (es.map Nd.pv)), .pv (.sl (es.map Nd.pv))] = some ([], .pv (.bool true)) := by
  refine Nd.inds fun es ih hw => ?_
  refine run (c := m24c) code24 rfl rfl rfl ?_
  simp -implicitDefEqProofs
  refine LP_ind1 (fun (i : Int) => ⟨[(5, .pv (.int .i64 i)), (1, .pv (.sl (es.map Nd.pv))), (0, .pv (.sl (es.map Nd.pv)))], []⟩) (fun i => ([], XV.pv (.bool true)))
    (fun i => 0 ≤ i ∧ i ≤ es.length) (fun i => (es.length - i).toNat) (fun i hi IH => ?_) 0 ⟨by omega, by omega⟩
  by_cases c : i < es.length
  · obtain ⟨e, he, hat, hdr, hidx⟩ := idx_at hi.1 c
    have hw : IntKind.i64.wrap (i + 1) = i + 1 := wrap_in (by omega) (by omega)
    have hst := step_eqNode e (ih e he (by have := Nd.sw_mem he; omega))
    obtain ⟨n, v, ks⟩ := e
    rw [Nd.pv_mk] at hst
    simp -implicitDefEqProofs [c, hidx, hw, hst, Nd.pv_mk]
    exact IH _ (by omega) (by omega)
  · simp -implicitDefEqProofs [c]

end Go.Proofs.YtbgkalolmichdaaA
