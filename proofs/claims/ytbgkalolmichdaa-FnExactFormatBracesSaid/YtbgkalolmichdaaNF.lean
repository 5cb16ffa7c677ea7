/- The functions of FnExactIsForm: what they answer. Conditions: none beyond those that each lemma names. -/
import Derived.Test.YtbgkalolmichdaaND
import Derived.Test.YtbgkalolmichdaaNA
namespace Go.Proofs.YtbgkalolmichdaaA
open Go Go.Proofs
set_option linter.unusedVariables false
set_option linter.unusedSimpArgs false
set_option maxRecDepth 20000
attribute [local simp ↓] X_skip X_exit X_ret X_region XD_eq X_seq X_cond X_block X_forget X_loop O_nil O_cons str_eq
attribute [local simp] Log.idle MOper.log Opd.tmps MOp.opds B_some B_none C_true C_false boolOf guardSays outOf stepK asPv St.opd St.tmp St.obj St.put St.apply look forgetS keep1 keepBox keepCells nodupB lenIs nth setN part putN PV.asInt PV.asNum PV.asBool PV.asStr PV.asSl PV.cells PV.isAgg PV.one PV.fits PV.cell
  slK pv1 pvs toPV share1 share cellsK partOf partOk intBin strBin boolBin binPV unPV pickAV capsOf argOf argsOf backK imp1 impL imp isFree allFree callK setElem partsK elemsOf optInt capIds enter resOf resAll outsOf leave ble_dec beq_dec int_bne int_beq

mutual
def Nd.cnt : Nd → Nat
  | .mk _ _ ks => ks.length + Nd.csum ks
def Nd.csum : List Nd → Nat
  | [] => 0
  | e :: es => e.cnt + Nd.csum es
end
mutual
def Nd.dep : Nd → Nat
  | .mk _ _ ks => Nd.deps ks
def Nd.deps : List Nd → Nat
  | [] => 0
  | e :: es => max (1 + e.dep) (Nd.deps es)
end
def own (n v : Str) (k : Nat) : Bool := nameOk n && textOk v && !(!decide (v = ⟨#[]⟩) && decide (0 < k))
mutual
def Nd.fm : Nd → Bool
  | .mk n v ks => own n v ks.length && Nd.fms ks
def Nd.fms : List Nd → Bool
  | [] => true
  | e :: es => e.fm && Nd.fms es
end
mutual
def Nd.fd : Nd → Int → Bool
  | .mk n v ks, d => own n v ks.length && (Nd.fds ks (d + 1) && (decide (ks.length = 0) || decide (d + 1 ≤ 10)))
def Nd.fds : List Nd → Int → Bool
  | [], _ => true
  | e :: es, d => e.fd d && Nd.fds es d
end
mutual
def Nd.left : Nd → Int → Int
  | .mk _ _ ks, n => Nd.leftFrom ks (n - ks.length)
def Nd.leftFrom : List Nd → Int → Int
  | [], n => n
  | e :: es, n => if 0 ≤ n then Nd.leftFrom es (e.left n) else n
end

theorem Nd.inds' {p : List Nd → Prop} (h0 : p []) (h1 : ∀ n v ks es, p ks → p es → p (.mk n v ks :: es)) : ∀ es, p es := by
  have h : ∀ e : Nd, p e.kids := fun e => Nd.ind (p := fun e => p e.kids) (fun n v ks ih => by
    show p ks
    have : ∀ l : List Nd, (∀ k ∈ l, p k.kids) → p l := by
      intro l
      induction l with
      | nil => exact fun _ => h0
      | cons k l ihl =>
        intro hk
        obtain ⟨n', v', ks'⟩ := k
        exact h1 n' v' ks' l (hk (.mk n' v' ks') (by simp)) (ihl fun k hk' => hk k (by simp [hk']))
    exact this ks ih) e
  intro es
  exact h (.mk ⟨#[]⟩ ⟨#[]⟩ es)

theorem csum_le : ∀ es : List Nd, Nd.csum es ≤ Nd.sw es := Nd.inds' (by simp [Nd.csum]) fun n v ks es h1 h2 => by
  rw [Nd.csum, Nd.sw, Nd.cnt, Nd.w]; omega
theorem deps_le : ∀ es : List Nd, Nd.deps es ≤ es.length + Nd.sw es := Nd.inds' (by simp [Nd.deps]) fun n v ks es h1 h2 => by
  rw [Nd.deps, Nd.sw, Nd.dep, Nd.w, List.length_cons]; omega

/-- The count is what is left of an allowance, as long as something is. -/
theorem leftFrom_eq : ∀ es : List Nd, ∀ n : Int, ((Nd.csum es : Int) ≤ n → Nd.leftFrom es n = n - Nd.csum es) ∧ (n < Nd.csum es → Nd.leftFrom es n < 0) := Nd.inds' (fun n => by
  simp only [Nd.leftFrom, Nd.csum]; omega) fun nm v ks es h1 h2 n => by
  rw [Nd.leftFrom, Nd.csum, Nd.cnt, Nd.left]
  have a := h1 (n - ks.length)
  have b := h2 (Nd.leftFrom ks (n - ks.length))
  by_cases c : 0 ≤ n
  · rw [if_pos c]; omega
  · rw [if_neg c]; omega
theorem leftFrom_le : ∀ es : List Nd, ∀ n : Int, Nd.leftFrom es n ≤ n ∧ n - Nd.csum es ≤ Nd.leftFrom es n := Nd.inds' (fun n => by simp only [Nd.leftFrom, Nd.csum]; simp) fun nm v ks es h1 h2 n => by
  rw [Nd.leftFrom, Nd.csum, Nd.cnt, Nd.left]
  have a := h1 (n - ks.length)
  have b := h2 (Nd.leftFrom ks (n - ks.length))
  by_cases c : 0 ≤ n
  · rw [if_pos c]; omega
  · rw [if_neg c]; omega

theorem fds_eq : ∀ es : List Nd, ∀ d : Int, 1 ≤ d → (Nd.fds es d && (decide (es.length = 0) || decide (d ≤ 10))) = (Nd.fms es && decide (es.length = 0 ∨ (Nd.deps es : Int) + d ≤ 11)) := Nd.inds' (fun d h => by simp [Nd.fds, Nd.fms]) fun nm v ks es h1 h2 d h => by
  rw [Nd.fds, Nd.fd, Nd.fms, Nd.fm, Nd.deps, Nd.dep, h1 (d + 1) (by omega)]
  have h2 := h2 d h
  rw [Bool.eq_iff_iff] at h2 ⊢
  simp only [Bool.and_eq_true, Bool.or_eq_true, decide_eq_true_eq, List.length_cons] at h2 ⊢
  have hk : ks.length = 0 → Nd.deps ks = 0 := fun h => by rw [List.length_eq_zero_iff.1 h, Nd.deps]
  have he : es.length = 0 → Nd.deps es = 0 ∧ Nd.fms es = true ∧ Nd.fds es d = true := fun h => by rw [List.length_eq_zero_iff.1 h, Nd.deps, Nd.fms, Nd.fds]; simp
  constructor
  · rintro ⟨⟨⟨a, b, c⟩, e⟩, f⟩
    have := h2.1 ⟨e, by omega⟩
    exact ⟨⟨⟨a, b⟩, this.1⟩, by omega⟩
  · rintro ⟨⟨⟨a, b⟩, c⟩, f⟩
    by_cases hz : es.length = 0
    · exact ⟨⟨⟨a, b, by omega⟩, (he hz).2.2⟩, by omega⟩
    · have := h2.2 ⟨c, by omega⟩
      exact ⟨⟨⟨a, b, by omega⟩, this.1⟩, by omega⟩

/-! ### The walks -/
theorem drop_next {α : Type} {es rest : List α} {i : Int} {e : α} (h0 : 0 ≤ i) (hd : es.drop i.toNat = e :: rest) : es.drop (i + 1).toNat = rest := by
  have : (i + 1).toNat = i.toNat + 1 := by omega
  rw [this, ← List.drop_drop, hd]; rfl

theorem run_CountTree : ∀ es : List Nd, es.length + Nd.sw es ≤ 1048576 → EV 44 [.pv (.sl (es.map Nd.pv))] = some ([], .pv (.int .i64 ((es.length : Int) + Nd.csum es))) := by
  refine Nd.inds fun es ih hs => ?_
  refine run (c := m44c) code44 rfl rfl rfl ?_
  have hcs := csum_le es
  simp -implicitDefEqProofs
  refine LX_list es (fun i (n : Int) => ⟨[(10, .pv (.int .i64 i)), (9, .pv (.int .i64 es.length)), (8, .pv (.sl (es.map Nd.pv))), (3, .pv (.int .i64 n))], []⟩) (fun rest n => ([], XV.pv (.int .i64 (n + Nd.csum rest)))) (fun i n => 0 ≤ n ∧ n + Nd.csum (es.drop i.toNat) ≤ 1048576) (by omega)
    (fun i n _ _ c => ?_) (fun i e rest n hn he h0 c hd hat hx hw IH => ?_) 0 es.length (by omega) (by omega) (by show _ ∧ (es.length : Int) + Nd.csum es ≤ _; omega)
  · simp -implicitDefEqProofs [c, Nd.csum]
  · obtain ⟨nm, v, ks⟩ := e
    have hk := Nd.sw_mem he
    simp only [Nd.kids] at hk
    have hst : EV 44 [.pv (.sl (ks.map Nd.pv))] = some ([], .pv (.int .i64 ((ks.length : Int) + Nd.csum ks))) := ih _ he (by simp only [Nd.kids]; omega)
    rw [hd, Nd.csum, Nd.cnt] at hn
    have hw2 : IntKind.i64.wrap (n + ((ks.length : Int) + Nd.csum ks)) = n + ((ks.length : Int) + Nd.csum ks) := wrap_in (by omega) (by omega)
    have e1 : n + (Nd.csum (.mk nm v ks :: rest) : Int) = n + ((ks.length : Int) + Nd.csum ks) + Nd.csum rest := by rw [Nd.csum, Nd.cnt]; omega
    rw [e1]
    simp -implicitDefEqProofs [c, hx, Nd.pv_mk, hst, hw, hw2]
    exact IH _ (by rw [drop_next h0 hd]; omega)

theorem run_treeDepth : ∀ es : List Nd, es.length + Nd.sw es ≤ 1048576 → EV 45 [.pv (.sl (es.map Nd.pv))] = some ([], .pv (.int .i64 (Nd.deps es))) := by
  refine Nd.inds fun es ih hs => ?_
  refine run (c := m45c) code45 rfl rfl rfl ?_
  have e0 : ((Nd.deps es : Nat) : Int) = max 0 (Nd.deps es) := by omega
  rw [e0]
  simp -implicitDefEqProofs
  refine LX_list es (fun i (n : Int) => ⟨[(8, .pv (.int .i64 i)), (7, .pv (.int .i64 es.length)), (6, .pv (.sl (es.map Nd.pv))), (3, .pv (.int .i64 n))], []⟩) (fun rest n => ([], XV.pv (.int .i64 (max n (Nd.deps rest))))) (fun i n => 0 ≤ n) (by omega)
    (fun i n hn _ c => ?_) (fun i e rest n hn he h0 c hd hat hx hw IH => ?_) 0 0 (by omega) (by omega) (by omega)
  · have : max n (0 : Int) = n := by omega
    simp -implicitDefEqProofs [c, Nd.deps, this]
  · obtain ⟨nm, v, ks⟩ := e
    have hk := Nd.sw_mem he
    simp only [Nd.kids] at hk
    have hst : EV 45 [.pv (.sl (ks.map Nd.pv))] = some ([], .pv (.int .i64 (Nd.deps ks))) := ih _ he (by simp only [Nd.kids]; omega)
    have hdl := deps_le ks
    have hw2 : IntKind.i64.wrap (1 + (Nd.deps ks : Int)) = 1 + (Nd.deps ks : Int) := wrap_in (by omega) (by omega)
    rw [Nd.deps, Nd.dep]
    by_cases cm : n < 1 + (Nd.deps ks : Int)
    · have e1 : max n ((max (1 + Nd.deps ks) (Nd.deps rest) : Nat) : Int) = max (1 + (Nd.deps ks : Int)) (Nd.deps rest) := by omega
      rw [e1]
      simp -implicitDefEqProofs [c, hx, Nd.pv_mk, hst, hw, hw2, cm]
      exact IH _ (by omega)
    · have e1 : max n ((max (1 + Nd.deps ks) (Nd.deps rest) : Nat) : Int) = max n (Nd.deps rest) := by omega
      rw [e1]
      simp -implicitDefEqProofs [c, hx, Nd.pv_mk, hst, hw, hw2, cm]
      exact IH _ (by omega)

theorem run_isForm : ∀ es : List Nd, es.length + Nd.sw es ≤ 1048576 → EV 46 [.pv (.sl (es.map Nd.pv))] = some ([], .pv (.bool (Nd.fms es))) := by
  refine Nd.inds fun es ih hs => ?_
  refine run (c := m46c) code46 rfl rfl rfl ?_
  simp -implicitDefEqProofs
  refine LX_list es (fun i (n : Unit) => ⟨[(7, .pv (.int .i64 i)), (6, .pv (.int .i64 es.length)), (5, .pv (.sl (es.map Nd.pv)))], []⟩) (fun rest n => ([], XV.pv (.bool (Nd.fms rest)))) (fun i n => True) (by omega)
    (fun i n hn _ c => ?_) (fun i e rest n hn he h0 c hd hat hx hw IH => ?_) 0 () (by omega) (by omega) trivial
  · simp -implicitDefEqProofs [c, Nd.fms]
  · obtain ⟨nm, v, ks⟩ := e
    have hk := Nd.sw_mem he
    have hv := Nd.w_mem he
    simp only [Nd.kids] at hk
    simp only [Nd.w] at hv
    have hst : EV 46 [.pv (.sl (ks.map Nd.pv))] = some ([], .pv (.bool (Nd.fms ks))) := ih _ he (by simp only [Nd.kids]; omega)
    have h1 := run_impl_IsName nm (by omega)
    have h2 := run_impl_IsText v (by omega)
    rw [Nd.fms, Nd.fm, own]
    cases c1 : nameOk nm with
    | false => rw [c1] at h1; simp -implicitDefEqProofs [c, hx, Nd.pv_mk, hw, h1]
    | true =>
      rw [c1] at h1
      cases c2 : textOk v with
      | false => rw [c2] at h2; simp -implicitDefEqProofs [c, hx, Nd.pv_mk, hw, h1, h2]
      | true =>
        rw [c2] at h2
        cases c5 : Nd.fms ks with
        | false =>
          rw [c5] at hst
          cases c3 : decide (v = ⟨#[]⟩) with
          | true => simp -implicitDefEqProofs [c, hx, Nd.pv_mk, hw, h1, h2, c3, hst]
          | false =>
            by_cases c4 : 0 < ks.length
            · simp -implicitDefEqProofs [c, hx, Nd.pv_mk, hw, h1, h2, c3, c4, hst]
            · simp -implicitDefEqProofs [c, hx, Nd.pv_mk, hw, h1, h2, c3, c4, hst]
        | true =>
          rw [c5] at hst
          cases c3 : decide (v = ⟨#[]⟩) with
          | true =>
            simp -implicitDefEqProofs [c, hx, Nd.pv_mk, hw, h1, h2, c3, hst]
            exact IH () trivial
          | false =>
            by_cases c4 : 0 < ks.length
            · simp -implicitDefEqProofs [c, hx, Nd.pv_mk, hw, h1, h2, c3, c4, hst]
            · simp -implicitDefEqProofs [c, hx, Nd.pv_mk, hw, h1, h2, c3, c4, hst]
              exact IH () trivial

def tl (es : List Nd) (d : Int) : Bool := decide (es.length = 0) || decide (d ≤ 10)

theorem run_l20Form : ∀ es : List Nd, es.length + Nd.sw es ≤ 1048576 → ∀ d : Int, 0 ≤ d → d + (es.length + Nd.sw es : Nat) ≤ 9000000 → EV 42 [.pv (.sl (es.map Nd.pv)), .pv (.int .i64 d)] = some ([], .pv (.bool (Nd.fds es d && tl es d))) := by
  refine Nd.inds fun es ih hs d hd0 hd1 => ?_
  refine run (c := m42c) code42 rfl rfl rfl ?_
  simp -implicitDefEqProofs
  refine LX_list es (fun i (n : Unit) => ⟨[(5, .pv (.int .i64 i)), (1, .pv (.int .i64 d)), (0, .pv (.sl (es.map Nd.pv)))], []⟩) (fun rest n => ([], XV.pv (.bool (Nd.fds rest d && tl es d)))) (fun i n => True) (by omega)
    (fun i n hn _ c => ?_) (fun i e rest n hn he h0 c hd hat hx hw IH => ?_) 0 () (by omega) (by omega) trivial
  · by_cases ce : (es.length : Int) = 0
    · have : es = [] := by rw [← List.length_eq_zero_iff]; omega
      subst this
      have c : ¬ i < 0 := by omega
      simp -implicitDefEqProofs [c, Nd.fds, tl]
    · have ce' : ¬ es.length = 0 := by omega
      have ce2 : ¬ es = [] := by rw [← List.length_eq_zero_iff]; omega
      by_cases cd : d ≤ 10
      · simp -implicitDefEqProofs [c, Nd.fds, tl, ce, ce', ce2, cd]
      · simp -implicitDefEqProofs [c, Nd.fds, tl, ce, ce', ce2, cd]
  · obtain ⟨nm, v, ks⟩ := e
    have hk := Nd.sw_mem he
    have hv := Nd.w_mem he
    simp only [Nd.kids] at hk
    simp only [Nd.w] at hv
    have hlen : 1 ≤ es.length := by omega
    have hst : EV 42 [.pv (.sl (ks.map Nd.pv)), .pv (.int .i64 (d + 1))] = some ([], .pv (.bool (Nd.fds ks (d + 1) && tl ks (d + 1)))) := ih _ he (by simp only [Nd.kids]; omega) (d + 1) (by omega) (by simp only [Nd.kids]; omega)
    have hwd : IntKind.i64.wrap (d + 1) = d + 1 := wrap_in (by omega) (by omega)
    have h1 := run_spec_IsName nm (by omega)
    have h2 := run_spec_IsText v (by omega)
    rw [Nd.fds, Nd.fd, own]
    change _ = some ([], XV.pv (.bool (nameOk nm && textOk v && !(!decide (v = ⟨#[]⟩) && decide (0 < ks.length)) && (Nd.fds ks (d + 1) && tl ks (d + 1)) && Nd.fds rest d && tl es d)))
    generalize (Nd.fds ks (d + 1) && tl ks (d + 1)) = g at *
    cases c1 : nameOk nm with
    | false => rw [c1] at h1; simp -implicitDefEqProofs [c, hx, Nd.pv_mk, hw, h1]
    | true =>
      rw [c1] at h1
      cases c2 : textOk v with
      | false => rw [c2] at h2; simp -implicitDefEqProofs [c, hx, Nd.pv_mk, hw, h1, h2]
      | true =>
        rw [c2] at h2
        cases g with
        | false =>
          cases c3 : decide (v = ⟨#[]⟩) with
          | true => simp -implicitDefEqProofs [c, hx, Nd.pv_mk, hw, hwd, h1, h2, c3, hst]
          | false =>
            by_cases c4 : 0 < ks.length
            · simp -implicitDefEqProofs [c, hx, Nd.pv_mk, hw, hwd, h1, h2, c3, c4, hst]
            · simp -implicitDefEqProofs [c, hx, Nd.pv_mk, hw, hwd, h1, h2, c3, c4, hst]
        | true =>
          have IH := IH () trivial
          generalize tl es d = q at *
          cases c3 : decide (v = ⟨#[]⟩) with
          | true =>
            simp -implicitDefEqProofs [c, hx, Nd.pv_mk, hw, hwd, h1, h2, c3, hst]
            exact IH
          | false =>
            by_cases c4 : 0 < ks.length
            · simp -implicitDefEqProofs [c, hx, Nd.pv_mk, hw, hwd, h1, h2, c3, c4, hst]
            · simp -implicitDefEqProofs [c, hx, Nd.pv_mk, hw, hwd, h1, h2, c3, c4, hst]
              exact IH

theorem run_l13Left : ∀ es : List Nd, es.length + Nd.sw es ≤ 1048576 → ∀ n : Int, -1048577 ≤ n → n ≤ 1048576 → EV 41 [.pv (.sl (es.map Nd.pv)), .pv (.int .i64 n)] = some ([], .pv (.int .i64 (Nd.leftFrom es (n - es.length)))) := by
  refine Nd.inds fun es ih hs n hn0 hn1 => ?_
  refine run (c := m41c) code41 rfl rfl rfl ?_
  have w1 : IntKind.i64.wrap (n - es.length) = n - es.length := wrap_in (by omega) (by omega)
  simp -implicitDefEqProofs [w1]
  refine LX_list es (fun i (n : Int) => ⟨[(5, .pv (.int .i64 i)), (1, .pv (.int .i64 n)), (0, .pv (.sl (es.map Nd.pv)))], []⟩) (fun rest n => ([], XV.pv (.int .i64 (Nd.leftFrom rest n)))) (fun i n => n ≤ 1048576) (by omega)
    (fun i n hn _ c => ?_) (fun i e rest n hn he h0 c hd hat hx hw IH => ?_) 0 _ (by omega) (by omega) (by omega)
  · simp -implicitDefEqProofs [c, Nd.leftFrom]
  · obtain ⟨nm, v, ks⟩ := e
    have hk := Nd.sw_mem he
    simp only [Nd.kids] at hk
    rw [Nd.leftFrom]
    by_cases cn : 0 ≤ n
    · have hst : EV 41 [.pv (.sl (ks.map Nd.pv)), .pv (.int .i64 n)] = some ([], .pv (.int .i64 (Nd.leftFrom ks (n - ks.length)))) := ih _ he (by simp only [Nd.kids]; omega) n (by omega) (by omega)
      rw [if_pos cn, Nd.left]
      simp -implicitDefEqProofs [c, hx, Nd.pv_mk, hst, hw, cn]
      exact IH _ (by have := leftFrom_le ks (n - ks.length); omega)
    · rw [if_neg cn]
      simp -implicitDefEqProofs [c, cn]

def formOk (es : List Nd) : Bool := decide (es.length + Nd.csum es ≤ 120) && decide (Nd.deps es ≤ 10) && Nd.fms es

theorem run_impl_IsForm (es : List Nd) (hs : es.length + Nd.sw es ≤ 1048576) : EV 23 [.pv (.sl (es.map Nd.pv))] = some ([], .pv (.bool (formOk es))) := by
  refine run (c := m23c) code23 rfl rfl rfl ?_
  have h1 := run_CountTree es hs
  have h2 := run_treeDepth es hs
  have h3 := run_isForm es hs
  unfold formOk
  generalize hc : (es.length : Int) + Nd.csum es = cc at h1
  generalize hd : (Nd.deps es : Int) = dd at h2
  have e1 : decide (es.length + Nd.csum es ≤ 120) = decide (cc ≤ 120) := by rw [decide_eq_decide]; omega
  have e2 : decide (Nd.deps es ≤ 10) = decide (dd ≤ 10) := by rw [decide_eq_decide]; omega
  rw [e1, e2]
  by_cases c1 : cc ≤ 120
  · by_cases c2 : dd ≤ 10
    · simp -implicitDefEqProofs [h1, h2, h3, c1, c2]
    · simp -implicitDefEqProofs [h1, h2, h3, c1, c2]
  · simp -implicitDefEqProofs [h1, h2, h3, c1]

theorem run_spec_IsForm (es : List Nd) (hs : es.length + Nd.sw es ≤ 1048576) : EV 21 [.pv (.sl (es.map Nd.pv))] = some ([], .pv (.bool (formOk es))) := by
  refine run (c := m21c) code21 rfl rfl rfl ?_
  have h1 := run_l13Left es hs 120 (by omega) (by omega)
  have h2 := run_l20Form es hs 1 (by omega) (by omega)
  rw [tl, fds_eq es 1 (by omega)] at h2
  have hl := leftFrom_eq es (120 - es.length)
  have hz : es.length = 0 → Nd.deps es = 0 := fun h => by rw [List.length_eq_zero_iff.1 h, Nd.deps]
  have e2 : decide (es.length = 0 ∨ (Nd.deps es : Int) + 1 ≤ 11) = decide (Nd.deps es ≤ 10) := by rw [decide_eq_decide]; omega
  rw [e2, Bool.and_comm] at h2
  unfold formOk
  generalize Nd.leftFrom es (120 - es.length) = x at *
  have e1 : decide (es.length + Nd.csum es ≤ 120) = decide (0 ≤ x) := by rw [decide_eq_decide]; omega
  rw [e1]
  generalize (decide (Nd.deps es ≤ 10)) = q at *
  by_cases c1 : 0 ≤ x
  · simp -implicitDefEqProofs [h1, h2, c1]
  · simp -implicitDefEqProofs [h1, c1]

theorem Nd.lim_small {es : List Nd} (h : ¬ lim (es.length + Nd.sw es) 1048576 < 0) : es.length + Nd.sw es ≤ 1048576 := by
  by_cases c : ((es.length + Nd.sw es : Nat) : Int) ≤ 1048576
  · omega
  · rw [lim_no c] at h; omega

theorem run_FnExactIsForm (es : List Nd) (hlen : es.length ≤ 9223372036854775807) (hok : Nd.oks es) : EV 6 [.pv (.sl (es.map Nd.pv))] = some ([], .pv (.bool true)) := by
  refine run (c := m6c) code6 rfl rfl rfl ?_
  have h1 := run_szNodeS es hlen hok 1048576 (by omega) (by omega)
  by_cases c : lim (es.length + Nd.sw es) 1048576 < 0
  · simp -implicitDefEqProofs [h1, c]
  · have hs := Nd.lim_small c
    simp -implicitDefEqProofs [h1, c, run_toNodeS es hs, run_spec_IsForm es hs, run_impl_IsForm es hs, run_eqNodeS es hs]
end Go.Proofs.YtbgkalolmichdaaA
