/- A region that is done in its own order. Conditions: the contracts of what is called. -/
import Derived.Test.YtbgkalolmichdaaAS
namespace Go.Proofs.YtbgkalolmichdaaA
open Go
set_option linter.unusedSimpArgs false
set_option linter.unusedVariables false

variable {P : Program} {c : Ctx} {σ : St} {a : Act} {w w' : World} {gh : Gh} {call : FuncId → List XV → Option Res} {R : Type}

theorem trOps_cons {nt j : Nat} {ops : Array Oper} {o : Oper} {os : List Oper} {ms : List MOper} (h : trOps P nt ops j (o :: os) = some ms) :
    ∃ m g l, trOp P o.op = some m ∧ guardOf ops o = some g ∧ trOps P nt ops (j + 1) os = some l ∧ dstOk nt o.dst = true ∧ storeOk o = true ∧ ms = ⟨o.dst, m, g, isGuard ops.toList j⟩ :: l := by
  simp only [trOps] at h
  split at h
  · rename_i m g l h1 h2 h3
    cases hc : dstOk nt o.dst && storeOk o <;> simp only [hc, cond_true, cond_false] at h
    · cases h
    · cases h
      obtain ⟨h4, h5⟩ := Bool.and_eq_true_iff.1 hc
      exact ⟨m, g, l, h1, h2, h3, h4, h5, rfl⟩
  · cases h

/-- What an operation of a region does: what it tells (nothing where its guard says no). -/
def outOf (call : FuncId → List XV → Option Res) (m : MOper) (σ : St) : Option (St × Log) :=
  let run (σ : St) : Option (St × Log) := (stepK call (64 * m.dst.getD 0) σ m.op some).bind fun out =>
    match m.split with
    | true => asPv out.val fun p => p.asBool.bind fun _ => some (σ.apply m.dst out, m.log out)
    | false => some (σ.apply m.dst out, m.log out)
  match m.guard with
  | none => run σ
  | some (t, want) => (guardSays (σ.tmp t) want).bind fun r =>
      cond r (run σ) (some (σ.put m.dst (.tup []), m.log ⟨.tup [], [], []⟩))

theorem opsK_cons (m : MOper) (ms : List MOper) (σ : St) (lg : List Log) (k : St → List Log → Option R) :
    opsK call (m :: ms) σ lg k = (outOf call m σ).bind fun p => opsK call ms p.1 (p.2 :: lg) k := by
  have hrun : ∀ σ : St, (stepK call (64 * m.dst.getD 0) σ m.op fun out =>
      let next (v : AV) : Option R := opsK call ms (σ.apply m.dst { out with val := v }) (m.log out :: lg) k
      match m.split with
      | true => asPv out.val fun p => p.asBool.bind fun b => cond b (next (.pv (.bool true))) (next (.pv (.bool false)))
      | false => next out.val) =
      ((stepK call (64 * m.dst.getD 0) σ m.op some).bind fun out =>
        match m.split with
        | true => asPv out.val fun p => p.asBool.bind fun _ => some (σ.apply m.dst out, m.log out)
        | false => some (σ.apply m.dst out, m.log out)).bind fun p => opsK call ms p.1 (p.2 :: lg) k := by
    intro σ
    rw [stepK_eq, Option.bind_assoc]
    congr 1; funext out
    cases m.split with
    | false => rfl
    | true =>
      simp only
      obtain ⟨val, upd, rds⟩ := out
      cases val with
      | pv p =>
        cases p with
        | bool b => cases b <;> rfl
        | _ => rfl
      | _ => rfl
  unfold outOf
  simp only [opsK]
  cases m.guard with
  | none => exact hrun σ
  | some g =>
    obtain ⟨t, want⟩ := g
    simp only
    cases guardSays (σ.tmp t) want with
    | none => rfl
    | some r => cases r with
      | true => exact hrun σ
      | false => rfl

theorem guardSays_some {x : AV} {want r : Bool} (h : guardSays x want = some r) : (x = .tup [] ∧ r = false) ∨ ∃ b, x = .pv (.bool b) ∧ r = (b == want) := by
  cases x with
  | tup l => cases l <;> simp [guardSays] at h; exact .inl ⟨rfl, h⟩
  | pv p => cases p <;> simp [guardSays] at h; exact .inr ⟨_, rfl, h.symm⟩
  | _ => simp [guardSays] at h

theorem wanted_none {o : Oper} (h : o.guard = none) (y : Nat → Option Bool) : Region.wanted o y = true := by
  unfold Region.wanted; rw [h]

theorem guard_yield {ops : Array Oper} {j t : Nat} {b : Bool} (hj : (ops[j]?).bind (·.dst) = some t) (hv : a.tmps.getD t undef = .bool b) : yielded ops a.tmps j = some b := by
  unfold yielded
  rw [hj]
  simp only [Option.bind_some]
  have : a.tmps[t]? = some (.bool b) := by
    rw [Array.getD_eq_getD_getElem?] at hv
    cases h : a.tmps[t]? with
    | none => rw [h] at hv; simp [undef] at hv
    | some v => rw [h] at hv; simp at hv; rw [hv]
  rw [this]

theorem unguard_yield {ops : Array Oper} {j t : Nat} (hj : (ops[j]?).bind (·.dst) = some t) (hv : a.tmps.getD t undef = undef) : yielded ops a.tmps j = none := by
  unfold yielded
  rw [hj]
  simp only [Option.bind_some]
  rw [Array.getD_eq_getD_getElem?] at hv
  cases h : a.tmps[t]? with
  | none => rfl
  | some v => rw [h] at hv; simp at hv; rw [hv]; rfl

theorem Good.put_undef (hg : Good c σ a w gh) {dst : Option Nat} (hd : dstOk c.nt dst = true) : Good c (σ.put dst (.tup [])) (a.put dst undef) w gh := by
  have := hg.quiet (x := .tup []) (l := []) (v := undef) hd (fun _ => by simp only [RV, undef]; exact ⟨#[], rfl, rfl⟩)
  have e : σ.apply dst ⟨.tup [], [], []⟩ = { (σ.put dst (.tup [])) with objs := σ.objs } := rfl
  have e2 : ({ (σ.put dst (.tup [])) with objs := σ.objs } : St) = σ.put dst (.tup []) := by cases dst <;> rfl
  rw [e, e2] at this
  exact this

/-- One operation of a region. -/
theorem out_shows {ops : Array Oper} {o : Oper} {m : MOp} {g : Option (Nat × Bool)} {sp : Bool} (hall : Calling P call) (hm : trOp P o.op = some m) (hgd : guardOf ops o = some g) (hd : dstOk c.nt o.dst = true) (hst : storeOk o = true)
    (hG : G c σ a w) {σ' : St} {l : Log} (h : outOf call ⟨o.dst, m, g, sp⟩ σ = some (σ', l)) {K : Act → World → Prop} {Q : Exit → Act → World → Prop} (hK : ∀ a' w', G c σ' a' w' → K a' w') :
    if Region.wanted o (yielded ops a.tmps) then o.wp P a w K Q ∨ (o.asks P a w ∧ LetsOut Q) else K (a.put o.dst undef) w := by
  obtain ⟨gh, hg⟩ := hG
  have hrun : ((stepK call (64 * o.dst.getD 0) σ m some).bind fun out =>
      match sp with
      | true => asPv out.val fun p => p.asBool.bind fun _ => some (σ.apply o.dst out, (⟨o.dst, m, g, sp⟩ : MOper).log out)
      | false => some (σ.apply o.dst out, (⟨o.dst, m, g, sp⟩ : MOper).log out)) = some (σ', l) → o.wp P a w K Q := by
    intro h
    obtain ⟨out, h1, h2⟩ := Option.bind_eq_some_iff.1 h
    have hs : σ' = σ.apply o.dst out := by
      cases sp with
      | false => cases h2; rfl
      | true =>
        simp only at h2
        obtain ⟨p, _, h2⟩ := asPv_some h2
        obtain ⟨_, _, h2⟩ := Option.bind_eq_some_iff.1 h2
        cases h2; rfl
    subst hs
    exact trOp_shows hm hst hall hg hd h1 K Q fun v w' hG' => hK _ _ hG'
  unfold outOf at h
  simp only at h
  cases hog : o.guard with
  | none =>
    have : g = none := by simp only [guardOf, hog] at hgd; cases hgd; rfl
    subst this
    rw [if_pos (wanted_none hog _)]
    exact .inl (hrun h)
  | some jw =>
    obtain ⟨j, want⟩ := jw
    simp only [guardOf, hog] at hgd
    split at hgd
    · rename_i t hj
      cases hgd
      simp only at h
      obtain ⟨r, hr, h⟩ := Option.bind_eq_some_iff.1 h
      have hw : Region.wanted o (yielded ops a.tmps) = r := by
        rcases guardSays_some hr with ⟨hp, rfl⟩ | ⟨b, hp, rfl⟩
        · have hv := hg.tm t
          rw [hp] at hv
          simp only [RV] at hv
          obtain ⟨vs, hv, hl⟩ := hv
          simp only [RVL] at hl
          have hu : a.tmps.getD t undef = undef := by rw [hv, undef]; congr 1; cases vs; simp_all
          have hy := unguard_yield hj hu
          unfold Region.wanted
          rw [hog]
          simp only [hy]
          cases want <;> rfl
        · have hv := hg.tm t
          rw [hp, RV_pv] at hv
          simp only [RepV] at hv
          have hy := guard_yield hj hv
          unfold Region.wanted
          rw [hog]
          simp only [hy]
          cases b <;> cases want <;> rfl
      rw [hw]
      cases r with
      | true =>
        rw [if_pos rfl]
        exact .inl (hrun h)
      | false =>
        rw [if_neg (by simp)]
        cases h
        exact hK _ _ ⟨gh, hg.put_undef hd⟩
    · cases hgd

theorem ops_sound {ops : Array Oper} (hall : Calling P call) {Q : Exit → Act → World → Prop} {k : St → List Log → Option R} {r : R} (hQ : ∀ σ' lg a' w', G c σ' a' w' → k σ' lg = some r → Q .normal a' w') :
    ∀ (os : List Oper) (j : Nat) (ms : List MOper) (σ : St) (lg : List Log) (a : Act) (w : World), os = ops.toList.drop j → trOps P c.nt ops j os = some ms → G c σ a w → opsK call ms σ lg k = some r → wpOps P ops Q (List.range' j os.length) a w
  | [], j, ms, σ, lg, a, w, _, ht, hG, h => by
    simp only [trOps] at ht; cases ht
    simp only [opsK] at h
    simp only [List.length_nil, List.range'_zero, wpOps]
    exact hQ _ _ _ _ hG h
  | o :: os, j, ms, σ, lg, a, w, hos, ht, hG, h => by
    obtain ⟨m, g, l, h1, h2, h3, h4, h5, rfl⟩ := trOps_cons ht
    rw [opsK_cons] at h
    obtain ⟨⟨σ', lo⟩, ho, h⟩ := Option.bind_eq_some_iff.1 h
    have hj : ops[j]? = some o := by
      have : (ops.toList.drop j)[0]? = some o := by rw [← hos]; rfl
      rw [List.getElem?_drop, Nat.add_zero] at this
      simpa using this
    rw [List.length_cons, List.range'_succ]
    simp only [wpOps, hj]
    refine out_shows hall h1 h2 h4 h5 hG ho fun a' w' hG' => ?_
    exact ops_sound hall hQ os (j + 1) l σ' (lo :: lg) a' w' (by
      have := congrArg (List.drop 1) hos
      simpa [List.drop_drop] using this) h3 hG' h

theorem region_sound {id : Nat} {ops : Array Oper} (hall : Calling P call) {Q : Exit → Act → World → Prop} {k : St → List Log → Option R} {r : R} {ms : List MOper} (ht : trOps P c.nt ops 0 ops.toList = some ms) (hG : G c σ a w)
    (h : opsK call ms σ [] k = some r) (hQ : ∀ σ' lg a' w', G c σ' a' w' → k σ' lg = some r → Q .normal a' w') : (Code.region id ops false).wp P Q a w := by
  refine wp_region ?_
  have := ops_sound hall hQ ops.toList 0 ms σ [] a w (by simp) ht hG h
  rw [List.range_eq_range']
  simpa using this

end Go.Proofs.YtbgkalolmichdaaA
