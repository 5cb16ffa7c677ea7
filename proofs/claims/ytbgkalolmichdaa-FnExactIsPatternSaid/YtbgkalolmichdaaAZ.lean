/- A region whose order is drawn: any order that the order's edges let stand gives the same state. Conditions: the contracts of what is called. -/
import Derived.Test.YtbgkalolmichdaaAY
import Derived.Orders
namespace Go.Proofs.YtbgkalolmichdaaA
open Go
set_option linter.unusedSimpArgs false
set_option linter.unusedVariables false

variable {P : Program} {c : Ctx} {a : Act} {w w' : World} {call : FuncId → List XV → Option Res} {R : Type}

/-- What an operation of a region tells; nothing where its guard says no. -/
def tells (call : FuncId → List XV → Option Res) (m : MOper) (σ : St) : Option Out :=
  let run : Option Out := (stepK call (64 * m.dst.getD 0) σ m.op some).bind fun out =>
    match m.split with
    | true => asPv out.val fun p => p.asBool.bind fun _ => some out
    | false => some out
  match m.guard with
  | none => run
  | some (t, want) => (guardSays (σ.tmp t) want).bind fun r => cond r run (some ⟨.tup [], [], []⟩)

theorem apply_undef (σ : St) (dst : Option Nat) : σ.apply dst ⟨.tup [], [], []⟩ = σ.put dst (.tup []) := by cases dst <;> rfl

theorem outOf_eq (m : MOper) (σ : St) : outOf call m σ = (tells call m σ).map fun out => (σ.apply m.dst out, m.log out) := by
  have hrun : ((stepK call (64 * m.dst.getD 0) σ m.op some).bind fun out =>
      match m.split with
      | true => asPv out.val fun p => p.asBool.bind fun _ => some (σ.apply m.dst out, m.log out)
      | false => some (σ.apply m.dst out, m.log out)) =
      ((stepK call (64 * m.dst.getD 0) σ m.op some).bind fun out =>
        match m.split with
        | true => asPv out.val fun p => p.asBool.bind fun _ => some out
        | false => some out).map fun out => (σ.apply m.dst out, m.log out) := by
    rw [Option.map_eq_bind, Option.bind_assoc]
    congr 1; funext out
    cases m.split with
    | false => rfl
    | true =>
      obtain ⟨val, upd, rds⟩ := out
      cases val with
      | pv p => cases p <;> rfl
      | _ => rfl
  unfold outOf tells
  cases m.guard with
  | none => exact hrun
  | some g =>
    obtain ⟨t, want⟩ := g
    simp only
    cases guardSays (σ.tmp t) want with
    | none => rfl
    | some r => cases r with
      | true => exact hrun
      | false => simp only [Option.bind_some, cond_false, Option.map_some, apply_undef]

theorem tells_local {m : MOper} {σ σ' : St} {out : Out} (h : tells call m σ = some out) (ht : ∀ t ∈ (m.log out).looks, σ'.tmp t = σ.tmp t) (ha : Agree σ σ' ((m.log out).wr ++ (m.log out).rd)) : tells call m σ' = some out := by
  have hrun : ∀ out', ((stepK call (64 * m.dst.getD 0) σ m.op some).bind fun out =>
      match m.split with
      | true => asPv out.val fun p => p.asBool.bind fun _ => some out
      | false => some out) = some out' → out' = out → ((stepK call (64 * m.dst.getD 0) σ' m.op some).bind fun out =>
      match m.split with
      | true => asPv out.val fun p => p.asBool.bind fun _ => some out
      | false => some out) = some out' := by
    intro out' hr e
    subst e
    obtain ⟨o1, h1, h2⟩ := Option.bind_eq_some_iff.1 hr
    have e : o1 = out' := by
      cases hs : m.split with
      | false => rw [hs] at h2; cases h2; rfl
      | true =>
        rw [hs] at h2
        simp only at h2
        obtain ⟨p, _, h2⟩ := asPv_some h2
        obtain ⟨_, _, h2⟩ := Option.bind_eq_some_iff.1 h2
        cases h2; rfl
    subst e
    rw [stepK_local h1 (fun t hm => ht t (by simp only [MOper.log, List.mem_append]; exact .inr hm)) ha]
    exact h2
  unfold tells at *
  cases hg : m.guard with
  | none => rw [hg] at h; exact hrun out h rfl
  | some g =>
    obtain ⟨t, want⟩ := g
    rw [hg] at h
    simp only at *
    have htt : σ'.tmp t = σ.tmp t := ht t (by simp [MOper.log, hg])
    rw [htt]
    cases hv : guardSays (σ.tmp t) want with
    | none => rw [hv] at h; exact h
    | some r =>
      rw [hv] at h
      cases r with
      | true => exact hrun out h rfl
      | false => exact h

/-! ### States as rows of effects -/
abbrev Eff := Option Nat × Out
def runE (σ : St) (l : List Eff) : St := l.foldl (fun σ p => σ.apply p.1 p.2) σ
def putsT (t : Nat) (p : Eff) : Bool := match p.1 with | some u => Nat.beq u t | none => false
def putsO (g : Nat) (p : Eff) : Bool := (p.2.upd.map (·.1)).any (Nat.beq g)

theorem apply_tmp (σ : St) (p : Eff) (t : Nat) : (σ.apply p.1 p.2).tmp t = if putsT t p then p.2.val else σ.tmp t := by
  obtain ⟨dst, out⟩ := p
  cases dst with
  | none => rfl
  | some u =>
    simp only [St.apply, St.put, St.tmp, look, putsT]
    by_cases h : u = t
    · subst h; simp [Nat.beq_refl]
    · have : Nat.beq u t = false := by cases hb : Nat.beq u t; rfl; exact absurd (beq_true hb) h
      simp [h, this]
theorem apply_obj_out (σ : St) (p : Eff) (g : Nat) (h : putsO g p = false) : (σ.apply p.1 p.2).obj g = σ.obj g := by
  rw [St.obj_apply]
  refine updL_out _ _ _ fun q hq e => ?_
  have : putsO g p = true := List.any_eq_true.2 ⟨q.1, List.mem_map.2 ⟨q, hq, rfl⟩, by rw [e]; exact Nat.beq_refl g⟩
  rw [h] at this; cases this
theorem apply_obj_in (σ σ' : St) (p : Eff) (g : Nat) (h : putsO g p = true) : (σ.apply p.1 p.2).obj g = (σ'.apply p.1 p.2).obj g := by
  rw [St.obj_apply, St.obj_apply]
  unfold putsO at h
  generalize p.2.upd = l at h
  induction l with
  | nil => simp at h
  | cons q l ih =>
    obtain ⟨k, o⟩ := q
    rw [updL_at, updL_at]
    by_cases e : k = g
    · rw [if_pos e, if_pos e]
    · rw [if_neg e, if_neg e]
      refine ih ?_
      simp only [List.map_cons, List.any_cons, Bool.or_eq_true] at h
      rcases h with h | h
      · exact absurd (beq_true h).symm e
      · exact h

theorem runE_tmp (t : Nat) : ∀ (l : List Eff) (σ σ' : St), σ.tmp t = σ'.tmp t → (runE σ l).tmp t = (runE σ' (l.filter (putsT t))).tmp t
  | [], σ, σ', h => h
  | p :: l, σ, σ', h => by
    simp only [runE, List.foldl_cons, List.filter_cons]
    cases hp : putsT t p with
    | true => exact runE_tmp t l _ _ (by rw [apply_tmp, apply_tmp, hp]; rfl)
    | false => exact runE_tmp t l _ _ (by rw [apply_tmp, hp]; exact h)
theorem runE_obj (g : Nat) : ∀ (l : List Eff) (σ σ' : St), σ.obj g = σ'.obj g → (runE σ l).obj g = (runE σ' (l.filter (putsO g))).obj g
  | [], σ, σ', h => h
  | p :: l, σ, σ', h => by
    simp only [runE, List.foldl_cons, List.filter_cons]
    cases hp : putsO g p with
    | true => exact runE_obj g l _ _ (apply_obj_in _ _ p g hp)
    | false => exact runE_obj g l _ _ (by rw [apply_obj_out _ p g hp]; exact h)

theorem runE_append (σ : St) (l : List Eff) (p : Eff) : runE σ (l ++ [p]) = (runE σ l).apply p.1 p.2 := by simp [runE]

theorem G_ext {σ σ' : St} (ht : ∀ t, σ.tmp t = σ'.tmp t) (ho : ∀ g, σ.obj g = σ'.obj g) (h : G c σ a w) : G c σ' a w := by
  obtain ⟨gh, hg⟩ := h
  have e : σ.obj = σ'.obj := funext ho
  exact ⟨gh, ⟨by rw [← e]; exact hg.mem, fun t => by rw [← e, ← ht]; exact hg.tm t, hg.nd, hg.nt, fun p hp => by rw [← e]; exact hg.hand p hp⟩⟩

/-! ### Any order -/
theorem edgesOk_get : ∀ (os : List Oper) (j : Nat), edgesOk j os = true → ∀ i o, os[i]? = some o → ∀ e ∈ o.after, Region.binds .any e = true → e.on < j + i
  | [], j, _, i, o, h, _, _, _ => by simp at h
  | o' :: os, j, h, i, o, hi, e, he, hb => by
    simp only [edgesOk, Bool.and_eq_true] at h
    cases i with
    | zero =>
      simp at hi; subst hi
      have := Array.all_eq_true'.1 h.1 e he
      rw [hb] at this
      simp only [Bool.not_true, Bool.false_or] at this
      have h2 : e.on < j := by simpa [Nat.blt_eq] using this
      omega
    | succ i =>
      have := edgesOk_get os (j + 1) h.2 i o (by simpa using hi) e he hb
      omega

theorem before_size (ops : List Oper) : ∀ (acc : Array Nat), (ops.foldl (fun acc o => acc.push (o.after.foldl (fun s e => if Region.binds .any e then s ||| 2 ^ e.on ||| acc.getD e.on 0 else s) 0)) acc).size = acc.size + ops.length := by
  induction ops with
  | nil => intro acc; rfl
  | cons o ops ih => intro acc; rw [List.foldl_cons, ih]; simp; omega

theorem before_old (ops : List Oper) : ∀ (acc : Array Nat) (j : Nat), j < acc.size → (ops.foldl (fun acc o => acc.push (o.after.foldl (fun s e => if Region.binds .any e then s ||| 2 ^ e.on ||| acc.getD e.on 0 else s) 0)) acc)[j]? = acc[j]? := by
  induction ops with
  | nil => intro acc j _; rfl
  | cons o ops ih =>
    intro acc j hj
    rw [List.foldl_cons, ih _ j (by simp; omega), Array.getElem?_push]
    rw [if_neg (by omega)]

theorem edge_bits (acc : Array Nat) (k : Nat) : ∀ (es : List Edge) (s : Nat), (es.foldl (fun s e => if Region.binds .any e then s ||| 2 ^ e.on ||| acc.getD e.on 0 else s) s).testBit k = true →
    s.testBit k = true ∨ ∃ e ∈ es, Region.binds .any e = true ∧ (e.on = k ∨ (acc.getD e.on 0).testBit k = true)
  | [], s, h => .inl h
  | e :: es, s, h => by
    rw [List.foldl_cons] at h
    rcases edge_bits acc k es _ h with h1 | ⟨e', h1, h2⟩
    · cases hb : Region.binds .any e with
      | false => rw [hb] at h1; exact .inl h1
      | true =>
        rw [hb] at h1
        simp only [if_true, Nat.testBit_or, Bool.or_eq_true] at h1
        rcases h1 with (h1 | h1) | h1
        · exact .inl h1
        · refine .inr ⟨e, by simp, hb, .inl ?_⟩
          rw [Nat.testBit_two_pow] at h1
          simpa using h1
        · exact .inr ⟨e, by simp, hb, .inr h1⟩
    · exact .inr ⟨e', by simp [h1], h2⟩

theorem before_spec (ops : List Oper) : ∀ (acc : Array Nat) (i : Nat) (o : Oper), ops[i]? = some o → ∀ k,
    ((ops.foldl (fun acc o => acc.push (o.after.foldl (fun s e => if Region.binds .any e then s ||| 2 ^ e.on ||| acc.getD e.on 0 else s) 0)) acc).getD (acc.size + i) 0).testBit k = true →
    ∃ e ∈ o.after, Region.binds .any e = true ∧ (e.on = k ∨ (e.on < acc.size + i ∧ ((ops.foldl (fun acc o => acc.push (o.after.foldl (fun s e => if Region.binds .any e then s ||| 2 ^ e.on ||| acc.getD e.on 0 else s) 0)) acc).getD e.on 0).testBit k = true)) := by
  induction ops with
  | nil => intro acc i o h; simp at h
  | cons o' ops ih =>
    intro acc i o h k hk
    rw [List.foldl_cons] at hk ⊢
    cases i with
    | zero =>
      simp at h; subst h
      rw [Array.getD_eq_getD_getElem?, Nat.add_zero, before_old ops _ _ (by simp), Array.getElem?_push, if_pos rfl] at hk
      simp only [Option.getD_some] at hk
      rw [← Array.foldl_toList] at hk
      rcases edge_bits acc k o'.after.toList 0 hk with h1 | ⟨e, h1, h2, h3⟩
      · simp at h1
      · refine ⟨e, by simpa using h1, h2, ?_⟩
        rcases h3 with h3 | h3
        · exact .inl h3
        · rcases Nat.lt_or_ge e.on acc.size with hlt | hge
          · refine .inr ⟨by omega, ?_⟩
            rw [Array.getD_eq_getD_getElem?, before_old ops _ _ (by simp; omega), Array.getElem?_push, if_neg (by omega), ← Array.getD_eq_getD_getElem?]
            exact h3
          · rw [Array.getD_eq_getD_getElem?, Array.getElem?_eq_none hge] at h3
            simp at h3
    | succ i =>
      have := ih (acc.push (o'.after.foldl (fun s e => if Region.binds .any e then s ||| 2 ^ e.on ||| acc.getD e.on 0 else s) 0)) i o (by simpa using h) k (by
        rw [Array.size_push, show acc.size + 1 + i = acc.size + (i + 1) by omega]; exact hk)
      rw [Array.size_push, show acc.size + 1 + i = acc.size + (i + 1) by omega] at this
      exact this

/-- What stands before an operation, from its edges. -/
theorem before_edge {ops : Array Oper} {j : Nat} {o : Oper} (hj : ops[j]? = some o) {k : Nat} (h : ((Region.before ops).getD j 0).testBit k = true) :
    ∃ e ∈ o.after, Region.binds .any e = true ∧ (e.on = k ∨ (e.on < j ∧ ((Region.before ops).getD e.on 0).testBit k = true)) := by
  unfold Region.before at *
  rw [← Array.foldl_toList] at *
  have := before_spec ops.toList #[] j o (by simpa using hj) k (by simpa using h)
  simpa using this

end Go.Proofs.YtbgkalolmichdaaA
