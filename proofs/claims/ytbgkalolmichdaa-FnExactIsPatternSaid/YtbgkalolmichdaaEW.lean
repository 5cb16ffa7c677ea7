/- The machine without a count of rounds: what it answers from some count on. Conditions: none. -/
import Derived.Test.YtbgkalolmichdaaAX
namespace Go.Proofs.YtbgkalolmichdaaA
open Go
set_option linter.unusedSimpArgs false
set_option linter.unusedVariables false

variable {prim : FuncId → Option (List XV → Option Res)} {code : FuncId → Option MFunc} {R : Type} {bx : List Nat}

/-! ### Limits -/
open Classical in
noncomputable def Lim {R : Type} (c : Nat → Option R) : Option R := if h : ∃ n r, c n = some r then c (Classical.choose h) else none
def Up {R : Type} (c : Nat → Option R) : Prop := ∀ n r, c n = some r → c (n + 1) = some r
theorem Up.le {c : Nat → Option R} (h : Up c) {n m : Nat} (hn : n ≤ m) {r : R} (hr : c n = some r) : c m = some r := by
  induction hn with
  | refl => exact hr
  | step _ ih => exact h _ _ ih
theorem lim_some {c : Nat → Option R} (h : Up c) {r : R} : Lim c = some r ↔ ∃ n, c n = some r := by
  unfold Lim
  constructor
  · intro e
    split at e
    · exact ⟨_, e⟩
    · cases e
  · rintro ⟨n, hn⟩
    have hx : ∃ n r, c n = some r := ⟨n, r, hn⟩
    rw [dif_pos hx]
    obtain ⟨r', hr'⟩ := Classical.choose_spec hx
    have h1 := h.le (Nat.le_max_left (Classical.choose hx) n) hr'
    have h2 := h.le (Nat.le_max_right (Classical.choose hx) n) hn
    rw [h1] at h2
    rw [hr', h2]

noncomputable def Ev (prim : FuncId → Option (List XV → Option Res)) (code : FuncId → Option MFunc) (f : FuncId) (args : List XV) : Option Res := Lim fun n => ev prim code n f args
noncomputable def itE (b : St → (Ex → St → Option R) → Option R) (σ : St) (k : Ex → St → Option R) : Option R := Lim fun m => iter b m σ k

noncomputable def execE (call : FuncId → List XV → Option Res) (bx : List Nat) : MCode → St → (Ex → St → Option R) → Option R
  | .skip, σ, k => k .normal σ
  | .region ops draw, σ, k => opsK call ops σ [] fun σ lg => match draw with
    | none => k .normal σ
    | some before => bif apartAll lg before then k .normal σ else none
  | .seq a b, σ, k => execE call bx a σ fun e σ => match e with
    | .normal => execE call bx b σ k
    | e => k e σ
  | .cond c a b, σ, k => asPv (σ.opd c) fun p => p.asBool.bind fun t => cond t (execE call bx a σ k) (execE call bx b σ k)
  | .block id a, σ, k => execE call bx a σ fun e σ => match e with
    | .exit j => if j = id then k .normal σ else k (.exit j) σ
    | e => k e σ
  | .loop a, σ, k => itE (execE call bx a) σ k
  | .exit id, σ, k => k (.exit id) σ
  | .ret, σ, k => k .ret σ
  | .forget keep, σ, k => forgetK σ bx keep [] (bx.flatMap (keepBox σ)) fun σ => k .normal σ

/-! ### What runs goes straight to one end -/
theorem opsK_direct {call : FuncId → List XV → Option Res} : ∀ (os : List MOper) (σ : St) (lg : List Log) (k : St → List Log → Option R) (r : R), opsK call os σ lg k = some r →
    ∃ σ' lg', k σ' lg' = some r ∧ ∀ (k' : St → List Log → Option R), opsK call os σ lg k' = k' σ' lg'
  | [], σ, lg, k, r, h => ⟨σ, lg.reverse, h, fun _ => rfl⟩
  | o :: os, σ, lg, k, r, h => by
    rw [opsK_cons] at h
    obtain ⟨p, hp, h⟩ := Option.bind_eq_some_iff.1 h
    obtain ⟨σ', lg', h1, h2⟩ := opsK_direct os p.1 (p.2 :: lg) k r h
    exact ⟨σ', lg', h1, fun k' => by rw [opsK_cons, hp, Option.bind_some, h2]⟩

def forgetS (σ : St) (bx : List Nat) : List Nat → List (Nat × AV) → List Ent → Option St
  | [], ts, es => bif nodupB (es.map (·.new)) && nodupB (es.map (·.old)) then some ⟨ts, es.map fun e => (e.new, e.obj)⟩ else none
  | t :: l, ts, es => let (a, o) := keep1 σ bx t; forgetS σ bx l ((t, a) :: ts) (o ++ es)
theorem forgetK_eq (σ : St) (bx : List Nat) : ∀ (l : List Nat) (ts : List (Nat × AV)) (es : List Ent) (k : St → Option R), forgetK σ bx l ts es k = (forgetS σ bx l ts es).bind k
  | [], ts, es, k => by simp only [forgetK, forgetS]; rw [cond_bind]; rfl
  | t :: l, ts, es, k => by simp only [forgetK, forgetS]; exact forgetK_eq σ bx l _ _ k

/-- Every run has one end. -/
def Direct (b : St → (Ex → St → Option R) → Option R) : Prop := ∀ σ k r, b σ k = some r → ∃ e σ', k e σ' = some r ∧ ∀ k' r', k' e σ' = some r' → b σ k' = some r'

theorem Direct.mono {b : St → (Ex → St → Option R) → Option R} (h : Direct b) {σ : St} {k k' : Ex → St → Option R} {r : R} (hk : ∀ e σ r, k e σ = some r → k' e σ = some r) (hb : b σ k = some r) : b σ k' = some r := by
  obtain ⟨e, σ', h1, h2⟩ := h σ k r hb
  exact h2 k' r (hk _ _ _ h1)

theorem iter_up {b : St → (Ex → St → Option R) → Option R} (h : Direct b) (k : Ex → St → Option R) : ∀ (m : Nat) (σ : St) (r : R), iter b m σ k = some r → iter b (m + 1) σ k = some r
  | 0, σ, r, hm => by simp only [iter] at hm; cases hm
  | m + 1, σ, r, hm => by
    rw [iter] at hm ⊢
    refine h.mono (fun e σ' r' h' => ?_) hm
    cases e with
    | normal => exact iter_up h k m σ' r' h'
    | exit id => exact h'
    | ret => exact h'

theorem itE_some {b : St → (Ex → St → Option R) → Option R} (h : Direct b) {σ : St} {k : Ex → St → Option R} {r : R} : itE b σ k = some r ↔ ∃ m, iter b m σ k = some r :=
  lim_some fun m r hm => iter_up h k m σ r hm

theorem iter_direct {b : St → (Ex → St → Option R) → Option R} (h : Direct b) : ∀ (m : Nat) (σ : St) (k : Ex → St → Option R) (r : R), iter b m σ k = some r → ∃ e σ', k e σ' = some r ∧ ∀ k' r', k' e σ' = some r' → iter b m σ k' = some r'
  | 0, σ, k, r, hm => by simp only [iter] at hm; cases hm
  | m + 1, σ, k, r, hm => by
    rw [iter] at hm
    obtain ⟨e, σ', h1, h2⟩ := h _ _ _ hm
    cases e with
    | normal =>
      obtain ⟨e2, σ2, h3, h4⟩ := iter_direct h m σ' k r h1
      exact ⟨e2, σ2, h3, fun k' r' hk => by rw [iter]; exact h2 _ _ (h4 k' r' hk)⟩
    | exit id => exact ⟨_, _, h1, fun k' r' hk => by rw [iter]; exact h2 _ _ hk⟩
    | ret => exact ⟨_, _, h1, fun k' r' hk => by rw [iter]; exact h2 _ _ hk⟩

theorem execE_direct (call : FuncId → List XV → Option Res) (bx : List Nat) : ∀ c : MCode, Direct (execE (R := R) call bx c) := by
  intro c
  induction c with
  | skip => intro σ k r h; exact ⟨_, _, h, fun k' r' h' => h'⟩
  | exit id => intro σ k r h; exact ⟨_, _, h, fun k' r' h' => h'⟩
  | ret => intro σ k r h; exact ⟨_, _, h, fun k' r' h' => h'⟩
  | forget keep =>
    intro σ k r h
    simp only [execE, forgetK_eq] at h
    obtain ⟨σ', h1, h2⟩ := Option.bind_eq_some_iff.1 h
    exact ⟨_, _, h2, fun k' r' h' => by simp only [execE, forgetK_eq, h1, Option.bind_some]; exact h'⟩
  | region l d =>
    intro σ k r h
    simp only [execE] at h
    obtain ⟨σ', lg', h1, h2⟩ := opsK_direct _ _ _ _ _ h
    cases d with
    | none => exact ⟨_, _, h1, fun k' r' h' => by simp only [execE]; rw [h2]; exact h'⟩
    | some before =>
      simp only at h1
      cases hc : apartAll lg' before <;> rw [hc] at h1
      · cases h1
      · exact ⟨_, _, h1, fun k' r' h' => by simp only [execE]; rw [h2]; simp only [hc, cond_true]; exact h'⟩
  | cond o x y ihx ihy =>
    intro σ k r h
    simp only [execE] at h
    obtain ⟨p, hp, h⟩ := asPv_some h
    obtain ⟨t, hb, h⟩ := Option.bind_eq_some_iff.1 h
    cases t with
    | true =>
      obtain ⟨e, σ', h1, h2⟩ := ihx _ _ _ h
      exact ⟨e, σ', h1, fun k' r' h' => by simp only [execE, hp, asPv, hb, Option.bind_some, cond_true]; exact h2 k' r' h'⟩
    | false =>
      obtain ⟨e, σ', h1, h2⟩ := ihy _ _ _ h
      exact ⟨e, σ', h1, fun k' r' h' => by simp only [execE, hp, asPv, hb, Option.bind_some, cond_false]; exact h2 k' r' h'⟩
  | block id x ih =>
    intro σ k r h
    simp only [execE] at h
    obtain ⟨e, σ', h1, h2⟩ := ih _ _ _ h
    cases e with
    | normal => exact ⟨_, _, h1, fun k' r' h' => by simp only [execE]; exact h2 _ _ h'⟩
    | ret => exact ⟨_, _, h1, fun k' r' h' => by simp only [execE]; exact h2 _ _ h'⟩
    | exit j =>
      simp only at h1
      by_cases hj : j = id
      · rw [if_pos hj] at h1
        exact ⟨_, _, h1, fun k' r' h' => by simp only [execE]; exact h2 _ _ (by simp only [if_pos hj]; exact h')⟩
      · rw [if_neg hj] at h1
        exact ⟨_, _, h1, fun k' r' h' => by simp only [execE]; exact h2 _ _ (by simp only [if_neg hj]; exact h')⟩
  | loop x ih =>
    intro σ k r h
    simp only [execE] at h
    obtain ⟨m, hm⟩ := (itE_some ih).1 h
    obtain ⟨e, σ', h1, h2⟩ := iter_direct ih m σ k r hm
    exact ⟨e, σ', h1, fun k' r' h' => by simp only [execE]; exact (itE_some ih).2 ⟨m, h2 k' r' h'⟩⟩
  | seq x y ihx ihy =>
    intro σ k r h
    simp only [execE] at h
    obtain ⟨e, σ', h1, h2⟩ := ihx _ _ _ h
    cases e with
    | normal =>
      obtain ⟨e2, σ2, h3, h4⟩ := ihy _ _ _ h1
      exact ⟨e2, σ2, h3, fun k' r' h' => by simp only [execE]; exact h2 _ _ (h4 k' r' h')⟩
    | ret => exact ⟨_, _, h1, fun k' r' h' => by simp only [execE]; exact h2 _ _ h'⟩
    | exit j => exact ⟨_, _, h1, fun k' r' h' => by simp only [execE]; exact h2 _ _ h'⟩

theorem opt_ext {x y : Option R} (h : ∀ r, x = some r ↔ y = some r) : x = y := by
  cases x with
  | none => cases y with
    | none => rfl
    | some b => exact absurd ((h b).2 rfl) (by simp)
  | some a => exact ((h a).1 rfl).symm

theorem itE_eq {b : St → (Ex → St → Option R) → Option R} (h : Direct b) (σ : St) (k : Ex → St → Option R) : itE b σ k = b σ fun e σ' => match e with
    | .normal => itE b σ' k
    | e => k e σ' := by
  refine opt_ext fun r => ⟨fun e => ?_, fun e => ?_⟩
  · obtain ⟨m, hm⟩ := (itE_some h).1 e
    cases m with
    | zero => simp only [iter] at hm; cases hm
    | succ m =>
      rw [iter] at hm
      refine h.mono (fun e σ' r' h' => ?_) hm
      cases e with
      | normal => exact (itE_some h).2 ⟨m, h'⟩
      | exit id => exact h'
      | ret => exact h'
  · obtain ⟨ex, σ', h1, h2⟩ := h _ _ _ e
    cases ex with
    | normal =>
      obtain ⟨m, hm⟩ := (itE_some h).1 h1
      exact (itE_some h).2 ⟨m + 1, by rw [iter]; exact h2 _ _ hm⟩
    | exit id => exact (itE_some h).2 ⟨1, by rw [iter]; exact h2 _ _ h1⟩
    | ret => exact (itE_some h).2 ⟨1, by rw [iter]; exact h2 _ _ h1⟩

/-- A loop from its head on, behind what it forgets. -/
noncomputable def LP (call : FuncId → List XV → Option Res) (bx : List Nat) (keep : List Nat) (b : MCode) (σ : St) (k : Ex → St → Option R) : Option R :=
  execE call bx b σ fun e σ' => match e with
    | .normal => itE (execE call bx (.seq (.forget keep) b)) σ' k
    | e => k e σ'
theorem itE_LP (call : FuncId → List XV → Option Res) (bx : List Nat) (keep : List Nat) (b : MCode) (σ : St) (k : Ex → St → Option R) :
    itE (execE call bx (.seq (.forget keep) b)) σ k = forgetK σ bx keep [] (bx.flatMap (keepBox σ)) fun σ' => LP call bx keep b σ' k := by
  rw [itE_eq (execE_direct call bx _)]
  simp only [execE]
  rfl
theorem execE_LP (call : FuncId → List XV → Option Res) (bx : List Nat) (keep : List Nat) (b : MCode) (σ : St) (k : Ex → St → Option R) :
    execE call bx (.loop (.seq (.forget keep) b)) σ k = forgetK σ bx keep [] (bx.flatMap (keepBox σ)) fun σ' => LP call bx keep b σ' k := by
  rw [execE]; exact itE_LP ..

/-! ### More rounds, more called functions -/
def Le (c c' : FuncId → List XV → Option Res) : Prop := ∀ f a r, c f a = some r → c' f a = some r

theorem callK_le {c c' : FuncId → List XV → Option Res} (h : Le c c') {σ : St} {d : Nat} {f : FuncId} {as : List AV} {extra : List PV} {sh fz : List Nat} {out : Out} (e : callK σ c d f as extra sh fz some = some out) : callK σ c' d f as extra sh fz some = some out := by
  simp only [callK] at e ⊢
  split at e
  · rename_i xs sh' bx fz' ha
    cases hc : (nodupB bx && (fz' ++ fz).all fun g => !(bx.any (Nat.beq g))) <;> simp only [hc, cond_true, cond_false] at e ⊢
    · cases e
    · obtain ⟨r, hr, e⟩ := Option.bind_eq_some_iff.1 e
      rw [h _ _ _ hr, Option.bind_some]; exact e
  · cases e

theorem stepK_le {c c' : FuncId → List XV → Option Res} (h : Le c c') {d : Nat} {σ : St} {o : MOp} {out : Out} (e : stepK c d σ o some = some out) : stepK c' d σ o some = some out := by
  cases o
  case call f args => simp only [stepK] at e ⊢; exact callK_le h e
  case callv x args =>
    simp only [stepK] at e ⊢
    split at e
    · split at e
      · exact callK_le h e
      · cases e
    · cases e
  all_goals (simp only [stepK] at e ⊢; exact e)

theorem outOf_le {c c' : FuncId → List XV → Option Res} (h : Le c c') {m : MOper} {σ : St} {p : St × Log} (e : outOf c m σ = some p) : outOf c' m σ = some p := by
  unfold outOf at e ⊢
  have run : ∀ {σ : St}, ((stepK c (64 * m.dst.getD 0) σ m.op some).bind fun out =>
      match m.split with
      | true => asPv out.val fun p => p.asBool.bind fun _ => some (σ.apply m.dst out, m.log out)
      | false => some (σ.apply m.dst out, m.log out)) = some p → ((stepK c' (64 * m.dst.getD 0) σ m.op some).bind fun out =>
      match m.split with
      | true => asPv out.val fun p => p.asBool.bind fun _ => some (σ.apply m.dst out, m.log out)
      | false => some (σ.apply m.dst out, m.log out)) = some p := by
    intro σ e
    obtain ⟨out, h1, h2⟩ := Option.bind_eq_some_iff.1 e
    rw [stepK_le h h1, Option.bind_some]; exact h2
  simp only at e ⊢
  split at e
  · exact run e
  · rename_i t want hg
    obtain ⟨r, hr, e⟩ := Option.bind_eq_some_iff.1 e
    simp only [hr, Option.bind_some]
    cases r with
    | false => exact e
    | true => exact run e

theorem opsK_le {c c' : FuncId → List XV → Option Res} (h : Le c c') : ∀ (os : List MOper) (σ : St) (lg : List Log) (k k' : St → List Log → Option R) (r : R), (∀ σ lg, k σ lg = some r → k' σ lg = some r) → opsK c os σ lg k = some r → opsK c' os σ lg k' = some r
  | [], σ, lg, k, k', r, hk, e => hk _ _ e
  | o :: os, σ, lg, k, k', r, hk, e => by
    rw [opsK_cons] at e ⊢
    obtain ⟨p, hp, e⟩ := Option.bind_eq_some_iff.1 e
    rw [outOf_le h hp, Option.bind_some]
    exact opsK_le h os _ _ k k' r hk e

theorem iter_le {b b' : St → (Ex → St → Option R) → Option R} (hb : ∀ σ k k' r, (∀ e σ, k e σ = some r → k' e σ = some r) → b σ k = some r → b' σ k' = some r) : ∀ (m m' : Nat) (σ : St) (k k' : Ex → St → Option R) (r : R), m ≤ m' → (∀ e σ, k e σ = some r → k' e σ = some r) → iter b m σ k = some r → iter b' m' σ k' = some r
  | 0, m', σ, k, k', r, hm, hk, e => by simp only [iter] at e; cases e
  | m + 1, 0, σ, k, k', r, hm, hk, e => by omega
  | m + 1, m' + 1, σ, k, k', r, hm, hk, e => by
    rw [iter] at e ⊢
    refine hb _ _ _ _ (fun e' σ' h' => ?_) e
    cases e' with
    | normal => exact iter_le hb m m' σ' k k' r (by omega) hk h'
    | exit id => exact hk _ _ h'
    | ret => exact hk _ _ h'

theorem exec_le {c c' : FuncId → List XV → Option Res} (h : Le c c') {n n' : Nat} (hn : n ≤ n') (bx : List Nat) : ∀ (m : MCode) (σ : St) (k k' : Ex → St → Option R) (r : R), (∀ e σ, k e σ = some r → k' e σ = some r) → exec c n bx m σ k = some r → exec c' n' bx m σ k' = some r := by
  intro m
  induction m with
  | skip => intro σ k k' r hk e; exact hk _ _ e
  | exit id => intro σ k k' r hk e; exact hk _ _ e
  | ret => intro σ k k' r hk e; exact hk _ _ e
  | forget keep =>
    intro σ k k' r hk e
    simp only [exec, forgetK_eq] at e ⊢
    obtain ⟨σ', h1, h2⟩ := Option.bind_eq_some_iff.1 e
    rw [h1, Option.bind_some]; exact hk _ _ h2
  | region l d =>
    intro σ k k' r hk e
    simp only [exec] at e ⊢
    refine opsK_le h _ _ _ _ _ _ (fun σ' lg' h' => ?_) e
    cases d with
    | none => exact hk _ _ h'
    | some before =>
      simp only at h' ⊢
      cases hc : apartAll lg' before <;> simp only [hc, cond_true, cond_false] at h' ⊢
      · cases h'
      · exact hk _ _ h'
  | cond o x y ihx ihy =>
    intro σ k k' r hk e
    simp only [exec] at e ⊢
    obtain ⟨p, hp, e⟩ := asPv_some e
    obtain ⟨t, hb, e⟩ := Option.bind_eq_some_iff.1 e
    simp only [hp, asPv, hb, Option.bind_some]
    cases t with
    | true => exact ihx _ _ _ _ hk e
    | false => exact ihy _ _ _ _ hk e
  | block id x ih =>
    intro σ k k' r hk e
    simp only [exec] at e ⊢
    refine ih _ _ _ _ (fun e' σ' h' => ?_) e
    cases e' with
    | normal => exact hk _ _ h'
    | ret => exact hk _ _ h'
    | exit j =>
      simp only at h' ⊢
      split at h'
      · rename_i hj; rw [if_pos hj]; exact hk _ _ h'
      · rename_i hj; rw [if_neg hj]; exact hk _ _ h'
  | loop x ih =>
    intro σ k k' r hk e
    simp only [exec] at e ⊢
    exact iter_le (fun σ k k' r hk e => ih σ k k' r hk e) n n' σ k k' r hn hk e
  | seq x y ihx ihy =>
    intro σ k k' r hk e
    simp only [exec] at e ⊢
    refine ihx _ _ _ _ (fun e' σ' h' => ?_) e
    cases e' with
    | normal => exact ihy _ _ _ _ hk h'
    | ret => exact hk _ _ h'
    | exit j => exact hk _ _ h'

theorem ev_up (prim : FuncId → Option (List XV → Option Res)) (code : FuncId → Option MFunc) : ∀ (n : Nat), Le (ev prim code n) (ev prim code (n + 1))
  | 0 => fun f a r e => by simp only [ev] at e; cases e
  | n + 1 => fun f a r e => by
    have ih := ev_up prim code n
    rw [ev] at e ⊢
    cases hp : prim f with
    | some F => simp only [hp] at e ⊢; exact e
    | none =>
      cases hc : code f with
      | none => simp only [hp, hc] at e; cases e
      | some m =>
        simp only [hp, hc] at e ⊢
        cases hl : lenIs a m.nparams <;> simp only [hl, cond_true, cond_false] at e ⊢
        · cases e
        · split at e
          · exact exec_le ih (Nat.le_succ n) _ _ _ _ _ _ (fun _ _ h => h) e
          · cases e
theorem ev_le {n m : Nat} (h : n ≤ m) : Le (ev prim code n) (ev prim code m) := by
  induction h with
  | refl => exact fun _ _ _ e => e
  | step _ ih => exact fun f a r e => ev_up _ _ _ f a r (ih f a r e)
theorem Ev_some {f : FuncId} {args : List XV} {r : Res} : Ev prim code f args = some r ↔ ∃ n, ev prim code n f args = some r :=
  lim_some fun n r h => ev_up prim code n f args r h

/-! ### From the limit back to a count of rounds -/
/-- From some count on. -/
def Soon (p : Nat → Prop) : Prop := ∃ N, ∀ n, N ≤ n → p n
theorem Soon.and {p q : Nat → Prop} : Soon p → Soon q → Soon fun n => p n ∧ q n
  | ⟨a, ha⟩, ⟨b, hb⟩ => ⟨max a b, fun n hn => ⟨ha n (by omega), hb n (by omega)⟩⟩
theorem Soon.mono {p q : Nat → Prop} (h : ∀ n, p n → q n) : Soon p → Soon q
  | ⟨a, ha⟩ => ⟨a, fun n hn => h n (ha n hn)⟩

theorem Ev_soon {f : FuncId} {args : List XV} {r : Res} (h : Ev prim code f args = some r) : Soon fun n => ev prim code n f args = some r := by
  obtain ⟨N, hN⟩ := Ev_some.1 h
  exact ⟨N, fun n hn => ev_le hn _ _ _ hN⟩

theorem callK_soon {σ : St} {d : Nat} {f : FuncId} {as : List AV} {extra : List PV} {sh fz : List Nat} {out : Out} (e : callK σ (Ev prim code) d f as extra sh fz some = some out) : Soon fun n => callK σ (ev prim code n) d f as extra sh fz some = some out := by
  simp only [callK] at e ⊢
  split at e
  · rename_i xs sh' bx fz' ha
    cases hc : (nodupB bx && (fz' ++ fz).all fun g => !(bx.any (Nat.beq g))) <;> simp only [hc, cond_true, cond_false] at e ⊢
    · cases e
    · obtain ⟨r, hr, e⟩ := Option.bind_eq_some_iff.1 e
      refine (Ev_soon hr).mono fun n hn => ?_
      rw [hn, Option.bind_some]; exact e
  · cases e

theorem stepK_soon {d : Nat} {σ : St} {o : MOp} {out : Out} (e : stepK (Ev prim code) d σ o some = some out) : Soon fun n => stepK (ev prim code n) d σ o some = some out := by
  cases o
  case call f args => simp only [stepK] at e ⊢; exact callK_soon e
  case callv x args =>
    simp only [stepK] at e ⊢
    split at e
    · split at e
      · exact callK_soon e
      · cases e
    · cases e
  all_goals (simp only [stepK] at e ⊢; exact ⟨0, fun _ _ => e⟩)

theorem outOf_soon {m : MOper} {σ : St} {p : St × Log} (e : outOf (Ev prim code) m σ = some p) : Soon fun n => outOf (ev prim code n) m σ = some p := by
  unfold outOf at e ⊢
  have run : ∀ {σ : St}, ((stepK (Ev prim code) (64 * m.dst.getD 0) σ m.op some).bind fun out =>
      match m.split with
      | true => asPv out.val fun p => p.asBool.bind fun _ => some (σ.apply m.dst out, m.log out)
      | false => some (σ.apply m.dst out, m.log out)) = some p → Soon fun n => ((stepK (ev prim code n) (64 * m.dst.getD 0) σ m.op some).bind fun out =>
      match m.split with
      | true => asPv out.val fun p => p.asBool.bind fun _ => some (σ.apply m.dst out, m.log out)
      | false => some (σ.apply m.dst out, m.log out)) = some p := by
    intro σ e
    obtain ⟨out, h1, h2⟩ := Option.bind_eq_some_iff.1 e
    refine (stepK_soon h1).mono fun n hn => ?_
    rw [hn, Option.bind_some]; exact h2
  simp only at e ⊢
  split at e
  · exact run e
  · rename_i t want hg
    obtain ⟨r, hr, e⟩ := Option.bind_eq_some_iff.1 e
    simp only [hr, Option.bind_some]
    cases r with
    | false => exact ⟨0, fun _ _ => e⟩
    | true => exact run e

theorem opsK_soon : ∀ (os : List MOper) (σ : St) (lg : List Log) (k : St → List Log → Option R) (K : Nat → St → List Log → Option R) (r : R), (∀ σ lg, k σ lg = some r → Soon fun n => K n σ lg = some r) → opsK (Ev prim code) os σ lg k = some r → Soon fun n => opsK (ev prim code n) os σ lg (K n) = some r
  | [], σ, lg, k, K, r, hk, e => hk _ _ e
  | o :: os, σ, lg, k, K, r, hk, e => by
    rw [opsK_cons] at e
    obtain ⟨p, hp, e⟩ := Option.bind_eq_some_iff.1 e
    refine ((outOf_soon hp).and (opsK_soon os p.1 (p.2 :: lg) k K r hk e)).mono fun n hn => ?_
    rw [opsK_cons, hn.1, Option.bind_some]; exact hn.2

theorem execE_soon (bx : List Nat) : ∀ (m : MCode) (σ : St) (k : Ex → St → Option R) (K : Nat → Ex → St → Option R) (r : R), (∀ e σ, k e σ = some r → Soon fun n => K n e σ = some r) → execE (Ev prim code) bx m σ k = some r → Soon fun n => exec (ev prim code n) n bx m σ (K n) = some r := by
  intro m
  induction m with
  | skip => intro σ k K r hk e; exact hk _ _ e
  | exit id => intro σ k K r hk e; exact hk _ _ e
  | ret => intro σ k K r hk e; exact hk _ _ e
  | forget keep =>
    intro σ k K r hk e
    simp only [execE, forgetK_eq] at e
    obtain ⟨σ', h1, h2⟩ := Option.bind_eq_some_iff.1 e
    refine (hk _ _ h2).mono fun n hn => ?_
    simp only [exec, forgetK_eq, h1, Option.bind_some]; exact hn
  | region l d =>
    intro σ k K r hk e
    simp only [execE] at e
    simp only [exec]
    refine opsK_soon l σ [] _ (fun n σ lg => match d with
      | none => K n .normal σ
      | some before => bif apartAll lg before then K n .normal σ else none) r (fun σ' lg' h' => ?_) e
    cases d with
    | none => exact hk _ _ h'
    | some before =>
      simp only at h' ⊢
      cases hc : apartAll lg' before <;> simp only [hc, cond_true, cond_false] at h' ⊢
      · cases h'
      · exact hk _ _ h'
  | cond o x y ihx ihy =>
    intro σ k K r hk e
    simp only [execE] at e
    obtain ⟨p, hp, e⟩ := asPv_some e
    obtain ⟨t, hb, e⟩ := Option.bind_eq_some_iff.1 e
    simp only [exec, hp, asPv, hb, Option.bind_some]
    cases t with
    | true => exact ihx _ _ _ _ hk e
    | false => exact ihy _ _ _ _ hk e
  | block id x ih =>
    intro σ k K r hk e
    simp only [execE] at e
    simp only [exec]
    refine ih σ _ (fun n e σ => match e with
      | .exit j => if j = id then K n .normal σ else K n (.exit j) σ
      | e => K n e σ) r (fun e' σ' h' => ?_) e
    cases e' with
    | normal => exact hk _ _ h'
    | ret => exact hk _ _ h'
    | exit j =>
      simp only at h' ⊢
      by_cases hj : j = id
      · simp only [if_pos hj] at h' ⊢; exact hk _ _ h'
      · simp only [if_neg hj] at h' ⊢; exact hk _ _ h'
  | loop x ih =>
    intro σ k K r hk e
    simp only [execE] at e
    simp only [exec]
    obtain ⟨m, hm⟩ := (itE_some (execE_direct _ _ x)).1 e
    have key : ∀ (m : Nat) (σ : St), iter (execE (Ev prim code) bx x) m σ k = some r → Soon fun n => iter (exec (ev prim code n) n bx x) m σ (K n) = some r := by
      intro m
      induction m with
      | zero => intro σ hm; simp only [iter] at hm; cases hm
      | succ m ihm =>
        intro σ hm
        rw [iter] at hm
        simp only [iter]
        refine ih σ _ (fun n e σ => match e with
          | .normal => iter (exec (ev prim code n) n bx x) m σ (K n)
          | e => K n e σ) r (fun e' σ' h' => ?_) hm
        cases e' with
        | normal => exact ihm σ' h'
        | ret => exact hk _ _ h'
        | exit j => exact hk _ _ h'
    obtain ⟨N, hN⟩ := key m σ hm
    refine ⟨max N m, fun n hn => ?_⟩
    exact iter_le (fun σ k k' r hk e => exec_le (fun _ _ _ h => h) (Nat.le_refl n) bx x σ k k' r hk e) m n σ (K n) (K n) r (by omega) (fun _ _ h => h) (hN n (by omega))
  | seq x y ihx ihy =>
    intro σ k K r hk e
    simp only [execE] at e
    simp only [exec]
    refine ihx σ _ (fun n e σ => match e with
      | .normal => exec (ev prim code n) n bx y σ (K n)
      | e => K n e σ) r (fun e' σ' h' => ?_) e
    cases e' with
    | normal => exact ihy _ _ _ _ hk h'
    | ret => exact hk _ _ h'
    | exit j => exact hk _ _ h'

/-- A told function answers what its body comes to. -/
theorem Ev_of {f : FuncId} {m : MFunc} (hp : prim f = none) (hc : code f = some m) {args : List XV} {ts : List (Nat × AV)} {os : List (Nat × Obj)} {bx : List Nat} (hl : lenIs args m.nparams = true) (he : enter 0 args = some (ts, os, bx)) {r : Res}
    (h : execE (Ev prim code) bx m.body ⟨ts, os⟩ (fun e σ => match e with
      | .exit _ => none
      | _ => leave m bx σ) = some r) : Ev prim code f args = some r := by
  obtain ⟨N, hN⟩ := execE_soon bx m.body ⟨ts, os⟩ _ (fun _ e σ => match e with
      | .exit _ => none
      | _ => leave m bx σ) r (fun e σ h => ⟨0, fun _ _ => h⟩) h
  refine Ev_some.2 ⟨N + 1, ?_⟩
  rw [ev]
  simp only [hp, hc, hl, cond_true, he]
  exact hN N (Nat.le_refl N)
theorem Ev_prim {f : FuncId} {F : List XV → Option Res} (hp : prim f = some F) {args : List XV} {r : Res} (h : F args = some r) : Ev prim code f args = some r :=
  Ev_some.2 ⟨1, by rw [ev]; simp only [hp]; exact h⟩
end Go.Proofs.YtbgkalolmichdaaA
