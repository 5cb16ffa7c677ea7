/- Code and functions: what the abstract machine answers, the translated function does. Conditions: the contracts of what is called. -/
import Derived.Test.YtbgkalolmichdaaAU
import Derived.Test.YtbgkalolmichdaaBA
import Derived.LoopN
namespace Go.Proofs.YtbgkalolmichdaaA
open Go
set_option linter.unusedSimpArgs false
set_option linter.unusedVariables false

variable {P : Program} {c : Ctx} {σ : St} {a : Act} {w w' : World} {gh : Gh} {call : FuncId → List XV → Option Res} {R : Type}

def exOf : Ex → Exit
  | .normal => .normal
  | .exit id => .exit id
  | .ret => .ret

theorem strip_seq {a b : MCode} (h : ∀ k, a ≠ .forget k) : (MCode.seq a b).strip = .seq a.strip b.strip := by
  cases a <;> first | rfl | exact absurd rfl (h _)

theorem tr_seq {nt : Nat} {cd : Code} {x y : MCode} (h : trCode P nt cd = some (.seq x y)) : ∃ ca cb, cd = .seq ca cb ∧ trCode P nt ca = some x ∧ trCode P nt cb = some y := by
  cases cd <;> simp only [trCode] at h <;> try (simp at h; done)
  case region id ops draw =>
    cases draw <;> simp only [cond_true, cond_false] at h
    · simp at h
    · cases he : edgesOk 0 ops.toList <;> simp [he] at h
  case seq ca cb =>
    split at h
    · rename_i h1 h2; cases h; exact ⟨ca, cb, rfl, h1, h2⟩
    · cases h
  case cond o ca cb =>
    split at h <;> cases h

theorem tr_cond {nt : Nat} {cd : Code} {o : Opd} {x y : MCode} (h : trCode P nt cd = some (.cond o x y)) : ∃ o' ca cb, cd = .cond o' ca cb ∧ opdOf o' = some o ∧ trCode P nt ca = some x ∧ trCode P nt cb = some y := by
  cases cd <;> simp only [trCode] at h <;> try (simp at h; done)
  case region id ops draw =>
    cases draw <;> simp only [cond_true, cond_false] at h
    · simp at h
    · cases he : edgesOk 0 ops.toList <;> simp [he] at h
  case seq ca cb =>
    split at h <;> cases h
  case cond o ca cb =>
    split at h
    · rename_i h1 h2 h3; cases h; exact ⟨o, ca, cb, rfl, h1, h2, h3⟩
    · cases h

theorem tr_block {nt : Nat} {cd : Code} {id : Nat} {x : MCode} (h : trCode P nt cd = some (.block id x)) : ∃ ca, cd = .block id ca ∧ trCode P nt ca = some x := by
  cases cd <;> simp only [trCode] at h <;> try (simp at h; done)
  case region id ops draw =>
    cases draw <;> simp only [cond_true, cond_false] at h
    · simp at h
    · cases he : edgesOk 0 ops.toList <;> simp [he] at h
  case seq ca cb =>
    split at h <;> cases h
  case cond o ca cb =>
    split at h <;> cases h
  case block i ca =>
    obtain ⟨x', h1, h2⟩ := Option.map_eq_some_iff.1 h
    cases h2
    exact ⟨ca, rfl, h1⟩

theorem tr_loop {nt : Nat} {cd : Code} {x : MCode} (h : trCode P nt cd = some (.loop x)) : ∃ ca, cd = .loop ca ∧ trCode P nt ca = some x := by
  cases cd <;> simp only [trCode] at h <;> try (simp at h; done)
  case region id ops draw =>
    cases draw <;> simp only [cond_true, cond_false] at h
    · simp at h
    · cases he : edgesOk 0 ops.toList <;> simp [he] at h
  case seq ca cb =>
    split at h <;> cases h
  case cond o ca cb =>
    split at h <;> cases h
  case loop ca =>
    obtain ⟨x', h1, h2⟩ := Option.map_eq_some_iff.1 h
    cases h2
    exact ⟨ca, rfl, h1⟩

theorem tr_region {nt : Nat} {cd : Code} {l : List MOper} {d : Option (List Nat)} (h : trCode P nt cd = some (.region l d)) : ∃ id ops, trOps P nt ops 0 ops.toList = some l ∧ ((cd = .region id ops false ∧ d = none) ∨ (cd = .region id ops true ∧ d = some (Region.before ops).toList ∧ edgesOk 0 ops.toList = true)) := by
  cases cd <;> simp only [trCode] at h <;> try (simp at h; done)
  case region id ops draw =>
    cases draw <;> simp only [cond_true, cond_false] at h
    · obtain ⟨x', h1, h2⟩ := Option.map_eq_some_iff.1 h
      cases h2
      exact ⟨id, ops, h1, .inl ⟨rfl, rfl⟩⟩
    · cases he : edgesOk 0 ops.toList <;> simp only [he, cond_true, cond_false] at h
      · cases h
      · obtain ⟨x', h1, h2⟩ := Option.map_eq_some_iff.1 h
        cases h2
        exact ⟨id, ops, h1, .inr ⟨rfl, rfl, he⟩⟩
  case seq ca cb =>
    split at h <;> cases h
  case cond o ca cb =>
    split at h <;> cases h

theorem tr_plain {nt : Nat} {cd : Code} {m : MCode} (h : trCode P nt cd = some m) : (m = .skip → cd = .skip) ∧ (∀ id, m = .exit id → cd = .exit id) ∧ (m = .ret → cd = .ret) ∧ ∀ k, m ≠ .forget k := by
  cases cd <;> simp only [trCode] at h
  case region id ops draw =>
    cases draw <;> simp only [cond_true, cond_false] at h
    · obtain ⟨l, _, rfl⟩ := Option.map_eq_some_iff.1 h; simp
    · cases he : edgesOk 0 ops.toList <;> simp only [he, cond_true, cond_false] at h
      · cases h
      · obtain ⟨l, _, rfl⟩ := Option.map_eq_some_iff.1 h; simp
  case seq ca cb =>
    split at h <;> cases h
    simp
  case cond o ca cb =>
    split at h <;> cases h
    simp
  all_goals first | (cases h; done) | (cases h; simp; done) | (obtain ⟨x', h1, h2⟩ := Option.map_eq_some_iff.1 h; cases h2; simp)

theorem exec_sound (hmix : P.follows .mixedOrders = true) (hall : Calling P call) (n : Nat) : ∀ (m : MCode) (cd : Code) (σ : St) (a : Act) (w : World) (Q : Exit → Act → World → Prop) (k : Ex → St → Option R) (r : R),
    trCode P c.nt cd = some m.strip → G c σ a w → exec call n (c.hb.map (·.1)) m σ k = some r → (∀ e σ' a' w', G c σ' a' w' → k e σ' = some r → Q (exOf e) a' w') → cd.wp P Q a w := by
  intro m
  induction m with
  | skip =>
    intro cd σ a w Q k r ht hG h hQ
    have := (tr_plain ht).1 rfl
    subst this
    exact wp_skip (hQ .normal σ a w hG (by simpa only [exec] using h))
  | exit id =>
    intro cd σ a w Q k r ht hG h hQ
    have := (tr_plain ht).2.1 id rfl
    subst this
    exact wp_exit (hQ (.exit id) σ a w hG (by simpa only [exec] using h))
  | ret =>
    intro cd σ a w Q k r ht hG h hQ
    have := (tr_plain ht).2.2.1 rfl
    subst this
    exact wp_ret (hQ .ret σ a w hG (by simpa only [exec] using h))
  | forget keep =>
    intro cd σ a w Q k r ht hG h hQ
    exact absurd rfl ((tr_plain ht).2.2.2 keep)
  | region l d =>
    intro cd σ a w Q k r ht hG h hQ
    obtain ⟨id, ops, h1, ⟨rfl, rfl⟩ | ⟨rfl, rfl, he⟩⟩ := tr_region ht
    · simp only [exec] at h
      exact region_sound hall h1 hG h fun σ' lg a' w' hG' hk => hQ .normal σ' a' w' hG' hk
    · simp only [exec] at h
      exact region_draw hmix hall h1 he hG h fun σ' a' w' hG' hk => hQ .normal σ' a' w' hG' hk
  | cond o x y ihx ihy =>
    intro cd σ a w Q k r ht hG h hQ
    obtain ⟨o', ca, cb, rfl, h1, h2, h3⟩ := tr_cond ht
    simp only [exec] at h
    obtain ⟨p, hp, h⟩ := asPv_some h
    obtain ⟨t, hb, h⟩ := Option.bind_eq_some_iff.1 h
    have hv : a.eval o' = .bool t := by
      obtain ⟨gh, hg⟩ := hG
      have := opd_rel hg h1
      rw [hp, RV_pv, asBool_some hb] at this
      simpa only [RepV] using this
    cases t with
    | true => exact wp_cond_true hv (ihx ca σ a w Q k r h2 hG h hQ)
    | false => exact wp_cond_false hv (ihy cb σ a w Q k r h3 hG h hQ)
  | block id x ih =>
    intro cd σ a w Q k r ht hG h hQ
    obtain ⟨ca, rfl, h1⟩ := tr_block ht
    simp only [exec] at h
    refine wp_block (ih ca σ a w _ _ r h1 hG h fun e σ' a' w' hG' hk => ?_)
    cases e with
    | normal => exact hQ .normal σ' a' w' hG' hk
    | ret => exact hQ .ret σ' a' w' hG' hk
    | exit j =>
      simp only [exOf, Exit.inBlock]
      simp only at hk
      by_cases hj : j = id
      · rw [if_pos hj] at hk ⊢; exact hQ .normal σ' a' w' hG' hk
      · rw [if_neg hj] at hk ⊢; exact hQ (.exit j) σ' a' w' hG' hk
  | loop x ih =>
    intro cd σ a w Q k r ht hG h hQ
    obtain ⟨ca, rfl, h1⟩ := tr_loop ht
    simp only [exec] at h
    have key : ∀ (j : Nat) (σ : St) (a : Act) (w : World), G c σ a w → iter (exec call n (c.hb.map (·.1)) x) j σ k = some r → Code.rounds P ca Q j a w := by
      intro j
      induction j with
      | zero => intro σ a w _ h; simp only [iter] at h; cases h
      | succ j ihj =>
        intro σ a w hG h
        simp only [iter] at h
        rw [rounds_succ]
        refine ih ca σ a w _ _ r h1 hG h fun e σ' a' w' hG' hk => ?_
        cases e with
        | normal => exact ihj σ' a' w' hG' hk
        | ret => exact hQ .ret σ' a' w' hG' hk
        | exit i => exact hQ (.exit i) σ' a' w' hG' hk
    exact wp_loop_rounds n (key n σ a w hG h)
  | seq x y ihx ihy =>
    intro cd σ a w Q k r ht hG h hQ
    by_cases hf : ∃ keep, x = .forget keep
    · obtain ⟨keep, rfl⟩ := hf
      simp only [exec] at h
      obtain ⟨σ', hG', hk⟩ := forget_sound hG h
      exact ihy cd σ' a w Q k r ht hG' hk hQ
    · rw [strip_seq fun keep e => hf ⟨keep, e⟩] at ht
      obtain ⟨ca, cb, rfl, h1, h2⟩ := tr_seq ht
      simp only [exec] at h
      refine wp_seq (ihx ca σ a w _ _ r h1 hG h fun e σ' a' w' hG' hk => ?_)
      cases e with
      | normal => exact ihy cb σ' a' w' Q k r h2 hG' hk hQ
      | ret => exact hQ .ret σ' a' w' hG' hk
      | exit i => exact hQ (.exit i) σ' a' w' hG' hk

end Go.Proofs.YtbgkalolmichdaaA
