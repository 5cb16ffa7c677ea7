/- An operation of the abstract machine tells first what it does, and then goes on. Conditions: none. -/
import Derived.Test.YtbgkalolmichdaaAD
namespace Go.Proofs.YtbgkalolmichdaaA
open Go

def slOf (σ : St) (a : AV) : Option (List PV × List Nat) := slK σ a fun xs l => some (xs, l)
def cellsOf (n : Nat) (a : AV) : Option (List AV) := cellsK n a some
def partsOf (σ : St) (cells : List AV) (l : List (Nat × Nat × Opd)) : Option (List AV) := partsK σ cells l some
def optOf (σ : St) (x : Option Opd) (dflt : Int) : Option Int := optInt σ x dflt some
def backOf (bx : List Nat) (outs : List XV) : Option (List (Nat × Obj)) := backK bx outs some
def pvOfAV (a : AV) : Option PV := asPv a some

section
variable {R : Type}

theorem bind_some' {α : Type} (x : Option α) : x.bind some = x := by cases x <;> rfl
theorem cond_bind {α : Type} (b : Bool) (x : Option α) (k : α → Option R) : (bif b then x else none).bind k = bif b then x.bind k else none := by cases b <;> rfl
theorem cond_bind' {α : Type} (b : Bool) (x : Option α) (k : α → Option R) : (bif b then none else x).bind k = bif b then none else x.bind k := by cases b <;> rfl
theorem ite_bind {α : Type} (p : Prop) [Decidable p] (x : Option α) (k : α → Option R) : (if p then x else none).bind k = if p then x.bind k else none := by split <;> rfl

theorem slK_eq (σ : St) (a : AV) (k : List PV → List Nat → Option R) : slK σ a k = (slOf σ a).bind fun p => k p.1 p.2 := by
  unfold slOf
  cases a <;> simp only [slK, Option.bind_none, Option.bind_some, Option.bind_assoc]
  split <;> rfl
theorem cellsK_eq (n : Nat) (a : AV) (k : List AV → Option R) : cellsK n a k = (cellsOf n a).bind k := by
  unfold cellsOf
  cases n <;> cases a <;> simp only [cellsK, Option.bind_none, Option.bind_some, cond_bind]
theorem partsK_eq (σ : St) (l : List (Nat × Nat × Opd)) : ∀ (cells : List AV) (k : List AV → Option R), partsK σ cells l k = (partsOf σ cells l).bind k := by
  unfold partsOf
  induction l with
  | nil => intro cells k; rfl
  | cons p l ih =>
    intro cells k
    obtain ⟨off, n, x⟩ := p
    simp only [partsK, cellsK_eq, Option.bind_assoc]
    congr 1; funext cs
    exact ih _ _
theorem optInt_eq (σ : St) (x : Option Opd) (dflt : Int) (k : Int → Option R) : optInt σ x dflt k = (optOf σ x dflt).bind k := by
  unfold optOf
  cases x with
  | none => rfl
  | some x => simp only [optInt]; split <;> simp
theorem asPv_eq (a : AV) (k : PV → Option R) : asPv a k = (pvOfAV a).bind k := by
  unfold pvOfAV
  cases a <;> rfl
theorem backK_all (bx : List Nat) : ∀ (R : Type) (outs : List XV) (k : List (Nat × Obj) → Option R), backK bx outs k = (backOf bx outs).bind k := by
  unfold backOf
  induction bx with
  | nil => intro R outs k; cases outs <;> rfl
  | cons g bx ih =>
    intro R outs k
    cases outs with
    | nil => rfl
    | cons x outs =>
      cases x <;> simp only [backK, Option.bind_none]
      rename_i cs
      have h2 := ih (List (Nat × Obj)) outs fun l => some ((g, Obj.box (cs.map .pv) true) :: l)
      rw [ih R, h2]
      simp only [Option.bind_assoc, Option.bind_some]
theorem backK_eq (bx : List Nat) (outs : List XV) (k : List (Nat × Obj) → Option R) : backK bx outs k = (backOf bx outs).bind k := backK_all bx R outs k

theorem callK_eq (σ : St) (call : FuncId → List XV → Option Res) (d : Nat) (f : FuncId) (as : List AV) (extra : List PV) (sh0 fz0 : List Nat) (k : Out → Option R) :
    callK σ call d f as extra sh0 fz0 k = (callK σ call d f as extra sh0 fz0 some).bind k := by
  simp only [callK, backK_eq]
  split
  · rw [cond_bind]
    congr 1
    rw [Option.bind_assoc]
    congr 1; funext r
    rw [Option.bind_assoc]
    congr 1; funext l
    split
    · rw [cond_bind]; rfl
    · rfl
  · rfl

theorem stepK_eq (call : FuncId → List XV → Option Res) (d : Nat) (σ : St) (o : MOp) (k : Out → Option R) :
    stepK call d σ o k = (stepK call d σ o some).bind k := by
  cases o <;> simp only [stepK, slK_eq, cellsK_eq, partsK_eq, optInt_eq, asPv_eq, callK_eq _ _ _ _ _ _ _ _ k, Option.bind_assoc, Option.bind_some, cond_bind, ite_bind]
  all_goals
    repeat' first
      | rfl
      | split
      | (simp only [Option.bind_assoc, Option.bind_some, cond_bind, cond_bind', ite_bind, Option.bind_none]; done)
      | simp only [Option.bind_assoc, Option.bind_some, cond_bind, cond_bind', ite_bind, Option.bind_none]
      | (congr 1; done)
      | (congr 1; funext _)
end
end Go.Proofs.YtbgkalolmichdaaA
