/- All told functions at once: what `ev` answers, the program's functions answer. Conditions: the contracts of the primitive functions. -/
import Derived.Test.YtbgkalolmichdaaAW
namespace Go.Proofs.YtbgkalolmichdaaA
open Go

variable {P : Program} {prim : FuncId → Option (List XV → Option Res)} {code : FuncId → Option MFunc}

structure Told (P : Program) (prim : FuncId → Option (List XV → Option Res)) (code : FuncId → Option MFunc) : Prop where
  mixed : P.follows .mixedOrders = true
  prims : ∀ f F, prim f = some F → Enters P f ∧ Sound P f F
  codes : ∀ f m, code f = some m → ∃ fn, P.funcs[f]? = some fn ∧ fits P fn m ∧ (fn.name == "runtime.NumGoroutine") = false

theorem ev_calling (h : Told P prim code) : ∀ n, Calling P (ev prim code n)
  | 0 => fun f args r he => by simp only [ev] at he; cases he
  | n + 1 => fun f args r he => by
    have ih := ev_calling h n
    cases hp : prim f with
    | some F =>
      have e : ev prim code (n + 1) f = F := by funext a; simp only [ev, hp]
      rw [e]; exact h.prims f F hp
    | none =>
      cases hc : code f with
      | none => simp only [ev, hp, hc] at he; cases he
      | some m =>
        obtain ⟨fn, h1, h2, h3⟩ := h.codes f m hc
        obtain ⟨cd, hb, _⟩ := id h2
        refine ⟨⟨fn, h1, by rw [hb]; rfl, h3⟩, ?_⟩
        refine Eq.mp (congrArg (Sound P f) ?_) (fun_sound h1 h2 h.mixed ih n)
        funext a
        simp only [ev, hp, hc]
        rfl

end Go.Proofs.YtbgkalolmichdaaA
