/- A law over plain types: if the abstract machine answers 'true' at every typed input, the call keeps the row's word. Conditions: the program's told functions. -/
import Derived.Test.YtbgkalolmichdaaCB
import Derived.RowKit
namespace Go.Proofs.YtbgkalolmichdaaA
open Go Go.RowKit Go.ChangeShapes
set_option linter.unusedSimpArgs false
set_option linter.unusedVariables false

variable {P : Program} {prim : FuncId → Option (List XV → Option Res)} {code : FuncId → Option MFunc}

theorem trodAll_len {H : Type} {enc : TypeId × Value → H} {W : World} {base : Nat} {sp : Nat → Bool} {held : Bool} : ∀ {ts : List TypeId} {vs : List Value} {ds : List (DataW H)} {p : List MemPlace}, DataW.TrodAll enc P W base sp held ts vs ds p → ds.length = ts.length
  | [], vs, ds, p, h => by cases vs <;> cases ds <;> simp only [DataW.TrodAll] at h; rfl
  | t :: ts, [], ds, p, h => by cases ds <;> simp [DataW.TrodAll] at h
  | t :: ts, v :: vs, [], p, h => by simp [DataW.TrodAll] at h
  | t :: ts, v :: vs, d :: ds, p, h => by
    obtain ⟨p1, p2, _, h2, _⟩ := h
    simp [trodAll_len h2]

theorem law_calls {H : Type} {enc : TypeId × Value → H} {f : FuncId} {fn : Func} {s : ChangeSpec} {S : List TypeId} {tb : TypeId} (hT : Told P prim code) (hS : ∀ t ∈ S, okT P S t = true) (hts : ∀ t ∈ fn.params.toList, t ∈ S)
    (hvars : s.vars = []) (hres : fn.resultTypes = #[tb]) (htb : P.underlying tb = some .bool) (hspec : ∀ ds : List (DataW H), ds.length = fn.params.size → s.fn H ds = { results := [.lit (.bool true)], args := ds })
    (hans : ∀ n xs, TyAs P n fn.params.toList xs → ∃ m, ev prim code m f xs = some ([], .pv (.bool true))) (W : World) (base : Nat) (args : Array Value) (ds gs : List (DataW H)) (before : List MemPlace)
    (hval : ∀ (j : Nat) t v, fn.params[j]? = some t → args[j]? = some v → Value.okWide P W .any base t v) (hW : DataW.Whole enc P fn.params.toList s.vars false W args.toList ds gs before) :
    Calls P f args W fun e W' => ∃ v, e = .returned v ∧ s.post enc P fn false true false false W args v W' := by
  have hW' := hW
  obtain ⟨p, q, hA, hV, rfl, _, _⟩ := hW
  have hg : gs = [] ∧ q = [] := by
    rw [hvars] at hV
    cases gs with
    | nil => exact ⟨rfl, by simpa [DataW.TrodVars] using hV⟩
    | cons => simp [DataW.TrodVars] at hV
  obtain ⟨rfl, rfl⟩ := hg
  obtain ⟨n, xs, hty, hAR⟩ := open_args hS fn.params.toList args.toList ds p hts (fun j t v hj hv => hval j t v (by simpa using hj) (by simpa using hv)) hA
  obtain ⟨m, hev⟩ := hans n xs hty
  have hs := (ev_calling hT m f xs _ hev).2 xs [] _ hev args.toList [] W (old W) hAR List.nodup_nil (fun b o h => h)
  rw [Array.toArray_toList] at hs
  refine Calls.mono hs fun e W' hp => ?_
  cases e with
  | panicked _ => exact hp.elim
  | outgrown => exact hp.elim
  | returned v =>
    obtain ⟨I', own, hp⟩ := hp
    have hb := below_of_post hp
    have hv : v = .bool true := by
      have := hp.res
      simp only [RR, R1, RepV] at this
      exact this.1
    subst hv
    have hsp := hspec (ds ++ []) (by simpa using trodAll_len hA)
    obtain ⟨pr, hpr⟩ : ∃ pr, DataW.Trod enc P W' W.heap.size (fun _ => false) false tb (.bool true) (.lit (.bool true)) pr := ⟨_, shut_bool htb true⟩
    refine ⟨_, rfl, ds, [], _, pr, p, [], hW', ?_, ?_, ?_, hb.frame _, fun h => by cases h⟩
    · rw [hsp, hres]
      exact trodAll_mk1 hpr
    · rw [hsp, List.append_nil]
      exact shut_args hS hb fn.params.toList args.toList ds p hts hA
    · rw [hvars, hsp]; rfl

end Go.Proofs.YtbgkalolmichdaaA
