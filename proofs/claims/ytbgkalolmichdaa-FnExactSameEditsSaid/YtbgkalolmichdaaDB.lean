/- The plain values of edits. Conditions: none. -/
import Derived.Test.YtbgkalolmichdaaCC
import Derived.Test.YtbgkalolmichdaaDA
namespace Go.Proofs.YtbgkalolmichdaaA
open Go Go.Proofs
set_option linter.unusedVariables false
set_option maxRecDepth 20000

theorem maxLen_eq : maxLen = 9223372036854775807 := rfl

inductive E where
  | mk (op : Int) (name value : Str) (kids : List E)
mutual
def E.pv : E → PV
  | .mk o n v ks => .agg [.int .i64 o, .str n, .str v, .sl (E.pvs ks)]
def E.pvs : List E → List PV
  | [] => []
  | e :: es => e.pv :: E.pvs es
end
theorem E.pvs_eq : ∀ es : List E, E.pvs es = es.map E.pv
  | [] => rfl
  | e :: es => by rw [E.pvs, E.pvs_eq es]; rfl
theorem E.pv_mk (o : Int) (n v : Str) (ks : List E) : (E.mk o n v ks).pv = .agg [.int .i64 o, .str n, .str v, .sl (ks.map E.pv)] := by rw [E.pv, E.pvs_eq]

mutual
/-- Nothing in it is longer than Go lets it be. -/
def E.ok : E → Prop
  | .mk _ n v ks => n.size ≤ maxLen ∧ v.size ≤ maxLen ∧ ks.length ≤ maxLen ∧ E.oks ks
def E.oks : List E → Prop
  | [] => True
  | e :: es => e.ok ∧ E.oks es
end
theorem E.oks_mem : ∀ {es : List E}, E.oks es → ∀ e ∈ es, e.ok
  | [], _, e, h => by cases h
  | x :: es, h, e, he => by
    rw [E.oks] at h
    rcases List.mem_cons.1 he with rfl | he
    · exact h.1
    · exact E.oks_mem h.2 e he

/-- What holds for kids holds for all. -/
theorem E.ind {p : E → Prop} (h : ∀ o n v ks, (∀ k ∈ ks, p k) → p (.mk o n v ks)) : ∀ e, p e
  | .mk o n v ks => h o n v ks fun k hk => E.ind h k
def E.kids : E → List E | .mk _ _ _ ks => ks
theorem E.inds {p : List E → Prop} (h : ∀ es, (∀ e ∈ es, p e.kids) → p es) (es : List E) : p es :=
  h es fun e _ => E.ind (p := fun e => p e.kids) (fun _ _ _ ks hk => h ks hk) e

theorem okS_E : ∀ t ∈ [9, 3, 57, 25], okT Try.prog [9, 3, 57, 25] t = true := by
  intro t ht
  simp only [List.mem_cons, List.not_mem_nil, or_false] at ht
  rcases ht with rfl | rfl | rfl | rfl <;> kernel_rfl

theorem open_E : ∀ (n : Nat) (ps : List PV), TyC Try.prog n 57 ps → ∃ e : E, wrapPV true ps = e.pv ∧ e.ok := by
  intro n
  induction n using Nat.strongRecOn with
  | _ n ih =>
  intro ps h
  cases n with
  | zero => exact h.elim
  | succ n =>
    rw [TyC, Try.underlying57] at h
    obtain ⟨parts, rfl, h1, h2⟩ := h
    have h1 : parts.length = 4 := h1
    match parts, h1 with
    | [a, b, c, d], _ =>
      cases n with
      | zero => exact (h2 0 _ a rfl rfl).elim
      | succ n =>
        have ha : TyC Try.prog (n + 1) 3 a := h2 0 _ a rfl rfl
        have hb : TyC Try.prog (n + 1) 9 b := h2 1 _ b rfl rfl
        have hc : TyC Try.prog (n + 1) 9 c := h2 2 _ c rfl rfl
        have hd : TyC Try.prog (n + 1) 25 d := h2 3 _ d rfl rfl
        rw [TyC, Try.underlying3] at ha
        rw [TyC, Try.underlying9] at hb hc
        rw [TyC, Try.underlying25] at hd
        obtain ⟨o, rfl, _⟩ := ha
        obtain ⟨nm, rfl, hnm⟩ := hb
        obtain ⟨vl, rfl, hvl⟩ := hc
        obtain ⟨xs, rfl, hxl, hx⟩ := hd
        have hagg : isAggT Try.prog 57 = true := by kernel_rfl
        have key : ∀ xs : List PV, (∀ x ∈ xs, ∃ qs, TyC Try.prog n 57 qs ∧ x = wrapPV (isAggT Try.prog 57) qs) → ∃ es : List E, xs = es.map E.pv ∧ E.oks es := by
          intro xs
          induction xs with
          | nil => exact fun _ => ⟨[], rfl, trivial⟩
          | cons x xs ihx =>
            intro h
            obtain ⟨qs, q1, q2⟩ := h x (by simp)
            obtain ⟨es, he, hok⟩ := ihx fun y hy => h y (by simp [hy])
            rw [hagg] at q2
            obtain ⟨e, hq, hqo⟩ := ih n (by omega) qs q1
            exact ⟨e :: es, by rw [List.map_cons, ← hq, ← q2, he], hqo, hok⟩
        obtain ⟨es, rfl, hok⟩ := key xs hx
        rw [List.length_map] at hxl
        exact ⟨.mk o nm vl es, by rw [E.pv_mk]; rfl, hnm, hvl, hxl, hok⟩

theorem open_Es {n : Nat} {ps : List PV} (h : TyC Try.prog n 25 ps) : ∃ es : List E, ps = [.sl (es.map E.pv)] ∧ es.length ≤ maxLen ∧ E.oks es := by
  cases n with
  | zero => exact h.elim
  | succ n =>
    rw [TyC, Try.underlying25] at h
    obtain ⟨xs, rfl, hlen, hx⟩ := h
    have hagg : isAggT Try.prog 57 = true := by kernel_rfl
    have key : ∃ es : List E, xs = es.map E.pv ∧ E.oks es := by
      clear hlen
      induction xs with
      | nil => exact ⟨[], rfl, trivial⟩
      | cons x xs ih =>
        obtain ⟨qs, q1, q2⟩ := hx x (by simp)
        obtain ⟨es, he, hok⟩ := ih fun y hy => hx y (by simp [hy])
        rw [hagg] at q2
        obtain ⟨e, hq, hqo⟩ := open_E n qs q1
        exact ⟨e :: es, by rw [List.map_cons, ← hq, ← q2, he], hqo, hok⟩
    obtain ⟨es, rfl, hok⟩ := key
    rw [List.length_map] at hlen
    exact ⟨es, rfl, hlen, hok⟩

end Go.Proofs.YtbgkalolmichdaaA
