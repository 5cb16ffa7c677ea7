/- The plain values of nodes. Conditions: none. -/
import Derived.Test.YtbgkalolmichdaaCC
import Derived.Test.YtbgkalolmichdaaDA
import Derived.Test.YtbgkalolmichdaaDB0
namespace Go.Proofs.YtbgkalolmichdaaA
open Go Go.Proofs
set_option linter.unusedVariables false
set_option maxRecDepth 20000

inductive Nd where
  | mk (name value : Str) (kids : List Nd)
mutual
def Nd.pv : Nd → PV
  | .mk n v ks => .agg [.str n, .str v, .sl (Nd.pvs ks)]
def Nd.pvs : List Nd → List PV
  | [] => []
  | e :: es => e.pv :: Nd.pvs es
end
theorem Nd.pvs_eq : ∀ es : List Nd, Nd.pvs es = es.map Nd.pv
  | [] => rfl
  | e :: es => by rw [Nd.pvs, Nd.pvs_eq es]; rfl
theorem Nd.pv_mk (n v : Str) (ks : List Nd) : (Nd.mk n v ks).pv = .agg [.str n, .str v, .sl (ks.map Nd.pv)] := by rw [Nd.pv, Nd.pvs_eq]

mutual
/-- Nothing in it is longer than Go lets it be. -/
def Nd.ok : Nd → Prop
  | .mk n v ks => n.size ≤ maxLen ∧ v.size ≤ maxLen ∧ ks.length ≤ maxLen ∧ Nd.oks ks
def Nd.oks : List Nd → Prop
  | [] => True
  | e :: es => e.ok ∧ Nd.oks es
end
theorem Nd.oks_mem : ∀ {es : List Nd}, Nd.oks es → ∀ e ∈ es, e.ok
  | [], _, e, h => by cases h
  | x :: es, h, e, he => by
    rw [Nd.oks] at h
    rcases List.mem_cons.1 he with rfl | he
    · exact h.1
    · exact Nd.oks_mem h.2 e he

/-- What holds for kids holds for all. -/
theorem Nd.ind {p : Nd → Prop} (h : ∀ n v ks, (∀ k ∈ ks, p k) → p (.mk n v ks)) : ∀ e, p e
  | .mk n v ks => h n v ks fun k hk => Nd.ind h k
def Nd.kids : Nd → List Nd | .mk _ _ ks => ks
theorem Nd.inds {p : List Nd → Prop} (h : ∀ es, (∀ e ∈ es, p e.kids) → p es) (es : List Nd) : p es :=
  h es fun e _ => Nd.ind (p := fun e => p e.kids) (fun _ _ ks hk => h ks hk) e

theorem okS_Nd : ∀ t ∈ [9, 64, 33], okT Try.prog [9, 64, 33] t = true := by
  intro t ht
  simp only [List.mem_cons, List.not_mem_nil, or_false] at ht
  rcases ht with rfl | rfl | rfl <;> kernel_rfl

theorem open_Nd : ∀ (n : Nat) (ps : List PV), TyC Try.prog n 64 ps → ∃ e : Nd, wrapPV true ps = e.pv ∧ e.ok := by
  intro n
  induction n using Nat.strongRecOn with
  | _ n ih =>
  intro ps h
  cases n with
  | zero => exact h.elim
  | succ n =>
    rw [TyC, Try.underlying64] at h
    obtain ⟨parts, rfl, h1, h2⟩ := h
    have h1 : parts.length = 3 := h1
    match parts, h1 with
    | [b, c, d], _ =>
      cases n with
      | zero => exact (h2 0 _ b rfl rfl).elim
      | succ n =>
        have hb : TyC Try.prog (n + 1) 9 b := h2 0 _ b rfl rfl
        have hc : TyC Try.prog (n + 1) 9 c := h2 1 _ c rfl rfl
        have hd : TyC Try.prog (n + 1) 33 d := h2 2 _ d rfl rfl
        rw [TyC, Try.underlying9] at hb hc
        rw [TyC, Try.underlying33] at hd
        obtain ⟨nm, rfl, hnm⟩ := hb
        obtain ⟨vl, rfl, hvl⟩ := hc
        obtain ⟨xs, rfl, hxl, hx⟩ := hd
        have hagg : isAggT Try.prog 64 = true := by kernel_rfl
        have key : ∀ xs : List PV, (∀ x ∈ xs, ∃ qs, TyC Try.prog n 64 qs ∧ x = wrapPV (isAggT Try.prog 64) qs) → ∃ es : List Nd, xs = es.map Nd.pv ∧ Nd.oks es := by
          intro xs
          induction xs with
          | nil => exact fun _ => ⟨[], rfl, trivial⟩
          | cons x xs ihx =>
            intro h
            obtain ⟨qs, q1, q2⟩ := h x (by simp)
            obtain ⟨es, he, hok⟩ := ihx fun y hy => h y (by simp [hy])
            rw [hagg] at q2
            obtain ⟨e, hq, hqo⟩ := ih n (by omega) qs q1
            exact ⟨e :: es, by rw [List.map_cons, ← hq, ← q2, he], hqo, hok⟩
        obtain ⟨es, rfl, hok⟩ := key xs hx
        rw [List.length_map] at hxl
        exact ⟨.mk nm vl es, by rw [Nd.pv_mk]; rfl, hnm, hvl, hxl, hok⟩

theorem open_Nds {n : Nat} {ps : List PV} (h : TyC Try.prog n 33 ps) : ∃ es : List Nd, ps = [.sl (es.map Nd.pv)] ∧ es.length ≤ maxLen ∧ Nd.oks es := by
  cases n with
  | zero => exact h.elim
  | succ n =>
    rw [TyC, Try.underlying33] at h
    obtain ⟨xs, rfl, hlen, hx⟩ := h
    have hagg : isAggT Try.prog 64 = true := by kernel_rfl
    have key : ∃ es : List Nd, xs = es.map Nd.pv ∧ Nd.oks es := by
      clear hlen
      induction xs with
      | nil => exact ⟨[], rfl, trivial⟩
      | cons x xs ih =>
        obtain ⟨qs, q1, q2⟩ := hx x (by simp)
        obtain ⟨es, he, hok⟩ := ih fun y hy => hx y (by simp [hy])
        rw [hagg] at q2
        obtain ⟨e, hq, hqo⟩ := open_Nd n qs q1
        exact ⟨e :: es, by rw [List.map_cons, ← hq, ← q2, he], hqo, hok⟩
    obtain ⟨es, rfl, hok⟩ := key
    rw [List.length_map] at hlen
    exact ⟨es, rfl, hlen, hok⟩

end Go.Proofs.YtbgkalolmichdaaA
