/- A law over plain types: if the abstract machine answers 'true' at every typed input, the row holds. Conditions: the program's told functions. -/
import Derived.Test.YtbgkalolmichdaaCA
import Derived.Below
import Derived.ChangeStays
import Derived.ChangeOld
import Derived.OpenShut
namespace Go.Proofs.YtbgkalolmichdaaA
open Go Go.RowKit Go.ChangeShapes
set_option linter.unusedSimpArgs false
set_option linter.unusedVariables false

variable {P : Program}

theorem tiles_sum : ∀ (fs : List Field) (off total : Nat), tiles P off fs total = true → total = off + (fs.map fun f => P.cellsOf f.type).sum ∧ ∀ (j : Nat) (f : Field), fs[j]? = some f → f.offset = off + ((fs.take j).map fun f => P.cellsOf f.type).sum
  | [], off, total, h => by
    have : off = total := beq_true h
    subst this
    exact ⟨by simp, fun j f hj => by simp at hj⟩
  | f :: fs, off, total, h => by
    simp only [tiles, Bool.and_eq_true] at h
    have ho := beq_true h.1
    obtain ⟨q1, q2⟩ := tiles_sum fs _ total h.2
    refine ⟨by rw [q1]; simp; omega, fun j g hj => ?_⟩
    cases j with
    | zero => simp at hj; subst hj; simpa using ho
    | succ j =>
      have := q2 j g (by simpa using hj)
      rw [this]; simp; omega

theorem okT_mem {S : List TypeId} {e : TypeId} (h : S.any (Nat.beq e) = true) : e ∈ S := by
  obtain ⟨y, hy, e'⟩ := List.any_eq_true.1 h
  rw [beq_true e']; exact hy

theorem kids_ok {S : List TypeId} (hS : ∀ t ∈ S, okT P S t = true) : Kids P (· ∈ S) := by
  refine ⟨fun {t e} ht hu => ?_, fun {t e} ht hu => ?_, fun {t e n} ht hu => ?_, fun {t fs} ht hu => ?_, fun {t k e} ht hu => ?_⟩
  · have := hS t ht; simp [okT, hu] at this
  · have := hS t ht
    simp only [okT, hu, Bool.and_eq_true] at this
    exact okT_mem this.1.1
  · have := hS t ht; simp [okT, hu] at this
  · have := hS t ht
    simp only [okT, hu, Bool.and_eq_true] at this
    obtain ⟨q1, q2⟩ := tiles_sum fs.toList 0 _ this.2
    exact ⟨fun f hf => okT_mem (List.all_eq_true.1 this.1 f hf), by simpa using q1, fun j f hj => by simpa using q2 j f hj⟩
  · have := hS t ht; simp [okT, hu] at this

/-- An argument's plain value. -/
def TyA (P : Program) (n : Nat) (t : TypeId) (x : XV) : Prop := ∃ ps, TyC P n t ps ∧ x = .pv (wrapPV (isAggT P t) ps)
def TyAs (P : Program) (n : Nat) : List TypeId → List XV → Prop
  | [], xs => xs = []
  | t :: ts, xs => ∃ x xs', xs = x :: xs' ∧ TyA P n t x ∧ TyAs P n ts xs'

theorem okWide_one {w : World} {r : Reach} {base : Nat} {t : TypeId} {v : Value} {S : List TypeId} (hok : okT P S t = true) (hagg : isAggT P t = false) (h : Value.okWide P w r base t v) : v.oneCell' = true := by
  unfold okT at hok
  unfold isAggT at hagg
  unfold Value.okWide at h
  cases hu : P.underlying t with
  | none => rw [hu] at hok; cases hok
  | some u =>
    rw [hu] at hok hagg h
    cases u <;> simp only at hok hagg h <;> first
      | (cases hok; done)
      | (cases hagg; done)
      | (unfold Cell.okWide at h; rw [hu] at h; unfold Cell.ok at h; rw [hu] at h; cases v <;> first | rfl | (simp at h))

theorem okWide_agg {w : World} {r : Reach} {base : Nat} {t : TypeId} {v : Value} (hagg : isAggT P t = true) (h : Value.okWide P w r base t v) : ∃ cs, v = .agg cs := by
  unfold isAggT at hagg
  unfold Value.okWide at h
  cases hu : P.underlying t with
  | none => rw [hu] at hagg; cases hagg
  | some u =>
    rw [hu] at hagg h
    cases u <;> simp only at hagg h <;> first
      | (cases hagg; done)
      | (obtain ⟨cs, h, _⟩ := h; exact ⟨cs, h⟩)

theorem TyC_succ : ∀ (n : Nat) (t : TypeId) (ps : List PV), TyC P n t ps → TyC P (n + 1) t ps
  | 0, _, _, h => h.elim
  | n + 1, t, ps, h => by
    rw [TyC] at h ⊢
    split at h
    · exact h
    · exact h
    · exact h
    · obtain ⟨xs, h1, h2, h3⟩ := h
      exact ⟨xs, h1, h2, fun x hx => by obtain ⟨qs, h4, h5⟩ := h3 x hx; exact ⟨qs, TyC_succ n _ _ h4, h5⟩⟩
    · obtain ⟨parts, h1, h2, h3⟩ := h
      exact ⟨parts, h1, h2, fun i f part hi hp => TyC_succ n _ _ (h3 i f part hi hp)⟩
    · exact h
theorem TyC_le {n m : Nat} (hnm : n ≤ m) {t : TypeId} {ps : List PV} (h : TyC P n t ps) : TyC P m t ps := by
  induction hnm with
  | refl => exact h
  | step _ ih => exact TyC_succ _ _ _ ih
theorem TyAs_le {n m : Nat} (hnm : n ≤ m) : ∀ {ts : List TypeId} {xs : List XV}, TyAs P n ts xs → TyAs P m ts xs
  | [], xs, h => h
  | t :: ts, xs, ⟨x, xs', e, ⟨ps, h1, h2⟩, h3⟩ => ⟨x, xs', e, ⟨ps, TyC_le hnm h1, h2⟩, TyAs_le hnm h3⟩

theorem open_args {H : Type} {enc : TypeId × Value → H} {W : World} {S : List TypeId} (hS : ∀ t ∈ S, okT P S t = true) {base0 base : Nat} {sp : Nat → Bool} {held : Bool} : ∀ (ts : List TypeId) (vs : List Value) (ds : List (DataW H)) (p : List MemPlace), (∀ t ∈ ts, t ∈ S) →
    (∀ (j : Nat) (t : TypeId) (v : Value), ts[j]? = some t → vs[j]? = some v → Value.okWide P W .any base0 t v) → DataW.TrodAll enc P W base sp held ts vs ds p → ∃ n xs, TyAs P n ts xs ∧ AR W (old W) xs vs []
  | [], vs, ds, p, _, _, h => by
    cases vs <;> cases ds <;> simp only [DataW.TrodAll] at h
    exact ⟨0, [], rfl, rfl, rfl⟩
  | t :: ts, [], ds, p, _, _, h => by cases ds <;> simp [DataW.TrodAll] at h
  | t :: ts, v :: vs, [], p, _, _, h => by simp [DataW.TrodAll] at h
  | t :: ts, v :: vs, d :: ds, p, hts, hok, h => by
    obtain ⟨p1, p2, ⟨fuel, h1⟩, h2, rfl⟩ := h
    obtain ⟨m, xs, q1, q2⟩ := open_args hS ts vs ds p2 (fun u hu => hts u (by simp [hu])) (fun j u z hj hz => hok (j + 1) u z (by simpa using hj) (by simpa using hz)) h2
    have htS := hts t (by simp)
    obtain ⟨ps, h3, h4⟩ := open_cells hS fuel t _ _ htS h1
    have hv := hok 0 t v rfl rfl
    have hrep : RepV W (old W) (wrapPV (isAggT P t) ps) v := by
      cases ha : isAggT P t with
      | true =>
        obtain ⟨cs, rfl⟩ := okWide_agg ha hv
        exact ⟨cs, rfl, by simpa [Value.cells] using h4⟩
      | false =>
        have h1 := okWide_one (hS t htS) ha hv
        rw [one_cells h1] at h4
        have hl := RepL_len h4
        cases ps with
        | nil => simp at hl
        | cons q ps =>
          simp only [RepL] at h4
          obtain ⟨v', vs', e1, _, e3, _⟩ := h4
          cases e1
          exact e3
    exact ⟨max fuel m, _, ⟨_, xs, rfl, ⟨ps, TyC_le (Nat.le_max_left _ _) h3, rfl⟩, TyAs_le (Nat.le_max_right _ _) q1⟩, v, vs, [], [], rfl, rfl, ⟨hrep, rfl⟩, q2⟩

theorem below_of_post {W W' : World} {I I' : Imm} {outs : List XV} {r : XV} {v : Value} {own : List Nat} (h : Post W I [] outs r W' v I' own) : Below W.heap.size W W' :=
  ⟨h.os, h.tape, h.output, h.size, fun b hb => h.frame b hb (by simp)⟩

theorem shut_args {H : Type} {enc : TypeId × Value → H} {W W' : World} {S : List TypeId} (hS : ∀ t ∈ S, okT P S t = true) (hb : Below W.heap.size W W') : ∀ (ts : List TypeId) (vs : List Value) (ds : List (DataW H)) (p : List MemPlace), (∀ t ∈ ts, t ∈ S) →
    DataW.TrodAll enc P W 0 (fun _ => true) true ts vs ds p → DataW.TrodAll enc P W' 0 (fun b => decide (b < W.heap.size)) true ts vs ds p
  | [], vs, ds, p, _, h => by
    cases vs <;> cases ds <;> simp only [DataW.TrodAll] at h ⊢
    exact h
  | t :: ts, [], ds, p, _, h => by cases ds <;> simp [DataW.TrodAll] at h
  | t :: ts, v :: vs, [], p, _, h => by simp [DataW.TrodAll] at h
  | t :: ts, v :: vs, d :: ds, p, hts, h => by
    obtain ⟨p1, p2, ⟨fuel, h1⟩, h2, rfl⟩ := h
    have hlt : ∀ q ∈ p1, q.block < W.heap.size := fun q hq => DataW.trod_lt fuel t _ _ h1 q hq
    refine ⟨p1, p2, ⟨fuel, ?_⟩, shut_args hS hb ts vs ds p2 (fun u hu => hts u (by simp [hu])) h2, rfl⟩
    refine DataW.trod_stays (kids_ok hS) (fun {t e} ht hu => ?_) (fun h => by cases h) (hts t (by simp)) h1 (fun q hq => hb.same (hlt q hq)) (fun q hq => by simpa using hlt q hq)
    have := hS t ht
    simp only [okT, hu, Bool.and_eq_true] at this
    exact Nat_ble this.1.2

end Go.Proofs.YtbgkalolmichdaaA
