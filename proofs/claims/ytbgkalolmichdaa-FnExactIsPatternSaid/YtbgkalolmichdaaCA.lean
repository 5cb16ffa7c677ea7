/- What a call is handed, read as plain values. Conditions: the types are plain ones (truth values, integers, strings, slices and structs of such). -/
import Derived.Test.YtbgkalolmichdaaAX
import Derived.ChangeArms
import Derived.ChangeShapes
namespace Go.Proofs.YtbgkalolmichdaaA
open Go
set_option linter.unusedSimpArgs false
set_option linter.unusedVariables false

variable {P : Program} {w : World}

def wrapPV (agg : Bool) (qs : List PV) : PV := match agg with | true => .agg qs | false => qs.headD .nilp

/-- Plain values in the cells of a type. -/
def TyC (P : Program) : Nat → TypeId → List PV → Prop
  | 0, _, _ => False
  | n + 1, t, ps => match P.underlying t with
    | some .bool => ∃ b, ps = [.bool b]
    | some (.int k) => ∃ i, ps = [.int k i] ∧ (Lit.int k i).wf = true
    | some .string => ∃ s : ByteArray, ps = [.str s] ∧ s.size ≤ maxLen
    | some (.slice e) => ∃ xs, ps = [.sl xs] ∧ xs.length ≤ maxLen ∧ ∀ x ∈ xs, ∃ qs, TyC P n e qs ∧ x = wrapPV (isAggT P e) qs
    | some (.struct fs) => ∃ parts : List (List PV), ps = parts.flatten ∧ parts.length = fs.size ∧ ∀ (i : Nat) (f : Field) (part : List PV), fs[i]? = some f → parts[i]? = some part → TyC P n f.type part
    | _ => False

def tiles (P : Program) : Nat → List Field → Nat → Bool
  | off, [], total => Nat.beq off total
  | off, f :: fs, total => Nat.beq f.offset off && tiles P (off + P.cellsOf f.type) fs total

def okT (P : Program) (S : List TypeId) (t : TypeId) : Bool :=
  match P.underlying t with
  | some .bool | some .string | some (.int _) => true
  | some (.slice e) => S.any (Nat.beq e) && Nat.ble 1 (P.cellsOf e) && (isAggT P e || Nat.beq (P.cellsOf e) 1)
  | some (.struct fs) => fs.toList.all (fun f => S.any (Nat.beq f.type)) && tiles P 0 fs.toList (P.cellsOf t)
  | _ => false

def old (w : World) : Imm := fun b _ => b < w.heap.size

theorem RepL_app {I : Imm} : ∀ {ps qs : List PV} {vs us : List Value}, RepL w I ps vs → RepL w I qs us → RepL w I (ps ++ qs) (vs ++ us)
  | [], qs, vs, us, h, h2 => by simp only [RepL] at h; subst h; exact h2
  | p :: ps, qs, vs, us, h, h2 => by
    simp only [RepL] at h
    obtain ⟨v, vs', rfl, h3, h4, h5⟩ := h
    exact ⟨v, vs' ++ us, rfl, h3, h4, RepL_app h5 h2⟩

theorem open_fields {n : Nat} {cs : List Value} : ∀ (fs : List Field) (off : Nat), tiles P off fs cs.length = true → (∀ f ∈ fs, ∃ ps, TyC P n f.type ps ∧ RepL w (old w) ps ((cs.drop f.offset).take (P.cellsOf f.type))) →
    ∃ parts : List (List PV), parts.length = fs.length ∧ RepL w (old w) parts.flatten (cs.drop off) ∧ ∀ (i : Nat) (f : Field) (part : List PV), fs[i]? = some f → parts[i]? = some part → TyC P n f.type part
  | [], off, ht, _ => by
    have : off = cs.length := beq_true ht
    subst this
    exact ⟨[], rfl, by simp [RepL], fun i f part h => by simp at h⟩
  | f :: fs, off, ht, h => by
    simp only [tiles, Bool.and_eq_true] at ht
    have ho := beq_true ht.1
    obtain ⟨ps, h1, h2⟩ := h f (by simp)
    obtain ⟨parts, q1, q2, q3⟩ := open_fields fs (off + P.cellsOf f.type) ht.2 fun g hg => h g (by simp [hg])
    refine ⟨ps :: parts, by simp [q1], ?_, fun i g part hi hp => ?_⟩
    · rw [List.flatten_cons, ← List.take_append_drop (P.cellsOf f.type) (cs.drop off), List.drop_drop]
      rw [ho] at h2
      exact RepL_app h2 q2
    · cases i with
      | zero => simp at hi hp; subst hi hp; exact h1
      | succ i => exact q3 i g part (by simpa using hi) (by simpa using hp)

theorem open_elems {I : Imm} {T : PV → Prop} {b s : Nat} : ∀ (len i0 off : Nat), (∀ i, i0 ≤ i → i < i0 + len → ∃ x v, T x ∧ RepV w I x v ∧ v.cells.size = s ∧ CellsAt w I b (off + i * s) v.cells.toList) →
    ∃ xs : List PV, xs.length = len ∧ (∀ x ∈ xs, T x) ∧ RepE w I s xs b (off + i0 * s)
  | 0, i0, off, _ => ⟨[], rfl, fun x hx => (by cases hx), by simp [RepE]⟩
  | len + 1, i0, off, h => by
    obtain ⟨x, v, h1, h2, h3, h4⟩ := h i0 (by omega) (by omega)
    obtain ⟨xs, q1, q2, q3⟩ := open_elems len (i0 + 1) off fun i hi hj => h i (by omega) (by omega)
    refine ⟨x :: xs, by simp [q1], fun y hy => ?_, ?_⟩
    · rcases List.mem_cons.1 hy with rfl | hy
      · exact h1
      · exact q2 y hy
    · simp only [RepE]
      refine ⟨⟨v, h2, h3, h4⟩, ?_⟩
      rw [Nat.add_mul, Nat.one_mul, ← Nat.add_assoc] at q3
      exact q3

theorem cells?_get {base : Nat} {a : Addr} {n : Nat} {cs : List Value} (h : w.cells? base a n = some cs) : cs.length = n ∧ ∀ j c, cs[j]? = some c → w.cell? (a.add j) = some c := by
  unfold World.cells? at h
  split at h
  · have key : ∀ (l : List Nat) (cs : List Value), l.mapM (fun i => w.cell? (a.add i)) = some cs → cs.length = l.length ∧ ∀ (j i : Nat), l[j]? = some i → ∀ (c : Value), cs[j]? = some c → w.cell? (a.add i) = some c := by
      intro l
      induction l with
      | nil => intro cs h; simp at h; subst h; exact ⟨rfl, fun j i hj => by simp at hj⟩
      | cons i l ih =>
        intro cs h
        rw [List.mapM_cons] at h
        obtain ⟨v, h1, h⟩ := Option.bind_eq_some_iff.1 h
        obtain ⟨vs, h2, h⟩ := Option.bind_eq_some_iff.1 h
        cases h
        obtain ⟨q1, q2⟩ := ih vs h2
        refine ⟨by simp [q1], fun j k hj c hc => ?_⟩
        cases j with
        | zero => simp at hj hc; subst hj hc; exact h1
        | succ j => exact q2 j k (by simpa using hj) c (by simpa using hc)
    obtain ⟨q1, q2⟩ := key _ cs h
    simp at q1
    refine ⟨q1, fun j c hj => q2 j j ?_ c hj⟩
    rw [List.getElem?_range]
    rw [← q1]; exact (List.getElem?_eq_some_iff.1 hj).1
  · cases h

theorem cell?_some {a : Addr} {c : Value} (h : w.cell? a = some c) : a.spot = none ∧ a.block < w.heap.size := by
  unfold World.cell? at h
  split at h
  · rename_i cs T fz hh
    refine ⟨?_, size_of_block hh⟩
    cases hs : a.spot with
    | none => rfl
    | some k => rw [hs] at h; simp at h
  · cases h

theorem open_cells {H : Type} {enc : TypeId × Value → H} {S : List TypeId} (hS : ∀ t ∈ S, okT P S t = true) {base : Nat} {sp : Nat → Bool} {held : Bool} : ∀ (n : Nat) (t : TypeId) (cs : List Value) (x : DataW H × List MemPlace), t ∈ S →
    DataW.trod enc P w base sp held n t cs = some x → ∃ ps, TyC P n t ps ∧ RepL w (old w) ps cs
  | 0, t, cs, x, _, h => by simp [DataW.trod] at h
  | n + 1, t, cs, x, ht, h => by
    have hok := hS t ht
    unfold okT at hok
    have mem : ∀ {e : TypeId}, S.any (Nat.beq e) = true → e ∈ S := fun {e} h => by
      obtain ⟨y, hy, e'⟩ := List.any_eq_true.1 h
      rw [beq_true e']; exact hy
    split at hok
    · rename_i hu
      obtain ⟨b, rfl, _⟩ := DataW.trod_bool hu h
      exact ⟨[.bool b], by simp only [TyC, hu]; exact ⟨b, rfl⟩, _, _, rfl, rfl, by simp [RepV], by simp [RepL]⟩
    · rename_i hu
      obtain ⟨s, rfl, _, hs⟩ := DataW.trod_string hu h
      exact ⟨[.str s], by simp only [TyC, hu]; exact ⟨s, rfl, hs⟩, _, _, rfl, rfl, by simp [RepV], by simp [RepL]⟩
    · rename_i k hu
      obtain ⟨i, rfl, _, hi⟩ := DataW.trod_int hu h
      exact ⟨[.int k i], by simp only [TyC, hu]; exact ⟨i, rfl, hi⟩, _, _, rfl, rfl, by simp [RepV], by simp [RepL]⟩
    · rename_i e hu
      simp only [Bool.and_eq_true] at hok
      obtain ⟨⟨h1, h2⟩, h3⟩ := hok
      have he := mem h1
      have h2 := Nat_ble h2
      rcases DataW.trod_slice hu h with ⟨rfl, _⟩ | ⟨ad, len, cap, elems, rest, m, hm, rfl, _, _, hl, hc, hlen, hel, _⟩
      · exact ⟨[.sl []], by simp only [TyC, hu]; exact ⟨[], rfl, Nat.zero_le _, fun x hx => by cases hx⟩, _, _, rfl, rfl, .inl ⟨rfl, .inl rfl⟩, by simp [RepL]⟩
      · cases hm
        have each : ∀ i, i < len → ∃ ecs ps, w.cells? base (ad.add (i * P.cellsOf e)) (P.cellsOf e) = some ecs ∧ TyC P n e ps ∧ RepL w (old w) ps ecs := fun i hi => by
          have h4 := hel i hi
          rw [List.getElem?_eq_getElem (by omega)] at h4
          obtain ⟨ecs, h5, h6⟩ := Option.bind_eq_some_iff.1 h4
          obtain ⟨ps, h7, h8⟩ := open_cells hS n e ecs _ he h6
          exact ⟨ecs, ps, h5, h7, h8⟩
        by_cases hl0 : len = 0
        · subst hl0
          exact ⟨[.sl []], by simp only [TyC, hu]; exact ⟨[], rfl, Nat.zero_le _, fun x hx => by cases hx⟩, _, _, rfl, rfl, .inl ⟨rfl, .inr ⟨ad, cap, rfl, hc⟩⟩, by simp [RepL]⟩
        · have hspot : ad.spot = none := by
            obtain ⟨ecs, ps, h4, _⟩ := each 0 (by omega)
            obtain ⟨q1, q2⟩ := cells?_get h4
            obtain ⟨v, hv⟩ : ∃ v, ecs[0]? = some v := ⟨ecs[0]'(by omega), List.getElem?_eq_getElem _⟩
            have := (cell?_some (q2 0 v hv)).1
            simpa [Addr.add] using this
          obtain ⟨b, off, spot⟩ := ad
          simp only at hspot
          subst hspot
          obtain ⟨xs, q1, q2, q3⟩ := open_elems (w := w) (I := old w) (T := fun x => ∃ qs, TyC P n e qs ∧ x = wrapPV (isAggT P e) qs) (b := b) (s := P.cellsOf e) len 0 off fun i _ hi => by
            obtain ⟨ecs, ps, h4, h5, h6⟩ := each i (by omega)
            obtain ⟨r1, r2⟩ := cells?_get h4
            have hcells : CellsAt w (old w) b (off + i * P.cellsOf e) ecs := fun j c hj => by
              have := r2 j c hj
              rw [Addr.add_lit, Addr.add_lit] at this
              exact ⟨this, (cell?_some this).2⟩
            cases ha : isAggT P e with
            | true =>
              refine ⟨.agg ps, .agg ecs.toArray, ⟨ps, h5, rfl⟩, ⟨ecs.toArray, rfl, h6⟩, by simpa [Value.cells] using r1, by simpa [Value.cells] using hcells⟩
            | false =>
              rw [ha] at h3
              have hone : P.cellsOf e = 1 := beq_true (by simpa using h3)
              have hpl := RepL_len h6
              cases ecs with
              | nil => simp at r1; omega
              | cons v ecs =>
                cases ps with
                | nil => simp at hpl
                | cons p ps =>
                  have : ecs = [] := List.eq_nil_of_length_eq_zero (by simp at r1; omega)
                  subst this
                  have : ps = [] := List.eq_nil_of_length_eq_zero (by simpa using hpl.symm)
                  subst this
                  simp only [RepL] at h6
                  obtain ⟨v', vs', e1, e2, e3, _⟩ := h6
                  cases e1
                  refine ⟨p, v, ⟨[p], h5, rfl⟩, e3, by rw [one_cells e2, hone]; rfl, by rw [one_cells e2]; exact hcells⟩
          refine ⟨[.sl xs], by simp only [TyC, hu]; exact ⟨xs, rfl, by omega, q2⟩, _, _, rfl, rfl, .inr ⟨b, off, cap, P.cellsOf e, by rw [q1], by omega, hc, by omega, by simpa using q3⟩, by simp [RepL]⟩
    · rename_i fs hu
      simp only [Bool.and_eq_true] at hok
      obtain ⟨xs, m, hm, _, hlen, hxl, hf⟩ := DataW.trod_struct hu h
      cases hm
      rw [← hlen] at hok
      obtain ⟨parts, q1, q2, q3⟩ := open_fields (w := w) (n := n) (cs := cs) fs.toList 0 hok.2 fun f hfm => by
        obtain ⟨i, hi⟩ := List.getElem?_of_mem hfm
        have hfi : fs[i]? = some f := by simpa using hi
        have h4 := hf i f hfi
        have hin : i < xs.length := by
          have := (Array.getElem?_eq_some_iff.1 hfi).1
          omega
        rw [List.getElem?_eq_getElem hin] at h4
        exact open_cells hS n f.type _ _ (mem (List.all_eq_true.1 hok.1 f hfm)) h4
      exact ⟨parts.flatten, by simp only [TyC, hu]; exact ⟨parts, rfl, by simpa using q1, fun i f part hi hp => q3 i f part (by simpa using hi) hp⟩, by simpa using q2⟩
    · cases hok

end Go.Proofs.YtbgkalolmichdaaA
