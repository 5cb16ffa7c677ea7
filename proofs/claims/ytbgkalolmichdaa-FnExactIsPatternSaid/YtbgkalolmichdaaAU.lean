/- What is forgotten at a loop's head: the state that is left tells the same memory. Conditions: none. -/
import Derived.Test.YtbgkalolmichdaaAT
namespace Go.Proofs.YtbgkalolmichdaaA
open Go
set_option linter.unusedSimpArgs false
set_option linter.unusedVariables false

variable {P : Program} {c : Ctx} {σ : St} {a : Act} {w w' : World} {gh : Gh} {R : Type}

/-- A cell and what is kept of it. -/
def CellOk (σ : St) (es : List Ent) (b x : AV) : Prop :=
  b = .undef ∨ (b = x ∧ ((∃ p, x = .pv p) ∨ x = .nils ∨ ∃ s y o, x = .cptr s y o)) ∨ ∃ d g s xs e, b = .rw d ∧ x = .rw g ∧ σ.obj g = .row s xs e ∧ (⟨d, g, .row s xs e⟩ : Ent) ∈ es
def CellsOk (σ : St) (es : List Ent) : List AV → List AV → Prop
  | [], cs => cs = []
  | b :: bs, cs => ∃ x cs', cs = x :: cs' ∧ CellOk σ es b x ∧ CellsOk σ es bs cs'
def EntOk (σ : St) (es : List Ent) (e : Ent) : Prop :=
  (∃ s xs x, e.obj = .row s xs x ∧ σ.obj e.old = .row s xs x) ∨ ∃ bs cs x, e.obj = .box bs x ∧ σ.obj e.old = .box cs x ∧ CellsOk σ es bs cs
def TmpOk (σ : St) (es : List Ent) (t : Nat) (x : AV) : Prop :=
  CellOk σ es x (σ.tmp t) ∨ (∃ d g off, x = .ptr d off ∧ σ.tmp t = .ptr g off ∧ ∃ bs e, (⟨d, g, .box bs e⟩ : Ent) ∈ es) ∨ ∃ bs cs, x = .agg bs ∧ σ.tmp t = .agg cs ∧ CellsOk σ es bs cs

theorem CellOk.mono {es es' : List Ent} (h : ∀ e ∈ es, e ∈ es') {b x : AV} (hc : CellOk σ es b x) : CellOk σ es' b x := by
  rcases hc with hc | hc | ⟨d, g, s, xs, e, h1, h2, h3, h4⟩
  · exact .inl hc
  · exact .inr (.inl hc)
  · exact .inr (.inr ⟨d, g, s, xs, e, h1, h2, h3, h _ h4⟩)
theorem CellsOk.mono {es es' : List Ent} (h : ∀ e ∈ es, e ∈ es') : ∀ {bs cs : List AV}, CellsOk σ es bs cs → CellsOk σ es' bs cs
  | [], cs, hc => hc
  | b :: bs, cs, ⟨x, cs', e, h1, h2⟩ => ⟨x, cs', e, h1.mono h, CellsOk.mono h h2⟩
theorem EntOk.mono {es es' : List Ent} (h : ∀ e ∈ es, e ∈ es') {e : Ent} (hc : EntOk σ es e) : EntOk σ es' e := by
  rcases hc with hc | ⟨bs, cs, x, h1, h2, h3⟩
  · exact .inl hc
  · exact .inr ⟨bs, cs, x, h1, h2, h3.mono h⟩
theorem TmpOk.mono {es es' : List Ent} (h : ∀ e ∈ es, e ∈ es') {t : Nat} {x : AV} (hc : TmpOk σ es t x) : TmpOk σ es' t x := by
  rcases hc with hc | ⟨d, g, off, h1, h2, bs, e, h3⟩ | ⟨bs, cs, h1, h2, h3⟩
  · exact .inl (hc.mono h)
  · exact .inr (.inl ⟨d, g, off, h1, h2, bs, e, h _ h3⟩)
  · exact .inr (.inr ⟨bs, cs, h1, h2, h3.mono h⟩)

theorem keepCells_ok : ∀ (cs : List AV) (d : Nat), CellsOk σ (keepCells σ d cs).2 (keepCells σ d cs).1 cs ∧ ∀ e ∈ (keepCells σ d cs).2, EntOk σ [] e
  | [], d => ⟨rfl, fun e he => by cases he⟩
  | x :: cs, d => by
    obtain ⟨h1, h2⟩ := keepCells_ok cs (d + 1)
    simp only [keepCells]
    generalize keepCells σ (d + 1) cs = p at h1 h2
    obtain ⟨bs, l⟩ := p
    simp only at h1 h2
    cases x with
    | pv q => exact ⟨⟨_, _, rfl, .inr (.inl ⟨rfl, .inl ⟨q, rfl⟩⟩), h1⟩, h2⟩
    | nils => exact ⟨⟨_, _, rfl, .inr (.inl ⟨rfl, .inr (.inl rfl)⟩), h1⟩, h2⟩
    | rw g =>
      simp only
      cases hb : σ.obj g with
      | row s xs e =>
        refine ⟨⟨_, _, rfl, .inr (.inr ⟨d, g, s, xs, e, rfl, rfl, hb, List.mem_cons_self ..⟩), h1.mono fun e he => List.mem_cons_of_mem _ he⟩, fun e' he => ?_⟩
        rcases List.mem_cons.1 he with rfl | he
        · exact .inl ⟨s, xs, e, rfl, hb⟩
        · exact h2 e' he
      | _ => exact ⟨⟨_, _, rfl, .inl rfl, h1⟩, h2⟩
    | _ => exact ⟨⟨_, _, rfl, .inl rfl, h1⟩, h2⟩

theorem keepBox_ok (g : Nat) : ∀ e ∈ keepBox σ g, EntOk σ (keepBox σ g) e := by
  unfold keepBox
  split
  · rename_i cs e hb
    obtain ⟨h1, h2⟩ := keepCells_ok (σ := σ) cs (g + 1)
    generalize keepCells σ (g + 1) cs = p at h1 h2
    obtain ⟨bs, l⟩ := p
    simp only at h1 h2 ⊢
    intro e' he
    rcases List.mem_cons.1 he with rfl | he
    · exact .inr ⟨bs, cs, e, rfl, hb, h1.mono fun e he => List.mem_cons_of_mem _ he⟩
    · exact (h2 e' he).mono fun e he => by cases he
  · intro e he; cases he
theorem keepBox_has {g : Nat} {cs : List AV} {e : Bool} (h : σ.obj g = .box cs e) : ∃ bs, (⟨g, g, .box bs e⟩ : Ent) ∈ keepBox σ g := by
  unfold keepBox
  rw [h]
  simp only
  exact ⟨_, List.mem_cons_self ..⟩

theorem keep1_ok {bx : List Nat} (t : Nat) {es : List Ent} (hes : ∀ g ∈ bx, ∃ bs e, (⟨g, g, .box bs e⟩ : Ent) ∈ es) : TmpOk σ ((keep1 σ bx t).2 ++ es) t (keep1 σ bx t).1 ∧ ∀ e ∈ (keep1 σ bx t).2, EntOk σ (keep1 σ bx t).2 e := by
  unfold keep1
  split
  · rename_i p h; exact ⟨.inl (.inr (.inl ⟨h.symm, .inl ⟨p, h⟩⟩)), fun e he => by cases he⟩
  · rename_i h; exact ⟨.inl (.inr (.inl ⟨h.symm, .inr (.inl h)⟩)), fun e he => by cases he⟩
  · rename_i s x o h; exact ⟨.inl (.inr (.inl ⟨h.symm, .inr (.inr ⟨s, x, o, h⟩)⟩)), fun e he => by cases he⟩
  · rename_i g h
    split
    · rename_i s xs e hb
      refine ⟨.inl (.inr (.inr ⟨64 * t, g, s, xs, e, rfl, h, hb, List.mem_cons_self ..⟩)), fun e' he => ?_⟩
      rw [List.mem_singleton.1 he]; exact .inl ⟨s, xs, e, rfl, hb⟩
    · exact ⟨.inl (.inl rfl), fun e he => by cases he⟩
  · rename_i g off h
    cases hbx : bx.any (Nat.beq g) <;> simp only [cond_true, cond_false]
    · split
      · rename_i cs e hb
        obtain ⟨h1, h2⟩ := keepCells_ok (σ := σ) cs (64 * t + 1)
        generalize keepCells σ (64 * t + 1) cs = p at h1 h2
        obtain ⟨bs, l⟩ := p
        simp only at h1 h2 ⊢
        refine ⟨.inr (.inl ⟨64 * t, g, off, rfl, h, bs, e, List.mem_cons_self ..⟩), fun e' he => ?_⟩
        rcases List.mem_cons.1 he with rfl | he
        · exact .inr ⟨bs, cs, e, rfl, hb, h1.mono fun e he => List.mem_cons_of_mem _ he⟩
        · exact (h2 e' he).mono fun e he => by cases he
      · exact ⟨.inl (.inl rfl), fun e he => by cases he⟩
    · obtain ⟨k, hk, e⟩ := List.any_eq_true.1 hbx
      have e := beq_true e
      subst e
      obtain ⟨bs, e, hm⟩ := hes g hk
      exact ⟨.inr (.inl ⟨g, g, off, rfl, h, bs, e, List.mem_append.2 (.inr hm)⟩), fun e he => by cases he⟩
  · rename_i as h
    obtain ⟨h1, h2⟩ := keepCells_ok (σ := σ) as (64 * t + 1)
    generalize keepCells σ (64 * t + 1) as = p at h1 h2
    obtain ⟨bs, l⟩ := p
    simp only at h1 h2 ⊢
    exact ⟨.inr (.inr ⟨bs, as, rfl, h, h1.mono fun e he => List.mem_append.2 (.inl he)⟩), fun e he => (h2 e he).mono fun e he => by cases he⟩
  · exact ⟨.inl (.inl rfl), fun e he => by cases he⟩

theorem forgetK_ok {bx : List Nat} : ∀ (keep : List Nat) (ts : List (Nat × AV)) (es : List Ent) (k : St → Option R) (r : R), (∀ g ∈ bx, ∃ bs e, (⟨g, g, .box bs e⟩ : Ent) ∈ es) → (∀ p ∈ ts, TmpOk σ es p.1 p.2) → (∀ e ∈ es, EntOk σ es e) → forgetK σ bx keep ts es k = some r →
    ∃ ts' es', (∀ g ∈ bx, ∃ bs e, (⟨g, g, .box bs e⟩ : Ent) ∈ es') ∧ (∀ p ∈ ts', TmpOk σ es' p.1 p.2) ∧ (∀ e ∈ es', EntOk σ es' e) ∧ (es'.map (·.new)).Nodup ∧ (es'.map (·.old)).Nodup ∧ k ⟨ts', es'.map fun e => (e.new, e.obj)⟩ = some r
  | [], ts, es, k, r, h0, h1, h2, h => by
    simp only [forgetK] at h
    cases hc : nodupB (es.map (·.new)) && nodupB (es.map (·.old)) <;> simp only [hc, cond_true, cond_false] at h
    · cases h
    · obtain ⟨h3, h4⟩ := Bool.and_eq_true_iff.1 hc
      exact ⟨ts, es, h0, h1, h2, nodupB_some h3, nodupB_some h4, h⟩
  | t :: keep, ts, es, k, r, h0, h1, h2, h => by
    obtain ⟨k1, k2⟩ := keep1_ok (σ := σ) (bx := bx) t h0
    simp only [forgetK] at h
    generalize keep1 σ bx t = p at k1 k2 h
    obtain ⟨x, o⟩ := p
    simp only at k1 k2 h
    refine forgetK_ok keep ((t, x) :: ts) (o ++ es) k r (fun g hg => ?_) (fun p hp => ?_) (fun e he => ?_) h
    · obtain ⟨bs, e, hm⟩ := h0 g hg
      exact ⟨bs, e, List.mem_append.2 (.inr hm)⟩
    · rcases List.mem_cons.1 hp with rfl | hp
      · exact k1
      · exact (h1 p hp).mono fun e he => List.mem_append.2 (.inr he)
    · rcases List.mem_append.1 he with he | he
      · exact (k2 e he).mono fun e he => List.mem_append.2 (.inl he)
      · exact (h2 e he).mono fun e he => List.mem_append.2 (.inr he)

theorem look_ent {α β : Type} (f : Ent → α) (d : α) : ∀ (es : List Ent) (i : Nat), (look d (es.map fun e => (e.new, f e)) i = d ∧ ∀ e ∈ es, e.new ≠ i) ∨ ∃ e ∈ es, e.new = i ∧ look d (es.map fun e => (e.new, f e)) i = f e
  | [], i => .inl ⟨rfl, fun e he => by cases he⟩
  | e :: es, i => by
    simp only [List.map_cons, look]
    by_cases h : e.new = i
    · rw [if_pos h]; exact .inr ⟨e, List.mem_cons_self .., h, rfl⟩
    · rw [if_neg h]
      rcases look_ent (β := β) f d es i with ⟨h1, h2⟩ | ⟨e', h1, h2, h3⟩
      · exact .inl ⟨h1, fun e' he => by rcases List.mem_cons.1 he with rfl | he; exact h; exact h2 e' he⟩
      · exact .inr ⟨e', List.mem_cons_of_mem _ h1, h2, h3⟩

theorem nodup_inj {α : Type} {f : α → Nat} : ∀ {l : List α}, (l.map f).Nodup → ∀ x ∈ l, ∀ y ∈ l, f x = f y → x = y
  | [], _, x, hx, _, _, _ => by cases hx
  | z :: l, h, x, hx, y, hy, e => by
    rw [List.map_cons, List.nodup_cons] at h
    rcases List.mem_cons.1 hx with h1 | h1
    · rcases List.mem_cons.1 hy with h2 | h2
      · rw [h1, h2]
      · exact absurd (List.mem_map.2 ⟨y, h2, by rw [← e, h1]⟩) h.1
    · rcases List.mem_cons.1 hy with h2 | h2
      · exact absurd (List.mem_map.2 ⟨x, h1, by rw [e, h2]⟩) h.1
      · exact nodup_inj h.2 x h1 y h2 e

theorem look_at {α : Type} (f : Ent → α) (d : α) {es : List Ent} (hn : (es.map (·.new)).Nodup) {e : Ent} (he : e ∈ es) : look d (es.map fun e => (e.new, f e)) e.new = f e := by
  rcases look_ent (β := Nat) f d es e.new with ⟨_, h2⟩ | ⟨e', h1, h2, h3⟩
  · exact absurd rfl (h2 e he)
  · rw [h3, nodup_inj hn e' h1 e he h2]

theorem look_mem {t : Nat} : ∀ {ts : List (Nat × AV)}, look .undef ts t = .undef ∨ (t, look .undef ts t) ∈ ts
  | [] => .inl rfl
  | (u, x) :: ts => by
    simp only [look]
    by_cases h : u = t
    · rw [if_pos h, h]; exact .inr (List.mem_cons_self ..)
    · rw [if_neg h]
      rcases look_mem (t := t) (ts := ts) with h | h
      · exact .inl h
      · exact .inr (List.mem_cons_of_mem _ h)

theorem forget_sound {keep : List Nat} {k : St → Option R} {r : R} (hG : G c σ a w) (h : forgetK σ (c.hb.map (·.1)) keep [] ((c.hb.map (·.1)).flatMap (keepBox σ)) k = some r) : ∃ σ', G c σ' a w ∧ k σ' = some r := by
  obtain ⟨gh, hg⟩ := hG
  obtain ⟨ts, es, hbx, ht, he, hn, hold, hk⟩ := forgetK_ok keep [] _ k r (fun g hgb => by
    obtain ⟨p, hp, rfl⟩ := List.mem_map.1 hgb
    obtain ⟨_, cs, e, hb⟩ := hg.hand p hp
    obtain ⟨bs, hm⟩ := keepBox_has hb
    exact ⟨bs, e, List.mem_flatMap.2 ⟨p.1, hgb, hm⟩⟩) (fun p hp => by cases hp) (fun e he => by
    obtain ⟨g, hgb, hm⟩ := List.mem_flatMap.1 he
    exact (keepBox_ok g e hm).mono fun e' he' => List.mem_flatMap.2 ⟨g, hgb, he'⟩) h
  refine ⟨_, ?_, hk⟩
  let ρ : Nat → Nat := fun i => look 0 (es.map fun e => (e.new, e.old)) i
  let gh' : Gh := { I := gh.I, β := fun i => gh.β (ρ i), hd := fun i => gh.hd (ρ i) }
  let ob' : Obs := fun i => look .free (es.map fun e => (e.new, e.obj)) i
  have hob : ∀ e ∈ es, ob' e.new = e.obj := fun e h => look_at (fun e => e.obj) .free hn h
  have hρ : ∀ e ∈ es, ρ e.new = e.old := fun e h => look_at (fun e => e.old) 0 hn h
  have hcase : ∀ i, ob' i = .free ∨ ∃ e ∈ es, e.new = i := fun i => by
    rcases look_ent (β := Nat) (fun e => e.obj) .free es i with ⟨h1, _⟩ | ⟨e, h1, h2, _⟩
    · exact .inl h1
    · exact .inr ⟨e, h1, h2⟩
  have hcell : ∀ (b x : AV) (v : Value), CellOk σ es b x → RV w gh σ.obj x v → RV w gh' ob' b v := by
    intro b x v hc hv
    rcases hc with rfl | ⟨rfl, ⟨p, rfl⟩ | rfl | ⟨s, y, o, rfl⟩⟩ | ⟨d, g, s, xs, e, rfl, rfl, hb, hm⟩
    · simp [RV]
    · simpa [RV] using hv
    · simpa [RV] using hv
    · simpa only [RV] using hv
    · have h1 := hob _ hm
      have h2 := hρ _ hm
      simp only at h1 h2
      simp only [RV, hb] at hv
      simp only [RV, h1]
      show v = gh.hd (ρ d) ∧ _
      rw [h2]; exact hv
  have hcells : ∀ (bs cs : List AV) (vs : List Value), CellsOk σ es bs cs → RVL w gh σ.obj cs vs → RVL w gh' ob' bs vs := by
    intro bs
    induction bs with
    | nil => intro cs vs h1 h2; simp only [CellsOk] at h1; subst h1; exact h2
    | cons b bs ih =>
      intro cs vs h1 h2
      obtain ⟨x, cs', rfl, h3, h4⟩ := h1
      simp only [RVL] at h2
      obtain ⟨v, vs', rfl, h5, h6⟩ := h2
      exact ⟨v, vs', rfl, hcell b x v h3 h5, ih cs' vs' h4 h6⟩
  have hlive : ∀ e ∈ es, live ob' gh' e.new → live σ.obj gh e.old := fun e hm hl => by
    unfold live at hl ⊢
    rw [hob e hm] at hl
    rcases he e hm with ⟨s, xs, x, h1, h2⟩ | ⟨bs, cs, x, h1, h2, _⟩
    · rw [h1] at hl; rw [h2]
      simp only at hl ⊢
      have : gh'.hd e.new = gh.hd e.old := by show gh.hd (ρ e.new) = _; rw [hρ e hm]
      rw [this] at hl; exact hl
    · rw [h2]; trivial
  have hβ : ∀ e ∈ es, gh'.β e.new = gh.β e.old := fun e hm => by show gh.β (ρ e.new) = _; rw [hρ e hm]
  have hlv : ∀ i, live ob' gh' i → ∃ e ∈ es, e.new = i ∧ live σ.obj gh e.old ∧ gh'.β i = gh.β e.old := fun i hl => by
    rcases hcase i with h | ⟨e, hm, rfl⟩
    · unfold live at hl; rw [h] at hl; exact hl.elim
    · exact ⟨e, hm, rfl, hlive e hm hl, hβ e hm⟩
  refine ⟨gh', ⟨⟨fun i => ?_, fun i j hi hj hij => ?_, fun i o hi hI => ?_, hg.mem.old, fun i hi => ?_, hg.mem.keep, hg.mem.new, hg.mem.frame, hg.mem.size, hg.mem.os, hg.mem.tape, hg.mem.output⟩, fun t => ?_, hg.nd, hg.nt, fun p hp => ?_⟩⟩
  · show RO w gh' ob' i (ob' i)
    rcases hcase i with h | ⟨e, hm, rfl⟩
    · rw [h]; trivial
    · rw [hob e hm]
      have hro := hg.mem.ro e.old
      have h3 := hβ e hm
      rcases he e hm with ⟨s, xs, x, h1, h2⟩ | ⟨bs, cs, x, h1, h2, h4⟩
      · rw [h1]; rw [h2] at hro
        have h4 : gh'.hd e.new = gh.hd e.old := by show gh.hd (ρ e.new) = _; rw [hρ e hm]
        rcases hro with ⟨q1, q2⟩ | ⟨cap, cur, T, q1, q2, q3, q4, q5, q6, q7, q8⟩
        · exact .inl ⟨by rw [h4, q1], q2⟩
        · exact .inr ⟨cap, cur, T, by rw [h4, h3, q1], by rw [h3, q2], q3, q4, q5, q6, q7, fun hx o ho => by rw [h3]; exact q8 hx o ho⟩
      · rw [h1]; rw [h2] at hro
        obtain ⟨cur, T, q1, q2, q3, q4⟩ := hro
        exact ⟨cur, T, by rw [h3, q1], hcells _ _ _ h4 q2, q3, fun hx o ho => by rw [h3]; exact q4 hx o ho⟩
  · obtain ⟨e1, m1, rfl, l1, b1⟩ := hlv i hi
    obtain ⟨e2, m2, rfl, l2, b2⟩ := hlv j hj
    rw [b1, b2] at hij
    have := hg.mem.inj _ _ l1 l2 hij
    rw [nodup_inj hold e1 m1 e2 m2 this]
  · show shown (ob' i) o
    obtain ⟨e1, m1, rfl, l1, b1⟩ := hlv i hi
    rw [b1] at hI
    have := hg.mem.sep _ o l1 hI
    rw [hob e1 m1]
    rcases he e1 m1 with ⟨s, xs, x, h1, h2⟩ | ⟨bs, cs, x, h1, h2, h4⟩
    · rw [h2] at this; rw [h1]; exact this
    · rw [h2] at this; rw [h1]
      cases x with
      | true => exact this
      | false => trivial
  · obtain ⟨e1, m1, rfl, l1, b1⟩ := hlv i hi
    rw [b1]; exact hg.mem.mod _ l1
  · show RV w gh' ob' (look .undef ts t) _
    rcases look_mem (t := t) (ts := ts) with h | h
    · rw [h]; simp [RV]
    · have hv := hg.tm t
      rcases ht _ h with hc | ⟨d, g, off, h1, h2, bs, e, h3⟩ | ⟨bs, cs, h1, h2, h3⟩
      · exact hcell _ _ _ hc hv
      · simp only at h1 h2
        rw [h1]; rw [h2] at hv
        have q1 := hob _ h3
        have q2 := hβ _ h3
        simp only at q1 q2
        simp only [RV, q1]
        simp only [RV] at hv
        rcases he _ h3 with ⟨s, xs, x, z1, z2⟩ | ⟨bs', cs, x, z1, z2, z4⟩
        · cases z1
        · simp only at z2
          rw [z2] at hv
          rw [hv, q2]
      · simp only at h1 h2
        rw [h1]; rw [h2] at hv
        simp only [RV] at hv ⊢
        obtain ⟨vs, q1, q2, q3⟩ := hv
        exact ⟨vs, q1, hcells _ _ _ h3 q2, q3⟩
  · obtain ⟨q1, _⟩ := hg.hand p hp
    obtain ⟨bs, e, hm⟩ := hbx p.1 (List.mem_map.2 ⟨p, hp, rfl⟩)
    exact ⟨by rw [← q1]; exact hβ _ hm, bs, e, hob _ hm⟩

end Go.Proofs.YtbgkalolmichdaaA
