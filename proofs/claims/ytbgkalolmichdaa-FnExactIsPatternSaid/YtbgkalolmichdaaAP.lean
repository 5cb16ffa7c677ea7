/- What goes over a call's border, and what a call must keep. Conditions: none. -/
import Derived.Test.YtbgkalolmichdaaAO
namespace Go.Proofs.YtbgkalolmichdaaA
open Go
set_option linter.unusedSimpArgs false
set_option linter.unusedVariables false

/-- A handed box. -/
def BoxAt (w : World) (I : Imm) (b : Nat) (cs : List PV) : Prop :=
  ∃ cur T, w.heap[b]? = some (.cells cur T (0, 0)) ∧ RepL w I cs cur.toList ∧ ∀ o, ¬ I b o
/-- A pointer to an element that nobody turns. -/
def CpAt (w : World) (I : Imm) (x : PV) (v : Value) : Prop :=
  ∃ b o u s, v = .pointer (some ⟨b, o, none⟩) ∧ RepV w I x u ∧ x.fits s = true ∧ u.cells.size = wd s ∧ CellsAt w I b o u.cells.toList
def CpsAt (w : World) (I : Imm) : List PV → List Value → Prop
  | [], vs => vs = []
  | x :: xs, vs => ∃ v vs', vs = v :: vs' ∧ CpAt w I x v ∧ CpsAt w I xs vs'

def A1 (w : World) (I : Imm) : XV → Value → List Nat → Prop
  | .pv p, v, bs => RepV w I p v ∧ bs = []
  | .box cs, v, bs => ∃ b, v = .pointer (some ⟨b, 0, none⟩) ∧ bs = [b] ∧ BoxAt w I b cs
  | .cp x, v, bs => CpAt w I x v ∧ bs = []
  | .fn f ps, v, bs => (∃ vs : List Value, v = .func (.func f) #[] vs.toArray ∧ CpsAt w I ps vs) ∧ bs = []
  | _, _, _ => False
def AR (w : World) (I : Imm) : List XV → List Value → List Nat → Prop
  | [], vs, bs => vs = [] ∧ bs = []
  | x :: xs, vs, bs => ∃ v vs' b1 bs', vs = v :: vs' ∧ bs = b1 ++ bs' ∧ A1 w I x v b1 ∧ AR w I xs vs' bs'

/-- A result; the blocks that it owns, none below a bound. -/
def R1 (w : World) (I : Imm) (lo : Nat) : XV → Value → List Nat → Prop
  | .pv p, v, own => RepV w I p v ∧ own = []
  | .row s xs, v, own => (v = .slice none 0 0 ∧ xs = [] ∧ own = []) ∨
      ∃ b cap cur T, v = .slice (some ⟨b, 0, none⟩) xs.length cap ∧ own = [b] ∧ lo ≤ b ∧ w.heap[b]? = some (.cells cur T (0, 0)) ∧ xs.length ≤ cap ∧ cap ≤ maxLen ∧ cur.size = cap * wd s ∧
        ones cur.toList ∧ RepC w I s xs cur.toList ∧ ∀ o, ¬ I b o
  | .box cs, v, own => ∃ b, v = .pointer (some ⟨b, 0, none⟩) ∧ own = [b] ∧ lo ≤ b ∧ BoxAt w I b cs
  | _, _, _ => False
def RL (w : World) (I : Imm) (lo : Nat) : List XV → List Value → List Nat → Prop
  | [], vs, own => vs = [] ∧ own = []
  | x :: xs, vs, own => ∃ v vs' b1 bs', vs = v :: vs' ∧ own = b1 ++ bs' ∧ R1 w I lo x v b1 ∧ RL w I lo xs vs' bs'
def RR (w : World) (I : Imm) (lo : Nat) (r : XV) (v : Value) (own : List Nat) : Prop :=
  match r with
  | .tup xs => ∃ vs, v = .tuple vs ∧ RL w I lo xs vs.toList own
  | x => R1 w I lo x v own

/-- The handed boxes behind a call. -/
def BR (w : World) (I : Imm) : List XV → List Nat → Prop
  | [], bs => bs = []
  | .box cs :: xs, bs => ∃ b bs', bs = b :: bs' ∧ BoxAt w I b cs ∧ BR w I xs bs'
  | _, _ => False

structure Post (w : World) (I : Imm) (bs : List Nat) (outs : List XV) (r : XV) (w' : World) (v : Value) (I' : Imm) (own : List Nat) : Prop where
  sub : ∀ b o, I b o → I' b o
  new : ∀ b o, I' b o → I b o ∨ w.heap.size ≤ b
  old : ∀ b o, I' b o → b < w'.heap.size
  frame : ∀ b, b < w.heap.size → b ∉ bs → w'.heap[b]? = w.heap[b]?
  size : w.heap.size ≤ w'.heap.size
  os : w'.os = w.os
  tape : w'.tape = w.tape
  output : w'.output = w.output
  outs : BR w' I' outs bs
  res : RR w' I' w.heap.size r v own
  nodup : own.Nodup

/-- What a function answers, it answers so. -/
def Sound (P : Program) (f : FuncId) (F : List XV → Option Res) : Prop :=
  ∀ args outs r, F args = some (outs, r) → ∀ (vals : List Value) (bs : List Nat) (w : World) (I : Imm), AR w I args vals bs → bs.Nodup → (∀ b o, I b o → b < w.heap.size) →
    Calls P f vals.toArray w fun
      | .returned v, w' => ∃ I' own, Post w I bs outs r w' v I' own
      | _, _ => False

/-- A function that a call enters. -/
def Enters (P : Program) (f : FuncId) : Prop := ∃ fn, P.funcs[f]? = some fn ∧ fn.body.isSome = true ∧ (fn.name == "runtime.NumGoroutine") = false

variable {P : Program} {c : Ctx} {σ : St} {a : Act} {w w' : World} {gh : Gh} {ob : Obs} {call : FuncId → List XV → Option Res} {d : Nat}

theorem RVL_pv {gh : Gh} {ob : Obs} : ∀ (cs : List PV) (vs : List Value), RepL w gh.I cs vs → RVL w gh ob (cs.map .pv) vs ∧ ones vs
  | [], vs, h => by simp only [RepL] at h; subst h; exact ⟨rfl, fun v hv => by cases hv⟩
  | p :: ps, vs, h => by
    simp only [RepL] at h
    obtain ⟨v, vs', rfl, h1, h2, h3⟩ := h
    have ih := RVL_pv (gh := gh) (ob := ob) ps vs' h3
    refine ⟨⟨v, vs', rfl, by simpa [RV] using h2, ih.1⟩, fun u hu => ?_⟩
    rcases List.mem_cons.1 hu with rfl | hu
    · exact h1
    · exact ih.2 u hu

/-- A box is taken up again. -/
theorem RO_box {g : Nat} {cs : List PV} (h : BoxAt w gh.I (gh.β g) cs) : RO w gh ob g (.box (cs.map .pv) true) := by
  obtain ⟨cur, T, h1, h2, h3⟩ := h
  have := RVL_pv (gh := gh) (ob := ob) cs _ h2
  exact ⟨cur, T, h1, this.1, this.2, fun h => by cases h⟩

theorem updL_at (k : Nat) (o : Obj) (l : List (Nat × Obj)) (ob : Obs) (i : Nat) : updL ((k, o) :: l) ob i = if k = i then o else updL l ob i := rfl

/-! ### The handed boxes behind a call -/
theorem back_spec : ∀ (bx : List Nat) (outs : List XV) (l : List (Nat × Obj)) (I' : Imm) (β : Nat → Nat), backOf bx outs = some l → BR w' I' outs (bx.map β) →
    (∀ g, g ∉ bx → ∀ ob : Obs, updL l ob g = ob g) ∧ ∀ g, g ∈ bx → ∃ cs, (∀ ob : Obs, updL l ob g = .box (cs.map .pv) true) ∧ BoxAt w' I' (β g) cs
  | [], outs, l, I', β, h, hb => by
    cases outs with
    | nil => simp only [backOf, backK] at h; cases h; exact ⟨fun g _ ob => rfl, fun g hg => by cases hg⟩
    | cons x outs => cases x <;> simp [backOf, backK] at h
  | g :: bx, outs, l, I', β, h, hb => by
    cases outs with
    | nil => simp [backOf, backK] at h
    | cons x outs =>
      cases x with
      | box cs =>
        unfold backOf at h
        simp only [backK, backK_eq] at h
        obtain ⟨l1, h1, h2⟩ := Option.bind_eq_some_iff.1 h
        cases h2
        simp only [BR, List.map_cons] at hb
        obtain ⟨b, bs', e1, e2, e3⟩ := hb
        cases e1
        obtain ⟨ih1, ih2⟩ := back_spec bx outs l1 I' β h1 e3
        refine ⟨fun k hk ob => ?_, fun k hk => ?_⟩
        · simp only [List.mem_cons, not_or] at hk
          rw [updL_at, if_neg (Ne.symm hk.1)]; exact ih1 k hk.2 ob
        · by_cases e : k = g
          · subst e
            exact ⟨cs, fun ob => by rw [updL_at, if_pos rfl], e2⟩
          · obtain ⟨cs', h3, h4⟩ := ih2 k ((List.mem_cons.1 hk).resolve_left e)
            exact ⟨cs', fun ob => by rw [updL_at, if_neg (Ne.symm e)]; exact h3 ob, h4⟩
      | _ => simp [backOf, backK] at h

/-- Behind a call: the handed boxes turned, all else as it was. -/
theorem Mem.called (m : Mem c ob w gh) {bx : List Nat} {outs : List XV} {l : List (Nat × Obj)} {I' : Imm} (hl : backOf bx outs = some l)
    (hex : ∀ g ∈ bx, ∃ cs, ob g = .box cs true)
    (sub : ∀ b o, gh.I b o → I' b o) (new : ∀ b o, I' b o → gh.I b o ∨ w.heap.size ≤ b) (old : ∀ b o, I' b o → b < w'.heap.size)
    (frame : ∀ b, b < w.heap.size → b ∉ bx.map gh.β → w'.heap[b]? = w.heap[b]?) (size : w.heap.size ≤ w'.heap.size) (os : w'.os = w.os) (tape : w'.tape = w.tape) (output : w'.output = w.output)
    (houts : BR w' I' outs (bx.map gh.β)) :
    Mem c (updL l ob) w' { gh with I := I' } ∧ Same gh w w' ∧ ∀ k, Stays gh { gh with I := I' } k (ob k) (updL l ob k) := by
  obtain ⟨hno, hyes⟩ := back_spec bx outs l I' gh.β hl houts
  have hlv : ∀ g ∈ bx, live ob gh g := fun g hg => by
    obtain ⟨cs, h⟩ := hex g hg
    unfold live; rw [h]; trivial
  have hnI : ∀ g ∈ bx, ∀ o, ¬ gh.I (gh.β g) o := fun g hg o hI => by
    obtain ⟨cs, h⟩ := hex g hg
    have := m.sep g o (hlv g hg) hI
    rw [h] at this; exact this
  have hsame : Same gh w w' := fun b o v hI hc => by
    have hb : b ∉ bx.map gh.β := fun hb => by
      obtain ⟨g, hg, rfl⟩ := List.mem_map.1 hb
      exact hnI g hg o hI
    rw [cell_of_heap (frame b (m.old b o hI) hb)]; exact hc
  have hst : ∀ k, Stays gh { gh with I := I' } k (ob k) (updL l ob k) := fun k => by
    by_cases hk : k ∈ bx
    · obtain ⟨cs, h⟩ := hex k hk
      obtain ⟨cs', h', _⟩ := hyes k hk
      rw [h, h' ob]; exact ⟨⟨_, true, rfl⟩, rfl⟩
    · rw [hno k hk ob]; exact Stays.same rfl rfl
  have hlive : ∀ k, live (updL l ob) { gh with I := I' } k → live ob gh k := fun k hk => by
    by_cases e : k ∈ bx
    · exact hlv k e
    · exact (live_same (gh := gh) (gh' := { gh with I := I' }) (hno k e ob) rfl).1 hk
  refine ⟨⟨fun k => ?_, fun i j hi hj => m.inj i j (hlive i hi) (hlive j hj), fun i o hi hI => ?_, old, fun i hi => m.mod i (hlive i hi), fun b o h => sub _ _ (m.keep b o h), fun b o h => ?_, fun b hb he => ?_, Nat.le_trans m.size size, by rw [os]; exact m.os, by rw [tape]; exact m.tape, by rw [output]; exact m.output⟩, hsame, hst⟩
  · by_cases hk : k ∈ bx
    · obtain ⟨cs', h', hb⟩ := hyes k hk
      rw [h' ob]
      exact RO_box (gh := { gh with I := I' }) hb
    · refine m.rest (gh' := { gh with I := I' }) hsame sub hst (hno k hk ob) rfl rfl fun hlk => frame _ (m.lt hlk) fun hb => ?_
      obtain ⟨g, hg, e⟩ := List.mem_map.1 hb
      exact hk (m.inj k g hlk (hlv g hg) e.symm ▸ hg)
  · by_cases hk : i ∈ bx
    · obtain ⟨cs', h', cur, T, h1, h2, h3⟩ := hyes i hk
      exact absurd hI (h3 o)
    · rw [hno i hk ob]
      rcases new _ _ hI with h | h
      · exact m.sep i o (hlive i hi) h
      · have := m.lt (hlive i hi)
        exact absurd this (by simpa using h)
  · rcases new b o h with h | h
    · exact m.new b o h
    · exact .inr (.inr (Nat.le_trans m.size h))
  · have hb' : b ∉ bx.map gh.β := fun hb' => by
      obtain ⟨g, hg, rfl⟩ := List.mem_map.1 hb'
      rcases m.mod g (hlv g hg) with h | h
      · exact he h
      · omega
    rw [frame b (Nat.lt_of_lt_of_le hb m.size) hb']; exact m.frame b hb he

/-! ### What a call gives is taken up -/
/-- A block that is nobody's becomes an object's. -/
theorem Mem.adopt (m : Mem c ob w gh) {d b : Nat} (hf : ob d = .free) (o : Obj) (h : Value) (ho : RO w (gh.set d b h) (updL [(d, o)] ob) d o)
    (hb : live (updL [(d, o)] ob) (gh.set d b h) d → c.w0.heap.size ≤ b ∧ (∀ i, live ob gh i → gh.β i ≠ b) ∧ ∀ x, ¬ gh.I b x) :
    Mem c (updL [(d, o)] ob) w (gh.set d b h) ∧ ∀ g, Stays gh (gh.set d b h) g (ob g) (updL [(d, o)] ob g) := by
  have hsame : Same gh w w := Same.refl' fun _ => rfl
  have hst : ∀ g, Stays gh (gh.set d b h) g (ob g) (updL [(d, o)] ob g) := fun g => by
    by_cases hg : g = d
    · subst hg; rw [hf]; trivial
    · rw [updL_ne o ob hg]; exact Stays.same (gh.set_β_ne _ _ hg) (gh.set_hd_ne _ _ hg)
  have hlive : ∀ g, g ≠ d → live (updL [(d, o)] ob) (gh.set d b h) g → live ob gh g := fun g hg hl =>
    (live_same (updL_ne o ob hg) (gh.set_hd_ne _ _ hg)).1 hl
  refine ⟨⟨fun g => ?_, fun i j hi hj hij => ?_, fun i o' hi hI => ?_, m.old, fun i hi => ?_, m.keep, m.new, m.frame, m.size, m.os, m.tape, m.output⟩, hst⟩
  · by_cases hg : g = d
    · subst hg; rw [updL_one]; exact ho
    · exact m.rest (gh' := gh.set d b h) hsame (fun _ _ h => h) hst (updL_ne o ob hg) (gh.set_β_ne _ _ hg) (gh.set_hd_ne _ _ hg) fun hl => rfl
  · by_cases hi' : i = d
    · by_cases hj' : j = d
      · rw [hi', hj']
      · rw [hi', gh.set_β, gh.set_β_ne _ _ hj'] at hij
        exact absurd hij.symm ((hb (hi' ▸ hi)).2.1 j (hlive j hj' hj))
    · by_cases hj' : j = d
      · rw [hj', gh.set_β, gh.set_β_ne _ _ hi'] at hij
        exact absurd hij ((hb (hj' ▸ hj)).2.1 i (hlive i hi' hi))
      · rw [gh.set_β_ne _ _ hi', gh.set_β_ne _ _ hj'] at hij
        exact m.inj i j (hlive i hi' hi) (hlive j hj' hj) hij
  · by_cases hi' : i = d
    · rw [hi', gh.set_β] at hI
      exact absurd hI ((hb (hi' ▸ hi)).2.2 o')
    · rw [gh.set_β_ne _ _ hi'] at hI
      rw [updL_ne o ob hi']
      exact m.sep i o' (hlive i hi' hi) hI
  · by_cases hi' : i = d
    · rw [hi', gh.set_β]; exact .inr (hb (hi' ▸ hi)).1
    · rw [gh.set_β_ne _ _ hi']; exact m.mod i (hlive i hi' hi)

/-- What adopting must give. -/
def Adopted (c : Ctx) (ob ob' : Obs) (w : World) (gh gh' : Gh) (own : List Nat) : Prop :=
  Mem c ob' w gh' ∧ gh'.I = gh.I ∧ (∀ k, Stays gh gh' k (ob k) (ob' k)) ∧ ∀ i, live ob' gh' i → (live ob gh i ∧ gh'.β i = gh.β i) ∨ gh'.β i ∈ own

theorem adopt1 (m : Mem c ob w gh) {d lo : Nat} {x : XV} {x' : AV} {l : List (Nat × Obj)} {v : Value} {own : List Nat} (hi : imp1 d x = some (x', l)) (hr : R1 w gh.I lo x v own) (hlo : c.w0.heap.size ≤ lo)
    (hnew : ∀ i, live ob gh i → gh.β i ∉ own) (hfree : ∀ p ∈ l, ob p.1 = .free) :
    ∃ gh', Adopted c ob (updL l ob) w gh gh' own ∧ RV w gh' (updL l ob) x' v := by
  cases x with
  | pv p =>
    simp only [imp1] at hi; cases hi
    simp only [R1] at hr
    exact ⟨gh, ⟨m, rfl, fun k => Stays.same rfl rfl, fun i hi => .inl ⟨hi, rfl⟩⟩, by simpa [RV] using hr.1⟩
  | row s xs =>
    simp only [imp1] at hi; cases hi
    simp only [R1] at hr
    have hf : ob d = .free := hfree _ (List.mem_singleton.2 rfl)
    rcases hr with ⟨rfl, rfl, rfl⟩ | ⟨b, cap, cur, T, rfl, rfl, h1, h2, h3, h4, h5, h6, h7, h8⟩
    · have hnl : ¬ live (updL [(d, .row s [] true)] ob) (gh.set d 0 (.slice none 0 0)) d := by
        unfold live; rw [updL_one]; simp [Gh.set]
      obtain ⟨m', st⟩ := m.adopt hf (.row s [] true) (.slice none 0 0) (b := 0) (.inl ⟨gh.set_hd _ _ _, rfl⟩) (fun h => absurd h hnl)
      refine ⟨_, ⟨m', rfl, st, fun i hi => ?_⟩, ?_⟩
      · by_cases e : i = d
        · subst e; exact absurd hi hnl
        · exact .inl ⟨(live_same (updL_ne _ ob e) (gh.set_hd_ne _ _ e)).1 hi, gh.set_β_ne _ _ e⟩
      · simp only [RV, updL_one]; exact ⟨(gh.set_hd _ _ _).symm, rfl⟩
    · obtain ⟨m', st⟩ := m.adopt hf (.row s xs true) (.slice (some ⟨b, 0, none⟩) xs.length cap) (b := b)
        (.inr ⟨cap, cur, T, by rw [gh.set_hd, gh.set_β], by rw [gh.set_β]; exact h2, h3, h4, h5, h6, h7, fun h => by cases h⟩)
        (fun _ => ⟨Nat.le_trans hlo h1, fun i hi e => hnew i hi (by rw [e]; exact List.mem_singleton.2 rfl), h8⟩)
      refine ⟨_, ⟨m', rfl, st, fun i hi => ?_⟩, ?_⟩
      · by_cases e : i = d
        · subst e; exact .inr (by rw [gh.set_β]; exact List.mem_singleton.2 rfl)
        · exact .inl ⟨(live_same (updL_ne _ ob e) (gh.set_hd_ne _ _ e)).1 hi, gh.set_β_ne _ _ e⟩
      · simp only [RV, updL_one]; exact ⟨(gh.set_hd _ _ _).symm, rfl⟩
  | box cs =>
    simp only [imp1] at hi; cases hi
    simp only [R1] at hr
    have hf : ob d = .free := hfree _ (List.mem_singleton.2 rfl)
    obtain ⟨b, rfl, rfl, h1, hbx⟩ := hr
    obtain ⟨m', st⟩ := m.adopt hf (.box (cs.map .pv) true) undef (b := b)
      (RO_box (gh := gh.set d b undef) (by rw [gh.set_β]; exact hbx))
      (fun _ => ⟨Nat.le_trans hlo h1, fun i hi e => hnew i hi (by rw [e]; exact List.mem_singleton.2 rfl), by obtain ⟨_, _, _, _, h⟩ := hbx; exact h⟩)
    refine ⟨_, ⟨m', rfl, st, fun i hi => ?_⟩, ?_⟩
    · by_cases e : i = d
      · subst e; exact .inr (by rw [gh.set_β]; exact List.mem_singleton.2 rfl)
      · exact .inl ⟨(live_same (updL_ne _ ob e) (gh.set_hd_ne _ _ e)).1 hi, gh.set_β_ne _ _ e⟩
    · simp only [RV, updL_one, gh.set_β]
  | _ => simp only [imp1] at hi; cases hi

theorem impL_keys : ∀ (xs : List XV) (d : Nat) (as : List AV) (l : List (Nat × Obj)), impL d xs = some (as, l) → ∀ p ∈ l, d ≤ p.1
  | [], d, as, l, h => by simp only [impL] at h; cases h; intro p hp; cases hp
  | x :: xs, d, as, l, h => by
    simp only [impL] at h
    split at h
    · rename_i a l1 as1 l2 e1 e2
      cases h
      intro p hp
      rcases List.mem_append.1 hp with hp | hp
      · cases x <;> simp only [imp1] at e1 <;> cases e1 <;> simp at hp <;> simp [hp]
      · have := impL_keys xs (d + 1) as1 l2 e2 p hp; omega
    · cases h

theorem updL_out (l : List (Nat × Obj)) (ob : Obs) (g : Nat) (h : ∀ p ∈ l, p.1 ≠ g) : updL l ob g = ob g := by
  induction l with
  | nil => rfl
  | cons p l ih => obtain ⟨k, o⟩ := p; rw [updL_at, if_neg (show k ≠ g from h (k, o) (by simp))]; exact ih fun p hp => h p (by simp [hp])

theorem adoptL {lo : Nat} (hlo : c.w0.heap.size ≤ lo) : ∀ (xs : List XV) (d : Nat) (as : List AV) (l : List (Nat × Obj)) (vs : List Value) (own : List Nat) (gh : Gh), Mem c ob w gh → impL d xs = some (as, l) → RL w gh.I lo xs vs own → own.Nodup →
    (∀ i, live ob gh i → gh.β i ∉ own) → (∀ p ∈ l, ob p.1 = .free) → ∃ gh', Adopted c ob (updL l ob) w gh gh' own ∧ RVL w gh' (updL l ob) as vs
  | [], d, as, l, vs, own, gh, m, h, hr, _, _, _ => by
    simp only [impL] at h; cases h
    simp only [RL] at hr
    exact ⟨gh, ⟨m, rfl, fun k => Stays.same rfl rfl, fun i hi => .inl ⟨hi, rfl⟩⟩, hr.1⟩
  | x :: xs, d, as, l, vs, own, gh, m, h, hr, hnd, hnew, hfree => by
    simp only [impL] at h
    split at h
    · rename_i a l1 as1 l2 e1 e2
      cases h
      simp only [RL] at hr
      obtain ⟨v, vs', b1, bs', rfl, rfl, hr1, hr2⟩ := hr
      obtain ⟨n1, n2, n3⟩ := List.nodup_append.1 hnd
      obtain ⟨gh1, ⟨m1, hI1, st1, lv1⟩, hv1⟩ := adoptL hlo xs (d + 1) as1 l2 vs' bs' gh m e2 hr2 n2 (fun i hi hb => hnew i hi (List.mem_append.2 (.inr hb))) (fun p hp => hfree p (List.mem_append.2 (.inr hp)))
      have hk : ∀ p ∈ l1, p.1 = d := fun p hp => by
        cases x <;> simp only [imp1] at e1 <;> cases e1 <;> simp at hp <;> simp [hp]
      have hfree1 : ∀ p ∈ l1, updL l2 ob p.1 = .free := fun p hp => by
        rw [updL_out l2 ob p.1 fun q hq e => by have := impL_keys xs (d + 1) as1 l2 e2 q hq; have := hk p hp; omega]
        exact hfree p (List.mem_append.2 (.inl hp))
      rw [← hI1] at hr1
      obtain ⟨gh2, ⟨m2, hI2, st2, lv2⟩, hv2⟩ := adopt1 m1 e1 hr1 hlo (fun i hi hb => by
        rcases lv1 i hi with ⟨h1, h2⟩ | h1
        · rw [h2] at hb; exact hnew i h1 (List.mem_append.2 (.inl hb))
        · exact n3 _ hb _ h1 rfl) hfree1
      rw [updL_append]
      refine ⟨gh2, ⟨m2, hI2.trans hI1, fun k => (st1 k).trans (st2 k), fun i hi => ?_⟩, v, vs', rfl, hv2, ?_⟩
      · rcases lv2 i hi with ⟨h1, h2⟩ | h1
        · rcases lv1 i h1 with ⟨h3, h4⟩ | h3
          · exact .inl ⟨h3, h2.trans h4⟩
          · exact .inr (by rw [h2]; exact List.mem_append.2 (.inr h3))
        · exact .inr (List.mem_append.2 (.inl h1))
      · exact RVL.move (Same.refl' fun _ => rfl) (fun b o h => by rw [hI2]; exact h) st2 _ _ hv1
    · cases h

theorem adoptR {lo : Nat} (hlo : c.w0.heap.size ≤ lo) {d : Nat} {r : XV} {x' : AV} {l : List (Nat × Obj)} {v : Value} {own : List Nat} (m : Mem c ob w gh) (hi : imp d r = some (x', l)) (hr : RR w gh.I lo r v own) (hnd : own.Nodup)
    (hnew : ∀ i, live ob gh i → gh.β i ∉ own) (hfree : ∀ p ∈ l, ob p.1 = .free) : ∃ gh', Adopted c ob (updL l ob) w gh gh' own ∧ RV w gh' (updL l ob) x' v := by
  cases r with
  | tup xs =>
    simp only [imp] at hi
    split at hi
    · rename_i as l1 e1
      cases hi
      simp only [RR] at hr
      obtain ⟨vs, rfl, hr⟩ := hr
      obtain ⟨gh', h1, h2⟩ := adoptL hlo xs (d + 1) as l vs.toList own gh m e1 hr hnd hnew hfree
      exact ⟨gh', h1, vs, rfl, h2⟩
    · cases hi
  | _ => exact adopt1 m (by simpa only [imp] using hi) (by simpa only [RR] using hr) hlo hnew hfree

theorem R1_lo {I : Imm} {lo : Nat} {x : XV} {v : Value} {own : List Nat} (h : R1 w I lo x v own) : ∀ b ∈ own, lo ≤ b := by
  cases x <;> simp only [R1] at h
  · rw [h.2]; intro b hb; cases hb
  · rcases h with ⟨_, _, rfl⟩ | ⟨b, _, _, _, _, rfl, h, _⟩
    · intro b hb; cases hb
    · intro k hk; rw [List.mem_singleton.1 hk]; exact h
  · obtain ⟨b, _, rfl, h, _⟩ := h
    intro k hk; rw [List.mem_singleton.1 hk]; exact h
theorem RL_lo {I : Imm} {lo : Nat} : ∀ {xs : List XV} {vs : List Value} {own : List Nat}, RL w I lo xs vs own → ∀ b ∈ own, lo ≤ b
  | [], vs, own, h => by simp only [RL] at h; rw [h.2]; intro b hb; cases hb
  | x :: xs, vs, own, h => by
    simp only [RL] at h
    obtain ⟨v, vs', b1, bs', rfl, rfl, h1, h2⟩ := h
    intro b hb
    rcases List.mem_append.1 hb with hb | hb
    · exact R1_lo h1 b hb
    · exact RL_lo h2 b hb
theorem RR_lo {I : Imm} {lo : Nat} {x : XV} {v : Value} {own : List Nat} (h : RR w I lo x v own) : ∀ b ∈ own, lo ≤ b := by
  cases x with
  | tup xs => obtain ⟨vs, _, h⟩ := h; exact RL_lo h
  | _ => exact R1_lo (by simpa only [RR] using h)

theorem AR_len {I : Imm} : ∀ {args : List XV} {vals : List Value} {bs : List Nat}, AR w I args vals bs → vals.length = args.length
  | [], vals, bs, h => by simp only [AR] at h; rw [h.1]; rfl
  | x :: args, vals, bs, h => by
    simp only [AR] at h
    obtain ⟨v, vs', b1, bs', rfl, rfl, h1, h2⟩ := h
    simp [AR_len h2]
theorem RL_len {I : Imm} {lo : Nat} : ∀ {xs : List XV} {vs : List Value} {own : List Nat}, RL w I lo xs vs own → vs.length = xs.length
  | [], vs, own, h => by simp only [RL] at h; rw [h.1]; rfl
  | x :: xs, vs, own, h => by
    simp only [RL] at h
    obtain ⟨v, vs', b1, bs', rfl, rfl, h1, h2⟩ := h
    simp [RL_len h2]

end Go.Proofs.YtbgkalolmichdaaA
