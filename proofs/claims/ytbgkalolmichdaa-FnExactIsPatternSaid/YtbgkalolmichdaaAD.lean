/- How memory and the abstract objects change together: a new block, a turned cell, a shared or a dead object. Conditions: none. -/
import Derived.Test.YtbgkalolmichdaaAC
namespace Go.Proofs.YtbgkalolmichdaaA
open Go

/-- Turned objects; the first entry counts. -/
def updL (l : List (Nat × Obj)) (ob : Obs) : Obs := fun i => look (ob i) l i
theorem updL_nil (ob : Obs) : updL [] ob = ob := rfl
theorem updL_cons (k : Nat) (o : Obj) (l : List (Nat × Obj)) (ob : Obs) : updL ((k, o) :: l) ob = fun i => if k = i then o else updL l ob i := rfl
theorem look_append {α : Type} (d : α) (l l' : List (Nat × α)) (i : Nat) : look d (l ++ l') i = look (look d l' i) l i := by
  induction l with
  | nil => rfl
  | cons p l ih => obtain ⟨k, v⟩ := p; simp only [List.cons_append, look, ih]
theorem updL_append (l l' : List (Nat × Obj)) (ob : Obs) : updL (l ++ l') ob = updL l (updL l' ob) := by
  funext i; exact look_append _ _ _ _
theorem St.obj_apply (σ : St) (dst : Option Nat) (out : Out) : (σ.apply dst out).obj = updL out.upd σ.obj := by
  funext i; exact look_append _ _ _ _

def Gh.set (gh : Gh) (d b : Nat) (h : Value) : Gh := { gh with β := fun i => if d = i then b else gh.β i, hd := fun i => if d = i then h else gh.hd i }

variable {c : Ctx} {ob ob' : Obs} {w w' : World} {gh gh' : Gh}

/-- The cells that may not be turned are as they were. -/
def Same (gh : Gh) (w w' : World) : Prop := ∀ b o v, gh.I b o → w.cell? ⟨b, o, none⟩ = some v → w'.cell? ⟨b, o, none⟩ = some v

theorem RO.move (h : Same gh w w') (hI : ∀ b o, gh.I b o → gh'.I b o) (hs : ∀ g, Stays gh gh' g (ob g) (ob' g)) (g : Nat) (o : Obj)
    (hβ : gh'.β g = gh.β g) (hh : gh'.hd g = gh.hd g) (hb : (∃ x, o = .box x true ∨ o = .box x false) ∨ gh.hd g ≠ .slice none 0 0 → w'.heap[gh.β g]? = w.heap[gh.β g]?)
    (hr : RO w gh ob g o) : RO w' gh' ob' g o := by
  cases o with
  | free => trivial
  | dead => trivial
  | box cs e =>
    have hb := hb (.inl ⟨cs, by cases e <;> simp⟩)
    simp only [RO] at hr ⊢
    obtain ⟨cur, T, h1, h2, h3, h4⟩ := hr
    refine ⟨cur, T, by rw [hβ, hb, h1], RVL.move h hI hs _ _ h2, h3, fun he o ho => ?_⟩
    rw [hβ]; exact hI _ _ (h4 he o ho)
  | row s xs e =>
    simp only [RO] at hr ⊢
    rcases hr with ⟨h1, h2⟩ | ⟨cap, cur, T, h1, h2, h3, h4, h5, h6, h7, h8⟩
    · exact .inl ⟨by rw [hh, h1], h2⟩
    · have hb := hb (.inr (by rw [h1]; simp))
      refine .inr ⟨cap, cur, T, by rw [hh, hβ, h1], by rw [hβ, hb, h2], h3, h4, h5, h6, RepC.mono h hI s xs _ h7, fun he o ho => ?_⟩
      rw [hβ]; exact hI _ _ (h8 he o ho)

theorem RO.block {g : Nat} (hr : RO w gh ob g (ob g)) (hl : live ob gh g) : ∃ cur T, w.heap[gh.β g]? = some (.cells cur T (0, 0)) := by
  unfold live at hl
  cases ho : ob g with
  | free => rw [ho] at hl; exact hl.elim
  | dead => rw [ho] at hl; exact hl.elim
  | box cs e => rw [ho] at hr; obtain ⟨cur, T, h, _⟩ := hr; exact ⟨cur, T, h⟩
  | row s xs e =>
    rw [ho] at hr hl
    rcases hr with ⟨h, _⟩ | ⟨cap, cur, T, _, h, _⟩
    · exact absurd h hl
    · exact ⟨cur, T, h⟩

theorem Mem.lt (m : Mem c ob w gh) {g : Nat} (hl : live ob gh g) : gh.β g < w.heap.size := by
  obtain ⟨cur, T, h⟩ := (m.ro g).block hl
  rcases Nat.lt_or_ge (gh.β g) w.heap.size with h' | h'
  · exact h'
  · rw [Array.getElem?_eq_none h'] at h; cases h

theorem cell_of_heap {b : Nat} (h : w'.heap[b]? = w.heap[b]?) (o : Nat) : w'.cell? ⟨b, o, none⟩ = w.cell? ⟨b, o, none⟩ := by
  simp only [World.cell?, h]

theorem live_of {g : Nat} (hx : (∃ x, ob g = .box x true ∨ ob g = .box x false) ∨ gh.hd g ≠ .slice none 0 0) (hn : ob g ≠ .free) (hd : ob g ≠ .dead) : live ob gh g := by
  unfold live
  cases hb : ob g with
  | free => exact absurd hb hn
  | dead => exact absurd hb hd
  | box cs e => trivial
  | row s xs e => rw [hb] at hx; simpa using hx

/-- What is not touched stays. -/
theorem Mem.rest (m : Mem c ob w gh) (h : Same gh w w') (hI : ∀ b o, gh.I b o → gh'.I b o) (hs : ∀ g, Stays gh gh' g (ob g) (ob' g)) {g : Nat}
    (ho : ob' g = ob g) (hβ : gh'.β g = gh.β g) (hh : gh'.hd g = gh.hd g) (hb : live ob gh g → w'.heap[gh.β g]? = w.heap[gh.β g]?) : RO w' gh' ob' g (ob' g) := by
  rw [ho]
  have hr := m.ro g
  by_cases hn : ob g = .free
  · rw [hn]; trivial
  by_cases hd : ob g = .dead
  · rw [hd]; trivial
  exact RO.move h hI hs g _ hβ hh (fun hx => hb (live_of hx hn hd)) hr

theorem live_same {g : Nat} (ho : ob' g = ob g) (hh : gh'.hd g = gh.hd g) : live ob' gh' g ↔ live ob gh g := by
  unfold live; rw [ho, hh]

theorem Stays.same {g : Nat} {o : Obj} (hβ : gh'.β g = gh.β g) (hh : gh'.hd g = gh.hd g) : Stays gh gh' g o o := by
  cases o with
  | free => trivial
  | dead => rfl
  | box cs e => exact ⟨⟨cs, e, rfl⟩, hβ⟩
  | row s xs e => exact .inr ⟨⟨xs, e, rfl⟩, hβ, hh⟩

theorem updL_one (d : Nat) (o : Obj) (ob : Obs) : updL [(d, o)] ob d = o := by simp [updL, look]
theorem updL_ne {d g : Nat} (o : Obj) (ob : Obs) (h : g ≠ d) : updL [(d, o)] ob g = ob g := by simp [updL, look, Ne.symm h]
theorem Gh.set_β (gh : Gh) (d b : Nat) (h : Value) : (gh.set d b h).β d = b := by simp [Gh.set]
theorem Gh.set_hd (gh : Gh) (d b : Nat) (h : Value) : (gh.set d b h).hd d = h := by simp [Gh.set]
theorem Gh.set_β_ne (gh : Gh) {d g : Nat} (b : Nat) (h : Value) (hg : g ≠ d) : (gh.set d b h).β g = gh.β g := by simp [Gh.set, Ne.symm hg]
theorem Gh.set_hd_ne (gh : Gh) {d g : Nat} (b : Nat) (h : Value) (hg : g ≠ d) : (gh.set d b h).hd g = gh.hd g := by simp [Gh.set, Ne.symm hg]

theorem Same.alloc (m : Mem c ob w gh) (o : Go.Obj) : Same gh w (w.alloc o) := fun b o' v hI hc => by
  rw [cell_of_heap (heap_alloc_old w _ b (m.old b o' hI))]; exact hc

/-- A new block, a new object. -/
theorem Mem.alloc (m : Mem c ob w gh) {d : Nat} (hf : ob d = .free) (cur : Array Value) (T : TypeId) (o : Obj) (h : Value)
    (ho : RO (w.alloc (.cells cur T)) (gh.set d w.heap.size h) (updL [(d, o)] ob) d o) :
    Mem c (updL [(d, o)] ob) (w.alloc (.cells cur T)) (gh.set d w.heap.size h) ∧ ∀ g, Stays gh (gh.set d w.heap.size h) g (ob g) (updL [(d, o)] ob g) := by
  have hold : ∀ k, k < w.heap.size → (w.alloc (.cells cur T)).heap[k]? = w.heap[k]? := fun k hk => heap_alloc_old w _ k hk
  have hsame : Same gh w (w.alloc (.cells cur T)) := Same.alloc m _
  have hst : ∀ g, Stays gh (gh.set d w.heap.size h) g (ob g) (updL [(d, o)] ob g) := fun g => by
    by_cases hg : g = d
    · subst hg; rw [hf]; trivial
    · rw [updL_ne o ob hg]; exact Stays.same (gh.set_β_ne _ _ hg) (gh.set_hd_ne _ _ hg)
  have hlive : ∀ g, g ≠ d → live (updL [(d, o)] ob) (gh.set d w.heap.size h) g → live ob gh g := fun g hg hl =>
    (live_same (updL_ne o ob hg) (gh.set_hd_ne _ _ hg)).1 hl
  have hsz : w.heap.size ≤ (w.alloc (.cells cur T)).heap.size := by simp
  refine ⟨⟨fun g => ?_, fun i j hi hj hij => ?_, fun i o' hi hI => ?_, fun b o' hI => Nat.lt_of_lt_of_le (m.old b o' hI) hsz, fun i hi => ?_, m.keep, m.new, fun b hb he => ?_, Nat.le_trans m.size hsz, m.os, m.tape, m.output⟩, hst⟩
  · by_cases hg : g = d
    · subst hg; rw [updL_one]; exact ho
    · exact m.rest (gh' := gh.set d w.heap.size h) hsame (fun _ _ h => h) hst (updL_ne o ob hg) (gh.set_β_ne _ _ hg) (gh.set_hd_ne _ _ hg) fun hl => hold _ (m.lt hl)
  · by_cases hi' : i = d
    · by_cases hj' : j = d
      · rw [hi', hj']
      · have := m.lt (hlive j hj' hj)
        rw [hi', gh.set_β, gh.set_β_ne _ _ hj'] at hij; omega
    · by_cases hj' : j = d
      · have := m.lt (hlive i hi' hi)
        rw [hj', gh.set_β, gh.set_β_ne _ _ hi'] at hij; omega
      · rw [gh.set_β_ne _ _ hi', gh.set_β_ne _ _ hj'] at hij
        exact m.inj i j (hlive i hi' hi) (hlive j hj' hj) hij
  · by_cases hi' : i = d
    · rw [hi', gh.set_β] at hI
      exact absurd (m.old _ _ hI) (Nat.lt_irrefl _)
    · rw [gh.set_β_ne _ _ hi'] at hI
      rw [updL_ne o ob hi']
      exact m.sep i o' (hlive i hi' hi) hI
  · by_cases hi' : i = d
    · rw [hi', gh.set_β]; exact .inr m.size
    · rw [gh.set_β_ne _ _ hi']; exact m.mod i (hlive i hi' hi)
  · rw [hold b (Nat.lt_of_lt_of_le hb m.size)]; exact m.frame b hb he

/-- The same memory, other counts. -/
theorem Mem.world (m : Mem c ob w gh) (hh : w'.heap = w.heap) (ho : w'.os = w.os) (ht : w'.tape = w.tape) (hp : w'.output = w.output) :
    Mem c ob w' gh ∧ Same gh w w' := by
  have hsame : Same gh w w' := fun b o v _ hc => by rw [cell_of_heap (w := w) (by rw [hh])]; exact hc
  have hst : ∀ g, Stays gh gh g (ob g) (ob g) := fun g => Stays.same rfl rfl
  refine ⟨⟨fun g => m.rest hsame (fun _ _ h => h) hst rfl rfl rfl fun _ => by rw [hh], m.inj, m.sep, fun b o hI => by rw [hh]; exact m.old b o hI, m.mod, m.keep, m.new, fun b hb he => by rw [hh]; exact m.frame b hb he, by rw [hh]; exact m.size, by rw [ho]; exact m.os, by rw [ht]; exact m.tape, by rw [hp]; exact m.output⟩, hsame⟩

/-- A turned block of an object that nobody else looks at. -/
theorem Mem.turn (m : Mem c ob w gh) {g : Nat} (hl : live ob gh g) (o : Obj)
    (hkind : (∃ cs cs', ob g = .box cs true ∧ o = .box cs' true) ∨ ∃ s xs xs', ob g = .row s xs true ∧ o = .row s xs' true)
    (hh : ∀ b, b ≠ gh.β g → w'.heap[b]? = w.heap[b]?) (hsz : w'.heap.size = w.heap.size) (ho : w'.os = w.os) (ht : w'.tape = w.tape) (hp : w'.output = w.output)
    (hr : Same gh w w' → (∀ k, Stays gh gh k (ob k) (updL [(g, o)] ob k)) → RO w' gh (updL [(g, o)] ob) g o) :
    Mem c (updL [(g, o)] ob) w' gh ∧ Same gh w w' ∧ ∀ k, Stays gh gh k (ob k) (updL [(g, o)] ob k) := by
  have hns : ∀ x, ¬ shown (ob g) x := fun x => by
    rcases hkind with ⟨cs, cs', h, _⟩ | ⟨s, xs, xs', h, _⟩ <;> rw [h] <;> simp [shown]
  have hsame : Same gh w w' := fun b x v hI hc => by
    by_cases hb : b = gh.β g
    · subst hb; exact absurd (m.sep g x hl hI) (hns x)
    · rw [cell_of_heap (hh b hb)]; exact hc
  have hst : ∀ k, Stays gh gh k (ob k) (updL [(g, o)] ob k) := fun k => by
    by_cases hk : k = g
    · subst hk
      rw [updL_one]
      rcases hkind with ⟨cs, cs', h, h'⟩ | ⟨s, xs, xs', h, h'⟩
      · rw [h, h']; exact ⟨⟨cs', true, rfl⟩, rfl⟩
      · rw [h, h']; exact .inr ⟨⟨xs', true, rfl⟩, rfl, rfl⟩
    · rw [updL_ne o ob hk]; exact Stays.same rfl rfl
  have hlive : ∀ k, live (updL [(g, o)] ob) gh k → live ob gh k := fun k hk => by
    by_cases e : k = g
    · rw [e]; exact hl
    · exact (live_same (updL_ne o ob e) rfl).1 hk
  refine ⟨⟨fun k => ?_, fun i j hi hj => m.inj i j (hlive i hi) (hlive j hj), fun i x hi hI => ?_, fun b x hI => by rw [hsz]; exact m.old b x hI, fun i hi => m.mod i (hlive i hi), m.keep, m.new, fun b hb he => ?_, by rw [hsz]; exact m.size, by rw [ho]; exact m.os, by rw [ht]; exact m.tape, by rw [hp]; exact m.output⟩, hsame, hst⟩
  · by_cases hk : k = g
    · subst hk; rw [updL_one]; exact hr hsame hst
    · exact m.rest hsame (fun _ _ h => h) hst (updL_ne o ob hk) rfl rfl fun hlk => hh _ fun e => hk (m.inj k g hlk hl e)
  · by_cases e : i = g
    · subst e; exact absurd (m.sep i x hl hI) (hns x)
    · rw [updL_ne o ob e]; exact m.sep i x (hlive i hi) hI
  · by_cases e : b = gh.β g
    · subst e
      rcases m.mod g hl with h | h
      · exact absurd h he
      · omega
    · rw [hh b e]; exact m.frame b hb he

/-- A shared object. -/
def shared : Obj → Obj
  | .row s xs _ => .row s xs false
  | .box cs _ => .box cs false
  | o => o
def showG (gh : Gh) (ob : Obs) (g : Nat) (n : Nat) : Gh := { gh with I := fun b o => gh.I b o ∨ (live ob gh g ∧ b = gh.β g ∧ shown (shared (ob g)) o ∧ o < n) }

theorem Same.refl' (h : ∀ b : Nat, w'.heap[b]? = w.heap[b]?) : Same gh w w' := fun b o v _ hc => by rw [cell_of_heap (h b)]; exact hc

theorem size_of_block {b : Nat} {cur : Array Value} {T : TypeId} {fz : Nat × Nat} (h : w.heap[b]? = some (.cells cur T fz)) : b < w.heap.size := by
  rcases Nat.lt_or_ge b w.heap.size with h' | h'
  · exact h'
  · rw [Array.getElem?_eq_none h'] at h; cases h

/-- An object is shared: nobody turns what is in it any more. -/
theorem Mem.share (m : Mem c ob w gh) (g : Nat) :
    ∃ I' : Imm, Mem c (updL [(g, shared (ob g))] ob) w { gh with I := I' } ∧ (∀ b o, gh.I b o → I' b o) ∧ (∀ k, Stays gh { gh with I := I' } k (ob k) (updL [(g, shared (ob g))] ob k)) := by
  by_cases hl : live ob gh g
  case neg =>
    refine ⟨gh.I, ?_, fun _ _ h => h, ?_⟩
    · have hlive : ∀ k, live (updL [(g, shared (ob g))] ob) gh k → live ob gh k := fun k hk => by
        by_cases e : k = g
        · subst e
          unfold live at hk ⊢
          rw [updL_one] at hk
          cases hb : ob k <;> rw [hb] at hk <;> simp [shared] at hk ⊢ <;> exact hk
        · exact (live_same (updL_ne _ ob e) rfl).1 hk
      refine ⟨fun k => ?_, fun i j hi hj => m.inj i j (hlive i hi) (hlive j hj), fun i x hi hI => ?_, m.old, fun i hi => m.mod i (hlive i hi), m.keep, m.new, m.frame, m.size, m.os, m.tape, m.output⟩
      · by_cases e : k = g
        · subst e
          rw [updL_one]
          have hr := m.ro k
          unfold live at hl
          cases hb : ob k with
          | free => trivial
          | dead => trivial
          | box cs e => rw [hb] at hl; exact absurd trivial hl
          | row s xs e =>
            rw [hb] at hl hr
            have hn : gh.hd k = .slice none 0 0 := by simpa using hl
            rcases hr with ⟨h1, h2⟩ | ⟨cap, cur, T, h1, _⟩
            · exact .inl ⟨h1, h2⟩
            · rw [hn] at h1; cases h1
        · have hst : ∀ k, Stays gh gh k (ob k) (updL [(g, shared (ob g))] ob k) := fun k => by
            by_cases e : k = g
            · subst e; rw [updL_one]
              cases hb : ob k with
              | free => trivial
              | dead => rfl
              | box cs e => exact ⟨⟨cs, false, rfl⟩, rfl⟩
              | row s xs e => exact .inr ⟨⟨xs, false, rfl⟩, rfl, rfl⟩
            · rw [updL_ne _ ob e]; exact Stays.same rfl rfl
          exact m.rest (gh' := gh) (Same.refl' fun _ => rfl) (fun _ _ h => h) hst (updL_ne _ ob e) rfl rfl fun _ => rfl
      · by_cases e : i = g
        · subst e; exact absurd (hlive i hi) hl
        · rw [updL_ne _ ob e]; exact m.sep i x (hlive i hi) hI
    · intro k
      by_cases e : k = g
      · subst e; rw [updL_one]
        cases hb : ob k with
        | free => trivial
        | dead => rfl
        | box cs e => exact ⟨⟨cs, false, rfl⟩, rfl⟩
        | row s xs e => exact .inr ⟨⟨xs, false, rfl⟩, rfl, rfl⟩
      · rw [updL_ne _ ob e]; exact Stays.same rfl rfl
  case pos =>
    let I' : Imm := fun b o => gh.I b o ∨ (b = gh.β g ∧ shown (shared (ob g)) o)
    have hI : ∀ b o, gh.I b o → I' b o := fun b o h => .inl h
    have hst : ∀ k, Stays gh { gh with I := I' } k (ob k) (updL [(g, shared (ob g))] ob k) := fun k => by
      by_cases e : k = g
      · subst e; rw [updL_one]
        cases hb : ob k with
        | free => trivial
        | dead => rfl
        | box cs e => exact ⟨⟨cs, false, rfl⟩, rfl⟩
        | row s xs e => exact .inr ⟨⟨xs, false, rfl⟩, rfl, rfl⟩
      · rw [updL_ne _ ob e]; exact Stays.same rfl rfl
    have hlive : ∀ k, live (updL [(g, shared (ob g))] ob) { gh with I := I' } k → live ob gh k := fun k hk => by
      by_cases e : k = g
      · rw [e]; exact hl
      · exact (live_same (updL_ne _ ob e) rfl).1 hk
    have hsame : Same gh w w := Same.refl' fun _ => rfl
    refine ⟨I', ⟨fun k => ?_, fun i j hi hj => m.inj i j (hlive i hi) (hlive j hj), fun i x hi hI' => ?_, fun b o hb => ?_, fun i hi => m.mod i (hlive i hi), fun b o h => hI _ _ (m.keep b o h), fun b o h => ?_, m.frame, m.size, m.os, m.tape, m.output⟩, hI, hst⟩
    · by_cases e : k = g
      · subst e
        rw [updL_one]
        have hr := m.ro k
        suffices hx : ∀ o, ob k = o → RO w { gh with I := I' } (updL [(k, shared (ob k))] ob) k (shared o) from hx _ rfl
        intro o hb
        cases o with
        | free => trivial
        | dead => trivial
        | box cs e =>
          rw [hb] at hr
          obtain ⟨cur, T, h1, h2, h3, _⟩ := hr
          exact ⟨cur, T, h1, RVL.move hsame hI hst _ _ h2, h3, fun _ o _ => .inr ⟨rfl, by rw [hb]; trivial⟩⟩
        | row s xs e =>
          rw [hb] at hr
          rcases hr with ⟨h1, h2⟩ | ⟨cap, cur, T, h1, h2, h3, h4, h5, h6, h7, _⟩
          · exact .inl ⟨h1, h2⟩
          · exact .inr ⟨cap, cur, T, h1, h2, h3, h4, h5, h6, RepC.mono hsame hI s xs _ h7, fun _ o ho => .inr ⟨rfl, by rw [hb]; exact ho⟩⟩
      · exact m.rest (gh' := { gh with I := I' }) hsame hI hst (updL_ne _ ob e) rfl rfl fun _ => rfl
    · have hli := hlive i hi
      rcases hI' with h | ⟨h1, h2⟩
      · by_cases e : i = g
        · subst e
          rw [updL_one]
          have := m.sep i x hli h
          cases hb : ob i with
          | free => rw [hb] at this; exact this.elim
          | dead => rw [hb] at this; exact this.elim
          | box cs e => trivial
          | row s xs e =>
            rw [hb] at this
            cases e with
            | true => exact this.elim
            | false => exact this
        · rw [updL_ne _ ob e]; exact m.sep i x hli h
      · have e : i = g := m.inj i g hli hl h1
        subst e
        rw [updL_one]; exact h2
    · rcases hb with h | ⟨h, _⟩
      · exact m.old b o h
      · rw [h]; exact m.lt hl
    · rcases h with h | ⟨h, _⟩
      · exact m.new b o h
      · rw [h]; exact .inr (m.mod g hl)

/-- A dead row. -/
theorem Mem.kill (m : Mem c ob w gh) {g : Nat} (hk : ∃ s xs e, ob g = .row s xs e) :
    Mem c (updL [(g, .dead)] ob) w gh ∧ ∀ k, Stays gh gh k (ob k) (updL [(g, .dead)] ob k) := by
  obtain ⟨s, xs, e, hg⟩ := hk
  have hst : ∀ k, Stays gh gh k (ob k) (updL [(g, .dead)] ob k) := fun k => by
    by_cases h : k = g
    · subst h; rw [updL_one, hg]; exact .inl rfl
    · rw [updL_ne _ ob h]; exact Stays.same rfl rfl
  have hlive : ∀ k, live (updL [(g, .dead)] ob) gh k → k ≠ g ∧ live ob gh k := fun k hk => by
    by_cases h : k = g
    · subst h; unfold live at hk; rw [updL_one] at hk; exact hk.elim
    · exact ⟨h, (live_same (updL_ne _ ob h) rfl).1 hk⟩
  refine ⟨⟨fun k => ?_, fun i j hi hj => m.inj i j (hlive i hi).2 (hlive j hj).2, fun i x hi hI => ?_, m.old, fun i hi => m.mod i (hlive i hi).2, m.keep, m.new, m.frame, m.size, m.os, m.tape, m.output⟩, hst⟩
  · by_cases h : k = g
    · subst h; rw [updL_one]; trivial
    · exact m.rest (gh' := gh) (Same.refl' fun _ => rfl) (fun _ _ h => h) hst (updL_ne _ ob h) rfl rfl fun _ => rfl
  · rw [updL_ne _ ob (hlive i hi).1]; exact m.sep i x (hlive i hi).2 hI

def Gh.setI (gh : Gh) (d b : Nat) (h : Value) (I' : Imm) : Gh := ⟨I', (gh.set d b h).β, (gh.set d b h).hd⟩

/-- A row's block passes on to a new object. -/
theorem Mem.pass (m : Mem c ob w gh) {g d : Nat} {s : Nat} {xs : List PV} {e : Bool} (hg : ob g = .row s xs e) (hl : live ob gh g) (hf : ob d = .free) (o : Obj) (h : Value) (I' : Imm)
    (hh : ∀ b, b ≠ gh.β g → w'.heap[b]? = w.heap[b]?) (hsz : w'.heap.size = w.heap.size) (ho : w'.os = w.os) (ht : w'.tape = w.tape) (hp : w'.output = w.output)
    (hpre : ∀ x v, x < xs.length * wd s → w.cell? ⟨gh.β g, x, none⟩ = some v → w'.cell? ⟨gh.β g, x, none⟩ = some v)
    (hI : ∀ b x, gh.I b x → I' b x) (hI' : ∀ b x, I' b x → gh.I b x ∨ (b = gh.β g ∧ shown o x)) (hsh : ∀ x, shown (.row s xs e) x → shown o x)
    (hr : Same gh w w' → (∀ k, Stays gh (gh.setI d (gh.β g) h I') k (ob k) (updL [(g, .dead), (d, o)] ob k)) → RO w' (gh.setI d (gh.β g) h I') (updL [(g, .dead), (d, o)] ob) d o) :
    Mem c (updL [(g, .dead), (d, o)] ob) w' (gh.setI d (gh.β g) h I') ∧ Same gh w w' ∧ ∀ k, Stays gh (gh.setI d (gh.β g) h I') k (ob k) (updL [(g, .dead), (d, o)] ob k) := by
  have hdg : d ≠ g := fun e => by rw [e, hg] at hf; cases hf
  have uo : ∀ k, k ≠ g → k ≠ d → updL [(g, .dead), (d, o)] ob k = ob k := fun k h1 h2 => by simp [updL, look, Ne.symm h1, Ne.symm h2]
  have ug : updL [(g, .dead), (d, o)] ob g = .dead := by simp [updL, look]
  have ud : updL [(g, .dead), (d, o)] ob d = o := by simp [updL, look, Ne.symm hdg]
  have hsame : Same gh w w' := fun b x v hI hc => by
    by_cases hb : b = gh.β g
    · subst hb
      have := m.sep g x hl hI
      rw [hg] at this
      cases e with
      | true => exact this.elim
      | false => exact hpre x v this hc
    · rw [cell_of_heap (hh b hb)]; exact hc
  have hst : ∀ k, Stays gh (gh.setI d (gh.β g) h I') k (ob k) (updL [(g, .dead), (d, o)] ob k) := fun k => by
    by_cases h1 : k = g
    · subst h1; rw [ug, hg]; exact .inl rfl
    · by_cases h2 : k = d
      · subst h2; rw [hf]; trivial
      · rw [uo k h1 h2]; exact Stays.same (gh.set_β_ne (gh.β g) h h2) (gh.set_hd_ne (gh.β g) h h2)
  have hlive : ∀ k, live (updL [(g, .dead), (d, o)] ob) (gh.setI d (gh.β g) h I') k → k ≠ g ∧ (k ≠ d → live ob gh k) := fun k hk => by
    by_cases h1 : k = g
    · subst h1; unfold live at hk; rw [ug] at hk; exact hk.elim
    · refine ⟨h1, fun h2 => ?_⟩
      exact (live_same (gh' := (gh.setI d (gh.β g) h I')) (uo k h1 h2) (gh.set_hd_ne (gh.β g) h h2)).1 hk
  refine ⟨⟨fun k => ?_, fun i j hi hj hij => ?_, fun i x hi hI2 => ?_, fun b x hb => ?_, fun i hi => ?_, fun b x h => hI _ _ (m.keep b x h), fun b x h => ?_, fun b hb he => ?_, by rw [hsz]; exact m.size, by rw [ho]; exact m.os, by rw [ht]; exact m.tape, by rw [hp]; exact m.output⟩, hsame, hst⟩
  · by_cases h1 : k = g
    · subst h1; rw [ug]; trivial
    · by_cases h2 : k = d
      · subst h2; rw [ud]; exact hr hsame hst
      · exact m.rest (gh' := (gh.setI d (gh.β g) h I')) hsame hI hst (uo k h1 h2) (gh.set_β_ne (gh.β g) h h2) (gh.set_hd_ne (gh.β g) h h2) fun hlk => hh _ fun e => h1 (m.inj k g hlk hl e)
  · obtain ⟨i1, i2⟩ := hlive i hi
    obtain ⟨j1, j2⟩ := hlive j hj
    by_cases hi' : i = d
    · by_cases hj' : j = d
      · rw [hi', hj']
      · have e1 : gh.β g = gh.β j := by have := hij; simpa [Gh.setI, Gh.set, hi', Ne.symm hj'] using this
        exact absurd (m.inj g j hl (j2 hj') e1).symm j1
    · by_cases hj' : j = d
      · have e1 : gh.β i = gh.β g := by have := hij; simpa [Gh.setI, Gh.set, hj', Ne.symm hi'] using this
        exact absurd (m.inj i g (i2 hi') hl e1) i1
      · have e1 : gh.β i = gh.β j := by have := hij; simpa [Gh.setI, Gh.set, Ne.symm hj', Ne.symm hi'] using this
        exact m.inj i j (i2 hi') (j2 hj') e1
  · obtain ⟨i1, i2⟩ := hlive i hi
    by_cases hi' : i = d
    · subst hi'
      rw [ud]
      have hI2 : I' (gh.β g) x := by simpa [Gh.setI, Gh.set] using hI2
      rcases hI' _ _ hI2 with h | ⟨_, h⟩
      · exact hsh x (by have := m.sep g x hl h; rwa [hg] at this)
      · exact h
    · rw [uo i i1 hi']
      have hI2 : I' (gh.β i) x := by simpa [Gh.setI, Gh.set, Ne.symm hi'] using hI2
      rcases hI' _ _ hI2 with h | ⟨h, _⟩
      · exact m.sep i x (i2 hi') h
      · exact absurd (m.inj i g (i2 hi') hl h) i1
  · rw [hsz]
    rcases hI' _ _ hb with h | ⟨h, _⟩
    · exact m.old b x h
    · rw [h]; exact m.lt hl
  · obtain ⟨i1, i2⟩ := hlive i hi
    by_cases hi' : i = d
    · subst hi'
      have : (gh.set i (gh.β g) h).β i = gh.β g := gh.set_β _ _ _
      show c.Ext ((gh.set i (gh.β g) h).β i) ∨ _ ≤ (gh.set i (gh.β g) h).β i
      rw [this]; exact m.mod g hl
    · show c.Ext ((gh.set d (gh.β g) h).β i) ∨ _ ≤ (gh.set d (gh.β g) h).β i
      rw [gh.set_β_ne _ _ hi']; exact m.mod i (i2 hi')
  · rcases hI' _ _ h with h | ⟨h, _⟩
    · exact m.new b x h
    · rw [h]; exact .inr (m.mod g hl)
  · by_cases e1 : b = gh.β g
    · subst e1
      rcases m.mod g hl with h | h
      · exact absurd h he
      · omega
    · rw [hh b e1]; exact m.frame b hb he

/-- A state behind an operation. -/
theorem Good.apply {σ : St} {a : Act} (hg : Good c σ a w gh) {dst : Option Nat} {out : Out} {v : Value} (hm : Mem c (updL out.upd σ.obj) w' gh') (hs : Same gh w w') (hI : ∀ b o, gh.I b o → gh'.I b o)
    (hst : ∀ k, Stays gh gh' k (σ.obj k) (updL out.upd σ.obj k)) (hd : dstOk c.nt dst = true) (hv : dst ≠ none → RV w' gh' (updL out.upd σ.obj) out.val v) :
    Good c (σ.apply dst out) (a.put dst v) w' gh' := by
  have ho := St.obj_apply σ dst out
  refine ⟨by rw [ho]; exact hm, fun t => ?_, ?_, ?_, fun p hp => ?_⟩
  rotate_right
  · obtain ⟨h1, cs, e, h2⟩ := hg.hand p hp
    have h3 := hst p.1
    rw [h2] at h3
    obtain ⟨⟨cs', e', h4⟩, h5⟩ := h3
    exact ⟨by rw [h5, h1], cs', e', by rw [ho]; exact h4⟩
  · rw [ho]
    have hold : RV w' gh' (updL out.upd σ.obj) (σ.tmp t) (a.tmps.getD t undef) := RV.move hs hI hst _ _ (hg.tm t)
    cases dst with
    | none => exact hold
    | some u =>
      have hu : u < a.tmps.size := by rw [hg.nt]; simpa [dstOk] using hd
      by_cases e : u = t
      · subst e
        have e1 : (σ.apply (some u) out).tmp u = out.val := by simp [St.apply, St.put, St.tmp, look]
        have e2 : (a.put (some u) v).tmps.getD u undef = v := by simp [Act.put, Array.getD, hu]
        rw [e1, e2]; exact hv (by simp)
      · have e1 : (σ.apply (some u) out).tmp t = σ.tmp t := by simp [St.apply, St.put, St.tmp, look, e]
        have e2 : (a.put (some u) v).tmps.getD t undef = a.tmps.getD t undef := by
          simp only [Act.put, Array.getD_eq_getD_getElem?]
          rw [Array.getElem?_setIfInBounds_ne e]
        rw [e1, e2]; exact hold
  · cases dst with
    | none => exact hg.nd
    | some u => exact hg.nd
  · cases dst with
    | none => exact hg.nt
    | some u => simpa [Act.put] using hg.nt

/-- Nothing but a slot changes. -/
theorem Good.quiet {σ : St} {a : Act} (hg : Good c σ a w gh) {dst : Option Nat} {x : AV} {l : List Nat} {v : Value} (hd : dstOk c.nt dst = true) (hv : dst ≠ none → RV w gh σ.obj x v) :
    Good c (σ.apply dst ⟨x, [], l⟩) (a.put dst v) w gh :=
  hg.apply (out := ⟨x, [], l⟩) hg.mem (Same.refl' fun _ => rfl) (fun _ _ h => h) (fun _ => Stays.same rfl rfl) hd hv

end Go.Proofs.YtbgkalolmichdaaA
