/- What it means that a slot, an object or a state of the abstract machine stands for what the memory holds. Conditions: none; definitions and their first lemmas. -/
import Derived.Test.YtbgkalolmichdaaAB
import Derived.Below
import Derived.Tactics
import Derived.Laws.AppendOwn
namespace Go.Proofs.YtbgkalolmichdaaA
open Go

abbrev Imm := Nat → Nat → Prop

/-- These cells lie there from a place on, and may not be turned. -/
def CellsAt (w : World) (I : Imm) (b off : Nat) (cs : List Value) : Prop :=
  ∀ j c, cs[j]? = some c → w.cell? ⟨b, off + j, none⟩ = some c ∧ I b (off + j)

mutual
/-- A plain value stands for a value in memory; all that it leads to may not be turned. -/
def RepV (w : World) (I : Imm) : PV → Value → Prop
  | .int k n, v => v = .int k n
  | .bool b, v => v = .bool b
  | .str s, v => v = .string s
  | .nilp, v => v = .pointer none
  | .sl xs, v => (xs = [] ∧ (v = .slice none 0 0 ∨ ∃ a cap, v = .slice (some a) 0 cap ∧ cap ≤ maxLen)) ∨ ∃ b off cap s, v = .slice (some ⟨b, off, none⟩) xs.length cap ∧ xs.length ≤ cap ∧ cap ≤ maxLen ∧ 0 < s ∧ RepE w I s xs b off
  | .agg cs, v => ∃ vs, v = .agg vs ∧ RepL w I cs vs.toList
def RepL (w : World) (I : Imm) : List PV → List Value → Prop
  | [], vs => vs = []
  | p :: ps, vs => ∃ v vs', vs = v :: vs' ∧ v.oneCell' = true ∧ RepV w I p v ∧ RepL w I ps vs'
def RepE (w : World) (I : Imm) (s : Nat) : List PV → Nat → Nat → Prop
  | [], _, _ => True
  | x :: xs, b, off => (∃ v, RepV w I x v ∧ v.cells.size = s ∧ CellsAt w I b off v.cells.toList) ∧ RepE w I s xs b (off + s)
end

theorem CellsAt.mono {w w' : World} {I I' : Imm} (h : ∀ b o c, I b o → w.cell? ⟨b, o, none⟩ = some c → w'.cell? ⟨b, o, none⟩ = some c) (hI : ∀ b o, I b o → I' b o)
    {b off : Nat} {cs : List Value} (hc : CellsAt w I b off cs) : CellsAt w' I' b off cs :=
  fun j c hj => ⟨h _ _ _ (hc j c hj).2 (hc j c hj).1, hI _ _ (hc j c hj).2⟩

mutual
theorem RepV.mono {w w' : World} {I I' : Imm} (h : ∀ b o c, I b o → w.cell? ⟨b, o, none⟩ = some c → w'.cell? ⟨b, o, none⟩ = some c) (hI : ∀ b o, I b o → I' b o) :
    ∀ (p : PV) (v : Value), RepV w I p v → RepV w' I' p v
  | .int k n, v, hr => by simpa [RepV] using hr
  | .bool b, v, hr => by simpa [RepV] using hr
  | .str s, v, hr => by simpa [RepV] using hr
  | .nilp, v, hr => by simpa [RepV] using hr
  | .sl xs, v, hr => by
    simp only [RepV] at hr ⊢
    rcases hr with hr | ⟨b, off, cap, s, hv, h1, h2, h3, he⟩
    · exact .inl hr
    · exact .inr ⟨b, off, cap, s, hv, h1, h2, h3, RepE.mono h hI s xs b off he⟩
  | .agg cs, v, hr => by
    simp only [RepV] at hr ⊢
    obtain ⟨vs, hv, hl⟩ := hr
    exact ⟨vs, hv, RepL.mono h hI cs _ hl⟩
theorem RepL.mono {w w' : World} {I I' : Imm} (h : ∀ b o c, I b o → w.cell? ⟨b, o, none⟩ = some c → w'.cell? ⟨b, o, none⟩ = some c) (hI : ∀ b o, I b o → I' b o) :
    ∀ (ps : List PV) (vs : List Value), RepL w I ps vs → RepL w' I' ps vs
  | [], vs, hr => by simpa [RepL] using hr
  | p :: ps, vs, hr => by
    simp only [RepL] at hr ⊢
    obtain ⟨v, vs', hv, h1, hp, hl⟩ := hr
    exact ⟨v, vs', hv, h1, RepV.mono h hI p v hp, RepL.mono h hI ps vs' hl⟩
theorem RepE.mono {w w' : World} {I I' : Imm} (h : ∀ b o c, I b o → w.cell? ⟨b, o, none⟩ = some c → w'.cell? ⟨b, o, none⟩ = some c) (hI : ∀ b o, I b o → I' b o) (s : Nat) :
    ∀ (xs : List PV) (b off : Nat), RepE w I s xs b off → RepE w' I' s xs b off
  | [], _, _, _ => by simp [RepE]
  | x :: xs, b, off, hr => by
    simp only [RepE] at hr ⊢
    obtain ⟨⟨v, hv, hs, hc⟩, he⟩ := hr
    exact ⟨⟨v, RepV.mono h hI x v hv, hs, hc.mono h hI⟩, RepE.mono h hI s xs b (off + s) he⟩
end

/-- Values of cells. -/
def ones (vs : List Value) : Prop := ∀ v ∈ vs, v.oneCell' = true

/-- How many cells an element of width s takes. -/
def wd : Nat → Nat
  | 0 => 1
  | n + 1 => n + 1
theorem wd_pos (s : Nat) : 0 < wd s := by cases s <;> simp [wd]

/-- A value that fills an element of width s. -/
def fitsV (s : Nat) (v : Value) : Prop := v.cells.size = wd s ∧ (s = 0 → v.oneCell' = true) ∧ (0 < s → ∃ cs, v = .agg cs)

/-- Elements one behind the other among cells. -/
def RepC (w : World) (I : Imm) (s : Nat) : List PV → List Value → Prop
  | [], _ => True
  | x :: xs, cs => (∃ v, RepV w I x v ∧ x.fits s = true ∧ v.cells.size = wd s ∧ cs.take (wd s) = v.cells.toList) ∧ RepC w I s xs (cs.drop (wd s))

theorem RepC.mono {w w' : World} {I I' : Imm} (h : ∀ b o c, I b o → w.cell? ⟨b, o, none⟩ = some c → w'.cell? ⟨b, o, none⟩ = some c) (hI : ∀ b o, I b o → I' b o) (s : Nat) :
    ∀ (xs : List PV) (cs : List Value), RepC w I s xs cs → RepC w' I' s xs cs
  | [], _, _ => by simp [RepC]
  | x :: xs, cs, hr => by
    simp only [RepC] at hr ⊢
    obtain ⟨⟨v, hv, hf, hs, hc⟩, he⟩ := hr
    exact ⟨⟨v, RepV.mono h hI x v hv, hf, hs, hc⟩, RepC.mono h hI s xs _ he⟩

/-- What is not told by the abstract state. -/
structure Gh where
  I : Imm
  β : Nat → Nat
  hd : Nat → Value

abbrev Obs := Nat → Obj

mutual
/-- What a slot or a cell holds stands for a value. -/
def RV (w : World) (gh : Gh) (ob : Obs) : AV → Value → Prop
  | .undef, _ => True
  | .pv p, v => RepV w gh.I p v
  | .nils, v => v = .slice none 0 0
  | .rw g, v => match ob g with
    | .row _ _ _ => v = gh.hd g ∧ v.oneCell' = true
    | .dead => v.oneCell' = true
    | _ => False
  | .ptr g off, v => match ob g with
    | .box _ _ => v = .pointer (some ⟨gh.β g, off, none⟩)
    | _ => False
  | .eptr g i off, v => match ob g with
    | .row s _ _ => v = .pointer (some ⟨gh.β g, i * wd s + off, none⟩)
    | .dead => v.oneCell' = true
    | _ => False
  | .cptr s x off, v => ∃ b o u, v = .pointer (some ⟨b, o + off, none⟩) ∧ RepV w gh.I x u ∧ x.fits s = true ∧ u.cells.size = wd s ∧ CellsAt w gh.I b o u.cells.toList
  | .agg as, v => ∃ vs, v = .agg vs ∧ RVL w gh ob as vs.toList ∧ ones vs.toList
  | .tup as, v => ∃ vs, v = .tuple vs ∧ RVL w gh ob as vs.toList
  | .fn f caps, v => ∃ vs : List Value, v = .func (.func f) #[] vs.toArray ∧ vs = caps.map (fun g => .pointer (some ⟨gh.β g, 0, none⟩)) ∧ ∀ g ∈ caps, (match ob g with | .box _ _ => True | _ => False)
def RVL (w : World) (gh : Gh) (ob : Obs) : List AV → List Value → Prop
  | [], vs => vs = []
  | a :: as, vs => ∃ v vs', vs = v :: vs' ∧ RV w gh ob a v ∧ RVL w gh ob as vs'
end

/-- An object stands for a block. -/
def RO (w : World) (gh : Gh) (ob : Obs) (g : Nat) : Obj → Prop
  | .free => True
  | .dead => True
  | .box cs e => ∃ cur T, w.heap[gh.β g]? = some (.cells cur T (0, 0)) ∧ RVL w gh ob cs cur.toList ∧ ones cur.toList ∧ (e = false → ∀ o, o < cur.size → gh.I (gh.β g) o)
  | .row s xs e => (gh.hd g = .slice none 0 0 ∧ xs = []) ∨
      ∃ cap cur T, gh.hd g = .slice (some ⟨gh.β g, 0, none⟩) xs.length cap ∧ w.heap[gh.β g]? = some (.cells cur T (0, 0)) ∧ xs.length ≤ cap ∧ cap ≤ maxLen ∧ cur.size = cap * wd s ∧
        ones cur.toList ∧ RepC w gh.I s xs cur.toList ∧ (e = false → ∀ o, o < xs.length * wd s → gh.I (gh.β g) o)

/-- An object that has a block. -/
def live (ob : Obs) (gh : Gh) (i : Nat) : Prop :=
  match ob i with
  | .box _ _ => True
  | .row _ _ _ => gh.hd i ≠ .slice none 0 0
  | _ => False

/-- The cells of an object's block that may be looked at from elsewhere. -/
def shown : Obj → Nat → Prop
  | .row s xs false, o => o < xs.length * wd s
  | .box _ false, _ => True
  | _, _ => False

/-- A frame's surroundings: the world at its start, what may not be turned there, the blocks that it may turn, its slots, its handed boxes. -/
structure Ctx where
  w0 : World
  I0 : Imm
  Ext : Nat → Prop
  nt : Nat
  hb : List (Nat × Nat)

structure Mem (c : Ctx) (ob : Obs) (w : World) (gh : Gh) : Prop where
  ro : ∀ g, RO w gh ob g (ob g)
  inj : ∀ i j, live ob gh i → live ob gh j → gh.β i = gh.β j → i = j
  sep : ∀ i o, live ob gh i → gh.I (gh.β i) o → shown (ob i) o
  old : ∀ b o, gh.I b o → b < w.heap.size
  mod : ∀ i, live ob gh i → c.Ext (gh.β i) ∨ c.w0.heap.size ≤ gh.β i
  keep : ∀ b o, c.I0 b o → gh.I b o
  new : ∀ b o, gh.I b o → c.I0 b o ∨ c.Ext b ∨ c.w0.heap.size ≤ b
  frame : ∀ b, b < c.w0.heap.size → ¬ c.Ext b → w.heap[b]? = c.w0.heap[b]?
  size : c.w0.heap.size ≤ w.heap.size
  os : w.os = c.w0.os
  tape : w.tape = c.w0.tape
  output : w.output = c.w0.output

structure Good (c : Ctx) (σ : St) (a : Act) (w : World) (gh : Gh) : Prop where
  mem : Mem c σ.obj w gh
  tm : ∀ t, RV w gh σ.obj (σ.tmp t) (a.tmps.getD t undef)
  nd : a.defers = []
  nt : a.tmps.size = c.nt
  hand : ∀ p ∈ c.hb, gh.β p.1 = p.2 ∧ ∃ cs e, σ.obj p.1 = .box cs e

def G (c : Ctx) (σ : St) (a : Act) (w : World) : Prop := ∃ gh, Good c σ a w gh

/-! ### From one moment to the next -/
/-- What was held stays: the same object, or a dead one. -/
def Stays (gh gh' : Gh) (g : Nat) : Obj → Obj → Prop
  | .free, _ => True
  | .dead, o => o = .dead
  | .box _ _, o => (∃ cs e, o = .box cs e) ∧ gh'.β g = gh.β g
  | .row s _ _, o => o = .dead ∨ ((∃ xs e, o = .row s xs e) ∧ gh'.β g = gh.β g ∧ gh'.hd g = gh.hd g)

section
variable {w w' : World} {gh gh' : Gh} {ob ob' : Obs}

mutual
theorem RV.move (h : ∀ b o c, gh.I b o → w.cell? ⟨b, o, none⟩ = some c → w'.cell? ⟨b, o, none⟩ = some c) (hI : ∀ b o, gh.I b o → gh'.I b o) (hs : ∀ g, Stays gh gh' g (ob g) (ob' g)) :
    ∀ (a : AV) (v : Value), RV w gh ob a v → RV w' gh' ob' a v
  | .undef, v, _ => by simp [RV]
  | .pv p, v, hr => by simp only [RV] at hr ⊢; exact RepV.mono h hI p v hr
  | .nils, v, hr => by simpa [RV] using hr
  | .rw g, v, hr => by
    have hg := hs g
    simp only [RV] at hr ⊢
    cases hb : ob g with
    | free => rw [hb] at hr; exact hr.elim
    | box cs e => rw [hb] at hr; exact hr.elim
    | dead => rw [hb] at hg hr; simp only [Stays] at hg; rw [hg]; exact hr
    | row s xs e =>
      rw [hb] at hr hg
      simp only [Stays] at hg
      rcases hg with hd | ⟨⟨ys, e', ho⟩, _, hh⟩
      · rw [hd]; exact hr.2
      · rw [ho]; simp only at hr ⊢; exact ⟨by rw [hr.1, hh], hr.2⟩
  | .ptr g off, v, hr => by
    have hg := hs g
    simp only [RV] at hr ⊢
    cases hb : ob g with
    | free => rw [hb] at hr; exact hr.elim
    | row s xs e => rw [hb] at hr; exact hr.elim
    | dead => rw [hb] at hr; exact hr.elim
    | box cs e =>
      rw [hb] at hr hg
      simp only [Stays] at hg
      obtain ⟨⟨ys, e', ho⟩, hh⟩ := hg
      rw [ho]; simp only at hr ⊢; rw [hr, hh]
  | .eptr g i off, v, hr => by
    have hg := hs g
    simp only [RV] at hr ⊢
    cases hb : ob g with
    | free => rw [hb] at hr; exact hr.elim
    | box cs e => rw [hb] at hr; exact hr.elim
    | dead => rw [hb] at hg hr; simp only [Stays] at hg; rw [hg]; exact hr
    | row s xs e =>
      rw [hb] at hr hg
      simp only [Stays] at hg
      rcases hg with hd | ⟨⟨ys, e', ho⟩, hh, _⟩
      · rw [hd]; simp only at hr ⊢; rw [hr]; rfl
      · rw [ho]; simp only at hr ⊢; rw [hr, hh]
  | .cptr s x off, v, hr => by
    simp only [RV] at hr ⊢
    obtain ⟨b, o, u, hv, hu, hf, hz, hc⟩ := hr
    exact ⟨b, o, u, hv, RepV.mono h hI x u hu, hf, hz, hc.mono h hI⟩
  | .agg as, v, hr => by
    simp only [RV] at hr ⊢
    obtain ⟨vs, hv, hl, h1⟩ := hr
    exact ⟨vs, hv, RVL.move h hI hs as _ hl, h1⟩
  | .tup as, v, hr => by
    simp only [RV] at hr ⊢
    obtain ⟨vs, hv, hl⟩ := hr
    exact ⟨vs, hv, RVL.move h hI hs as _ hl⟩
  | .fn f caps, v, hr => by
    simp only [RV] at hr ⊢
    obtain ⟨vs, hv, hm, hc⟩ := hr
    have hall : ∀ g ∈ caps, (∃ cs e, ob' g = .box cs e) ∧ gh'.β g = gh.β g := fun g hg => by
      have h1 := hc g hg
      have h2 := hs g
      cases hb : ob g with
      | free => rw [hb] at h1; exact h1.elim
      | row s xs e => rw [hb] at h1; exact h1.elim
      | dead => rw [hb] at h1; exact h1.elim
      | box cs e => rw [hb] at h2; exact h2
    refine ⟨vs, hv, ?_, fun g hg => ?_⟩
    · rw [hm]; exact List.map_congr_left fun g hg => by rw [(hall g hg).2]
    · obtain ⟨⟨cs, e, ho⟩, _⟩ := hall g hg
      rw [ho]; trivial
theorem RVL.move (h : ∀ b o c, gh.I b o → w.cell? ⟨b, o, none⟩ = some c → w'.cell? ⟨b, o, none⟩ = some c) (hI : ∀ b o, gh.I b o → gh'.I b o) (hs : ∀ g, Stays gh gh' g (ob g) (ob' g)) :
    ∀ (as : List AV) (vs : List Value), RVL w gh ob as vs → RVL w' gh' ob' as vs
  | [], vs, hr => by simpa [RVL] using hr
  | a :: as, vs, hr => by
    simp only [RVL] at hr ⊢
    obtain ⟨v, vs', hv, ha, hl⟩ := hr
    exact ⟨v, vs', hv, RV.move h hI hs a v ha, RVL.move h hI hs as vs' hl⟩
end
end

end Go.Proofs.YtbgkalolmichdaaA
