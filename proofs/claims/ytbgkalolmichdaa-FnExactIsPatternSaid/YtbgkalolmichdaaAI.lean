/- Sharing, storing and making: the abstract machine tells what the translated operations do. Conditions: none. -/
import Derived.Test.YtbgkalolmichdaaAH
namespace Go.Proofs.YtbgkalolmichdaaA
open Go
set_option linter.unusedSimpArgs false
set_option linter.unusedVariables false

variable {P : Program} {c : Ctx} {σ : St} {a : Act} {w : World} {gh : Gh} {ob : Obs} {call : FuncId → List XV → Option Res} {d : Nat}

theorem Stays.trans {gh gh' gh'' : Gh} {g : Nat} {o o' o'' : Obj} (h : Stays gh gh' g o o') (h' : Stays gh' gh'' g o' o'') : Stays gh gh'' g o o'' := by
  cases o with
  | free => trivial
  | dead => simp only [Stays] at h; subst h; exact h'
  | box cs e =>
    simp only [Stays] at h
    obtain ⟨⟨cs', e', rfl⟩, hβ⟩ := h
    simp only [Stays] at h' ⊢
    exact ⟨h'.1, by rw [h'.2, hβ]⟩
  | row s xs e =>
    simp only [Stays] at h
    rcases h with rfl | ⟨⟨xs', e', rfl⟩, hβ, hh⟩
    · simp only [Stays] at h'; exact .inl h'
    · simp only [Stays] at h'
      rcases h' with rfl | ⟨hx, hβ', hh'⟩
      · exact .inl rfl
      · exact .inr ⟨hx, by rw [hβ', hβ], by rw [hh', hh]⟩

theorem shared_shared (o : Obj) : shared (shared o) = shared o := by cases o <;> rfl
theorem share1_eq (σ : St) (g : Nat) : share1 σ g = (g, shared (σ.obj g)) := by
  unfold share1
  cases σ.obj g <;> rfl

theorem updL_share (ob : Obs) : ∀ (l : List Nat) (g : Nat), updL (l.map fun g => (g, shared (ob g))) ob g = if g ∈ l then shared (ob g) else ob g
  | [], g => by simp [updL, look]
  | k :: l, g => by
    have ih := updL_share ob l g
    simp only [List.map_cons, updL_cons]
    by_cases h : k = g
    · subst h; simp
    · rw [if_neg h, ih]
      by_cases h2 : g ∈ l
      · simp [h2]
      · simp [h2, Ne.symm h]

/-- Some objects are shared. -/
theorem Mem.shareL {ob : Obs} (m : Mem c ob w gh) : ∀ (l : List Nat),
    ∃ I' : Imm, Mem c (updL (l.map fun g => (g, shared (ob g))) ob) w { gh with I := I' } ∧ (∀ b o, gh.I b o → I' b o) ∧ (∀ k, Stays gh { gh with I := I' } k (ob k) (updL (l.map fun g => (g, shared (ob g))) ob k))
  | [] => ⟨gh.I, m, fun _ _ h => h, fun k => Stays.same rfl rfl⟩
  | g :: l => by
    obtain ⟨I1, m1, h1, s1⟩ := Mem.shareL m l
    obtain ⟨I2, m2, h2, s2⟩ := m1.share g
    have e : shared (updL (l.map fun g => (g, shared (ob g))) ob g) = shared (ob g) := by
      rw [updL_share]; split
      · exact shared_shared _
      · rfl
    rw [e] at m2 s2
    refine ⟨I2, ?_, fun b o h => h2 b o (h1 b o h), fun k => ?_⟩
    · rw [List.map_cons, show ((g, shared (ob g)) :: l.map fun g => (g, shared (ob g))) = [(g, shared (ob g))] ++ l.map fun g => (g, shared (ob g)) from rfl, updL_append]
      exact m2
    · rw [List.map_cons, show ((g, shared (ob g)) :: l.map fun g => (g, shared (ob g))) = [(g, shared (ob g))] ++ l.map fun g => (g, shared (ob g)) from rfl, updL_append]
      exact (s1 k).trans (s2 k)

theorem RepC_to_RepE {I : Imm} {s : Nat} {b : Nat} {cur : Array Value} {T : TypeId} (hh : w.heap[b]? = some (.cells cur T (0, 0))) : ∀ (xs : List PV) (k : Nat),
    RepC w I s xs (cur.toList.drop (k * wd s)) → (∀ o, o < (k + xs.length) * wd s → I b o) → RepE w I (wd s) xs b (k * wd s)
  | [], k, _, _ => by simp [RepE]
  | x :: xs, k, h, hI => by
    simp only [RepC] at h
    obtain ⟨⟨v, e1, e2, e3, e4⟩, hl⟩ := h
    simp only [RepE]
    refine ⟨⟨v, e1, e3, fun j c hj => ⟨cells_of_take hh e4 j c hj, hI _ ?_⟩⟩, ?_⟩
    · have hlt : j < wd s := by
        have := (List.getElem?_eq_some_iff.1 hj).1
        simp only [Array.length_toList] at this
        omega
      simp only [List.length_cons]
      rw [show k + (xs.length + 1) = (k + 1) + xs.length by omega, Nat.add_mul, Nat.add_mul]
      omega
    · rw [List.drop_drop] at hl
      have e : k * wd s + wd s = (k + 1) * wd s := by rw [Nat.succ_mul]
      rw [e] at hl
      have := RepC_to_RepE hh xs (k + 1) hl (fun o ho => hI o (by simp only [List.length_cons]; rwa [show k + (xs.length + 1) = k + 1 + xs.length by omega]))
      rwa [e]

/-- A shared row is a plain value. -/
theorem row_shared {gh : Gh} {ob : Obs} {g s : Nat} {xs : List PV} (hr : RO w gh ob g (.row s xs false)) : RepV w gh.I (.sl xs) (gh.hd g) := by
  simp only [RO] at hr
  simp only [RepV]
  rcases hr with ⟨h1, h2⟩ | ⟨cap, cur, T, h1, hh, h2, h3, h4, h5, h6, h7⟩
  · exact .inl ⟨h2, .inl h1⟩
  · refine .inr ⟨gh.β g, 0, cap, wd s, h1, h2, h3, wd_pos s, ?_⟩
    have := RepC_to_RepE hh xs 0 (by simpa using h6) (fun o ho => h7 trivial o (by simpa using ho))
    simpa using this

theorem pv1_rel {ob' : Obs} {w : World} {gh' : Gh} {x : AV} {p : PV} {l : List Nat} {v : Value} (h : pv1 σ x = some (p, l)) (hv : RV w gh' ob' x v)
    (hrow : ∀ g ∈ l, ∀ s xs e, σ.obj g = .row s xs e → ob' g = .row s xs false) (hro : ∀ g, RO w gh' ob' g (ob' g)) : RepV w gh'.I p v := by
  unfold pv1 at h
  split at h
  · cases h; simpa [RV] using hv
  · cases h; simp only [RV] at hv; exact .inl ⟨rfl, .inl hv⟩
  · rename_i g
    split at h
    · rename_i s xs e hb
      cases h
      have hr := hrow g (by simp) s xs e hb
      simp only [RV, hr] at hv
      rw [hv.1]
      have := hro g
      rw [hr] at this
      exact row_shared this
    · cases h
  · cases h

theorem pvs_rel {ob' : Obs} {w : World} {gh' : Gh} (hro : ∀ g, RO w gh' ob' g (ob' g)) : ∀ {as : List AV} {ps : List PV} {l : List Nat} {vs : List Value}, pvs σ as = some (ps, l) → RVL w gh' ob' as vs → ones vs →
    (∀ g ∈ l, ∀ s xs e, σ.obj g = .row s xs e → ob' g = .row s xs false) → RepL w gh'.I ps vs
  | [], ps, l, vs, h, hv, _, _ => by simp only [pvs] at h; cases h; simpa [RVL, RepL] using hv
  | a :: as, ps, l, vs, h, hv, h1, hrow => by
    simp only [pvs] at h
    split at h
    · rename_i p l1 ps1 l2 e1 e2
      cases h
      simp only [RVL] at hv
      obtain ⟨v, vs', rfl, ha, hl⟩ := hv
      refine ⟨v, vs', rfl, h1 v (by simp), pv1_rel e1 ha (fun g hg => hrow g (by simp [hg])) hro, pvs_rel hro e2 hl (fun u hu => h1 u (by simp [hu])) fun g hg => hrow g (by simp [hg])⟩
    · cases h

theorem toPV_rel {ob' : Obs} {w : World} {gh' : Gh} (hro : ∀ g, RO w gh' ob' g (ob' g)) {x : AV} {p : PV} {l : List Nat} {v : Value} (h : toPV σ x = some (p, l)) (hv : RV w gh' ob' x v)
    (hrow : ∀ g ∈ l, ∀ s xs e, σ.obj g = .row s xs e → ob' g = .row s xs false) : RepV w gh'.I p v := by
  unfold toPV at h
  split at h
  · split at h
    · rename_i as _ ps l' e
      cases h
      simp only [RV] at hv
      obtain ⟨vs, rfl, hl, h1⟩ := hv
      exact ⟨vs, rfl, pvs_rel hro e hl h1 hrow⟩
    · cases h
  · exact pv1_rel h hv hrow hro

/-- Behind the sharing the rows that were told are shared rows. -/
theorem shared_rows {ob : Obs} (l l' : List Nat) (hsub : ∀ g ∈ l', g ∈ l) : ∀ g ∈ l', ∀ s xs e, ob g = .row s xs e → updL (l.map fun g => (g, shared (ob g))) ob g = .row s xs false := by
  intro g hg s xs e hb
  rw [updL_share, if_pos (hsub g hg), hb]; rfl

theorem share_eq (σ : St) (l : List Nat) : share σ l = l.map fun g => (g, shared (σ.obj g)) := by
  unfold share
  exact List.map_congr_left fun g _ => share1_eq σ g

/-- A moment of sharing, as a state of its own. -/
theorem Good.shareL (hg : Good c σ a w gh) (l : List Nat) : ∃ gh', Mem c (updL (share σ l) σ.obj) w gh' ∧ (∀ b o, gh.I b o → gh'.I b o) ∧ (∀ k, Stays gh gh' k (σ.obj k) (updL (share σ l) σ.obj k)) ∧
    (∀ x v, RV w gh σ.obj x v → RV w gh' (updL (share σ l) σ.obj) x v) ∧ (∀ l' : List Nat, (∀ g ∈ l', g ∈ l) → ∀ g ∈ l', ∀ s xs e, σ.obj g = .row s xs e → updL (share σ l) σ.obj g = .row s xs false) ∧ gh'.β = gh.β ∧ gh'.hd = gh.hd := by
  obtain ⟨I', m', h1, h2⟩ := hg.mem.shareL l
  rw [share_eq]
  exact ⟨{ gh with I := I' }, m', h1, h2, fun x v => RV.move (Same.refl' fun _ => rfl) h1 h2 x v, fun l' hl' => shared_rows l l' hl', rfl, rfl⟩

/-- An optional bound's value. -/
def bnd (a : Act) (z : Option Operand) (dflt n : Int) : Prop := (z = none ∧ n = dflt) ∨ ∃ y, z = some y ∧ a.eval y = .int .i64 n

theorem bnd_of (hg : Good c σ a w gh) (z : Option Operand) (z' : Option Opd) (dflt n : Int) (hz : optOpd z = some z') (hn : optOf σ z' dflt = some n) : bnd a z dflt n := by
  cases z with
  | none => simp only [optOpd] at hz; cases hz; simp only [optOf, optInt] at hn; cases hn; exact .inl ⟨rfl, rfl⟩
  | some y =>
    simp only [optOpd, Option.map_eq_some_iff] at hz
    obtain ⟨y', hy, rfl⟩ := hz
    simp only [optOf, optInt] at hn
    split at hn
    · rename_i p hp
      obtain ⟨m, hm, hn⟩ := Option.bind_eq_some_iff.1 hn
      cases hn
      have hv := opd_rel hg hy
      rw [hp, RV_pv, asInt_some hm] at hv
      simp only [RepV] at hv
      exact .inr ⟨y, rfl, hv⟩
    · cases hn

theorem run_sliceBounds (is : Bool) (len cap : Nat) {lo hi : Option Operand} {l h : Int} (hl : bnd a lo 0 l) (hh : bnd a hi len h) (h0 : 0 ≤ l) (h1 : l ≤ h) (h2 : h ≤ cap) :
    (Instr.sliceBounds is len cap (lo.map a.eval) (hi.map a.eval) none).run P w = .ok (l.toNat, h.toNat, cap) w := by
  have b4 : l ≤ ((h.toNat : Nat) : Int) := by omega
  have b5 : 0 ≤ h := by omega
  rcases hl with ⟨rfl, rfl⟩ | ⟨yl, rfl, hyl⟩ <;> rcases hh with ⟨rfl, rfl⟩ | ⟨yh, rfl, hyh⟩
  · simp [Instr.sliceBounds]
  · simp [Instr.sliceBounds, Instr.sliceBound, asIntOf, hyh, b5, h2]
  · have : 0 ≤ l ∧ l ≤ (len : Int) := ⟨h0, h1⟩
    simp [Instr.sliceBounds, Instr.sliceBound, asIntOf, hyl, this]
  · simp [Instr.sliceBounds, Instr.sliceBound, asIntOf, hyl, hyh, b5, h2, h0, b4]
    intro hx; exfalso; omega

theorem slice_shows {o : Oper} {t e : TypeId} {x : Operand} {s : Nat} {lo hi : Option Operand} (ho : o.op = .slice t x lo hi none) (h1 : P.underlying t = some (.slice e)) (hw : widthOf P e = some s) {x' : Opd} {lo' hi' : Option Opd} (hx : opdOf x = some x') (hlo : optOpd lo = some lo') (hhi : optOpd hi = some hi') (hg : Good c σ a w gh) (hd : dstOk c.nt o.dst = true) {out : Out}
    (hs : stepK call d σ (.slice s x' lo' hi') some = some out) : Shows P c σ a w o out := by
  obtain ⟨inf, hinf, hsz, _⟩ := widthOf_some (w := w) hw
  simp only [stepK, slK_eq, optInt_eq] at hs
  obtain ⟨⟨xs, gs⟩, hxs, hs⟩ := Option.bind_eq_some_iff.1 hs
  obtain ⟨l, hl, hs⟩ := Option.bind_eq_some_iff.1 hs
  obtain ⟨h, hh, hs⟩ := Option.bind_eq_some_iff.1 hs
  split at hs
  case isFalse => cases hs
  rename_i hb
  cases hall : xs.all (PV.fits s) <;> simp only [hall, cond_true, cond_false] at hs <;> cases hs
  obtain ⟨gh', m', hI, hst, hmv, hrow, hβ, hhd⟩ := hg.shareL gs
  have hv := opd_rel hg hx
  -- the slice as a plain value, behind the sharing
  have hrep : RepV w gh'.I (.sl xs) (a.eval x) := by
    have hv' := hmv _ _ hv
    unfold slOf slK at hxs
    split at hxs
    · rename_i p hp
      obtain ⟨ys, e1, e2⟩ := Option.bind_eq_some_iff.1 hxs
      cases e2
      rw [hp] at hv'
      have e3 := asSl_some e1
      rw [e3] at hv'
      simpa [RV] using hv'
    · rename_i hp
      cases hxs
      rw [hp] at hv'
      simp only [RV] at hv'
      exact .inl ⟨rfl, .inl hv'⟩
    · rename_i g hp
      split at hxs
      · rename_i s' ys e' hb'
        cases hxs
        have hr := hrow [g] (by simp) g (by simp) s' xs e' hb'
        rw [hp] at hv'
        simp only [RV, hr] at hv'
        rw [hv'.1]
        have := m'.ro g
        rw [hr] at this
        exact row_shared this
      · cases hxs
    · cases hxs
  have b1 : 0 ≤ h := Int.le_trans hb.1 hb.2.1
  have b0 := hb.1
  have b2 := hb.2.1
  have b3 : h ≤ (xs.length : Int) := hb.2.2
  have b4 : l ≤ ((h.toNat : Nat) : Int) := by omega
  have done : ∀ v, (execOp a.eval o).run P w = .ok (.value v) w → RepV w gh'.I (.sl ((xs.take h.toNat).drop l.toNat)) v → Shows P c σ a w o ⟨.pv (.sl ((xs.take h.toNat).drop l.toNat)), share σ gs, gs⟩ := by
    intro v hrun hv2 K Q hk
    refine wp_value hrun (hk v w ⟨gh', hg.apply (out := ⟨.pv (.sl ((xs.take h.toNat).drop l.toNat)), share σ gs, gs⟩) m' (Same.refl' fun _ => rfl) hI hst hd fun _ => by simpa [RV] using hv2⟩)
  have hbl := bnd_of hg lo lo' 0 l hlo hl
  have hbh : bnd a hi (xs.length : Int) h := bnd_of hg hi hi' _ h hhi hh
  have hrun : ∀ (base : Option Addr) (cap : Nat), a.eval x = .slice base xs.length cap → h ≤ cap → (execOp a.eval o).run P w = .ok (.value (.slice (if cap = l.toNat then base else base.map (·.add (l.toNat * wd s))) (h.toNat - l.toNat) (cap - l.toNat))) w := by
    intro base cap hval hc
    have hsb := run_sliceBounds (P := P) (w := w) true xs.length cap hbl hbh b0 b2 hc
    simp [execOp, ho, hval, Instr.sliceAt, Instr.slice, run_underlying h1, hsb, run_sizeOf' hinf, hsz]
  simp only [RepV] at hrep
  rcases hrep with ⟨rfl, hnil | ⟨ad, cap, hval, c2⟩⟩ | ⟨b, off, cap, s0, hval, c1, c2, c3, hE⟩
  · have hl0 : l = 0 := by simp at b3; omega
    have hh0 : h = 0 := by simp at b3; omega
    have hr := hrun none 0 (by rw [hnil]; rfl) (by omega)
    refine done _ hr ?_
    rw [hl0, hh0]
    simp [RepV]
  · have hl0 : l = 0 := by simp at b3; omega
    have hh0 : h = 0 := by simp at b3; omega
    have hr := hrun (some ad) cap (by rw [hval]; rfl) (by omega)
    refine done _ hr ?_
    rw [hl0, hh0]
    simp only [RepV]
    exact .inl ⟨by simp, .inr ⟨ad, cap, by simp [Addr.add], c2⟩⟩
  · have hr := hrun _ cap hval (by omega)
    by_cases hx0 : xs = []
    · subst hx0
      have hl0 : l = 0 := by simp at b3; omega
      have hh0 : h = 0 := by simp at b3; omega
      refine done _ hr ?_
      rw [hl0, hh0]
      simp only [RepV]
      refine .inr ⟨b, off, cap, s0, ?_, by simp, c2, c3, by simp [RepE]⟩
      simp [Addr.add]
    · -- the elements' width is the type's
      obtain ⟨x0, hx0'⟩ : ∃ y, xs[0]? = some y := by
        cases xs with
        | nil => exact absurd rfl hx0
        | cons y ys => exact ⟨y, rfl⟩
      obtain ⟨u0, e1, e2, _⟩ := RepE_nth hE hx0'
      have hf0 : x0.fits s = true := List.all_eq_true.1 hall x0 (List.mem_of_getElem? hx0')
      have hs0 : s0 = wd s := by rw [← e2, RepV_fits hf0 e1]
      subst hs0
      have hdropE : ∀ (k : Nat) (ys : List PV) (o : Nat), RepE w gh'.I (wd s) ys b o → RepE w gh'.I (wd s) (ys.drop k) b (o + k * wd s) := by
        intro k
        induction k with
        | zero => intro ys o hy; simpa using hy
        | succ k ih =>
          intro ys o hy
          cases ys with
          | nil => simp [RepE]
          | cons y ys =>
            simp only [RepE] at hy
            have := ih ys _ hy.2
            rw [List.drop_succ_cons, show o + (k + 1) * wd s = o + wd s + k * wd s by rw [Nat.succ_mul]; omega]
            exact this
      have htakeE : ∀ (k : Nat) (ys : List PV) (o : Nat), RepE w gh'.I (wd s) ys b o → RepE w gh'.I (wd s) (ys.take k) b o := by
        intro k
        induction k with
        | zero => intro ys o hy; simp [RepE]
        | succ k ih =>
          intro ys o hy
          cases ys with
          | nil => simp [RepE]
          | cons y ys =>
            simp only [RepE] at hy
            simp only [List.take_succ_cons, RepE]
            exact ⟨hy.1, ih ys _ hy.2⟩
      have hE2 := hdropE l.toNat _ _ (htakeE h.toNat _ _ hE)
      have hlen : ((xs.take h.toNat).drop l.toNat).length = h.toNat - l.toNat := by simp; omega
      refine done _ hr ?_
      by_cases hcap : cap = l.toNat
      · have hemp : (xs.take h.toNat).drop l.toNat = [] := List.eq_nil_of_length_eq_zero (by rw [hlen]; omega)
        rw [if_pos hcap, hemp]
        simp only [RepV]
        exact .inr ⟨b, off, cap - l.toNat, wd s, by rw [show h.toNat - l.toNat = 0 by omega]; rfl, by simp, by omega, wd_pos s, by simp [RepE]⟩
      · rw [if_neg hcap]
        simp only [RepV]
        exact .inr ⟨b, _, cap - l.toNat, wd s, by rw [hlen]; simp [Addr.add_lit], by rw [hlen]; omega, by omega, wd_pos s, hE2⟩

end Go.Proofs.YtbgkalolmichdaaA
