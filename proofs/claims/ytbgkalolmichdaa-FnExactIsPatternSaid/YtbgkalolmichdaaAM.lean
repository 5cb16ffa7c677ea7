/- Slices that are made: the abstract machine tells what the translated operations do. Conditions: none. -/
import Derived.Test.YtbgkalolmichdaaAL
namespace Go.Proofs.YtbgkalolmichdaaA
open Go
set_option linter.unusedSimpArgs false
set_option linter.unusedVariables false

variable {P : Program} {c : Ctx} {σ : St} {a : Act} {w w' : World} {gh : Gh} {ob : Obs} {call : FuncId → List XV → Option Res} {d : Nat}

theorem elemsOf_rel {gh1 : Gh} {L : List Nat} {s : Nat} (hg : Good c σ a w gh) (m1 : Mem c (updL (share σ L) σ.obj) w gh1) (hmv : ∀ x v, RV w gh σ.obj x v → RV w gh1 (updL (share σ L) σ.obj) x v)
    (hrow : ∀ l' : List Nat, (∀ g ∈ l', g ∈ L) → ∀ g ∈ l', ∀ s xs e, σ.obj g = .row s xs e → updL (share σ L) σ.obj g = .row s xs false) :
    ∀ (xs : List Operand) (ys : List Opd) (ps : List PV) (l : List Nat), all? opdOf xs = some ys → elemsOf σ s ys = some (ps, l) → (∀ g ∈ l, g ∈ L) →
    RepC w gh1.I s ps (xs.flatMap fun x => (a.eval x).cells.toList) ∧ ones (xs.flatMap fun x => (a.eval x).cells.toList) ∧ ps.length = xs.length ∧ ∀ x ∈ xs, (a.eval x).cells.size = wd s
  | [], ys, ps, l, h, he, _ => by
    simp only [all?] at h; cases h
    simp only [elemsOf] at he; cases he
    exact ⟨trivial, fun v hv => by simp at hv, rfl, fun x hx => by cases hx⟩
  | x :: xs, ys, ps, l, h, he, hsub => by
    obtain ⟨y, ys', e1, e2, rfl⟩ := all?_cons h
    simp only [elemsOf] at he
    split at he
    · rename_i p a1 ps' b1 h1 h2
      cases hf : p.fits s <;> rw [hf] at he <;> simp only [cond_true, cond_false] at he <;> cases he
      have hv := hmv _ _ (opd_rel hg e1)
      have hp := toPV_rel (ob' := updL (share σ L) σ.obj) m1.ro h1 hv (hrow a1 fun g hg => hsub g (by simp [hg]))
      have hsz := RepV_fits hf hp
      obtain ⟨i1, i2, i3, i4⟩ := elemsOf_rel hg m1 hmv hrow xs ys' ps' b1 e2 h2 fun g hg => hsub g (by simp [hg])
      have hlen : (a.eval x).cells.toList.length = wd s := by simpa using hsz
      refine ⟨?_, ?_, by simp [i3], ?_⟩
      · simp only [List.flatMap_cons, RepC]
        refine ⟨⟨_, hp, hf, hsz, ?_⟩, ?_⟩
        · rw [← hlen, List.take_left]
        · rw [← hlen, List.drop_left]; exact i1
      · intro v hv
        simp only [List.flatMap_cons, List.mem_append] at hv
        rcases hv with hv | hv
        · exact oneCell_RepV hp v hv
        · exact i2 v hv
      · intro z hz
        rcases List.mem_cons.1 hz with rfl | hz
        · exact hsz
        · exact i4 z hz
    · cases he

theorem fill_all (sz : Nat) : ∀ (vs : List Value) (k : Nat) (cells : Array Value) (ps : List (Nat × Value)), ps.map (·.2) = vs → (∀ j p, ps[j]? = some p → p.1 = k + j) → (∀ v ∈ vs, v.cells.size = sz) → (k + vs.length) * sz ≤ cells.size →
    ∃ r, Instr.fill (fun i => some (i * sz, sz)) cells ps = some r ∧ r.toList = cells.toList.take (k * sz) ++ vs.flatMap (fun v => v.cells.toList) ++ cells.toList.drop ((k + vs.length) * sz)
  | [], k, cells, ps, hps, _, _, _ => by
    have : ps = [] := by simpa using hps
    subst this
    exact ⟨cells, rfl, by simp⟩
  | v :: vs, k, cells, ps, hps, hidx, hsz, hfit => by
    cases ps with
    | nil => simp at hps
    | cons p ps =>
      obtain ⟨i, u⟩ := p
      simp only [List.map_cons, List.cons.injEq] at hps
      obtain ⟨rfl, hps⟩ := hps
      have hi : i = k := by simpa using hidx 0 (i, u) rfl
      subst hi
      have hu := hsz u (by simp)
      simp only [List.length_cons] at hfit
      have hk1 : i * sz + sz ≤ cells.size := by
        have : (i + 1) * sz ≤ (i + (vs.length + 1)) * sz := Nat.mul_le_mul_right _ (by omega)
        rw [Nat.succ_mul] at this; omega
      have hul : u.cells.toList.length = sz := by simpa using hu
      obtain ⟨r, h1, h2⟩ := fill_all sz vs (i + 1) (putN cells.toList (i * sz) u.cells.toList).toArray ps hps (fun j p hp => by have := hidx (j + 1) p (by simpa using hp); omega) (fun v hv => hsz v (by simp [hv])) (by simp [putN_len]; rw [show i + 1 + vs.length = i + (vs.length + 1) by omega]; exact hfit)
      refine ⟨r, ?_, ?_⟩
      · rw [fill_cons _ _ _ _ _ (i * sz) sz rfl hu hk1]; exact h1
      · rw [h2]
        simp only []
        rw [putN_eq _ _ _ (by rw [hul]; simpa using hk1), hul]
        have e1 : (i + 1) * sz = i * sz + sz := Nat.succ_mul i sz
        have hlt : (cells.toList.take (i * sz)).length = i * sz := by simp; omega
        rw [e1]
        have t1 : (cells.toList.take (i * sz) ++ u.cells.toList ++ cells.toList.drop (i * sz + sz)).take (i * sz + sz) = cells.toList.take (i * sz) ++ u.cells.toList := by
          have : (cells.toList.take (i * sz) ++ u.cells.toList).length = i * sz + sz := by simp [hu]; omega
          rw [← this, List.take_left]
        have t2 : (cells.toList.take (i * sz) ++ u.cells.toList ++ cells.toList.drop (i * sz + sz)).drop ((i + 1 + vs.length) * sz) = cells.toList.drop ((i + (vs.length + 1)) * sz) := by
          have hl2 : (cells.toList.take (i * sz) ++ u.cells.toList).length = i * sz + sz := by simp [hu]; omega
          have e2 : (i + 1 + vs.length) * sz = (i * sz + sz) + vs.length * sz := by rw [Nat.add_mul, Nat.succ_mul]
          rw [e2, ← List.drop_drop, ← hl2, List.drop_left, hl2, List.drop_drop]
          congr 1
          rw [show i + (vs.length + 1) = i + 1 + vs.length by omega, Nat.add_mul, Nat.succ_mul]
        rw [t1, t2]
        simp

theorem inOrder_get : ∀ (l : List (Nat × Operand)) (n : Nat), inOrder n l = true → ∀ j p, l[j]? = some p → p.1 = n + j
  | [], n, _, j, p, h => by simp at h
  | (i, x) :: l, n, hi, j, p, h => by
    simp only [inOrder, Bool.and_eq_true] at hi
    cases j with
    | zero => simp at h; rw [← h]; exact beq_true hi.1
    | succ j => have := inOrder_get l (n + 1) hi.2 j p (by simpa using h); omega

theorem flat_len {a : Act} {n : Nat} : ∀ {l : List Operand}, (∀ x ∈ l, (a.eval x).cells.size = n) → (l.flatMap fun x => (a.eval x).cells.toList).length = l.length * n
  | [], _ => by simp
  | x :: xs, h => by
    have ih := flat_len (l := xs) fun y hy => h y (by simp [hy])
    have := h x (by simp)
    simp only [List.flatMap_cons, List.length_append, List.length_cons, Nat.succ_mul, ih]
    simp; omega

theorem buildSlice_shows {o : Oper} {t e : TypeId} {len s : Nat} {ps : Array (Nat × Operand)} (ho : o.op = .buildSlice t len ps) (he : elemOf P t = some e) (hw : widthOf P e = some s) (hz : ((P.info? e).bind (·.zero)).isSome = true) {ys : List Opd}
    (hys : all? (fun p : Nat × Operand => opdOf p.2) ps.toList = some ys) (hord : inOrder 0 ps.toList = true) (hsize : ps.size = len) (hsmall : len * wdOf s ≤ 10000) (hg : Good c σ a w gh) (hd : dstOk c.nt o.dst = true) {out : Out}
    (hs : stepK call d σ (.buildSlice s ys) some = some out) : Shows P c σ a w o out := by
  have hu := elemOf_some he
  obtain ⟨inf, hinf, hsz, _⟩ := widthOf_some (w := w) hw
  simp only [stepK] at hs
  split at hs
  case h_2 => cases hs
  rename_i qs l hel
  cases hf : isFree σ d <;> rw [hf] at hs <;> simp only [cond_true, cond_false] at hs <;> cases hs
  obtain ⟨gh1, m1, hI1, hst1, hmv1, hrow1, _, _⟩ := hg.shareL l
  have hys' : all? opdOf (ps.toList.map (·.2)) = some ys := by
    have key : ∀ (l : List (Nat × Operand)) (r : List Opd), all? (fun p : Nat × Operand => opdOf p.2) l = some r → all? opdOf (l.map (·.2)) = some r := by
      intro l
      induction l with
      | nil => intro r h; exact h
      | cons p l ih =>
        intro r h
        obtain ⟨y, ys, e1, e2, rfl⟩ := all?_cons h
        simp only [List.map_cons, all?, e1, ih ys e2]
    exact key _ _ hys
  obtain ⟨r1, r2, r3, r4⟩ := elemsOf_rel hg m1 hmv1 hrow1 _ ys qs l hys' hel fun _ h => h
  have hql : qs.length = len := by rw [r3]; simpa using hsize
  obtain ⟨z, hz'⟩ := Option.isSome_iff_exists.1 hz
  rw [hinf] at hz'
  have hz' : inf.zero = some z := hz'
  have hwd : wdOf s = wd s := by cases s <;> rfl
  have hlen1 : len ≤ 10000 := by
    have h1 : len * 1 ≤ len * wdOf s := Nat.mul_le_mul_left _ (by rw [hwd]; exact wd_pos s)
    omega
  have hb : len * inf.size ≤ 16777216 := by
    rw [hsz, ← hwd]; omega
  have hvsz : ∀ v ∈ (ps.toList.map fun p => a.eval p.2), v.cells.size = wd s := by
    intro v hv
    obtain ⟨p, hp, rfl⟩ := List.mem_map.1 hv
    exact r4 p.2 (List.mem_map.2 ⟨p, hp, rfl⟩)
  obtain ⟨r, f1, f2⟩ := fill_all (wd s) (ps.toList.map fun p => a.eval p.2) 0 (((Array.range (len * wd s)).map (z.cells[· % z.cells.size]!))) (ps.toList.map fun p => (p.1, a.eval p.2)) (by simp [Function.comp_def]) (by
    intro j p hp
    simp only [List.getElem?_map, Option.map_eq_some_iff] at hp
    obtain ⟨q, hq, rfl⟩ := hp
    exact inOrder_get _ 0 hord j q hq) hvsz (by simp [hsize])
  have hrl : r.toList = (ps.toList.map (·.2)).flatMap fun x => (a.eval x).cells.toList := by
    rw [f2]
    simp only [Nat.zero_mul, List.take_zero, List.nil_append, List.length_map, Array.length_toList, hsize, Nat.zero_add]
    rw [List.drop_of_length_le (by simp)]
    simp [List.flatMap_map]
  have hrs : r.size = qs.length * wd s := by
    have : r.toList.length = qs.length * wd s := by
      rw [hrl, r3]
      exact flat_len r4
    simpa using this
  refine row_new hg hd (isFree_some hf) (T := e) (cells := r) m1 hI1 hst1 hrs (by rw [hql]; simp only [maxLen]; omega) (by rw [hrl]; exact r1) (by rw [hrl]; exact r2) ?_
  by_cases hl0 : len * wd s = 0
  · have hlz : len = 0 := by
      rcases Nat.mul_eq_zero.1 hl0 with h | h
      · exact h
      · have := wd_pos s; omega
    subst hlz
    have hps0 : ps = #[] := Array.eq_empty_of_size_eq_zero hsize
    subst hps0
    have hr0 : r = #[] := Array.eq_empty_of_size_eq_zero (by rw [hrs, hql]; simp)
    subst hr0
    have hq0 : qs = [] := List.eq_nil_of_length_eq_zero hql
    subst hq0
    simp [execOp, ho, Instr.buildSlice, run_underlying hu, run_sizeOf' hinf, Instr.fill, newRow, Array.range_zero']
  · have hrun := run_buildSlice (P := P) w t e len (ps.map fun p => (p.1, a.eval p.2)) r inf z hu hinf hz' (by omega) (by rw [hsz]; exact hl0) (by rw [hsz]; simpa using f1)
    rw [hql]
    simp only [execOp, ho]
    simp [hrun]

theorem mkfn_shows {o : Oper} {f : FuncId} {first caps : Array Operand} (ho : o.op = .makeFunc (.func f) first caps) (hfirst : first.isEmpty = true) {ys : List Opd} (hys : all? opdOf caps.toList = some ys) (hg : Good c σ a w gh) (hd : dstOk c.nt o.dst = true) {out : Out}
    (hs : stepK call d σ (.mkfn f ys) some = some out) : Shows P c σ a w o out := by
  simp only [stepK] at hs
  split at hs
  case h_2 => cases hs
  rename_i l hl
  cases hs
  have key : ∀ (xs : List Operand) (ys : List Opd) (l : List Nat), all? opdOf xs = some ys → capIds σ (ys.map σ.opd) = some l → (xs.map a.eval) = l.map (fun g => .pointer (some ⟨gh.β g, 0, none⟩)) ∧ ∀ g ∈ l, ∃ cs e, σ.obj g = .box cs e := by
    intro xs
    induction xs with
    | nil => intro ys l h1 h2; simp only [all?] at h1; cases h1; simp only [List.map_nil, capIds] at h2; cases h2; exact ⟨rfl, fun g hg => by cases hg⟩
    | cons x xs ih =>
      intro ys l h1 h2
      obtain ⟨y, ys', e1, e2, rfl⟩ := all?_cons h1
      have hv := opd_rel hg e1
      simp only [List.map_cons, capIds] at h2
      split at h2
      · rename_i g off hp
        split at h2
        · rename_i cs e gs hb hc
          cases h2
          rw [hp] at hv
          simp only [RV, hb] at hv
          obtain ⟨i1, i2⟩ := ih ys' gs e2 hc
          refine ⟨by simp [hv, i1], fun k hk => ?_⟩
          rcases List.mem_cons.1 hk with rfl | hk
          · exact ⟨cs, e, hb⟩
          · exact i2 k hk
        · cases h2
      · cases h2
  obtain ⟨k1, k2⟩ := key _ ys l hys hl
  have hf0 : first = #[] := by simpa using hfirst
  subst hf0
  refine shows_quiet hg hd (v := .func (.func f) #[] (caps.map a.eval)) (by simp [execOp, ho, Instr.makeFunc]) ?_
  simp only [RV]
  refine ⟨caps.toList.map a.eval, by congr 1; apply Array.ext'; simp, k1, fun g hg => ?_⟩
  obtain ⟨cs, e, hb⟩ := k2 g hg
  rw [hb]; trivial

end Go.Proofs.YtbgkalolmichdaaA
