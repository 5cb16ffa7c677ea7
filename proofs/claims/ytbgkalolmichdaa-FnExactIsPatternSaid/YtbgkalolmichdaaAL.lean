/- What is made: the abstract machine tells what the translated operations do. Conditions: none. -/
import Derived.Test.YtbgkalolmichdaaAK
import Derived.Laws.Tables
import Derived.Great.BuildSlice
import Derived.Laws.BytesArg
namespace Go.Proofs.YtbgkalolmichdaaA
open Go
set_option linter.unusedSimpArgs false
set_option linter.unusedVariables false

variable {P : Program} {c : Ctx} {σ : St} {a : Act} {w w' : World} {gh : Gh} {ob : Obs} {call : FuncId → List XV → Option Res} {d : Nat}

theorem fresh_stays {gh : Gh} {ob : Obs} {d : Nat} (hf : ob d = .free) (o : Obj) (b : Nat) (h : Value) : ∀ g, Stays gh (gh.set d b h) g (ob g) (updL [(d, o)] ob g) := fun g => by
  by_cases hg : g = d
  · subst hg; rw [hf]; trivial
  · rw [updL_ne o ob hg]; exact Stays.same (gh.set_β_ne _ _ hg) (gh.set_hd_ne _ _ hg)

theorem isFree_some {σ : St} {g : Nat} (h : isFree σ g = true) : σ.obj g = .free := by
  unfold isFree at h
  split at h
  · assumption
  · cases h

/-- A new box. -/
theorem box_new (hg : Good c σ a w gh) {o : Oper} (hd : dstOk c.nt o.dst = true) (hf : σ.obj d = .free) {cells : Array Value} {T : TypeId} {zs : List AV} (hr : RVL w gh σ.obj zs cells.toList) (h1 : ones cells.toList)
    (hrun : (execOp a.eval o).run P w = .ok (.value (.pointer (some ⟨w.heap.size, 0, none⟩))) (w.alloc (.cells cells T))) : Shows P c σ a w o ⟨.ptr d 0, [(d, .box zs true)], []⟩ := by
  have hst := fresh_stays (gh := gh) hf (.box zs true) w.heap.size (.pointer none)
  have hsame := Same.alloc hg.mem (.cells cells T)
  obtain ⟨m', hst'⟩ := hg.mem.alloc hf cells T (.box zs true) (.pointer none)
    ⟨cells, T, by rw [Gh.set_β]; exact heap_alloc_new w _, RVL.move (gh' := gh.set d w.heap.size (.pointer none)) hsame (fun _ _ h => h) hst _ _ hr, h1, fun h => by cases h⟩
  intro K Q hK
  refine wp_value hrun (hK _ _ ⟨_, hg.apply (out := ⟨.ptr d 0, [(d, .box zs true)], []⟩) m' hsame (fun _ _ h => h) hst' hd fun _ => ?_⟩)
  simp only [RV, updL_one, Gh.set_β]

/-- A new row. -/
theorem row_new (hg : Good c σ a w gh) {o : Oper} (hd : dstOk c.nt o.dst = true) (hf : σ.obj d = .free) {cells : Array Value} {T : TypeId} {s : Nat} {xs : List PV} {l : List Nat} {lg : List Nat}
    {gh1 : Gh} (m1 : Mem c (updL (share σ l) σ.obj) w gh1) (hI1 : ∀ b o, gh.I b o → gh1.I b o) (hst1 : ∀ k, Stays gh gh1 k (σ.obj k) (updL (share σ l) σ.obj k))
    (hcap : cells.size = xs.length * wd s) (hmax : xs.length ≤ maxLen) (hr : RepC w gh1.I s xs cells.toList) (h1 : ones cells.toList)
    (hrun : (execOp a.eval o).run P w = .ok (.value (.slice (some ⟨w.heap.size, 0, none⟩) xs.length xs.length)) (w.alloc (.cells cells T))) : Shows P c σ a w o ⟨.rw d, (d, .row s xs true) :: share σ l, lg⟩ := by
  have hf1 : updL (share σ l) σ.obj d = .free := by
    rw [share_eq, updL_share, hf]; split <;> rfl
  have hst := fresh_stays (gh := gh1) hf1 (.row s xs true) w.heap.size (.slice (some ⟨w.heap.size, 0, none⟩) xs.length xs.length)
  have hsame := Same.alloc m1 (.cells cells T)
  obtain ⟨m', hst'⟩ := m1.alloc hf1 cells T (.row s xs true) (.slice (some ⟨w.heap.size, 0, none⟩) xs.length xs.length)
    (.inr ⟨xs.length, cells, T, by rw [Gh.set_hd, Gh.set_β], by rw [Gh.set_β]; exact heap_alloc_new w _, Nat.le_refl _, hmax, hcap, h1, RepC.mono hsame (fun _ _ h => h) s xs _ hr, fun h => by cases h⟩)
  have hupd : updL [(d, .row s xs true)] (updL (share σ l) σ.obj) = updL ((d, .row s xs true) :: share σ l) σ.obj := by rw [← updL_append]; rfl
  rw [hupd] at m' hst'
  intro K Q hK
  refine wp_value hrun (hK _ _ ⟨_, hg.apply (out := ⟨.rw d, (d, .row s xs true) :: share σ l, lg⟩) m' (fun b o' v hI hc => hsame b o' v (hI1 b o' hI) hc) hI1 (fun k => (hst1 k).trans (hst' k)) hd fun _ => ?_⟩)
  simp only [RV]
  rw [← hupd, updL_one]
  exact ⟨by rw [Gh.set_hd], rfl⟩

theorem zeroCells_some {t : TypeId} {z : List AV} (h : zeroCells P t = some z) : ∃ i v, P.info? t = some i ∧ i.zero = some v ∧ all? avOf v.cells.toList = some z := by
  unfold zeroCells at h
  obtain ⟨v, h1, h2⟩ := Option.bind_eq_some_iff.1 h
  obtain ⟨i, h3, h4⟩ := Option.bind_eq_some_iff.1 h1
  exact ⟨i, v, h3, h4, h2⟩

theorem alloc_shows {o : Oper} {t : TypeId} {z : List AV} (ho : o.op = .alloc t) (hz : zeroCells P t = some z) (hg : Good c σ a w gh) (hd : dstOk c.nt o.dst = true) {out : Out}
    (hs : stepK call d σ (.alloc z) some = some out) : Shows P c σ a w o out := by
  obtain ⟨i, v, hi, hv, hall⟩ := zeroCells_some hz
  simp only [stepK] at hs
  cases hf : isFree σ d <;> rw [hf] at hs <;> simp only [cond_true, cond_false] at hs <;> cases hs
  obtain ⟨h1, h2⟩ := avOf_all (w := w) (gh := gh) σ.obj _ _ hall
  refine box_new hg hd (isFree_some hf) (cells := v.cells) (T := t) h1 h2 ?_
  simp [execOp, ho, Instr.alloc, zeroValue, typeInfo, hi, hv, newVar, newRow]

theorem box_shows {o : Oper} {t : TypeId} {n : Nat} {x : Operand} (ho : o.op = .box t x) {y : Opd} (hx : opdOf x = some y) (hg : Good c σ a w gh) (hd : dstOk c.nt o.dst = true) {out : Out}
    (hs : stepK call d σ (.box n y) some = some out) : Shows P c σ a w o out := by
  simp only [stepK, cellsK_eq] at hs
  obtain ⟨cs, hcs, hs⟩ := Option.bind_eq_some_iff.1 hs
  cases hf : isFree σ d <;> rw [hf] at hs <;> simp only [cond_true, cond_false] at hs <;> cases hs
  obtain ⟨h1, h2, _⟩ := cellsOf_rel hcs (opd_rel hg hx)
  refine box_new hg hd (isFree_some hf) (cells := (a.eval x).cells) (T := t) h1 h2 ?_
  simp [execOp, ho, Instr.box, newVar, newRow]

theorem fill_step (off : Nat) : ∀ (l : List Value) (k : Nat) (cs : Array Value), ((l.zipIdx k).foldl (fun cs (p : Value × Nat) => cs.setIfInBounds (off + p.2) p.1) cs).toList = putN cs.toList (off + k) l
  | [], k, cs => by simp [putN]
  | v :: l, k, cs => by
    simp only [List.zipIdx_cons, List.foldl_cons, putN, setN_eq]
    rw [fill_step off l (k + 1)]
    simp [Array.toList_setIfInBounds, Nat.add_assoc]

theorem fill_cons (place : Nat → Option (Nat × Nat)) (cells : Array Value) (i : Nat) (v : Value) (rest : List (Nat × Value)) (off size : Nat) (hp : place i = some (off, size)) (hv : v.cells.size = size) (hfit : off + size ≤ cells.size) :
    Instr.fill place cells ((i, v) :: rest) = Instr.fill place (putN cells.toList off v.cells.toList).toArray rest := by
  have hc : ¬ (v.cells.size ≠ size ∨ off + v.cells.size > cells.size) := by omega
  simp only [Instr.fill, hp]
  rw [if_neg (by simp; omega)]
  congr 1
  apply Array.ext'
  have := fill_step off v.cells.toList 0 cells
  simp only [Nat.add_zero] at this
  rw [← Array.foldl_toList, Array.toList_zipIdx]
  simpa using this

theorem partsOf_rel (hg : Good c σ a w gh) {t : TypeId} {fs : Array Field} (hu : P.underlying t = some (.struct fs)) {places : List (Nat × Nat)} (hpl : fs.toList.mapM (fun f => (P.info? f.type).map fun i => (f.offset, i.size)) = some places) :
    ∀ (ps : List (Nat × Operand)) (l : List (Nat × Nat × Opd)) (zs : List AV) (cells : Array Value) (cs : List AV),
    all? (fun p : Nat × Operand => match fieldOf P t p.1, opdOf p.2 with | some (off, n), some x => bif Nat.ble (off + wdOf n) (P.cellsOf t) then some (off, n, x) else none | _, _ => none) ps = some l →
    partsOf σ zs l = some cs → RVL w gh σ.obj zs cells.toList → ones cells.toList → cells.size = P.cellsOf t →
    ∃ r : Array Value, Instr.fill (places.toArray[·]?) cells (ps.map fun p => (p.1, a.eval p.2)) = some r ∧ RVL w gh σ.obj cs r.toList ∧ ones r.toList
  | [], l, zs, cells, cs, h, hp, hr, h1, _ => by
    simp only [all?] at h; cases h
    simp only [partsOf, partsK] at hp; cases hp
    exact ⟨cells, rfl, hr, h1⟩
  | (i, x) :: ps, l, zs, cells, cs, h, hp, hr, h1, hsz => by
    obtain ⟨y, ys, e1, e2, rfl⟩ := all?_cons h
    simp only at e1
    split at e1
    · rename_i off n x' hf hx
      cases hb : Nat.ble (off + wdOf n) (P.cellsOf t) <;> rw [hb] at e1 <;> simp only [cond_true, cond_false] at e1 <;> cases e1
      have hle := Nat_ble hb
      simp only [partsOf, partsK, cellsK_eq] at hp
      obtain ⟨vs, hvs, hp⟩ := Option.bind_eq_some_iff.1 hp
      have hvx := opd_rel hg hx
      obtain ⟨r1, r2, r3⟩ := cellsOf_rel hvs hvx
      obtain ⟨fs', fx, hu', hfx, hoff, hw⟩ := fieldOf_some hf
      rw [hu] at hu'; cases hu'
      obtain ⟨inf, hinf, hsz2, _⟩ := widthOf_some (w := w) hw
      have hwd : wdOf n = wd n := by cases n <;> rfl
      have hplace : places.toArray[i]? = some (off, wd n) := by
        have hget : fs.toList[i]? = some fx := by simpa using hfx
        have key : ∀ (l : List Field) (r : List (Nat × Nat)) (j : Nat), l.mapM (fun f => (P.info? f.type).map fun i => (f.offset, i.size)) = some r → l[j]? = some fx → r[j]? = some (off, wd n) := by
          intro l
          induction l with
          | nil => intro r j _ hj; simp at hj
          | cons f l ih =>
            intro r j hm hj
            simp only [List.mapM_cons, Option.bind_eq_bind, Option.pure_def] at hm
            obtain ⟨q, hq, hm⟩ := Option.bind_eq_some_iff.1 hm
            obtain ⟨qs, hqs, hm⟩ := Option.bind_eq_some_iff.1 hm
            cases hm
            cases j with
            | zero =>
              simp at hj; subst hj
              rw [hinf] at hq; simp at hq
              rw [← hq, hoff, hsz2]; rfl
            | succ j => simpa using ih qs j hqs (by simpa using hj)
        simpa using key _ _ i hpl hget
      obtain ⟨r, g1, g2, g3⟩ := partsOf_rel hg hu hpl ps ys (putN zs off vs) (putN cells.toList off (a.eval x).cells.toList).toArray cs e2 hp (by simpa using RVL_put off hr r1) (by
        intro u hu2
        have hu2 : u ∈ putN cells.toList off (a.eval x).cells.toList := by simpa using hu2
        rw [putN_eq _ _ _ (by simp; omega)] at hu2
        simp only [List.mem_append] at hu2
        rcases hu2 with (hu2 | hu2) | hu2
        · exact h1 u (List.mem_of_mem_take hu2)
        · exact r2 u hu2
        · exact h1 u (List.mem_of_mem_drop hu2)) (by simp [putN_len, hsz])
      refine ⟨r, ?_, g2, g3⟩
      rw [List.map_cons, fill_cons _ _ _ _ _ off (wd n) hplace r3 (by omega)]
      exact g1
    · cases e1

theorem build_shows {o : Oper} {t : TypeId} {ps : Array (Nat × Operand)} (ho : o.op = .build t ps) {fs : Array Field} (hu : P.underlying t = some (.struct fs)) {places : List (Nat × Nat)} (hpl : fs.toList.mapM (fun f => (P.info? f.type).map fun i => (f.offset, i.size)) = some places)
    {z : List AV} (hz : zeroCells P t = some z) (hzl : lenIs z (P.cellsOf t) = true) {l : List (Nat × Nat × Opd)} (hl : all? (fun p : Nat × Operand => match fieldOf P t p.1, opdOf p.2 with | some (off, n), some x => bif Nat.ble (off + wdOf n) (P.cellsOf t) then some (off, n, x) else none | _, _ => none) ps.toList = some l)
    (hg : Good c σ a w gh) (hd : dstOk c.nt o.dst = true) {out : Out} (hs : stepK call d σ (.build z l) some = some out) : Shows P c σ a w o out := by
  obtain ⟨i, v, hi, hv, hall⟩ := zeroCells_some hz
  simp only [stepK, partsK_eq] at hs
  obtain ⟨cs, hcs, hs⟩ := Option.bind_eq_some_iff.1 hs
  cases hs
  obtain ⟨h1, h2⟩ := avOf_all (w := w) (gh := gh) σ.obj _ _ hall
  have hsz : v.cells.size = P.cellsOf t := by
    have := RVL_len h1
    have := lenIs_iff.1 hzl
    simp at *; omega
  obtain ⟨r, g1, g2, g3⟩ := partsOf_rel hg hu hpl ps.toList l z v.cells cs hl hcs h1 h2 hsz
  have hbuilt : P.built t (ps.map fun p => (p.1, a.eval p.2)).toList = some r := by
    simp only [Program.built, hi, hu, hv, hpl]
    simpa using g1
  refine shows_quiet hg hd (v := .agg r) ?_ ⟨r, rfl, g2, g3⟩
  have hrun := run_build (P := P) w t (ps.map fun p => (p.1, a.eval p.2)) r hbuilt
  simp only [execOp, ho]
  simp [hrun]

/-- An array of nothing but zeros. -/
theorem buildArr_shows {o : Oper} {t e : TypeId} {n : Nat} {ps : Array (Nat × Operand)} (ho : o.op = .build t ps) (hu : P.underlying t = some (.array n e)) {ie : TypeInfo} (hi : P.info? e = some ie) {z : List AV} (hz : zeroCells P t = some z) (hps : ps.toList = [])
    (hg : Good c σ a w gh) (hd : dstOk c.nt o.dst = true) {out : Out} (hs : stepK call d σ (.build z []) some = some out) : Shows P c σ a w o out := by
  obtain ⟨i, v, hit, hv, hall⟩ := zeroCells_some hz
  simp only [stepK, partsK_eq] at hs
  obtain ⟨cs, hcs, hs⟩ := Option.bind_eq_some_iff.1 hs
  cases hs
  simp only [partsOf, partsK] at hcs
  cases hcs
  obtain ⟨h1, h2⟩ := avOf_all (w := w) (gh := gh) σ.obj _ _ hall
  have hps' : (ps.map fun p => (p.1, a.eval p.2)).toList = [] := by simp [hps]
  have hbuilt : P.built t (ps.map fun p => (p.1, a.eval p.2)).toList = some v.cells := by
    rw [hps']
    simp only [Program.built, hit, hu, hv, hi]
    simp [Instr.fill]
  refine shows_quiet hg hd (v := .agg v.cells) ?_ ⟨v.cells, rfl, h1, h2⟩
  have hrun := run_build (P := P) w t (ps.map fun p => (p.1, a.eval p.2)) v.cells hbuilt
  simp only [execOp, ho]
  simp [hrun]

end Go.Proofs.YtbgkalolmichdaaA
