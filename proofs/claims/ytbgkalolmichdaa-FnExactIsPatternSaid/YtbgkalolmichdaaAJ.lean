/- Stores and what is made: the abstract machine tells what the translated operations do. Conditions: none. -/
import Derived.Test.YtbgkalolmichdaaAI
import Derived.Laws.CopyRow
namespace Go.Proofs.YtbgkalolmichdaaA
open Go
set_option linter.unusedSimpArgs false
set_option linter.unusedVariables false

variable {P : Program} {c : Ctx} {σ : St} {a : Act} {w w' : World} {gh : Gh} {ob : Obs} {call : FuncId → List XV → Option Res} {d : Nat}

theorem setN_eq {α : Type} : ∀ (l : List α) (n : Nat) (v : α), setN l n v = l.set n v
  | [], n, v => by cases n <;> rfl
  | x :: l, 0, v => rfl
  | x :: l, n + 1, v => by simp [setN, setN_eq l n v]
theorem putN_eq {α : Type} : ∀ (vs : List α) (l : List α) (off : Nat), off + vs.length ≤ l.length → putN l off vs = l.take off ++ vs ++ l.drop (off + vs.length)
  | [], l, off, _ => by simp [putN]
  | v :: vs, l, off, h => by
    simp only [List.length_cons] at h
    rw [putN, putN_eq vs _ _ (by rw [setN_eq]; simp; omega), setN_eq]
    have h1 : (l.set off v).take (off + 1) = l.take off ++ [v] := by
      rw [List.take_set, List.take_succ_eq_append_getElem (by omega)]
      rw [List.set_append_right _ _ (by simp; omega)]
      simp
      rw [Nat.min_eq_left (by omega)]; simp
    have h2 : (l.set off v).drop (off + 1 + vs.length) = l.drop (off + (vs.length + 1)) := by
      rw [List.drop_set, if_pos (by omega)]
      congr 1; omega
    rw [h1, h2]
    simp
theorem putN_len {α : Type} : ∀ (vs : List α) (l : List α) (off : Nat), (putN l off vs).length = l.length
  | [], l, off => rfl
  | v :: vs, l, off => by rw [putN, putN_len vs, setN_eq]; simp

theorem RVL_set : ∀ {as : List AV} {vs : List Value} (j : Nat) {x : AV} {v : Value}, RVL w gh ob as vs → RV w gh ob x v → RVL w gh ob (setN as j x) (vs.set j v)
  | [], vs, j, x, v, h, _ => by
    simp only [RVL] at h; subst h
    cases j <;> simp [setN, RVL]
  | a :: as, vs, j, x, v, h, hx => by
    simp only [RVL] at h
    obtain ⟨u, us, rfl, ha, hl⟩ := h
    cases j with
    | zero => exact ⟨v, us, rfl, hx, hl⟩
    | succ j => exact ⟨u, us.set j v, rfl, ha, RVL_set j hl hx⟩
theorem RVL_put : ∀ {xs : List AV} {us : List Value} {as : List AV} {vs : List Value} (off : Nat), RVL w gh ob as vs → RVL w gh ob xs us → RVL w gh ob (putN as off xs) (putN vs off us)
  | [], us, as, vs, off, h, hx => by simp only [RVL] at hx; subst hx; exact h
  | x :: xs, us, as, vs, off, h, hx => by
    simp only [RVL] at hx
    obtain ⟨u, us', rfl, h1, h2⟩ := hx
    simp only [putN]
    rw [setN_eq vs off u]
    exact RVL_put (off + 1) (RVL_set off h h1) h2

theorem run_storeVar {t : TypeId} {n : Nat} (hw : widthOf P t = some n) {g o : Nat} {v : Value} {cur : Array Value} {T : TypeId} (hv : v.cells.size = wd n) (hh : w.heap[g]? = some (.cells cur T (0, 0)))
    (hfit : o + wd n ≤ cur.size) (h1 : ones v.cells.toList) : (storeVar t ⟨g, o, none⟩ v).run P w = .ok () (w.setRow g (putN cur.toList o v.cells.toList).toArray) := by
  obtain ⟨i, hi, hsz, _⟩ := widthOf_some (w := w) hw
  have hst := run_storeCells_at P g o T v.cells.toList 0 cur w hh (by simp; omega) (fun u hu => h1 u hu)
  simp only [Nat.add_zero] at hst
  rw [putN_eq _ _ _ (by simp; omega)]
  unfold storeVar
  rw [Sem.run_bind, run_sizeOf' hi]
  simp only [Result.andThen_ok, hv, hsz]
  simp [hst]

theorem setRow_same (g : Nat) (cs : Array Value) : (∀ b, b ≠ g → (w.setRow g cs).heap[b]? = w.heap[b]?) ∧ (w.setRow g cs).heap.size = w.heap.size ∧ (w.setRow g cs).os = w.os ∧ (w.setRow g cs).tape = w.tape ∧ (w.setRow g cs).output = w.output :=
  ⟨fun b hb => setRow_other w g b cs hb, by simp [World.setRow], rfl, rfl, rfl⟩

theorem one_cells {v : Value} (h : v.oneCell' = true) : v.cells = #[v] := by cases v <;> simp_all [Value.cells, Value.oneCell']

/-- The cells of a value that is put somewhere. -/
theorem cellsOf_rel {n : Nat} {x : AV} {v : Value} {vs : List AV} (h : cellsOf n x = some vs) (hv : RV w gh ob x v) : RVL w gh ob vs v.cells.toList ∧ ones v.cells.toList ∧ v.cells.size = wd n := by
  unfold cellsOf at h
  cases n with
  | zero =>
    have one : v.oneCell' = true → RVL w gh ob [x] v.cells.toList ∧ ones v.cells.toList ∧ v.cells.size = wd 0 := fun h1 => by
      rw [one_cells h1]
      exact ⟨⟨v, [], rfl, hv, by simp [RVL]⟩, fun u hu => by simp at hu; rw [hu]; exact h1, rfl⟩
    cases x with
    | pv p =>
      simp only [cellsK] at h
      cases hp : p.one <;> rw [hp] at h <;> simp only [cond_true, cond_false] at h <;> cases h
      exact one (RepV_one hp (by simpa [RV] using hv))
    | nils => simp only [cellsK] at h; cases h; refine one ?_; simp only [RV] at hv; subst hv; rfl
    | rw g =>
      simp only [cellsK] at h; cases h; refine one ?_; simp only [RV] at hv
      split at hv
      · exact hv.2
      · exact hv
      · exact hv.elim
    | ptr g off =>
      simp only [cellsK] at h; cases h; refine one ?_; simp only [RV] at hv
      split at hv
      · subst hv; rfl
      · exact hv.elim
    | eptr g i off =>
      simp only [cellsK] at h; cases h; refine one ?_; simp only [RV] at hv
      split at hv
      · subst hv; rfl
      · exact hv
      · exact hv.elim
    | cptr s y off => simp only [cellsK] at h; cases h; refine one ?_; simp only [RV] at hv; obtain ⟨_, _, _, rfl, _⟩ := hv; rfl
    | fn f l => simp only [cellsK] at h; cases h; refine one ?_; simp only [RV] at hv; obtain ⟨_, rfl, _⟩ := hv; rfl
    | _ => simp [cellsK] at h
  | succ n =>
    cases x with
    | agg as =>
      simp only [cellsK] at h
      cases hb : lenIs as (n + 1) <;> rw [hb] at h <;> simp only [cond_true, cond_false] at h <;> cases h
      simp only [RV] at hv
      obtain ⟨us, rfl, hl, h1⟩ := hv
      have := RVL_len hl
      have := lenIs_iff.1 hb
      exact ⟨hl, h1, by simp [Value.cells, wd]; simp at *; omega⟩
    | pv p =>
      simp only [cellsK] at h
      cases hb : p.isAgg (n + 1) <;> rw [hb] at h <;> simp only [cond_true, cond_false] at h <;> cases h
      obtain ⟨ps, rfl, hlen⟩ := fits_succ (s := n) hb
      simp only [RV, RepV] at hv
      obtain ⟨us, rfl, hl⟩ := hv
      have := RepL_len hl
      refine ⟨?_, RepL_ones hl, by simp [Value.cells, wd]; simp at *; omega⟩
      simp only [PV.cells]
      rw [← hlen, part_all]
      exact RepL_toRVL hl
    | _ => simp [cellsK] at h

end Go.Proofs.YtbgkalolmichdaaA
