/- The abstract machine's operations on parts of values and on addresses tell what the translated ones do. Conditions: none. -/
import Derived.Test.YtbgkalolmichdaaAF
namespace Go.Proofs.YtbgkalolmichdaaA
open Go
set_option linter.unusedSimpArgs false
set_option linter.unusedVariables false

variable {P : Program} {c : Ctx} {σ : St} {a : Act} {w : World} {gh : Gh} {ob : Obs} {call : FuncId → List XV → Option Res} {d : Nat}

/-! ### Lists of cells -/
theorem RVL_len : ∀ {as : List AV} {vs : List Value}, RVL w gh ob as vs → vs.length = as.length
  | [], vs, h => by simp only [RVL] at h; rw [h]; rfl
  | a :: as, vs, h => by
    simp only [RVL] at h
    obtain ⟨v, vs', rfl, _, hl⟩ := h
    simp [RVL_len hl]
theorem RepL_len {I : Imm} : ∀ {ps : List PV} {vs : List Value}, RepL w I ps vs → vs.length = ps.length
  | [], vs, h => by simp only [RepL] at h; rw [h]; rfl
  | a :: as, vs, h => by
    simp only [RepL] at h
    obtain ⟨v, vs', rfl, _, _, hl⟩ := h
    simp [RepL_len hl]
theorem RepL_ones {I : Imm} : ∀ {ps : List PV} {vs : List Value}, RepL w I ps vs → ones vs
  | [], vs, h => by simp only [RepL] at h; rw [h]; intro v hv; cases hv
  | a :: as, vs, h => by
    simp only [RepL] at h
    obtain ⟨v, vs', rfl, h1, _, hl⟩ := h
    intro u hu
    rcases List.mem_cons.1 hu with rfl | hu
    · exact h1
    · exact RepL_ones hl u hu
theorem RVL_nth : ∀ {as : List AV} {vs : List Value} {j : Nat}, RVL w gh ob as vs → j < as.length → ∃ v, vs[j]? = some v ∧ RV w gh ob (nth .undef as j) v
  | [], vs, j, _, hj => by simp at hj
  | a :: as, vs, j, h, hj => by
    simp only [RVL] at h
    obtain ⟨v, vs', rfl, ha, hl⟩ := h
    cases j with
    | zero => exact ⟨v, rfl, ha⟩
    | succ j => obtain ⟨x, h1, h2⟩ := RVL_nth (j := j) hl (by simpa using hj); exact ⟨x, by simpa using h1, h2⟩
theorem RepL_nth {I : Imm} : ∀ {ps : List PV} {vs : List Value} {j : Nat}, RepL w I ps vs → j < ps.length → ∃ v, vs[j]? = some v ∧ RepV w I (nth .nilp ps j) v ∧ v.oneCell' = true
  | [], vs, j, _, hj => by simp at hj
  | a :: as, vs, j, h, hj => by
    simp only [RepL] at h
    obtain ⟨v, vs', rfl, h1, ha, hl⟩ := h
    cases j with
    | zero => exact ⟨v, rfl, ha, h1⟩
    | succ j => obtain ⟨x, h1, h2⟩ := RepL_nth (j := j) hl (by simpa using hj); exact ⟨x, by simpa using h1, h2⟩
theorem RVL_part : ∀ (n : Nat) {as : List AV} {vs : List Value} {off : Nat}, RVL w gh ob as vs → off + n ≤ as.length → RVL w gh ob (part .undef as off n) ((vs.drop off).take n)
  | 0, as, vs, off, _, _ => by simp [part, RVL]
  | n + 1, as, vs, off, h, hn => by
    obtain ⟨v, hv, hr⟩ := RVL_nth h (show off < as.length by omega)
    have ih := RVL_part n (off := off + 1) h (by omega)
    have hd : vs.drop off = v :: vs.drop (off + 1) := by
      obtain ⟨hlt, he⟩ := List.getElem?_eq_some_iff.1 hv
      rw [List.drop_eq_getElem_cons hlt, he]
    rw [hd, List.take_succ_cons]
    exact ⟨v, _, rfl, hr, ih⟩
theorem RepL_part {I : Imm} : ∀ (n : Nat) {ps : List PV} {vs : List Value} {off : Nat}, RepL w I ps vs → off + n ≤ ps.length → RepL w I (part .nilp ps off n) ((vs.drop off).take n)
  | 0, as, vs, off, _, _ => by simp [part, RepL]
  | n + 1, as, vs, off, h, hn => by
    obtain ⟨v, hv, hr, h1⟩ := RepL_nth h (show off < as.length by omega)
    have ih := RepL_part n (off := off + 1) h (by omega)
    have hd : vs.drop off = v :: vs.drop (off + 1) := by
      obtain ⟨hlt, he⟩ := List.getElem?_eq_some_iff.1 hv
      rw [List.drop_eq_getElem_cons hlt, he]
    rw [hd, List.take_succ_cons]
    exact ⟨v, _, rfl, h1, hr, ih⟩
theorem RepL_toRVL : ∀ {ps : List PV} {vs : List Value}, RepL w gh.I ps vs → RVL w gh ob (ps.map .pv) vs
  | [], vs, h => by simpa [RepL, RVL] using h
  | p :: ps, vs, h => by
    simp only [RepL] at h
    obtain ⟨v, vs', rfl, _, hp, hl⟩ := h
    exact ⟨v, vs', rfl, by simpa [RV] using hp, RepL_toRVL hl⟩

theorem lenIs_iff {α : Type} : ∀ {l : List α} {n : Nat}, lenIs l n = true ↔ l.length = n
  | [], 0 => by simp [lenIs]
  | [], n + 1 => by simp [lenIs]
  | _ :: l, 0 => by simp [lenIs]
  | _ :: l, n + 1 => by simp [lenIs, lenIs_iff (l := l)]
theorem part_all {α : Type} (d : α) : ∀ (l : List α), part d l 0 l.length = l := by
  have key : ∀ (l : List α) (pre : List α), part d (pre ++ l) pre.length l.length = l := by
    intro l
    induction l with
    | nil => intro pre; rfl
    | cons x l ih =>
      intro pre
      have h1 : nth d (pre ++ x :: l) pre.length = x := by
        clear ih
        induction pre with
        | nil => rfl
        | cons y pre ih2 => simpa [nth] using ih2
      have h2 := ih (pre ++ [x])
      simp only [List.append_assoc, List.singleton_append, List.length_append, List.length_singleton] at h2
      simp only [List.length_cons, part, h1, h2]
  intro l
  exact key l []
theorem part_len {α : Type} (d : α) (l : List α) : ∀ (n off : Nat), (part d l off n).length = n
  | 0, _ => rfl
  | n + 1, off => by simp [part, part_len d l n]

theorem ones_part {vs : List Value} (h : ones vs) (off n : Nat) : ones ((vs.drop off).take n) :=
  fun v hv => h v (List.mem_of_mem_drop (List.mem_of_mem_take hv))

theorem widthOf_some {t : TypeId} {n : Nat} (h : widthOf P t = some n) : ∃ i, P.info? t = some i ∧ i.size = wd n ∧ (isAgg t).run P w = .ok (decide (0 < n)) w := by
  unfold widthOf at h
  split at h
  · rename_i i dsc hi hu
    refine ⟨i, hi, ?_⟩
    have hrun : (isAgg t).run P w = .ok (isAggT P t) w := by
      unfold isAgg isAggT
      simp only [Sem.run_bind, run_underlying hu, Result.andThen_ok, hu]
      cases dsc <;> rfl
    rw [hrun]
    cases hb : isAggT P t with
    | true =>
      rw [hb] at h
      simp only [cond_true] at h
      split at h
      · cases h
      · cases h
        rename_i hz
        obtain ⟨m, hm⟩ : ∃ m, i.size = m + 1 := ⟨i.size - 1, by omega⟩
        rw [hm]; exact ⟨rfl, by simp⟩
    | false =>
      rw [hb] at h
      simp only [cond_false] at h
      split at h
      · cases h; rename_i hz; exact ⟨hz, rfl⟩
      · cases h
  · cases h

theorem run_sizeOf' {t : TypeId} {i : TypeInfo} (hi : P.info? t = some i) : (sizeOf t).run P w = .ok i.size w := by simp [sizeOf, typeInfo, hi]

/-- A load of what lies there. -/
theorem run_loadVar {t : TypeId} {n : Nat} (h : widthOf P t = some n) {b off : Nat} {u : Value} (hu : u.cells.size = wd n) (h0 : n = 0 → u.oneCell' = true) (hk : 0 < n → ∃ cs, u = .agg cs)
    (hc : ∀ j v, u.cells.toList[j]? = some v → w.cell? ⟨b, off + j, none⟩ = some v) : (loadVar t ⟨b, off, none⟩).run P w = .ok u w := by
  obtain ⟨i, hi, hs, ha⟩ := widthOf_some (w := w) h
  cases n with
  | zero =>
    have h1 := h0 rfl
    have hcells : u.cells = #[u] := by cases u <;> simp_all [Value.cells, Value.oneCell']
    have hc0 := hc 0 u (by rw [hcells]; rfl)
    simp only [Nat.add_zero] at hc0
    unfold loadVar
    rw [Sem.run_bind, ha]
    simp [hc0]
  | succ n =>
    obtain ⟨cs, rfl⟩ := hk (by omega)
    have hl := run_loadCells_list (P := P) w ⟨b, off, none⟩ cs.toList (fun j v hj => by
      have := hc j v hj
      rw [Addr.add_lit]; exact this)
    have hsz : cs.toList.length = i.size := by rw [hs]; simpa [Value.cells] using hu
    rw [hsz] at hl
    unfold loadVar
    rw [Sem.run_bind, ha]
    simp [run_sizeOf' hi, hl]

/-! ### Parts -/
theorem Nat_ble {a b : Nat} (h : Nat.ble a b = true) : a ≤ b := Nat.le_of_ble_eq_true h

theorem extract_shows {o : Oper} {x : Operand} {j : Nat} (ho : o.op = .extract x j) {y : Opd} (hx : opdOf x = some y) (hg : Good c σ a w gh) (hd : dstOk c.nt o.dst = true) {out : Out}
    (hs : stepK call d σ (.extract y j) some = some out) : Shows P c σ a w o out := by
  have hv := opd_rel hg hx
  simp only [stepK] at hs
  split at hs
  case h_2 => cases hs
  rename_i as hp
  cases hb : Nat.ble (j + 1) as.length <;> rw [hb] at hs <;> simp only [cond_true, cond_false] at hs <;> cases hs
  have hle := Nat_ble hb
  rw [hp] at hv
  simp only [RV] at hv
  obtain ⟨vs, hv, hl⟩ := hv
  obtain ⟨v, h1, h2⟩ := RVL_nth hl (show j < as.length by omega)
  have h1' : vs[j]? = some v := by simpa using h1
  exact shows_quiet hg hd (v := v) (by simp [execOp, ho, hv, Instr.extract, h1']) h2

theorem fieldOf_some {s f off n : Nat} (h : fieldOf P s f = some (off, n)) : ∃ fs x, P.underlying s = some (.struct fs) ∧ fs[f]? = some x ∧ x.offset = off ∧ widthOf P x.type = some n := by
  unfold fieldOf at h
  split at h
  · rename_i fs hu
    split at h
    · rename_i x hx
      simp only [Option.map_eq_some_iff, Prod.mk.injEq] at h
      obtain ⟨w, hw, h1, rfl⟩ := h
      exact ⟨fs, x, hu, hx, h1, hw⟩
    · cases h
  · cases h

theorem field_shows {o : Oper} {s f off n : Nat} {x : Operand} (ho : o.op = .field s x f) (hf : fieldOf P s f = some (off, n)) {y : Opd} (hx : opdOf x = some y) (hg : Good c σ a w gh) (hd : dstOk c.nt o.dst = true) {out : Out}
    (hs : stepK call d σ (.field n off y) some = some out) : Shows P c σ a w o out := by
  have hv := opd_rel hg hx
  obtain ⟨fs, fx, hu, hfx, hoff, hw⟩ := fieldOf_some hf
  obtain ⟨i, hi, hsz, ha⟩ := widthOf_some (w := w) hw
  have key : ∀ (cs : Array Value) (r : AV), a.eval x = .agg cs → (n = 0 → ∃ v, cs[off]? = some v ∧ RV w gh σ.obj r v) → (0 < n → RV w gh σ.obj r (.agg (cs.extract off (off + n)))) → Shows P c σ a w o ⟨r, [], []⟩ := by
    intro cs r he h0 h1
    cases n with
    | zero =>
      obtain ⟨v, hv, hr⟩ := h0 rfl
      refine shows_quiet hg hd (v := v) ?_ hr
      simp [execOp, ho, Instr.field, run_underlying hu, hfx, he, asAgg, Go.part, ha, hoff, hv]
    | succ n =>
      refine shows_quiet hg hd (v := .agg (cs.extract off (off + (n + 1)))) ?_ (h1 (by omega))
      simp [execOp, ho, Instr.field, run_underlying hu, hfx, he, asAgg, Go.part, ha, hoff, run_sizeOf' hi, hsz, wd]
  simp only [stepK] at hs
  split at hs
  · rename_i as hp
    rw [hp] at hv
    simp only [RV] at hv
    obtain ⟨cs, hv, hl, h1⟩ := hv
    have hlen := RVL_len hl
    cases n with
    | zero =>
      simp only at hs
      cases hb : Nat.ble (off + 1) as.length <;> rw [hb] at hs <;> simp only [cond_true, cond_false] at hs <;> cases hs
      have hle := Nat_ble hb
      obtain ⟨v, e1, e2⟩ := RVL_nth hl (show off < as.length by omega)
      exact key cs _ hv (fun _ => ⟨v, by simpa using e1, e2⟩) (fun h => absurd h (by omega))
    | succ n =>
      simp only at hs
      cases hb : Nat.ble (off + (n + 1)) as.length <;> rw [hb] at hs <;> simp only [cond_true, cond_false] at hs <;> cases hs
      have hle := Nat_ble hb
      refine key cs _ hv (fun h => by omega) (fun _ => ?_)
      have e1 := RVL_part (n + 1) (off := off) hl hle
      refine ⟨_, rfl, ?_, ?_⟩
      · simpa [List.extract_eq_take_drop] using e1
      · simpa [List.extract_eq_take_drop] using ones_part h1 off (n + 1)
  · rename_i p hp
    rw [hp, RV_pv] at hv
    cases p with
    | agg ps =>
      simp only [RepV] at hv
      obtain ⟨cs, hv, hl⟩ := hv
      have hlen := RepL_len hl
      cases n with
      | zero =>
        simp only [PV.cells] at hs
        cases hb : Nat.ble (off + 1) ps.length <;> rw [hb] at hs <;> simp only [cond_true, cond_false] at hs <;> cases hs
        have hle := Nat_ble hb
        obtain ⟨v, e1, e2, _⟩ := RepL_nth hl (show off < ps.length by omega)
        exact key cs _ hv (fun _ => ⟨v, by simpa using e1, by simpa [RV, PV.cell, PV.cells] using e2⟩) (fun h => absurd h (by omega))
      | succ n =>
        simp only [PV.cells] at hs
        cases hb : Nat.ble (off + (n + 1)) ps.length <;> rw [hb] at hs <;> simp only [cond_true, cond_false] at hs <;> cases hs
        have hle := Nat_ble hb
        refine key cs _ hv (fun h => by omega) (fun _ => ?_)
        have e1 := RepL_part (n + 1) (off := off) hl hle
        refine ⟨_, rfl, ?_, ?_⟩
        · simpa [List.extract_eq_take_drop] using RepL_toRVL (ob := σ.obj) e1
        · simpa [List.extract_eq_take_drop] using RepL_ones e1
    | _ => cases n <;> simp [PV.cells, Nat.ble] at hs
  · cases hs

theorem fieldAddr_shows {o : Oper} {s f off n : Nat} {x : Operand} (ho : o.op = .fieldAddr s x f) (hf : fieldOf P s f = some (off, n)) {y : Opd} (hx : opdOf x = some y) (hg : Good c σ a w gh) (hd : dstOk c.nt o.dst = true) {out : Out}
    (hs : stepK call d σ (.fieldAddr off y) some = some out) : Shows P c σ a w o out := by
  have hv := opd_rel hg hx
  obtain ⟨fs, fx, hu, hfx, hoff, hw⟩ := fieldOf_some hf
  obtain ⟨i, hi, hsz, ha⟩ := widthOf_some (w := w) hw
  have hne : i.size ≠ 0 := by rw [hsz]; have := wd_pos n; omega
  have key : ∀ (b o' : Nat) (r : AV) (l : List Nat), a.eval x = .pointer (some ⟨b, o', none⟩) → RV w gh σ.obj r (.pointer (some ⟨b, o' + off, none⟩)) → Shows P c σ a w o ⟨r, [], l⟩ := by
    intro b o' r l he hr
    refine shows_quiet hg hd (v := .pointer (some ⟨b, o' + off, none⟩)) ?_ hr
    simp [execOp, ho, Instr.fieldAt, run_underlying hu, hfx, he, Instr.sureAddr, fieldPlace, run_sizeOf' hi, hne, hoff, Addr.add_lit]
  simp only [stepK] at hs
  split at hs
  case h_4 => cases hs
  all_goals rename_i hp; rw [hp] at hv; simp only [RV] at hv
  · rename_i g o'
    cases hs
    cases hb : σ.obj g with
    | box cs e => rw [hb] at hv; exact key _ _ _ _ hv (by simp [RV, hb])
    | _ => rw [hb] at hv; exact hv.elim
  · cases hs
    obtain ⟨b, o0, u, hv, h1, h2, h3, h4⟩ := hv
    exact key _ _ _ _ hv (by simp only [RV]; exact ⟨b, o0, u, by rw [Nat.add_assoc], h1, h2, h3, h4⟩)
  · rename_i g i' o'
    cases hb : σ.obj g with
    | row s xs e => rw [hb] at hv hs; cases hs; exact key _ _ _ _ hv (by simp [RV, hb, Nat.add_assoc])
    | _ => rw [hb] at hs; cases hs

theorem indexArr_shows {o : Oper} {t e : TypeId} {s n : Nat} {x i : Operand} (ho : o.op = .indexAddr t x i) (he : arrOf P t = some (n, e)) (hw : widthOf P e = some s) {x' i' : Opd} (hx : opdOf x = some x') (hi : opdOf i = some i') (hg : Good c σ a w gh) (hd : dstOk c.nt o.dst = true) {out : Out}
    (hs : stepK call d σ (.indexArr n s x' i') some = some out) : Shows P c σ a w o out := by
  have hu : P.underlying t = some (.array n e) := by
    unfold arrOf at he
    split at he
    · rename_i h; cases he; exact h
    · cases he
  obtain ⟨inf, hinf, hsz, _⟩ := widthOf_some (w := w) hw
  have hv := opd_rel hg hx
  simp only [stepK] at hs
  obtain ⟨p, hp, hs⟩ := asPv_some hs
  obtain ⟨j, hj, hs⟩ := Option.bind_eq_some_iff.1 hs
  have hvi := opd_rel hg hi
  rw [hp, RV_pv, asInt_some hj] at hvi
  simp only [RepV] at hvi
  split at hs
  case h_2 => cases hs
  rename_i g off hp2
  split at hs
  case isFalse => cases hs
  rename_i hbd
  cases hs
  have hwd : wdA s = wd s := by cases s <;> rfl
  rw [hp2] at hv; simp only [RV] at hv
  cases hb : σ.obj g with
  | box cs ex =>
    rw [hb] at hv
    refine shows_quiet hg hd (v := .pointer (some ⟨gh.β g, off + j.toNat * wd s, none⟩)) ?_ (by simp [RV, hb, hwd])
    simp [execOp, ho, hv, hvi, Instr.indexAt, asIntOf, run_underlying hu, hbd, run_sizeOf' hinf, hsz, Addr.add_lit, Instr.sureAddr]
  | _ => rw [hb] at hv; exact hv.elim

theorem nilCheck_shows {o : Oper} {x : Operand} (ho : o.op = .nilCheck x) {y : Opd} (hx : opdOf x = some y) (hg : Good c σ a w gh) (hd : dstOk c.nt o.dst = true) {out : Out}
    (hs : stepK call d σ (.nilCheck y) some = some out) : Shows P c σ a w o out := by
  have hv := opd_rel hg hx
  have key : ∀ (b o' : Nat) (r : AV) (l : List Nat), a.eval x = .pointer (some ⟨b, o', none⟩) → RV w gh σ.obj r (.pointer (some ⟨b, o', none⟩)) → Shows P c σ a w o ⟨r, [], l⟩ := by
    intro b o' r l he hr
    refine shows_quiet hg hd (v := .pointer (some ⟨b, o', none⟩)) ?_ hr
    simp [execOp, ho, he]
  simp only [stepK] at hs
  split at hs
  case h_4 => cases hs
  all_goals rename_i hp; rw [hp] at hv; simp only [RV] at hv
  · rename_i g o'
    cases hs
    cases hb : σ.obj g with
    | box cs e => rw [hb] at hv; exact key _ _ _ _ hv (by simp [RV, hb])
    | _ => rw [hb] at hv; exact hv.elim
  · cases hs
    obtain ⟨b, o0, u, hv, h1, h2, h3, h4⟩ := hv
    exact key _ _ _ _ hv (by simp only [RV]; exact ⟨b, o0, u, rfl, h1, h2, h3, h4⟩)
  · rename_i g i' o'
    cases hb : σ.obj g with
    | row s xs e => rw [hb] at hv hs; cases hs; exact key _ _ _ _ hv (by simp [RV, hb])
    | _ => rw [hb] at hs; cases hs

end Go.Proofs.YtbgkalolmichdaaA
