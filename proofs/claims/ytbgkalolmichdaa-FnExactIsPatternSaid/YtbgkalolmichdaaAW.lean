/- A function: what the abstract machine answers, a call of the translated function answers. Conditions: the contracts of what it calls. -/
import Derived.Test.YtbgkalolmichdaaAV
namespace Go.Proofs.YtbgkalolmichdaaA
open Go
set_option linter.unusedSimpArgs false
set_option linter.unusedVariables false

variable {P : Program} {c : Ctx} {σ : St} {a : Act} {w w' : World} {gh : Gh} {call : FuncId → List XV → Option Res}

theorem fits_len {x : PV} {s : Nat} (h : x.fits s = true) : s = x.cells.length := by
  cases s with
  | zero =>
    have := fits_zero h
    cases x <;> first | rfl | (simp [PV.one] at this)
  | succ s =>
    obtain ⟨ps, rfl, hl⟩ := fits_succ h
    exact hl.symm

/-! ### The way in -/
structure Entered (w : World) (I : Imm) (i : Nat) (vals : List Value) (bs : List Nat) (ts : List (Nat × AV)) (os : List (Nat × Obj)) (bx : List Nat) : Prop where
  lo : ∀ g ∈ bx, 64 * i ≤ g
  nd : bx.Nodup
  len : bx.length = bs.length
  obj : ∀ g, (look .free os g = .free ∧ g ∉ bx) ∨ ∃ b cs, (g, b) ∈ bx.zip bs ∧ look .free os g = .box (cs.map .pv) true ∧ BoxAt w I b cs
  all : ∀ g ∈ bx, ∃ b cs, (g, b) ∈ bx.zip bs ∧ look .free os g = .box (cs.map .pv) true ∧ BoxAt w I b cs
  tmp : ∀ t, look .undef ts t = .undef ∨ ∃ j v, t = i + j ∧ vals[j]? = some v ∧
    ((∃ p, look .undef ts t = .pv p ∧ RepV w I p v) ∨ (∃ g b, look .undef ts t = .ptr g 0 ∧ (g, b) ∈ bx.zip bs ∧ v = .pointer (some ⟨b, 0, none⟩)) ∨ ∃ x, look .undef ts t = .cptr x.cells.length x 0 ∧ CpAt w I x v)

theorem enter_ok {I : Imm} : ∀ (args : List XV) (i : Nat) (vals : List Value) (bs : List Nat) (ts : List (Nat × AV)) (os : List (Nat × Obj)) (bx : List Nat), AR w I args vals bs → enter i args = some (ts, os, bx) → Entered w I i vals bs ts os bx
  | [], i, vals, bs, ts, os, bx, hA, h => by
    simp only [enter] at h; cases h
    simp only [AR] at hA
    obtain ⟨rfl, rfl⟩ := hA
    exact ⟨fun g hg => (by cases hg), List.nodup_nil, rfl, fun g => .inl ⟨rfl, fun hg => by cases hg⟩, fun g hg => (by cases hg), fun t => .inl rfl⟩
  | x :: args, i, vals, bs, ts, os, bx, hA, h => by
    simp only [AR] at hA
    obtain ⟨v, vs', b1, bs', rfl, rfl, h1, h2⟩ := hA
    simp only [enter] at h
    split at h
    · rename_i ts1 os1 bx1 he
      have E := enter_ok args (i + 1) vs' bs' ts1 os1 bx1 h2 he
      have htmp : ∀ t (x : AV), t ≠ i → (look .undef ts1 t = .undef ∨ ∃ j v', t = i + j ∧ (v :: vs')[j]? = some v' ∧
          ((∃ p, look .undef ts1 t = .pv p ∧ RepV w I p v') ∨ (∃ g b, look .undef ts1 t = .ptr g 0 ∧ (g, b) ∈ bx1.zip bs' ∧ v' = .pointer (some ⟨b, 0, none⟩)) ∨ ∃ x, look .undef ts1 t = .cptr x.cells.length x 0 ∧ CpAt w I x v')) := fun t x hti => by
        rcases E.tmp t with h | ⟨j, v', h3, h4, h5⟩
        · exact .inl h
        · exact .inr ⟨j + 1, v', by omega, by simpa using h4, h5⟩
      cases x with
      | pv p =>
        simp only at h
        cases h
        obtain ⟨h3, rfl⟩ := h1
        refine ⟨fun g hg => by have := E.lo g hg; omega, E.nd, E.len, E.obj, E.all, fun t => ?_⟩
        by_cases e : i = t
        · exact .inr ⟨0, v, by omega, rfl, .inl ⟨p, by simp [look, e], h3⟩⟩
        · simp only [look, if_neg e]; exact htmp t .undef (Ne.symm e)
      | box cs =>
        simp only at h
        cases h
        obtain ⟨b, rfl, rfl, hb⟩ := h1
        have hni : 64 * i ∉ bx1 := fun hg => by have := E.lo _ hg; omega
        have hobj : ∀ g, (64 * i = g ∧ look .free ((64 * i, Obj.box (cs.map .pv) true) :: os1) g = .box (cs.map .pv) true) ∨ (64 * i ≠ g ∧ look .free ((64 * i, Obj.box (cs.map .pv) true) :: os1) g = look .free os1 g) := fun g => by
          by_cases e : 64 * i = g
          · exact .inl ⟨e, by simp [look, e]⟩
          · exact .inr ⟨e, by simp [look, e]⟩
        refine ⟨fun g hg => ?_, List.nodup_cons.2 ⟨hni, E.nd⟩, by simp [E.len], fun g => ?_, fun g hg => ?_, fun t => ?_⟩
        · rcases List.mem_cons.1 hg with rfl | hg
          · exact Nat.le_refl _
          · have := E.lo g hg; omega
        · rcases hobj g with ⟨rfl, h3⟩ | ⟨e, h3⟩
          · exact .inr ⟨b, cs, by simp, h3, hb⟩
          · rw [h3]
            rcases E.obj g with ⟨h4, h5⟩ | ⟨b', cs', h4, h5, h6⟩
            · exact .inl ⟨h4, fun hg => by rcases List.mem_cons.1 hg with h | h; exact e h.symm; exact h5 h⟩
            · exact .inr ⟨b', cs', by simp [h4], h5, h6⟩
        · rcases hobj g with ⟨rfl, h3⟩ | ⟨e, h3⟩
          · exact ⟨b, cs, by simp, h3, hb⟩
          · rw [h3]
            obtain ⟨b', cs', h4, h5, h6⟩ := E.all g ((List.mem_cons.1 hg).resolve_left (Ne.symm e))
            exact ⟨b', cs', by simp [h4], h5, h6⟩
        · by_cases e : i = t
          · exact .inr ⟨0, _, by omega, rfl, .inr (.inl ⟨64 * i, b, by simp [look, e], by simp, rfl⟩)⟩
          · simp only [look, if_neg e]
            rcases htmp t .undef (Ne.symm e) with h | ⟨j, v', h3, h4, h5 | ⟨g, b', h5, h6, h7⟩ | h5⟩
            · exact .inl h
            · exact .inr ⟨j, v', h3, h4, .inl h5⟩
            · exact .inr ⟨j, v', h3, h4, .inr (.inl ⟨g, b', h5, by simp [h6], h7⟩)⟩
            · exact .inr ⟨j, v', h3, h4, .inr (.inr h5)⟩
      | cp x =>
        simp only at h
        cases h
        obtain ⟨h3, rfl⟩ := h1
        refine ⟨fun g hg => by have := E.lo g hg; omega, E.nd, E.len, E.obj, E.all, fun t => ?_⟩
        by_cases e : i = t
        · exact .inr ⟨0, v, by omega, rfl, .inr (.inr ⟨x, by simp [look, e], h3⟩)⟩
        · simp only [look, if_neg e]; exact htmp t .undef (Ne.symm e)
      | _ => cases h
    · cases h

theorem zip_look : ∀ {bx bs : List Nat}, bx.Nodup → ∀ {g b : Nat}, (g, b) ∈ bx.zip bs → look 0 (bx.zip bs) g = b
  | [], bs, _, g, b, h => by simp at h
  | x :: bx, [], _, g, b, h => by simp at h
  | x :: bx, y :: bs, hn, g, b, h => by
    rw [List.nodup_cons] at hn
    simp only [List.zip_cons_cons, List.mem_cons, look] at h ⊢
    rcases h with h | h
    · cases h; rw [if_pos rfl]
    · have hg : g ∈ bx := (List.of_mem_zip h).1
      rw [if_neg fun (e : x = g) => hn.1 (by rw [e]; exact hg)]
      exact zip_look hn.2 h
theorem zip_inj : ∀ {bx bs : List Nat}, bs.Nodup → ∀ {g g' b : Nat}, (g, b) ∈ bx.zip bs → (g', b) ∈ bx.zip bs → g = g'
  | [], bs, _, g, g', b, h, _ => by simp at h
  | x :: bx, [], _, g, g', b, h, _ => by simp at h
  | x :: bx, y :: bs, hn, g, g', b, h, h' => by
    rw [List.nodup_cons] at hn
    simp only [List.zip_cons_cons, List.mem_cons] at h h'
    rcases h with h | h <;> rcases h' with h' | h'
    · cases h; cases h'; rfl
    · cases h; exact absurd (List.of_mem_zip h').2 hn.1
    · cases h'; exact absurd (List.of_mem_zip h).2 hn.1
    · exact zip_inj hn.2 h h'

theorem enter_good {I : Imm} {args : List XV} {vals : List Value} {bs : List Nat} {ts : List (Nat × AV)} {os : List (Nat × Obj)} {bx : List Nat} {nt : Nat} (hA : AR w I args vals bs) (hn : bs.Nodup) (hI : ∀ b o, I b o → b < w.heap.size) (h : enter 0 args = some (ts, os, bx))
    (hnt : (vals.toArray ++ Array.replicate (nt - vals.toArray.size) undef).size = nt) :
    Good ⟨w, I, (· ∈ bs), nt, bx.zip bs⟩ ⟨ts, os⟩ { tmps := vals.toArray ++ Array.replicate (nt - vals.toArray.size) undef, defers := [] } w { I := I, β := fun i => look 0 (bx.zip bs) i, hd := fun _ => undef } ∧ (bx.zip bs).map (·.1) = bx ∧ bx.length = bs.length := by
  have E := enter_ok args 0 vals bs ts os bx hA h
  have hobj : ∀ g, (⟨ts, os⟩ : St).obj g = look .free os g := fun g => rfl
  have hlv : ∀ g, live (⟨ts, os⟩ : St).obj { I := I, β := fun i => look 0 (bx.zip bs) i, hd := fun _ => undef } g → ∃ b cs, (g, b) ∈ bx.zip bs ∧ look .free os g = .box (cs.map .pv) true ∧ BoxAt w I b cs ∧ look 0 (bx.zip bs) g = b := fun g hl => by
    rcases E.obj g with ⟨h1, _⟩ | ⟨b, cs, h1, h2, h3⟩
    · unfold live at hl; rw [hobj, h1] at hl; exact hl.elim
    · exact ⟨b, cs, h1, h2, h3, zip_look E.nd h1⟩
  refine ⟨⟨⟨fun g => ?_, fun i j hi hj hij => ?_, fun i o hi hI' => ?_, hI, fun i hi => ?_, fun b o h => h, fun b o h => .inl h, fun b _ _ => rfl, Nat.le_refl _, rfl, rfl, rfl⟩, fun t => ?_, rfl, hnt, fun p hp => ?_⟩, ?_, E.len⟩
  · rw [hobj]
    rcases E.obj g with ⟨h1, _⟩ | ⟨b, cs, h1, h2, h3⟩
    · rw [h1]; trivial
    · rw [h2]
      refine RO_box ?_
      show BoxAt w I (look 0 (bx.zip bs) g) cs
      rw [zip_look E.nd h1]; exact h3
  · obtain ⟨b1, _, m1, _, _, e1⟩ := hlv i hi
    obtain ⟨b2, _, m2, _, _, e2⟩ := hlv j hj
    simp only [e1, e2] at hij
    subst hij
    exact zip_inj hn m1 m2
  · obtain ⟨b1, _, m1, _, ⟨_, _, _, _, hb⟩, e1⟩ := hlv i hi
    simp only [e1] at hI'
    exact absurd hI' (hb o)
  · obtain ⟨b1, _, m1, _, _, e1⟩ := hlv i hi
    simp only [e1]
    exact .inl (List.of_mem_zip m1).2
  · show RV w _ _ (look .undef ts t) _
    rcases E.tmp t with h1 | ⟨j, v, rfl, hv, h1⟩
    · rw [h1]; simp [RV]
    · have hval : (vals.toArray ++ Array.replicate (nt - vals.toArray.size) undef).getD (0 + j) undef = v := by
        have hj : j < vals.length := (List.getElem?_eq_some_iff.1 hv).1
        rw [Array.getD_eq_getD_getElem?, Array.getElem?_append_left (by simpa using hj)]
        simp [hv]
      rw [hval]
      rcases h1 with ⟨p, h2, h3⟩ | ⟨g, b, h2, h3, h4⟩ | ⟨x, h2, b, o, u, s, h3, h4, h5, h6, h7⟩
      · rw [h2]; simpa [RV] using h3
      · rw [h2]
        rcases E.obj g with ⟨_, h5⟩ | ⟨b', cs, h5, h6, _⟩
        · exact absurd (List.of_mem_zip h3).1 h5
        · simp only [RV, hobj, h6]
          rw [h4, zip_look E.nd h3]
      · rw [h2]
        have hs := fits_len h5
        subst hs
        exact ⟨b, o, u, by simpa using h3, h4, h5, h6, h7⟩
  · obtain ⟨g, b⟩ := p
    refine ⟨zip_look E.nd hp, ?_⟩
    obtain ⟨b', cs, h1, h2, _⟩ := E.all g (List.of_mem_zip hp).1
    exact ⟨_, true, h2⟩
  · rw [List.map_fst_zip]
    exact Nat.le_of_eq E.len

/-! ### The way out -/
def rf (tmps : Array Value) : ResultVar → Sem Value
  | .tmp t => pure (tmps.getD t undef)
  | .cell a t => do loadVar t (← asAddr (tmps.getD a undef))

theorem box_at {gh1 : Gh} {L : List Nat} (S : Shared c σ w gh gh1 L) {g : Nat} {cs : List AV} {ps : List PV} {l : List Nat} (hb : σ.obj g = .box cs true) (hL : g ∉ L) (e1 : pvs σ cs = some (ps, l)) (hl : ∀ k ∈ l, k ∈ L) : BoxAt w gh1.I (gh.β g) ps := by
  have hob : updL (share σ L) σ.obj g = .box cs true := by rw [updL_shareS, if_neg hL, hb]
  have hr := S.mem.ro g
  rw [hob] at hr
  obtain ⟨cur, T, hh, hcv, ho, _⟩ := hr
  have hrep := pvs_rel S.mem.ro e1 hcv ho (S.row l hl)
  rw [S.β] at hh
  refine ⟨cur, T, hh, hrep, fun o hI => ?_⟩
  have := S.mem.sep g o (by unfold live; rw [hob]; trivial) (by rw [S.β]; exact hI)
  rw [hob] at this; exact this

theorem res_rel {gh1 : Gh} {L bx bs : List Nat} (S : Shared c σ w gh gh1 L) (hg : Good c σ a w gh) {lo : Nat} (hlo : ∀ g, live σ.obj gh g → lo ≤ gh.β g ∨ ∃ p ∈ bx, g = p ∧ ∃ cs e, σ.obj g = .box cs e)
    {rv : ResultVar} {mr : MRes} (ht : trRes P rv = some mr) {x : XV} {own rd : List Nat} (h : resOf σ bx mr = some (x, own, rd)) (hrd : ∀ g ∈ rd, g ∈ L) (hown : ∀ g ∈ own, g ∉ L) :
    ∃ (v : Value) (gs : List Nat), (rf a.tmps rv).run P w = .ok v w ∧ R1 w gh1.I lo x v (gs.map gh.β) ∧ gs.Sublist own ∧ ∀ g ∈ gs, live σ.obj gh g := by
  cases rv with
  | tmp t =>
    simp only [trRes] at ht; cases ht
    have hv := hg.tm t
    refine ⟨a.tmps.getD t undef, ?_⟩
    have hrun : (rf a.tmps (.tmp t)).run P w = .ok (a.tmps.getD t undef) w := by simp [rf, Sem.run_pure]
    simp only [resOf] at h
    split at h
    · rename_i g ht
      rw [ht] at hv
      split at h
      · rename_i s xs hb
        cases h
        have hL : g ∉ L := hown g (List.mem_singleton.2 rfl)
        have hob : updL (share σ L) σ.obj g = .row s xs true := by rw [updL_shareS, if_neg hL, hb]
        have hv1 := S.mv _ _ hv
        simp only [RV, hob] at hv1
        have hr := S.mem.ro g
        rw [hob] at hr
        rcases hr with ⟨h1, h2⟩ | ⟨cap, cur, T, h1, h2, h3, h4, h5, h6, h7, _⟩
        · exact ⟨[], hrun, .inl ⟨by rw [hv1.1, h1], h2, rfl⟩, List.nil_sublist _, fun g hg => by cases hg⟩
        · have hlv1 : live (updL (share σ L) σ.obj) gh1 g := by unfold live; rw [hob]; simp only; rw [h1]; simp
          have hlv : live σ.obj gh g := by
            unfold live; rw [hb]; simp only
            simp only [RV, hb] at hv
            rw [← hv.1, hv1.1, h1]; simp
          rw [S.β] at h1 h2
          refine ⟨[g], hrun, .inr ⟨gh.β g, cap, cur, T, by rw [hv1.1, h1], rfl, ?_, h2, h3, h4, h5, h6, h7, fun o hI => ?_⟩, List.Sublist.refl _, fun k hk => by rw [List.mem_singleton.1 hk]; exact hlv⟩
          · rcases hlo g hlv with h | ⟨p, _, rfl, cs, e, h⟩
            · exact h
            · rw [hb] at h; cases h
          · have := S.mem.sep g o hlv1 (by rw [S.β]; exact hI)
            rw [hob] at this; exact this
      · rename_i s xs hb
        cases h
        have hob : updL (share σ L) σ.obj g = .row s xs false := S.row [g] (fun k hk => hrd k hk) g (by simp) _ _ _ hb
        have hv1 := S.mv _ _ hv
        simp only [RV, hob] at hv1
        have hr := S.mem.ro g
        rw [hob] at hr
        exact ⟨[], hrun, ⟨by rw [hv1.1]; exact row_shared hr, rfl⟩, List.nil_sublist _, fun g hg => by cases hg⟩
      · cases h
    · rename_i g off ht
      rw [ht] at hv
      split at h
      · rename_i cs hb
        cases hc : bx.any (Nat.beq g) <;> simp only [hc, cond_true, cond_false] at h
        · split at h
          · rename_i ps l e1
            cases h
            have hlv : live σ.obj gh g := by unfold live; rw [hb]; trivial
            refine ⟨[g], hrun, ⟨gh.β g, ?_, rfl, ?_, box_at S hb (hown g (List.mem_singleton.2 rfl)) e1 hrd⟩, List.Sublist.refl _, fun k hk => by rw [List.mem_singleton.1 hk]; exact hlv⟩
            · simp only [RV, hb] at hv; exact hv
            · rcases hlo g hlv with h | ⟨p, h1, rfl, _⟩
              · exact h
              · have : bx.any (Nat.beq g) = true := List.any_eq_true.2 ⟨g, h1, Nat.beq_refl g⟩
                rw [hc] at this; cases this
          · cases h
        · cases h
      · cases h
    · split at h
      · rename_i p l e1
        cases h
        exact ⟨[], hrun, ⟨toPV_rel S.mem.ro e1 (S.mv _ _ hv) (S.row _ hrd), rfl⟩, List.nil_sublist _, fun g hg => by cases hg⟩
      · cases h
  | cell t ty =>
    simp only [trRes, Option.map_eq_some_iff] at ht
    obtain ⟨n, hw, rfl⟩ := ht
    have hv := hg.tm t
    simp only [resOf] at h
    split at h
    · rename_i g off ht
      rw [ht] at hv
      split at h
      · rename_i cs e m hb
        cases hc : lenIs cs (m + 1) <;> simp only [hc, cond_true, cond_false] at h
        · cases h
        · split at h
          · rename_i ps l e1
            cases h
            simp only [RV, hb] at hv
            have hr := S.mem.ro g
            have hob : ∃ e', updL (share σ L) σ.obj g = .box cs e' := by
              rw [updL_shareS]; split
              · exact ⟨false, by rw [hb]; rfl⟩
              · exact ⟨e, hb⟩
            obtain ⟨e', hob⟩ := hob
            rw [hob] at hr
            obtain ⟨cur, T, hh, hcv, ho, _⟩ := hr
            have hrep := pvs_rel S.mem.ro e1 hcv ho (S.row _ hrd)
            rw [S.β] at hh
            have hlen : cur.size = m + 1 := by
              have h1 := RVL_len hcv
              have h2 := lenIs_iff.1 hc
              rw [h2] at h1; simpa using h1
            refine ⟨.agg cur, [], ?_, ⟨⟨cur, rfl, hrep⟩, rfl⟩, List.nil_sublist _, fun g hg => by cases hg⟩
            have hl := run_loadVar (P := P) (w := w) hw (b := gh.β g) (off := 0) (u := .agg cur) (by simpa [Value.cells, wd] using hlen) (fun h => by cases h) (fun _ => ⟨cur, rfl⟩) (fun j v hj => by
              simp only [World.cell?, hh, Nat.zero_add]
              simpa [Value.cells] using hj)
            simp [rf, hv, asAddr, hl]
          · cases h
      · cases h
    · cases h

theorem resOf_rows {bx : List Nat} {mr : MRes} {x : XV} {own rd : List Nat} (h : resOf σ bx mr = some (x, own, rd)) : ∀ g ∈ rd, ∃ s xs e, σ.obj g = .row s xs e := by
  cases mr with
  | tmp t =>
    simp only [resOf] at h
    split at h
    · split at h
      · cases h; intro g hg; cases hg
      · rename_i g s xs hb; cases h; intro k hk; rw [List.mem_singleton.1 hk]; exact ⟨_, _, _, hb⟩
      · cases h
    · rename_i g off _
      split at h
      · rename_i cs hb
        cases hc : bx.any (Nat.beq g) <;> simp only [hc, cond_true, cond_false] at h
        · split at h
          · rename_i e1; cases h; exact pvs_rows e1
          · cases h
        · cases h
      · cases h
    · split at h
      · rename_i e1; cases h; exact toPV_rows e1
      · cases h
  | cell t n =>
    simp only [resOf] at h
    split at h
    · rename_i g off _
      split at h
      · rename_i cs e m hb hcell
        cases hc : lenIs cs (m + 1) <;> simp only [hc, cond_true, cond_false] at h
        · cases h
        · split at h
          · rename_i e1; cases h; exact pvs_rows e1
          · cases h
      · cases h
    · cases h

theorem resAll_rows {bx : List Nat} : ∀ {ms : List MRes} {xs : List XV} {own rd : List Nat}, resAll σ bx ms = some (xs, own, rd) → ∀ g ∈ rd, ∃ s xs e, σ.obj g = .row s xs e
  | [], xs, own, rd, h => by simp only [resAll] at h; cases h; intro g hg; cases hg
  | m :: ms, xs, own, rd, h => by
    simp only [resAll] at h
    split at h
    · rename_i e1 e2
      cases h
      intro g hg
      rcases List.mem_append.1 hg with hg | hg
      · exact resOf_rows e1 g hg
      · exact resAll_rows e2 g hg
    · cases h

theorem outsOf_spec : ∀ {bx : List Nat} {outs : List XV} {rd : List Nat}, outsOf σ bx = some (outs, rd) → (∀ g ∈ rd, ∃ s xs e, σ.obj g = .row s xs e) ∧ ∀ g ∈ bx, ∃ cs, σ.obj g = .box cs true
  | [], outs, rd, h => by simp only [outsOf] at h; cases h; exact ⟨fun g hg => (by cases hg), fun g hg => by cases hg⟩
  | k :: bx, outs, rd, h => by
    simp only [outsOf] at h
    split at h
    · rename_i cs xs ms hb h1
      split at h
      · rename_i ps m e1
        cases h
        obtain ⟨i1, i2⟩ := outsOf_spec h1
        refine ⟨fun g hg => ?_, fun g hg => ?_⟩
        · rcases List.mem_append.1 hg with hg | hg
          · exact pvs_rows e1 g hg
          · exact i1 g hg
        · rcases List.mem_cons.1 hg with rfl | hg
          · exact ⟨cs, hb⟩
          · exact i2 g hg
      · cases h
    · cases h

theorem outs_rel {gh1 : Gh} {L : List Nat} (S : Shared c σ w gh gh1 L) : ∀ (bx bs : List Nat) (outs : List XV) (rd : List Nat), bx.length = bs.length → (∀ p ∈ bx.zip bs, gh.β p.1 = p.2) → outsOf σ bx = some (outs, rd) → (∀ g ∈ rd, g ∈ L) → (∀ g ∈ bx, g ∉ L) → BR w gh1.I outs bs
  | [], bs, outs, rd, hl, hz, h, h1, h2 => by
    simp only [outsOf] at h; cases h
    cases bs with
    | nil => rfl
    | cons => simp at hl
  | k :: bx, [], outs, rd, hl, hz, h, h1, h2 => by simp at hl
  | k :: bx, b :: bs, outs, rd, hl, hz, h, h1, h2 => by
    simp only [outsOf] at h
    split at h
    · rename_i cs xs ms hb h3
      split at h
      · rename_i ps m e1
        cases h
        have hk : gh.β k = b := hz (k, b) (by simp)
        refine ⟨b, bs, rfl, ?_, outs_rel S bx bs xs ms (by simpa using hl) (fun p hp => hz p (by simp [hp])) h3 (fun g hg => h1 g (List.mem_append.2 (.inr hg))) (fun g hg => h2 g (by simp [hg]))⟩
        rw [← hk]
        exact box_at S hb (h2 k (by simp)) e1 (fun g hg => h1 g (List.mem_append.2 (.inl hg)))
      · cases h
    · cases h

theorem resAll_rel {gh1 : Gh} {L bx bs : List Nat} (S : Shared c σ w gh gh1 L) (hg : Good c σ a w gh) {lo : Nat} (hlo : ∀ g, live σ.obj gh g → lo ≤ gh.β g ∨ ∃ p ∈ bx, g = p ∧ ∃ cs e, σ.obj g = .box cs e) :
    ∀ (rvs : List ResultVar) (ms : List MRes) (xs : List XV) (own rd : List Nat), all? (trRes P) rvs = some ms → resAll σ bx ms = some (xs, own, rd) → (∀ g ∈ rd, g ∈ L) → (∀ g ∈ own, g ∉ L) →
    ∃ (vs : List Value) (gs : List Nat), (rvs.mapM (rf a.tmps)).run P w = .ok vs w ∧ RL w gh1.I lo xs vs (gs.map gh.β) ∧ gs.Sublist own ∧ ∀ g ∈ gs, live σ.obj gh g
  | [], ms, xs, own, rd, ht, h, h1, h2 => by
    simp only [all?] at ht; cases ht
    simp only [resAll] at h; cases h
    exact ⟨[], [], by simp [Sem.run_pure], ⟨rfl, rfl⟩, List.nil_sublist _, fun g hg => by cases hg⟩
  | rv :: rvs, ms, xs, own, rd, ht, h, h1, h2 => by
    obtain ⟨m, ms', e1, e2, rfl⟩ := all?_cons ht
    simp only [resAll] at h
    split at h
    · rename_i x l mm xs1 ls ms1 e3 e4
      cases h
      obtain ⟨v, gs1, q1, q2, q3, q4⟩ := res_rel (bs := bs) S hg hlo e1 e3 (fun g hg => h1 g (List.mem_append.2 (.inl hg))) (fun g hg => h2 g (List.mem_append.2 (.inl hg)))
      obtain ⟨vs, gs2, r1, r2, r3, r4⟩ := resAll_rel (bs := bs) S hg hlo rvs ms' xs1 ls ms1 e2 e4 (fun g hg => h1 g (List.mem_append.2 (.inr hg))) (fun g hg => h2 g (List.mem_append.2 (.inr hg)))
      refine ⟨v :: vs, gs1 ++ gs2, ?_, ⟨v, vs, gs1.map gh.β, gs2.map gh.β, rfl, by simp, q2, r2⟩, q3.append r3, fun g hg => ?_⟩
      · rw [List.mapM_cons]
        simp only [Sem.run_bind, q1, Result.andThen, r1, Sem.run_pure]
      · rcases List.mem_append.1 hg with hg | hg
        · exact q4 g hg
        · exact r4 g hg
    · cases h

/-- A function whose told code answers keeps that as its contract. -/
theorem fun_sound {f : FuncId} {fn : Func} {m : MFunc} (hf : P.funcs[f]? = some fn) (hfit : fits P fn m) (hmix : P.follows .mixedOrders = true) (hall : Calling P call) (n : Nat) : Sound P f fun args =>
    bif lenIs args m.nparams then (match enter 0 args with
      | some (ts, os, bx) => exec call n bx m.body ⟨ts, os⟩ fun e σ => match e with
        | .exit _ => none
        | _ => leave m bx σ
      | none => none) else none := by
  intro args outs r h vals bs w I hA hn hI
  obtain ⟨cd, hb, htr, hres, hnp⟩ := hfit
  cases hlen : lenIs args m.nparams <;> simp only [hlen, cond_true, cond_false] at h
  · cases h
  have hlen := lenIs_iff.1 hlen
  split at h
  case h_2 => cases h
  rename_i ts os bx hent
  have hvl : vals.length = args.length := AR_len hA
  have hnt : (vals.toArray ++ Array.replicate (fn.ntmps - vals.toArray.size) undef).size = fn.ntmps := by
    simp only [Array.size_append, List.size_toArray, Array.size_replicate]; omega
  obtain ⟨hgood, hmap, hbl⟩ := enter_good (nt := fn.ntmps) hA hn hI hent hnt
  refine calls_of_wp hf hb ?_
  refine exec_sound (c := ⟨w, I, (· ∈ bs), fn.ntmps, bx.zip bs⟩) hmix hall n m.body cd _ _ w _ _ (outs, r) htr ⟨_, hgood⟩ (by rw [hmap]; exact h) fun e σ' a' w' hG hk => ?_
  obtain ⟨gh, hg⟩ := hG
  have hleave : leave m bx σ' = some (outs, r) := by
    cases e with
    | exit i => cases hk
    | normal => exact hk
    | ret => exact hk
  have fin : a'.defers = [] ∧ ∃ v, (results fn a'.tmps).run P w' = .ok v w' ∧ ∃ I' own, Post w I bs outs r w' v I' own := by
    refine ⟨hg.nd, ?_⟩
    unfold leave at hleave
    split at hleave
    case h_2 => cases hleave
    rename_i xs l rd outs' rd' hr ho
    cases hc : nodupB l && (rd ++ rd').all (fun g => !(l.any (Nat.beq g))) <;> simp only [hc, cond_true, cond_false] at hleave
    · cases hleave
    obtain ⟨hc1, hc2⟩ := Bool.and_eq_true_iff.1 hc
    have hnl := nodupB_some hc1
    have hdis := disjB_some hc2
    have hrows := resAll_rows hr
    obtain ⟨horows, hoboxes⟩ := outsOf_spec ho
    obtain ⟨gh1, m1, hI1, st1, mv1, row1, hβ1, hhd1⟩ := hg.shareL (rd ++ rd')
    have S : Shared _ σ' w' gh gh1 (rd ++ rd') := ⟨m1, mv1, fun x v => RVL.move (Same.refl' fun _ => rfl) hI1 st1 x v, row1, hβ1⟩
    have hbxL : ∀ g ∈ bx, g ∉ rd ++ rd' := fun g hgb hL => by
      obtain ⟨cs, hb⟩ := hoboxes g hgb
      rcases List.mem_append.1 hL with h | h
      · obtain ⟨s, ys, e, h⟩ := hrows g h; rw [hb] at h; cases h
      · obtain ⟨s, ys, e, h⟩ := horows g h; rw [hb] at h; cases h
    have hzip : ∀ p ∈ bx.zip bs, gh.β p.1 = p.2 := fun p hp => (hg.hand p hp).1
    have hbsmem : ∀ b ∈ bs, ∃ g ∈ bx, gh.β g = b := fun b hb => by
      obtain ⟨i, hi, e⟩ := List.getElem_of_mem hb
      have hi' : i < bx.length := by omega
      refine ⟨bx[i], List.getElem_mem _, ?_⟩
      have := hzip (bx[i], bs[i]) (by
        have h3 : i < (bx.zip bs).length := by simp; omega
        have := List.getElem_mem h3
        simpa using this)
      rw [← e]; exact this
    have hlo : ∀ g, live σ'.obj gh g → w.heap.size ≤ gh.β g ∨ ∃ p ∈ bx, g = p ∧ ∃ cs e, σ'.obj g = .box cs e := fun g hl => by
      rcases hg.mem.mod g hl with h | h
      · obtain ⟨k, hk, e⟩ := hbsmem _ h
        obtain ⟨cs, hb⟩ := hoboxes k hk
        have := hg.mem.inj k g (by unfold live; rw [hb]; trivial) hl e
        subst this
        exact .inr ⟨k, hk, rfl, cs, true, hb⟩
      · exact .inl h
    obtain ⟨vs, gs, q1, q2, q3, q4⟩ := resAll_rel (bs := bs) S hg hlo fn.results.toList m.results xs l rd hres hr (fun g hg => List.mem_append.2 (.inl hg)) hdis
    have hrun : (fn.results.mapM (rf a'.tmps)).run P w' = .ok vs.toArray w' := by
      rw [Array.mapM_eq_mapM_toList]
      simp [q1]
    have hpost : ∀ v, RR w' gh1.I w.heap.size r v (gs.map gh.β) → outs' = outs → ∃ I' own, Post w I bs outs r w' v I' own := fun v hrr ho' => by
      subst ho'
      refine ⟨gh1.I, gs.map gh.β, fun b o h => hI1 b o (hg.mem.keep b o h), fun b o h => ?_, m1.old, fun b hb hbs => m1.frame b hb hbs, hg.mem.size, hg.mem.os, hg.mem.tape, hg.mem.output, ?_, hrr, ?_⟩
      · rcases m1.new b o h with h' | h' | h'
        · exact .inl h'
        · obtain ⟨k, hk, rfl⟩ := hbsmem b h'
          obtain ⟨cs, hb⟩ := hoboxes k hk
          have hob : updL (share σ' (rd ++ rd')) σ'.obj k = .box cs true := by rw [updL_shareS, if_neg (hbxL k hk), hb]
          have := m1.sep k o (by unfold live; rw [hob]; trivial) (by rw [hβ1]; exact h)
          rw [hob] at this; exact this.elim
        · exact .inr h'
      · exact outs_rel S bx bs outs' rd' hbl hzip ho (fun g hg => List.mem_append.2 (.inr hg)) hbxL
      · exact nodup_map_on (q3.nodup hnl) fun i hi j hj hij => hg.mem.inj i j (q4 i hi) (q4 j hj) hij
    have hrf : results fn a'.tmps = (do let vs ← fn.results.mapM (rf a'.tmps); pure (if h : vs.size = 1 then vs[0] else .tuple vs)) := by
      unfold results
      congr 1
      first | done | (congr 1; funext x; cases x <;> rfl)
    rw [hrf]
    simp only [Sem.run_bind, hrun, Result.andThen, Sem.run_pure]
    cases xs with
    | nil =>
      simp only [RL] at q2
      obtain ⟨rfl, hgs⟩ := q2
      cases hleave
      exact ⟨_, rfl, hpost _ ⟨#[], rfl, rfl, hgs⟩ rfl⟩
    | cons x xs =>
      cases xs with
      | nil =>
        simp only [RL] at q2
        obtain ⟨v, vs', b1, bs', rfl, hgs, h1, rfl, rfl⟩ := q2
        cases hleave
        refine ⟨_, rfl, hpost _ ?_ rfl⟩
        rw [hgs, List.append_nil]
        cases r with
        | tup ys => exact h1.elim
        | _ => simpa [RR] using h1
      | cons y xs =>
        cases hleave
        have hl : vs.toArray.size ≠ 1 := by
          have := RL_len q2
          simp only [List.size_toArray]; simp only [List.length_cons] at this; omega
        refine ⟨_, rfl, hpost _ ?_ rfl⟩
        rw [dif_neg hl]
        exact ⟨vs.toArray, rfl, q2⟩
  cases e with
  | exit i => cases hk
  | normal => exact fin
  | ret => exact fin

end Go.Proofs.YtbgkalolmichdaaA
