/- A call: the abstract machine tells what the translated call does, if the callee's contract holds. Conditions: the contract of what is called. -/
import Derived.Test.YtbgkalolmichdaaAP
namespace Go.Proofs.YtbgkalolmichdaaA
open Go
set_option linter.unusedSimpArgs false
set_option linter.unusedVariables false

variable {P : Program} {c : Ctx} {σ : St} {a : Act} {w w' : World} {gh : Gh} {ob : Obs} {call : FuncId → List XV → Option Res} {d : Nat}

theorem pv1_rows {x : AV} {p : PV} {l : List Nat} (h : pv1 σ x = some (p, l)) : ∀ g ∈ l, ∃ s xs e, σ.obj g = .row s xs e := by
  unfold pv1 at h
  split at h
  · cases h; intro g hg; cases hg
  · cases h; intro g hg; cases hg
  · split at h
    · rename_i g s xs e hb
      cases h
      intro k hk
      rw [List.mem_singleton.1 hk]; exact ⟨_, _, _, hb⟩
    · cases h
  · cases h
theorem pvs_rows : ∀ {as : List AV} {ps : List PV} {l : List Nat}, pvs σ as = some (ps, l) → ∀ g ∈ l, ∃ s xs e, σ.obj g = .row s xs e
  | [], ps, l, h => by simp only [pvs] at h; cases h; intro g hg; cases hg
  | x :: as, ps, l, h => by
    simp only [pvs] at h
    split at h
    · rename_i p l1 ps1 l2 e1 e2
      cases h
      intro g hg
      rcases List.mem_append.1 hg with hg | hg
      · exact pv1_rows e1 g hg
      · exact pvs_rows e2 g hg
    · cases h
theorem toPV_rows {x : AV} {p : PV} {l : List Nat} (h : toPV σ x = some (p, l)) : ∀ g ∈ l, ∃ s xs e, σ.obj g = .row s xs e := by
  unfold toPV at h
  split at h
  · split at h
    · rename_i e
      cases h; exact pvs_rows e
    · cases h
  · exact pv1_rows h

/-- The state behind a sharing, seen from what was shared. -/
structure Shared (c : Ctx) (σ : St) (w : World) (gh gh1 : Gh) (L : List Nat) : Prop where
  mem : Mem c (updL (share σ L) σ.obj) w gh1
  mv : ∀ x v, RV w gh σ.obj x v → RV w gh1 (updL (share σ L) σ.obj) x v
  mvs : ∀ x v, RVL w gh σ.obj x v → RVL w gh1 (updL (share σ L) σ.obj) x v
  row : ∀ l' : List Nat, (∀ g ∈ l', g ∈ L) → ∀ g ∈ l', ∀ s xs e, σ.obj g = .row s xs e → updL (share σ L) σ.obj g = .row s xs false
  β : gh1.β = gh.β

theorem updL_shareS (L : List Nat) (g : Nat) : updL (share σ L) σ.obj g = if g ∈ L then shared (σ.obj g) else σ.obj g := by
  rw [share_eq]; exact updL_share _ _ _

theorem caps_rel {gh1 : Gh} {L : List Nat} (S : Shared c σ w gh gh1 L) (m : Mem c σ.obj w gh) : ∀ (caps : List Nat) (ps : List PV) (l : List Nat), capsOf σ caps = some (ps, l) → (∀ g ∈ caps, g ∈ L) → (∀ g ∈ l, g ∈ L) →
    CpsAt w gh1.I ps (caps.map fun g => .pointer (some ⟨gh.β g, 0, none⟩))
  | [], ps, l, h, _, _ => by simp only [capsOf] at h; cases h; rfl
  | g :: caps, ps, l, h, h1, h2 => by
    simp only [capsOf] at h
    split at h
    · rename_i cs e hb
      split at h
      · rename_i p ps1 l1 qs l2 e1 e2
        cases h
        refine ⟨_, _, rfl, ?_, caps_rel S m caps qs l2 e2 (fun k hk => h1 k (by simp [hk])) (fun k hk => h2 k (List.mem_append.2 (.inr hk)))⟩
        have hob : updL (share σ L) σ.obj g = .box cs false := by rw [updL_shareS, if_pos (h1 g (by simp)), hb]; rfl
        have hr := S.mem.ro g
        rw [hob] at hr
        obtain ⟨cur, T, hh, hv, ho, hI⟩ := hr
        have hrep := pvs_rel S.mem.ro e1 hv ho (S.row l1 fun k hk => h2 k (List.mem_append.2 (.inl hk)))
        have hlen := RepL_len hrep
        refine ⟨gh.β g, 0, .agg cur, ps1.length + 1, rfl, ⟨cur, rfl, hrep⟩, ?_, ?_, fun j v hj => ?_⟩
        · simp only [PV.fits, PV.isAgg]; exact lenIs_iff.2 (by simp)
        · simp only [Value.cells, wd]; simpa using hlen
        · have hj' : cur[j]? = some v := by simpa [Value.cells] using hj
          rw [S.β] at hh hI
          refine ⟨?_, hI rfl _ ?_⟩
          · simp only [World.cell?, hh, Nat.zero_add]; simpa using hj'
          · rw [Nat.zero_add]; exact (Array.getElem?_eq_some_iff.1 hj').1
      · cases h
    · cases h

theorem capsOf_rows : ∀ {caps : List Nat} {ps : List PV} {l : List Nat}, capsOf σ caps = some (ps, l) → ∀ g ∈ l, ∃ s xs e, σ.obj g = .row s xs e
  | [], ps, l, h => by simp only [capsOf] at h; cases h; intro g hg; cases hg
  | g :: caps, ps, l, h => by
    simp only [capsOf] at h
    split at h
    · split at h
      · rename_i p ps1 l1 qs l2 e1 e2
        cases h
        intro k hk
        rcases List.mem_append.1 hk with hk | hk
        · exact pvs_rows e1 k hk
        · exact capsOf_rows e2 k hk
      · cases h
    · cases h

theorem arg_rel {gh1 : Gh} {L : List Nat} (S : Shared c σ w gh gh1 L) (m : Mem c σ.obj w gh) {x : AV} {v : Value} {r : Arg} (h : argOf σ x = some r) (hv : RV w gh σ.obj x v)
    (h1 : ∀ g ∈ r.sh, g ∈ L) (h2 : ∀ g ∈ r.fz, g ∈ L) (h3 : ∀ g ∈ r.bx, g ∉ L) :
    A1 w gh1.I r.x v (r.bx.map gh.β) ∧ (∀ g ∈ r.bx, ∃ cs, σ.obj g = .box cs true) := by
  unfold argOf at h
  split at h
  · rename_i g off
    split at h
    · rename_i cs hb
      split at h
      · rename_i ps l e1
        cases h
        have hg : g ∉ L := h3 g (by simp)
        have hob : updL (share σ L) σ.obj g = .box cs true := by rw [updL_shareS, if_neg hg, hb]
        have hr := S.mem.ro g
        rw [hob] at hr
        obtain ⟨cur, T, hh, hcv, ho, _⟩ := hr
        have hrep := pvs_rel S.mem.ro e1 hcv ho (S.row l fun k hk => h1 k hk)
        rw [S.β] at hh
        simp only [RV, hb] at hv
        refine ⟨⟨gh.β g, hv, rfl, cur, T, hh, hrep, fun o hI => ?_⟩, fun k hk => ?_⟩
        · have := S.mem.sep g o (by unfold live; rw [hob]; trivial) (by rw [S.β]; exact hI)
          rw [hob] at this; exact this
        · rw [List.mem_singleton.1 hk]; exact ⟨_, hb⟩
      · cases h
    · cases h
  · rename_i s x off
    split at h
    · cases h
      have := S.mv _ _ hv
      simp only [RV] at this
      obtain ⟨b, o, u, e1, e2, e3, e4, e5⟩ := this
      exact ⟨⟨⟨b, o, u, _, by simpa using e1, e2, e3, e4, e5⟩, rfl⟩, fun g hg => by cases hg⟩
    · cases h
  · rename_i f caps
    split at h
    · rename_i ps l e1
      cases h
      simp only [RV] at hv
      obtain ⟨vs, e2, e3, _⟩ := hv
      exact ⟨⟨⟨vs, e2, by rw [e3]; exact caps_rel S m caps ps l e1 h2 h1⟩, rfl⟩, fun g hg => by cases hg⟩
    · cases h
  · split at h
    · rename_i p l e1
      cases h
      exact ⟨⟨toPV_rel S.mem.ro e1 (S.mv _ _ hv) (S.row l fun k hk => h1 k hk), rfl⟩, fun g hg => by cases hg⟩
    · cases h

theorem argOf_rows {x : AV} {r : Arg} (h : argOf σ x = some r) : ∀ g ∈ r.sh, ∃ s xs e, σ.obj g = .row s xs e := by
  unfold argOf at h
  split at h
  · split at h
    · split at h
      · rename_i e1; cases h; exact pvs_rows e1
      · cases h
    · cases h
  · split at h
    · cases h; intro g hg; cases hg
    · cases h
  · split at h
    · rename_i e1; cases h; exact capsOf_rows e1
    · cases h
  · split at h
    · rename_i e1; cases h; exact toPV_rows e1
    · cases h

theorem argsOf_rows : ∀ {as : List AV} {xs : List XV} {sh bx fz : List Nat}, argsOf σ as = some (xs, sh, bx, fz) → ∀ g ∈ sh, ∃ s xs e, σ.obj g = .row s xs e
  | [], xs, sh, bx, fz, h => by simp only [argsOf] at h; cases h; intro g hg; cases hg
  | x :: as, xs, sh, bx, fz, h => by
    simp only [argsOf] at h
    split at h
    · rename_i r xs1 sh1 bx1 fz1 e1 e2
      cases h
      intro g hg
      rcases List.mem_append.1 hg with hg | hg
      · exact argOf_rows e1 g hg
      · exact argsOf_rows e2 g hg
    · cases h

theorem argsOf_boxes : ∀ {as : List AV} {xs : List XV} {sh bx fz : List Nat}, argsOf σ as = some (xs, sh, bx, fz) → ∀ g ∈ bx, ∃ cs, σ.obj g = .box cs true
  | [], xs, sh, bx, fz, h => by simp only [argsOf] at h; cases h; intro g hg; cases hg
  | x :: as, xs, sh, bx, fz, h => by
    simp only [argsOf] at h
    split at h
    · rename_i r xs1 sh1 bx1 fz1 e1 e2
      cases h
      intro g hg
      rcases List.mem_append.1 hg with hg | hg
      · unfold argOf at e1
        split at e1
        · split at e1
          · rename_i hb
            split at e1
            · cases e1; rw [List.mem_singleton.1 hg]; exact ⟨_, hb⟩
            · cases e1
          · cases e1
        · split at e1
          · cases e1; cases hg
          · cases e1
        · split at e1
          · cases e1; cases hg
          · cases e1
        · split at e1
          · cases e1; cases hg
          · cases e1
      · exact argsOf_boxes e2 g hg
    · cases h

theorem args_rel {gh1 : Gh} {L : List Nat} (hg : Good c σ a w gh) (S : Shared c σ w gh gh1 L) : ∀ (xs : List Operand) (ys : List Opd) (args : List XV) (sh bx fz : List Nat), all? opdOf xs = some ys → argsOf σ (ys.map σ.opd) = some (args, sh, bx, fz) →
    (∀ g ∈ sh, g ∈ L) → (∀ g ∈ fz, g ∈ L) → (∀ g ∈ bx, g ∉ L) → AR w gh1.I args (xs.map a.eval) (bx.map gh.β)
  | [], ys, args, sh, bx, fz, h, he, _, _, _ => by
    simp only [all?] at h; cases h
    simp only [List.map_nil, argsOf] at he; cases he
    exact ⟨rfl, rfl⟩
  | x :: xs, ys, args, sh, bx, fz, h, he, h1, h2, h3 => by
    obtain ⟨y, ys', e1, e2, rfl⟩ := all?_cons h
    simp only [List.map_cons, argsOf] at he
    split at he
    · rename_i r xs1 sh1 bx1 fz1 e3 e4
      cases he
      obtain ⟨hA, _⟩ := arg_rel S hg.mem e3 (opd_rel hg e1) (fun g hg => h1 g (List.mem_append.2 (.inl hg))) (fun g hg => h2 g (List.mem_append.2 (.inl hg))) (fun g hg => h3 g (List.mem_append.2 (.inl hg)))
      have ih := args_rel hg S xs ys' xs1 sh1 bx1 fz1 e2 e4 (fun g hg => h1 g (List.mem_append.2 (.inr hg))) (fun g hg => h2 g (List.mem_append.2 (.inr hg))) (fun g hg => h3 g (List.mem_append.2 (.inr hg)))
      refine ⟨_, _, r.bx.map gh.β, bx1.map gh.β, rfl, by simp, hA, ih⟩
    · cases he

theorem AR_cps {I : Imm} : ∀ {args : List XV} {vals : List Value} {bs : List Nat} (ps : List PV) (vs : List Value), AR w I args vals bs → CpsAt w I ps vs → AR w I (args ++ ps.map .cp) (vals ++ vs) bs
  | [], vals, bs, ps, vs, h, hc => by
    simp only [AR] at h
    obtain ⟨rfl, rfl⟩ := h
    simp only [List.nil_append]
    induction ps generalizing vs with
    | nil => simp only [CpsAt] at hc; exact ⟨hc, rfl⟩
    | cons p ps ih =>
      simp only [CpsAt] at hc
      obtain ⟨v, vs', rfl, h1, h2⟩ := hc
      exact ⟨v, vs', [], [], rfl, rfl, ⟨h1, rfl⟩, ih _ h2⟩
  | x :: args, vals, bs, ps, vs, h, hc => by
    simp only [AR] at h
    obtain ⟨v, vs', b1, bs', rfl, rfl, h1, h2⟩ := h
    exact ⟨v, vs' ++ vs, b1, bs', rfl, rfl, h1, AR_cps ps vs h2 hc⟩

theorem nodupB_some : ∀ {l : List Nat}, nodupB l = true → l.Nodup
  | [], _ => List.nodup_nil
  | x :: l, h => by
    simp only [nodupB, Bool.and_eq_true, Bool.not_eq_true'] at h
    refine List.nodup_cons.2 ⟨fun hx => ?_, nodupB_some h.2⟩
    have : l.any (Nat.beq x) = true := List.any_eq_true.2 ⟨x, hx, Nat.beq_refl x⟩
    rw [this] at h; cases h.1

theorem disjB_some {l bx : List Nat} (h : l.all (fun g => !(bx.any (Nat.beq g))) = true) : ∀ g ∈ bx, g ∉ l := fun g hg hl => by
  have := List.all_eq_true.1 h g hl
  have h2 : bx.any (Nat.beq g) = true := List.any_eq_true.2 ⟨g, hg, Nat.beq_refl g⟩
  rw [h2] at this; cases this

theorem allFree_some {l : List (Nat × Obj)} (h : allFree σ l = true) : ∀ p ∈ l, σ.obj p.1 = .free := fun p hp => isFree_some (List.all_eq_true.1 h p hp)

theorem nodup_map_on {α β : Type} {f : α → β} {l : List α} (h : l.Nodup) (hf : ∀ i ∈ l, ∀ j ∈ l, f i = f j → i = j) : (l.map f).Nodup := by
  unfold List.Nodup
  rw [List.pairwise_map]
  exact List.Pairwise.imp_of_mem (fun hi hj hne he => hne (hf _ hi _ hj he)) h

theorem run_callFunc {f : FuncId} (he : Enters P f) (args : Array Value) : (callFunc f args).run P w = .ok (.enter f args) w := by
  obtain ⟨fn, h1, h2, h3⟩ := he
  have h3' : fn.name ≠ "runtime.NumGoroutine" := by simpa using h3
  have h4 : fn.body ≠ none := fun h => by rw [h] at h2; cases h2
  simp [callFunc, h1, h3', h4]

/-- A call of a function whose contract holds. -/
theorem callK_shows {o : Oper} {f : FuncId} (he : Enters P f) (hs : Sound P f (call f)) {xs : List Operand} {ys : List Opd} (hys : all? opdOf xs = some ys) {extra : List PV} {sh0 fz0 : List Nat}
    (hcap : capsOf σ fz0 = some (extra, sh0)) (hg : Good c σ a w gh) (hd : dstOk c.nt o.dst = true) {out : Out} (hk : callK σ call d f (ys.map σ.opd) extra sh0 fz0 some = some out)
    (hrun : (execOp a.eval o).run P w = .ok (.enter f ((xs.map a.eval) ++ (fz0.map fun g => Value.pointer (some ⟨gh.β g, 0, none⟩))).toArray) w) : Shows P c σ a w o out := by
  simp only [callK, backK_eq] at hk
  split at hk
  case h_2 => cases hk
  rename_i args sh bx fz hargs
  cases hnd : nodupB bx && (fz ++ fz0).all (fun g => !(bx.any (Nat.beq g))) <;> simp only [hnd, cond_true, cond_false] at hk
  · cases hk
  obtain ⟨hnd1, hdisj⟩ := Bool.and_eq_true_iff.1 hnd
  have hnd1 := nodupB_some hnd1
  have hdisj := disjB_some hdisj
  obtain ⟨⟨outs, r⟩, hcall, hk⟩ := Option.bind_eq_some_iff.1 hk
  obtain ⟨l, hback, hk⟩ := Option.bind_eq_some_iff.1 hk
  simp only at hback hk
  split at hk
  case h_2 => cases hk
  rename_i x' l' himp
  cases hfree : allFree σ l' <;> simp only [hfree, cond_true, cond_false] at hk
  · cases hk
  cases hk
  have hfree := allFree_some hfree
  generalize hL : (sh ++ sh0) ++ (fz ++ fz0) = L
  obtain ⟨gh1, m1, hI1, st1, mv1, row1, hβ1, hhd1⟩ := hg.shareL L
  have S : Shared c σ w gh gh1 L := ⟨m1, mv1, fun x v => RVL.move (Same.refl' fun _ => rfl) hI1 st1 x v, row1, hβ1⟩
  have hbxL : ∀ g ∈ bx, g ∉ L := fun g hgb hgL => by
    obtain ⟨cs, hb⟩ := argsOf_boxes hargs g hgb
    rw [← hL] at hgL
    rcases List.mem_append.1 hgL with h | h
    · rcases List.mem_append.1 h with h | h
      · obtain ⟨s, xs, e, h⟩ := argsOf_rows hargs g h; rw [hb] at h; cases h
      · obtain ⟨s, xs, e, h⟩ := capsOf_rows hcap g h; rw [hb] at h; cases h
    · exact hdisj g hgb h
  have hAR := args_rel hg S xs ys args sh bx fz hys hargs (fun g h => by rw [← hL]; simp [h]) (fun g h => by rw [← hL]; simp [h]) hbxL
  have hCps := caps_rel S hg.mem fz0 extra sh0 hcap (fun g h => by rw [← hL]; simp [h]) (fun g h => by rw [← hL]; simp [h])
  have hAR' := AR_cps extra _ hAR hCps
  have hbox1 : ∀ g ∈ bx, ∃ cs, updL (share σ L) σ.obj g = .box cs true := fun g hgb => by
    obtain ⟨cs, hb⟩ := argsOf_boxes hargs g hgb
    exact ⟨cs, by rw [updL_shareS, if_neg (hbxL g hgb), hb]⟩
  have hlive1 : ∀ g ∈ bx, live (updL (share σ L) σ.obj) gh1 g := fun g hgb => by
    obtain ⟨cs, hb⟩ := hbox1 g hgb
    unfold live; rw [hb]; trivial
  have hndb : (bx.map gh.β).Nodup := by
    refine nodup_map_on hnd1 fun i hi j hj hij => ?_
    exact m1.inj i j (hlive1 i hi) (hlive1 j hj) (by rw [hβ1]; exact hij)
  have hcalls := hs _ _ _ hcall _ _ w gh1.I hAR' hndb m1.old
  intro K Q hK
  unfold Oper.wp
  rw [hrun]
  refine Calls.mono hcalls fun e w' hp => ?_
  cases e with
  | panicked _ => exact hp.elim
  | outgrown => exact hp.elim
  | returned v =>
    obtain ⟨I', own, hp⟩ := hp
    refine hK v w' ?_
    obtain ⟨m2, same2, st2⟩ := m1.called (bx := bx) (outs := outs) (l := l) (I' := I') (w' := w') hback hbox1 hp.sub hp.new hp.old (by rw [hβ1]; exact hp.frame) hp.size hp.os hp.tape hp.output (by rw [hβ1]; exact hp.outs)
    have hfree2 : ∀ p ∈ l', updL l (updL (share σ L) σ.obj) p.1 = .free := fun p hp' => by
      have hf := hfree p hp'
      have hf1 : updL (share σ L) σ.obj p.1 = .free := by rw [updL_shareS, hf]; split <;> rfl
      have hnb : p.1 ∉ bx := fun hb => by obtain ⟨cs, h⟩ := argsOf_boxes hargs _ hb; rw [hf] at h; cases h
      rw [(back_spec (w' := w') bx outs l I' gh.β hback hp.outs).1 p.1 hnb]; exact hf1
    have hlo : ∀ b ∈ own, w.heap.size ≤ b := RR_lo hp.res
    obtain ⟨gh3, ⟨m3, hI3, st3, _⟩, hv3⟩ := adoptR (gh := { gh1 with I := I' }) (lo := w.heap.size) hg.mem.size m2 himp hp.res hp.nodup (fun i hi hb => by
      have h1 : live (updL (share σ L) σ.obj) gh1 i := by
        by_cases hib : i ∈ bx
        · exact hlive1 i hib
        · have e := (back_spec (w' := w') bx outs l I' gh.β hback hp.outs).1 i hib (updL (share σ L) σ.obj)
          exact (live_same (gh := gh1) (gh' := { gh1 with I := I' }) e rfl).1 hi
      have h2 := m1.lt h1
      have h3 := hlo _ hb
      exact absurd h2 (Nat.not_lt.2 h3)) hfree2
    have hob : updL (l' ++ (l ++ share σ L)) σ.obj = updL l' (updL l (updL (share σ L) σ.obj)) := by rw [updL_append, updL_append]
    have hst : ∀ k, Stays gh gh3 k (σ.obj k) (updL (l' ++ (l ++ share σ L)) σ.obj k) := fun k => by
      rw [hob]; exact ((st1 k).trans (st2 k)).trans (st3 k)
    refine ⟨gh3, hg.apply (out := ⟨x', l' ++ (l ++ share σ L), _⟩) (by rw [hob]; exact m3) (fun b o v hI hc => same2 b o v (hI1 b o hI) hc) (fun b o h => by rw [hI3]; exact hp.sub b o (hI1 b o h)) hst hd fun _ => ?_⟩
    rw [hob]; exact hv3

end Go.Proofs.YtbgkalolmichdaaA
