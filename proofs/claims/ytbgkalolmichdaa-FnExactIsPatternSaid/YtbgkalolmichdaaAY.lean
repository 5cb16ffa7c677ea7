/- What an operation tells depends on what it looks at alone. Conditions: none. -/
import Derived.Test.YtbgkalolmichdaaAT
namespace Go.Proofs.YtbgkalolmichdaaA
open Go
set_option linter.unusedSimpArgs false
set_option linter.unusedVariables false

variable {call : FuncId → List XV → Option Res} {d : Nat} {σ σ' : St}

/-- Two states agree on some objects. -/
def Agree (σ σ' : St) (l : List Nat) : Prop := ∀ g ∈ l, σ'.obj g = σ.obj g
theorem Agree.left {l l' : List Nat} (h : Agree σ σ' (l ++ l')) : Agree σ σ' l := fun g hg => h g (List.mem_append.2 (.inl hg))
theorem Agree.right {l l' : List Nat} (h : Agree σ σ' (l ++ l')) : Agree σ σ' l' := fun g hg => h g (List.mem_append.2 (.inr hg))
theorem Agree.sub {l l' : List Nat} (h : Agree σ σ' l) (hs : ∀ g ∈ l', g ∈ l) : Agree σ σ' l' := fun g hg => h g (hs g hg)

theorem slOf_local {x : AV} {xs : List PV} {l : List Nat} (h : slOf σ x = some (xs, l)) (ha : Agree σ σ' l) : slOf σ' x = some (xs, l) := by
  unfold slOf at *
  cases x with
  | rw g =>
    simp only [slK] at *
    split at h
    · rename_i s ys e hb
      cases h
      rw [ha g (by simp), hb]
    · cases h
  | pv p => exact h
  | nils => exact h
  | _ => cases h

theorem pv1_local {x : AV} {p : PV} {l : List Nat} (h : pv1 σ x = some (p, l)) (ha : Agree σ σ' l) : pv1 σ' x = some (p, l) := by
  unfold pv1 at *
  cases x with
  | rw g =>
    simp only at *
    split at h
    · rename_i s ys e hb
      cases h
      rw [ha g (by simp), hb]
    · cases h
  | pv p => exact h
  | nils => exact h
  | _ => cases h
theorem pvs_local : ∀ {as : List AV} {ps : List PV} {l : List Nat}, pvs σ as = some (ps, l) → Agree σ σ' l → pvs σ' as = some (ps, l)
  | [], ps, l, h, _ => h
  | a :: as, ps, l, h, ha => by
    simp only [pvs] at *
    split at h
    · rename_i p l1 ps1 l2 e1 e2
      cases h
      rw [pv1_local e1 ha.left, pvs_local e2 ha.right]
    · cases h
theorem toPV_local {x : AV} {p : PV} {l : List Nat} (h : toPV σ x = some (p, l)) (ha : Agree σ σ' l) : toPV σ' x = some (p, l) := by
  unfold toPV at *
  split at h
  · split at h
    · rename_i e
      cases h
      rw [pvs_local e ha]
    · cases h
  · exact pv1_local h ha
theorem capsOf_local : ∀ {caps : List Nat} {ps : List PV} {l : List Nat}, capsOf σ caps = some (ps, l) → Agree σ σ' (l ++ caps) → capsOf σ' caps = some (ps, l)
  | [], ps, l, h, _ => h
  | g :: caps, ps, l, h, ha => by
    simp only [capsOf] at *
    split at h
    · rename_i cs e hb
      split at h
      · rename_i p ps1 l1 qs l2 e1 e2
        cases h
        rw [ha g (by simp), hb]
        simp only
        rw [pvs_local e1 (ha.sub fun k hk => by simp [hk]), capsOf_local e2 (ha.sub fun k hk => by simp at hk ⊢; rcases hk with hk | hk <;> simp [hk])]
      · cases h
    · cases h

theorem argOf_local {x : AV} {r : Arg} (h : argOf σ x = some r) (ha : Agree σ σ' (r.sh ++ (r.bx ++ r.fz))) : argOf σ' x = some r := by
  unfold argOf at *
  split at h
  · rename_i g off
    split at h
    · rename_i cs hb
      split at h
      · rename_i ps l e1
        cases h
        rw [ha g (by simp), hb]
        simp only
        rw [pvs_local e1 (ha.sub fun k hk => by simp [hk])]
      · cases h
    · cases h
  · exact h
  · rename_i f caps
    split at h
    · rename_i ps l e1
      cases h
      rw [capsOf_local e1 (ha.sub fun k hk => by simpa using hk)]
    · cases h
  · split at h
    · rename_i p l e1
      cases h
      rw [toPV_local e1 (ha.sub fun k hk => by simp [hk])]
    · cases h

theorem argsOf_local : ∀ {as : List AV} {xs : List XV} {sh bx fz : List Nat}, argsOf σ as = some (xs, sh, bx, fz) → Agree σ σ' (sh ++ (bx ++ fz)) → argsOf σ' as = some (xs, sh, bx, fz)
  | [], xs, sh, bx, fz, h, _ => h
  | a :: as, xs, sh, bx, fz, h, ha => by
    simp only [argsOf] at *
    split at h
    · rename_i r xs1 sh1 bx1 fz1 e1 e2
      cases h
      rw [argOf_local e1 (ha.sub fun k hk => by simp at hk ⊢; rcases hk with hk | hk | hk <;> simp [hk]), argsOf_local e2 (ha.sub fun k hk => by simp at hk ⊢; rcases hk with hk | hk | hk <;> simp [hk])]
    · cases h

theorem share_local {l : List Nat} (ha : Agree σ σ' l) : share σ' l = share σ l := by
  rw [share_eq, share_eq]
  exact List.map_congr_left fun g hg => by rw [ha g hg]
theorem isFree_local {g : Nat} (ha : σ'.obj g = σ.obj g) : isFree σ' g = isFree σ g := by unfold isFree; rw [ha]
theorem allFree_local {l : List (Nat × Obj)} (ha : Agree σ σ' (l.map (·.1))) : allFree σ' l = allFree σ l := by
  unfold allFree
  induction l with
  | nil => rfl
  | cons p l ih =>
    simp only [List.all_cons]
    rw [isFree_local (ha p.1 (by simp)), ih fun g hg => ha g (by simp only [List.map_cons, List.mem_cons]; exact .inr hg)]

theorem capIds_local : ∀ {as : List AV} {l : List Nat}, capIds σ as = some l → Agree σ σ' l → capIds σ' as = some l
  | [], l, h, _ => h
  | a :: as, l, h, ha => by
    cases a with
    | ptr g off =>
      simp only [capIds] at *
      split at h
      · rename_i cs e gs hb e2
        cases h
        rw [ha g (by simp), hb, capIds_local e2 (ha.sub fun k hk => by simp [hk])]; rfl
      · cases h
    | _ => simp only [capIds] at h; cases h

theorem opd_local {x : Opd} (ht : ∀ t ∈ x.tmps, σ'.tmp t = σ.tmp t) : σ'.opd x = σ.opd x := by
  cases x with
  | tmp t => exact ht t (by simp [Opd.tmps])
  | val a => rfl

theorem elemsOf_local {s : Nat} : ∀ {xs : List Opd} {ps : List PV} {l : List Nat}, elemsOf σ s xs = some (ps, l) → (∀ x ∈ xs, σ'.opd x = σ.opd x) → Agree σ σ' l → elemsOf σ' s xs = some (ps, l)
  | [], ps, l, h, _, _ => h
  | x :: xs, ps, l, h, ho, ha => by
    simp only [elemsOf] at *
    split at h
    · rename_i p a1 ps1 b1 e1 e2
      cases hc : p.fits s <;> simp only [hc, cond_true, cond_false] at h
      · cases h
      · cases h
        rw [ho x (by simp), toPV_local e1 ha.left, elemsOf_local e2 (fun y hy => ho y (by simp [hy])) ha.right]
        simp only [hc, cond_true]
    · cases h

theorem partsOf_local : ∀ {l : List (Nat × Nat × Opd)} {cells : List AV}, (∀ p ∈ l, σ'.opd p.2.2 = σ.opd p.2.2) → partsOf σ' cells l = partsOf σ cells l
  | [], cells, _ => rfl
  | p :: l, cells, ho => by
    obtain ⟨off, n, x⟩ := p
    unfold partsOf
    simp only [partsK, cellsK_eq, partsK_eq, ho (off, n, x) (by simp)]
    congr 1
    funext cs
    rw [partsOf_local fun p hp => ho p (by simp [hp])]

theorem optOf_local {x : Option Opd} {dflt : Int} (ho : ∀ y, x = some y → σ'.opd y = σ.opd y) : optOf σ' x dflt = optOf σ x dflt := by
  unfold optOf
  cases x with
  | none => rfl
  | some y => simp only [optInt]; rw [ho y rfl]

theorem callK_local {f : FuncId} {as : List AV} {extra : List PV} {sh0 fz0 : List Nat} {out : Out} (h : callK σ call d f as extra sh0 fz0 some = some out) (ha : Agree σ σ' (out.upd.map (·.1) ++ out.rds)) :
    callK σ' call d f as extra sh0 fz0 some = some out := by
  simp only [callK, backK_eq] at *
  split at h
  · rename_i args sh bx fz hargs
    cases hnd : nodupB bx && (fz ++ fz0).all (fun g => !(bx.any (Nat.beq g))) <;> simp only [hnd, cond_true, cond_false] at h
    · cases h
    · obtain ⟨r, hcall, h⟩ := Option.bind_eq_some_iff.1 h
      obtain ⟨l, hback, h⟩ := Option.bind_eq_some_iff.1 h
      split at h
      · rename_i x' l' himp
        cases hfree : allFree σ l' <;> simp only [hfree, cond_true, cond_false] at h
        · cases h
        · cases h
          simp only at ha
          have h1 : argsOf σ' as = some (args, sh, bx, fz) := argsOf_local hargs (ha.right.sub fun k hk => by simp at hk ⊢; rcases hk with hk | hk | hk <;> simp [hk])
          have h2 : allFree σ' l' = true := by rw [allFree_local (ha.left.sub fun k hk => by simp only [List.map_append, List.mem_append]; exact .inl hk)]; exact hfree
          have h3 : share σ' (sh ++ sh0 ++ (fz ++ fz0)) = share σ (sh ++ sh0 ++ (fz ++ fz0)) := share_local (ha.right.sub fun k hk => by simp at hk ⊢; rcases hk with hk | hk | hk | hk <;> simp [hk])
          rw [h1]
          simp only [hnd, cond_true, hcall, Option.bind_some, hback, himp, h2, h3]
      · cases h
  · cases h

theorem stepK_local {m : MOp} {out : Out} (h : stepK call d σ m some = some out) (ht : ∀ t ∈ m.opds.flatMap Opd.tmps, σ'.tmp t = σ.tmp t) (ha : Agree σ σ' (out.upd.map (·.1) ++ out.rds)) : stepK call d σ' m some = some out := by
  have ho : ∀ x ∈ m.opds, σ'.opd x = σ.opd x := fun x hx => opd_local fun t h1 => ht t (List.mem_flatMap.2 ⟨x, hx, h1⟩)
  cases m with
  | move x => simp only [stepK] at *; rw [ho x (by simp [MOp.opds])]; exact h
  | pick a b c => simp only [stepK] at *; rw [ho a (by simp [MOp.opds]), ho b (by simp [MOp.opds]), ho c (by simp [MOp.opds])]; exact h
  | alloc z =>
    simp only [stepK] at *
    cases hf : isFree σ d <;> simp only [hf, cond_true, cond_false] at h
    · cases h
    · cases h
      rw [isFree_local (ha d (by simp)), hf]; rfl
  | box n x =>
    simp only [stepK, cellsK_eq] at *
    rw [ho x (by simp [MOp.opds])]
    obtain ⟨cs, h1, h⟩ := Option.bind_eq_some_iff.1 h
    rw [h1]
    cases hf : isFree σ d <;> simp only [hf, cond_true, cond_false] at h
    · cases h
    · cases h
      simp only [Option.bind_some]
      rw [isFree_local (ha d (by simp)), hf]; rfl
  | build z ps =>
    simp only [stepK, partsK_eq] at *
    rw [partsOf_local fun p hp => ho p.2.2 (by simp only [MOp.opds, List.mem_map]; exact ⟨p, hp, rfl⟩)]
    exact h
  | buildSlice s ps =>
    simp only [stepK] at *
    split at h
    · rename_i qs l he
      cases hf : isFree σ d <;> simp only [hf, cond_true, cond_false] at h
      · cases h
      · cases h
        simp only at ha
        rw [elemsOf_local he (fun x hx => ho x (by simpa [MOp.opds] using hx)) ha.right]
        simp only
        rw [isFree_local (ha d (by simp)), hf, share_local ha.right]; rfl
    · cases h
  | load n x =>
    simp only [stepK] at *
    rw [ho x (by simp [MOp.opds])]
    split at h
    · rename_i g off hx
      split at h
      · rename_i cs e hb
        have hg : σ'.obj g = σ.obj g := by
          cases n with
          | zero =>
            simp only at h
            cases hc : Nat.ble (off + 1) cs.length <;> simp only [hc, cond_true, cond_false] at h
            · cases h
            · cases h; exact ha g (by simp)
          | succ n =>
            simp only at h
            cases hc : Nat.ble (off + (n + 1)) cs.length <;> simp only [hc, cond_true, cond_false] at h
            · cases h
            · cases h; exact ha g (by simp)
        rw [hg, hb]; exact h
      · cases h
    · exact h
    · rename_i g i off hx
      split at h
      · rename_i s xs e hb
        have hg : σ'.obj g = σ.obj g := by
          cases hc : partOk s off n <;> simp only [hc, cond_true, cond_false] at h
          · cases h
          · obtain ⟨y, _, h⟩ := Option.bind_eq_some_iff.1 h
            cases h; exact ha g (by simp)
        rw [hg, hb]; exact h
      · cases h
    · cases h
  | store n x v =>
    simp only [stepK, cellsK_eq] at *
    rw [ho x (by simp [MOp.opds]), ho v (by simp [MOp.opds])]
    split at h
    · rename_i g off hx
      split at h
      · rename_i cs hb
        have hg : σ'.obj g = σ.obj g := by
          obtain ⟨vs, _, h⟩ := Option.bind_eq_some_iff.1 h
          cases hc : Nat.ble (off + vs.length) cs.length <;> simp only [hc, cond_true, cond_false] at h
          · cases h
          · cases h; exact ha g (by simp)
        rw [hg, hb]; exact h
      · cases h
    · rename_i g i off hx
      split at h
      · rename_i s xs hb
        split at h
        · rename_i p l hp
          cases hc : l.any (Nat.beq g) <;> simp only [hc, cond_true, cond_false] at h
          · obtain ⟨y, h1, h⟩ := Option.bind_eq_some_iff.1 h
            obtain ⟨z, h2, h⟩ := Option.bind_eq_some_iff.1 h
            cases h
            simp only at ha
            have hg : σ'.obj g = σ.obj g := ha g (by simp)
            have hl : Agree σ σ' l := ha.right.sub fun k hk => by simp [hk]
            rw [hg, hb, toPV_local hp hl]
            simp only [hc, cond_false, h1, h2, Option.bind_some, share_local hl]
          · cases h
        · cases h
      · cases h
    · cases h
  | bin op x y => simp only [stepK] at *; rw [ho x (by simp [MOp.opds]), ho y (by simp [MOp.opds])]; exact h
  | binB op x y => simp only [stepK] at *; rw [ho x (by simp [MOp.opds]), ho y (by simp [MOp.opds])]; exact h
  | un op x => simp only [stepK] at *; rw [ho x (by simp [MOp.opds])]; exact h
  | conv k x => simp only [stepK] at *; rw [ho x (by simp [MOp.opds])]; exact h
  | bytesToStr x =>
    simp only [stepK, slK_eq] at *
    rw [ho x (by simp [MOp.opds])]
    obtain ⟨⟨xs, l⟩, h1, h⟩ := Option.bind_eq_some_iff.1 h
    obtain ⟨s, h2, h⟩ := Option.bind_eq_some_iff.1 h
    cases h
    rw [slOf_local h1 ha.right]
    simp only [Option.bind_some] at *
    rw [h2]; rfl
  | makeSlice s b z n =>
    simp only [stepK] at *
    rw [ho n (by simp [MOp.opds])]
    obtain ⟨p, hp, h⟩ := asPv_some h
    obtain ⟨k, hk, h⟩ := Option.bind_eq_some_iff.1 h
    rw [hp]
    simp only [asPv, hk, Option.bind_some]
    split at h
    · rename_i hb
      cases hf : isFree σ d <;> simp only [hf, cond_true, cond_false] at h
      · cases h
      · cases h
        rw [if_pos hb, isFree_local (ha d (by simp)), hf]; rfl
    · cases h
  | strSlice x lo hi =>
    simp only [stepK, optInt_eq] at *
    rw [ho x (by simp [MOp.opds]), optOf_local (x := lo) fun y hy => ho y (by simp [MOp.opds, hy])]
    have : ∀ dflt, optOf σ' hi dflt = optOf σ hi dflt := fun dflt => optOf_local fun y hy => ho y (by simp [MOp.opds, hy])
    simp only [this]; exact h
  | slice s x lo hi =>
    simp only [stepK, slK_eq, optInt_eq] at *
    rw [ho x (by simp [MOp.opds]), optOf_local (x := lo) fun y hy => ho y (by simp [MOp.opds, hy])]
    have : ∀ dflt, optOf σ' hi dflt = optOf σ hi dflt := fun dflt => optOf_local fun y hy => ho y (by simp [MOp.opds, hy])
    simp only [this]
    obtain ⟨⟨xs, l⟩, h1, h⟩ := Option.bind_eq_some_iff.1 h
    obtain ⟨lo', h2, h⟩ := Option.bind_eq_some_iff.1 h
    obtain ⟨hi', h3, h⟩ := Option.bind_eq_some_iff.1 h
    split at h
    · rename_i hb
      cases hc : xs.all (PV.fits s) <;> simp only [hc, cond_true, cond_false] at h
      · cases h
      · cases h
        rw [slOf_local h1 ha.right]
        simp only [Option.bind_some] at *
        simp only [h2, h3, Option.bind_some]
        rw [if_pos hb, hc, share_local ha.right]; rfl
    · cases h
  | fieldAddr off x =>
    simp only [stepK] at *
    rw [ho x (by simp [MOp.opds])]
    split at h
    · exact h
    · exact h
    · rename_i g i o hx
      split at h
      · rename_i s xs e hb
        cases h
        rw [ha g (by simp), hb]
      · cases h
    · cases h
  | field n off x => simp only [stepK] at *; rw [ho x (by simp [MOp.opds])]; exact h
  | indexAddr s x i =>
    simp only [stepK] at *
    rw [ho x (by simp [MOp.opds]), ho i (by simp [MOp.opds])]
    obtain ⟨p, hp, h⟩ := asPv_some h
    obtain ⟨n, hn, h⟩ := Option.bind_eq_some_iff.1 h
    rw [hp]
    simp only [asPv, hn, Option.bind_some]
    split at h
    · rename_i g hx
      split at h
      · rename_i s' xs e hb
        have hg : σ'.obj g = σ.obj g := by
          split at h
          · cases hc : Nat.beq s' s <;> simp only [hc, cond_true, cond_false] at h
            · cases h
            · cases h; exact ha g (by simp)
          · cases h
        rw [hg, hb]; exact h
      · cases h
    · exact h
    · cases h
  | indexArr n s x i => simp only [stepK] at *; rw [ho x (by simp [MOp.opds]), ho i (by simp [MOp.opds])]; exact h
  | strIdx x i => simp only [stepK] at *; rw [ho x (by simp [MOp.opds]), ho i (by simp [MOp.opds])]; exact h
  | extract x j => simp only [stepK] at *; rw [ho x (by simp [MOp.opds])]; exact h
  | call f args =>
    simp only [stepK] at *
    rw [show args.map σ'.opd = args.map σ.opd from List.map_congr_left fun x hx => ho x (by simpa [MOp.opds] using hx)]
    exact callK_local h ha
  | callv x args =>
    simp only [stepK] at *
    rw [ho x (by simp [MOp.opds]), show args.map σ'.opd = args.map σ.opd from List.map_congr_left fun x hx => ho x (by simp [MOp.opds, hx])]
    split at h
    · rename_i f caps hx
      split at h
      · rename_i ps l hc
        have hsub : ∀ g ∈ l ++ caps, g ∈ out.rds := by
          intro g hg
          simp only [callK, backK_eq] at h
          split at h
          · rename_i xs sh bx fz _
            cases hnd : nodupB bx && (fz ++ caps).all (fun g => !(bx.any (Nat.beq g))) <;> simp only [hnd, cond_true, cond_false] at h
            · cases h
            · obtain ⟨r, _, h⟩ := Option.bind_eq_some_iff.1 h
              obtain ⟨l1, _, h⟩ := Option.bind_eq_some_iff.1 h
              split at h
              · rename_i l2 _
                cases hfree : allFree σ l2 <;> simp only [hfree, cond_true, cond_false] at h
                · cases h
                · cases h
                  simp at hg ⊢
                  rcases hg with hg | hg <;> simp [hg]
              · cases h
          · cases h
        rw [capsOf_local hc (ha.right.sub hsub)]
        exact callK_local h ha
      · cases h
    · cases h
  | len x =>
    simp only [stepK, slK_eq] at *
    rw [ho x (by simp [MOp.opds])]
    obtain ⟨⟨xs, l⟩, h1, h⟩ := Option.bind_eq_some_iff.1 h
    cases h
    rw [slOf_local h1 ha.right]; rfl
  | strLen x => simp only [stepK] at *; rw [ho x (by simp [MOp.opds])]; exact h
  | append s b x y =>
    simp only [stepK, slK_eq] at *
    rw [ho x (by simp [MOp.opds]), ho y (by simp [MOp.opds])]
    obtain ⟨⟨ys, l⟩, h1, h⟩ := Option.bind_eq_some_iff.1 h
    cases hc : ys.all (PV.fits s) && isFree σ d <;> simp only [hc, cond_true, cond_false] at h
    · cases h
    · split at h
      · rename_i hx
        split at h
        · rename_i hb
          cases h
          rw [slOf_local h1 ha.right]
          simp only [Option.bind_some]
          rw [isFree_local (ha d (by simp)), hc]
          simp only [cond_true, if_pos hb]
        · cases h
      · rename_i g hx
        split at h
        · rename_i s' xs e hb
          cases hk : Nat.beq s' s && !(l.any (Nat.beq g)) <;> simp only [hk, cond_true, cond_false] at h
          · cases h
          · split at h
            · rename_i hbd
              cases h
              simp only at ha
              rw [slOf_local h1 (ha.right.sub fun k hk => by simp [hk])]
              simp only [Option.bind_some]
              rw [isFree_local (ha d (by simp)), hc, ha g (by simp), hb]
              simp only [cond_true, hk, if_pos hbd]
            · cases h
        · cases h
      · cases h
  | appendStr x y =>
    simp only [stepK] at *
    rw [ho x (by simp [MOp.opds]), ho y (by simp [MOp.opds])]
    obtain ⟨p, hp, h⟩ := asPv_some h
    obtain ⟨b, hb1, h⟩ := Option.bind_eq_some_iff.1 h
    rw [hp]
    simp only [asPv, hb1, Option.bind_some]
    cases hc : isFree σ d <;> simp only [hc, cond_true, cond_false] at h
    · cases h
    · split at h
      · rename_i g hx
        split at h
        · rename_i s' xs e hb
          cases hk : Nat.beq s' 0 <;> simp only [hk, cond_true, cond_false] at h
          · cases h
          · split at h
            · rename_i hbd
              cases h
              rw [isFree_local (ha d (by simp)), hc, ha g (by simp), hb]
              simp only [cond_true, hk, if_pos hbd]
            · cases h
        · cases h
      · cases h
  | mm b x y => simp only [stepK] at *; rw [ho x (by simp [MOp.opds]), ho y (by simp [MOp.opds])]; exact h
  | mkfn f caps =>
    simp only [stepK] at *
    rw [show caps.map σ'.opd = caps.map σ.opd from List.map_congr_left fun x hx => ho x (by simpa [MOp.opds] using hx)]
    split at h
    · rename_i l hl
      cases h
      rw [capIds_local hl ha.right]
    · cases h
  | nilCheck x =>
    simp only [stepK] at *
    rw [ho x (by simp [MOp.opds])]
    split at h
    · exact h
    · exact h
    · rename_i g i o hx
      split at h
      · rename_i s xs e hb
        cases h
        rw [ha g (by simp), hb]
      · cases h
    · cases h

end Go.Proofs.YtbgkalolmichdaaA
