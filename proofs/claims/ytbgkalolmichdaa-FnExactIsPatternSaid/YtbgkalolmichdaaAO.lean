/- Appending: the abstract machine tells what the translated operation does. Conditions: none. -/
import Derived.Test.YtbgkalolmichdaaAN
namespace Go.Proofs.YtbgkalolmichdaaA
open Go
set_option linter.unusedSimpArgs false
set_option linter.unusedVariables false

variable {P : Program} {c : Ctx} {σ : St} {a : Act} {w w' : World} {gh : Gh} {ob : Obs} {call : FuncId → List XV → Option Res} {d : Nat}

theorem updL_upd (d : Nat) (o o' : Obj) (ob : Obs) : updL [(d, o)] (updL [(d, o')] ob) = updL [(d, o)] ob := by
  funext i
  by_cases h : i = d
  · subst h; rw [updL_one, updL_one]
  · rw [updL_ne _ _ h, updL_ne _ _ h, updL_ne _ _ h]

/-- A new block for a row. -/
theorem Mem.allocRow {ob : Obs} (m : Mem c ob w gh) (hf : ob d = .free) {cells : Array Value} {T : TypeId} {s cap : Nat} {xs : List PV} (e : Bool) (h1 : xs.length ≤ cap) (h2 : cap ≤ maxLen) (h3 : cells.size = cap * wd s) (h4 : RepC w gh.I s xs cells.toList) (h5 : ones cells.toList) :
    ∃ gh', Mem c (updL [(d, .row s xs e)] ob) (w.alloc (.cells cells T)) gh' ∧ (∀ b o, gh.I b o → gh'.I b o) ∧ (∀ k, Stays gh gh' k (ob k) (updL [(d, .row s xs e)] ob k)) ∧ gh'.hd d = .slice (some ⟨w.heap.size, 0, none⟩) xs.length cap := by
  have hsame := Same.alloc m (.cells cells T)
  obtain ⟨m', hst'⟩ := m.alloc hf cells T (.row s xs true) (.slice (some ⟨w.heap.size, 0, none⟩) xs.length cap)
    (.inr ⟨cap, cells, T, by rw [Gh.set_hd, Gh.set_β], by rw [Gh.set_β]; exact heap_alloc_new w _, h1, h2, h3, h5, RepC.mono hsame (fun _ _ h => h) s xs _ h4, fun h => by cases h⟩)
  cases e with
  | true => exact ⟨_, m', fun _ _ h => h, hst', Gh.set_hd _ _ _ _⟩
  | false =>
    obtain ⟨I', m2, hI, hst2⟩ := m'.share d
    rw [updL_one] at m2 hst2
    simp only [shared] at m2 hst2
    rw [updL_upd] at m2 hst2
    exact ⟨_, m2, hI, fun k => (hst' k).trans (hst2 k), gh.set_hd d w.heap.size _⟩

theorem zeroFits_some {e : TypeId} {s : Nat} (h : zeroFits P e s = true) : ∃ z, zeroPV P e = some z ∧ z.fits s = true := by
  unfold zeroFits at h
  split at h
  · exact ⟨_, by assumption, h⟩
  · cases h

theorem ones_zero (w : World) {I : Imm} {e : TypeId} {i : TypeInfo} {z : Value} {s : Nat} (hz : zeroFits P e s = true) (hi : P.info? e = some i) (hv : i.zero = some z) (n : Nat) : ones (Builtin.zeroCells z.cells n).toList := by
  obtain ⟨p, hp, _⟩ := zeroFits_some hz
  obtain ⟨i', z', h1, h2, h3⟩ := zeroPV_some (w := w) (I := I) hp
  rw [hi] at h1; cases h1
  rw [hv] at h2; cases h2
  intro v hm
  simp only [Builtin.zeroCells, Array.toList_map, List.mem_map, Array.mem_toList_iff] at hm
  obtain ⟨j, hj, rfl⟩ := hm
  have hne : z.cells.size ≠ 0 := by
    intro h0
    rw [h0] at hj; simp at hj
  have hlt : j % z.cells.size < z.cells.size := Nat.mod_lt _ (by omega)
  have := oneCell_RepV h3 (z.cells[j % z.cells.size]) (by simp)
  simpa [hlt] using this

theorem dead_first {g d : Nat} (h : g ≠ d) (o : Obj) (ob : Obs) : updL [(d, o)] (updL [(g, .dead)] ob) = updL [(g, .dead), (d, o)] ob := by
  funext i
  by_cases h1 : i = d
  · subst h1
    rw [updL_one]; simp [updL, look, h]
  · rw [updL_ne _ _ h1]
    by_cases h2 : i = g
    · subst h2; simp [updL, look]
    · rw [updL_ne _ _ h2]; simp [updL, look, Ne.symm h1, Ne.symm h2]

theorem append_shows {o : Oper} {t e : TypeId} {s : Nat} {x y : Operand} {inf : TypeInfo} (ho : o.op = .call { callee := .builtin .append, args := #[x, y], argTypes := #[t, t] }) (he : elemOf P t = some e) (hw : widthOf P e = some s) (hi : P.info? e = some inf) (hb : 1 ≤ inf.bytes) (hz : zeroFits P e s = true) {x' y' : Opd} (hx : opdOf x = some x') (hy : opdOf y = some y') (hg : Good c σ a w gh) (hd : dstOk c.nt o.dst = true) {out : Out}
    (hs : stepK call d σ (.append s inf.bytes x' y') some = some out) : Shows P c σ a w o out := by
  have ht := elemOf_some he
  obtain ⟨inf', hinf, hsz, _⟩ := widthOf_some (w := w) hw
  rw [hi] at hinf; cases hinf
  obtain ⟨zp, hzp, hzf⟩ := zeroFits_some hz
  obtain ⟨_, zv, hi2, hzv, hzrep⟩ := zeroPV_some (w := w) (I := gh.I) hzp
  rw [hi] at hi2; cases hi2
  simp only [stepK, slK_eq] at hs
  obtain ⟨⟨ys, l⟩, hys, hs⟩ := Option.bind_eq_some_iff.1 hs
  cases hk : (ys.all (PV.fits s) && isFree σ d) <;> simp only [hk, cond_true, cond_false] at hs
  case false => cases hs
  simp only [Bool.and_eq_true] at hk
  obtain ⟨hfit, hfree⟩ := hk
  have hfd := isFree_some hfree
  have hvx := opd_rel hg hx
  have hvy := opd_rel hg hy
  obtain ⟨news, n1, n2, n3, n4⟩ := slOf_cells hg hvy hys hfit
  have hl' : news.length = ys.length * inf.size := by rw [n1, hsz]
  have hzz : zv.cells.size = wd s := RepV_fits hzf hzrep
  -- how the operation runs, from how 'append' runs
  have hexec : ∀ v w1, (Builtin.append_ #[t, t] o.type #[a.eval x, a.eval y]).run P w = .ok v w1 → (execOp a.eval o).run P w = .ok (.value v) w1 := by
    intro v w1 h
    unfold execOp
    simp only [ho, resolve, invoke, builtin, Sem.run_bind, Sem.run_pure, Result.andThen_ok, List.map_toArray, List.map_cons, List.map_nil, h]
  -- onto nothing
  have onNil : ∀ (ob1 : Obs) (lg : List Nat) (upd : List (Nat × Obj)) (ex : Bool), a.eval x = .slice none 0 0 → Mem c ob1 w gh → (∀ k, Stays gh gh k (σ.obj k) (ob1 k)) → ob1 d = .free → ys.length * inf.bytes ≤ maxBytes → updL [(d, .row s ys ex)] ob1 = updL upd σ.obj → Shows P c σ a w o ⟨.rw d, upd, lg⟩ := by
    intro ob1 lg upd ex hxn m1 hst1 hf1 hbd hupd
    by_cases hy0 : ys = []
    · subst hy0
      have hy' : a.eval y = .slice none 0 0 ∨ ∃ (b : Addr) (c : Nat), a.eval y = .slice (some b) 0 c := by
        rcases n4 with ⟨h, _⟩ | ⟨b, cap, h, _⟩
        · exact .inl h
        · exact .inr ⟨b, cap, h⟩
      have hrun := run_append_nilnil (P := P) (w := w) (ty := o.type) ht hi hy'
      rw [← hxn] at hrun
      obtain ⟨m2, hst2⟩ := m1.nilrow (s := s) hf1 ex
      rw [hupd] at m2 hst2
      intro K Q hK
      refine wp_value (hexec _ _ hrun) (hK _ _ ⟨_, hg.apply (out := ⟨.rw d, upd, lg⟩) m2 (Same.refl' fun _ => rfl) (fun _ _ h => h) (fun k => (hst1 k).trans (hst2 k)) hd fun _ => ?_⟩)
      simp only [RV]
      rw [← hupd, updL_one]
      exact ⟨by rw [Gh.set_hd]; exact hxn, by rw [hxn]; rfl⟩
    · rcases n4 with ⟨_, h⟩ | ⟨ad, cap, hyv, hnews⟩
      · exact absurd h hy0
      · have hpos : 0 < ys.length := List.length_pos_iff.2 hy0
        have hle : ys.length ≤ ys.length * inf.bytes := Nat.le_mul_of_pos_right _ hb
        simp only [maxBytes] at hbd
        have hrun := run_append_nil (P := P) w t o.type e inf zv ht hi hzv ad ys.length cap news hl' hnews hpos (by omega) (by omega)
        rw [← hxn, ← hyv] at hrun
        have hge := grownCap_ge w ys.length 0 e
        have hcm : grownCap w ys.length 0 e ≤ maxLen := grownCap_le_maxLen w ys.length 0 e (by simp only [maxLen]; omega)
        obtain ⟨m2, hsm⟩ := m1.world (w' := w.drew) rfl rfl rfl rfl
        have hcells : (news.toArray ++ Builtin.zeroCells zv.cells (grownCap w ys.length 0 e - ys.length)).size = grownCap w ys.length 0 e * wd s := by
          simp only [Array.size_append, List.size_toArray, size_zeroCells, n1, hzz, ← Nat.add_mul]; congr 1; omega
        obtain ⟨gh3, m3, hI3, hst3, hhd3⟩ := m2.allocRow (T := e) hf1 ex hge hcm hcells (by
          have := RepC_pre (ds := (news.toArray ++ Builtin.zeroCells zv.cells (grownCap w ys.length 0 e - ys.length)).toList) n3 (by
            simp only [Array.toList_append]
            rw [List.take_append_of_le_length (by simp [n1])])
          exact RepC.mono hsm (fun _ _ h => h) s ys _ this) (by
          intro v hv
          simp only [Array.toList_append, List.mem_append] at hv
          rcases hv with hv | hv
          · exact n2 v hv
          · exact ones_zero w (I := gh.I) hz hi hzv _ v hv)
        rw [hupd] at m3 hst3
        intro K Q hK
        refine wp_value (hexec _ _ hrun) (hK _ _ ⟨_, hg.apply (out := ⟨.rw d, upd, lg⟩) m3 (fun b' o' v hI hc => Same.alloc m2 _ b' o' v hI (hsm b' o' v hI hc)) hI3 (fun k => (hst1 k).trans (hst3 k)) hd fun _ => ?_⟩)
        simp only [RV]
        rw [← hupd, updL_one]
        exact ⟨by rw [hhd3]; rfl, rfl⟩
  split at hs
  · rename_i hp
    rw [hp] at hvx
    simp only [RV] at hvx
    split at hs
    · rename_i hbd
      cases hs
      exact onNil σ.obj l _ true hvx hg.mem (fun k => Stays.same rfl rfl) hfd hbd rfl
    · cases hs
  · rename_i g hp
    rw [hp] at hvx
    split at hs
    · rename_i s' xs ex hb'
      cases hk2 : (Nat.beq s' s && !(l.any (Nat.beq g))) <;> rw [hk2] at hs <;> simp only [cond_true, cond_false] at hs
      case false => cases hs
      simp only [Bool.and_eq_true] at hk2
      have hss : s' = s := beq_true hk2.1
      subst hss
      split at hs
      case isFalse => cases hs
      rename_i hbd
      cases hs
      simp only [RV, hb'] at hvx
      have hgd : g ≠ d := fun h => by rw [h, hfd] at hb'; cases hb'
      have hro := hg.mem.ro g
      rw [hb'] at hro
      rcases hro with ⟨h1, hnil⟩ | ⟨cap, cur, T, h1, hh, h2, h3, h4, h5, h6, h7⟩
      · obtain ⟨m1, hst1⟩ := hg.mem.kill ⟨s', xs, ex, hb'⟩
        refine onNil (updL [(g, .dead)] σ.obj) (g :: l) _ ex (by rw [hvx.1, h1]) m1 hst1 (by rw [updL_ne _ _ (Ne.symm hgd)]; exact hfd) ?_ ?_
        · subst hnil; simpa using hbd
        · subst hnil; rw [dead_first hgd]; simp
      · have hxv : a.eval x = .slice (some ⟨gh.β g, 0, none⟩) xs.length cap := by rw [hvx.1, h1]
        have hlive : live σ.obj gh g := by unfold live; rw [hb']; simp [h1]
        have hpre : xs.length * wd s' ≤ cur.size := by rw [h4]; exact Nat.mul_le_mul_right _ h2
        have hle : xs.length + ys.length ≤ (xs.length + ys.length) * inf.bytes := Nat.le_mul_of_pos_right _ hb
        simp only [maxBytes] at hbd
        by_cases hroom : xs.length + ys.length ≤ cap
        · have hfitc : xs.length * inf.size + news.length ≤ cur.size := by
            rw [n1, hsz, h4, ← Nat.add_mul]; exact Nat.mul_le_mul_right _ hroom
          have n4' : (a.eval y = .slice none 0 0 ∧ ys.length = 0) ∨ ∃ (b : Addr) (c : Nat), a.eval y = .slice (some b) ys.length c ∧ ∀ j u, news[j]? = some u → w.cell? (b.add j) = some u := by
            rcases n4 with ⟨q1, q2⟩ | q
            · exact .inl ⟨q1, by rw [q2]; rfl⟩
            · exact .inr q
          have hrun := run_append_in (P := P) (w := w) (ty := o.type) ht hi hh (m := ys.length) (y := a.eval y) hl' n4' n2 hroom hfitc
          rw [← hxv, hsz] at hrun
          have hfitl : xs.length * wd s' + news.length ≤ cur.toList.length := by simpa [hsz] using hfitc
          have hcur' : putN cur.toList (xs.length * wd s') news = cur.toList.take (xs.length * wd s') ++ news ++ cur.toList.drop (xs.length * wd s' + news.length) := putN_eq _ _ _ hfitl
          have hlen : (xs ++ ys).length = xs.length + ys.length := by simp
          obtain ⟨s1, s2, s3, s4, s5⟩ := setRow_same (w := w) (gh.β g) (putN cur.toList (xs.length * wd s') news).toArray
          have hheap : (w.setRow (gh.β g) (putN cur.toList (xs.length * wd s') news).toArray).heap[gh.β g]? = some (.cells (putN cur.toList (xs.length * wd s') news).toArray T (0, 0)) := setRow_heap w _ _ _ _ _ hh
          obtain ⟨m', hsame, hst⟩ := hg.mem.pass hb' hlive hfd (.row s' (xs ++ ys) ex) (.slice (some ⟨gh.β g, 0, none⟩) (xs.length + ys.length) cap)
            (fun b o' => gh.I b o' ∨ (ex = false ∧ b = gh.β g ∧ o' < (xs ++ ys).length * wd s')) s1 s2 s3 s4 s5
            (fun o' v ho' hc => by
              simp only [World.cell?, hh] at hc
              simp only [World.cell?, hheap]
              have hc' : cur[o']? = some v := by simpa using hc
              have : (putN cur.toList (xs.length * wd s') news)[o']? = some v := by
                rw [hcur', List.append_assoc, List.getElem?_append_left (by simp; omega), List.getElem?_take, if_pos ho']
                simpa using hc'
              simpa using this)
            (fun b o' h => .inl h) (fun b o' h => by
              rcases h with h | ⟨h1, h2, h3⟩
              · exact .inl h
              · subst h1; exact .inr ⟨h2, h3⟩)
            (fun o' h => by
              cases ex with
              | true => exact h
              | false =>
                simp only [shown] at h ⊢
                rw [hlen, Nat.add_mul]; omega)
            (fun hsame hst => by
              refine .inr ⟨cap, (putN cur.toList (xs.length * wd s') news).toArray, T, ?_, ?_, by rw [hlen]; exact hroom, h3, by simp [putN_len, h4], ?_, ?_, fun h o' ho' => ?_⟩
              · simp [Gh.setI, Gh.set]
              · simp only [Gh.setI, Gh.set, if_true]; exact hheap
              · intro v hv
                have hv : v ∈ putN cur.toList (xs.length * wd s') news := by simpa using hv
                rw [hcur'] at hv
                simp only [List.mem_append] at hv
                rcases hv with (hv | hv) | hv
                · exact h5 v (List.mem_of_mem_take hv)
                · exact n2 v hv
                · exact h5 v (List.mem_of_mem_drop hv)
              · have r1 := RepC_append h6 (by simpa using hpre) n3
                have r2 := RepC_pre (ds := (putN cur.toList (xs.length * wd s') news)) r1 (by
                  rw [hcur', hlen, Nat.add_mul, ← n1]
                  have : (cur.toList.take (xs.length * wd s') ++ news).length = xs.length * wd s' + news.length := by
                    simp only [List.length_append, List.length_take, Array.length_toList]; rw [Nat.min_eq_left hpre]
                  rw [← this, List.take_left, List.take_length])
                have r3 := RepC.mono hsame (fun b o' h => (.inl h : gh.I b o' ∨ (ex = false ∧ b = gh.β g ∧ o' < (xs ++ ys).length * wd s'))) s' _ _ r2
                simp only [Gh.setI]; simpa using r3
              · have e1 : (gh.setI d (gh.β g) (.slice (some ⟨gh.β g, 0, none⟩) (xs.length + ys.length) cap) (fun b o' => gh.I b o' ∨ (ex = false ∧ b = gh.β g ∧ o' < (xs ++ ys).length * wd s'))).β d = gh.β g := by simp [Gh.setI, Gh.set]
                rw [e1]
                exact .inr ⟨h, rfl, ho'⟩)
          intro K Q hK
          refine wp_value (hexec _ _ hrun) (hK _ _ ⟨_, hg.apply (out := ⟨.rw d, [(g, .dead), (d, .row s' (xs ++ ys) ex)], g :: l⟩) m' hsame (fun b o' h => .inl h) hst hd fun _ => ?_⟩)
          simp only [RV]
          have e2 : updL [(g, .dead), (d, .row s' (xs ++ ys) ex)] σ.obj d = .row s' (xs ++ ys) ex := by simp [updL, look, hgd]
          rw [e2]
          exact ⟨by simp [Gh.setI, Gh.set], rfl⟩
        · have hpos : 0 < ys.length := by omega
          rcases n4 with ⟨_, hnil⟩ | ⟨ad, cy, hyv, hnews⟩
          · rw [hnil] at hpos; simp at hpos
          · have holds : ∀ j u, (cur.toList.take (xs.length * inf.size))[j]? = some u → w.cell? ((⟨gh.β g, 0, none⟩ : Addr).add j) = some u := by
              intro j u hj
              rw [List.getElem?_take] at hj
              split at hj
              · rw [Addr.add_lit]
                simp only [World.cell?, hh, Nat.zero_add]
                simpa using hj
              · cases hj
            have hol : (cur.toList.take (xs.length * inf.size)).length = xs.length * inf.size := by
              simp only [List.length_take, Array.length_toList]; rw [hsz]; exact Nat.min_eq_left hpre
            have hrun := run_append_grow (P := P) w t o.type e inf zv ht hi hzv ⟨gh.β g, 0, none⟩ xs.length cap _ hol holds ad ys.length cy news hl' hnews (by omega) (by omega) (growslice_fits (by omega) hbd)
            rw [← hxv, ← hyv, hsz] at hrun
            have hge := grownCap_ge w (xs.length + ys.length) cap e
            have hcm : grownCap w (xs.length + ys.length) cap e ≤ maxLen := grownCap_le_maxLen w _ cap e (by simp only [maxLen]; omega)
            obtain ⟨m1, hst1⟩ := hg.mem.kill ⟨s', xs, ex, hb'⟩
            obtain ⟨m2, hsm⟩ := m1.world (w' := w.drew) rfl rfl rfl rfl
            have hf1 : updL [(g, .dead)] σ.obj d = .free := by rw [updL_ne _ _ (Ne.symm hgd)]; exact hfd
            have hlen : (xs ++ ys).length = xs.length + ys.length := by simp
            have htk : (cur.toList.take (xs.length * wd s')).length = xs.length * wd s' := by
              simp only [List.length_take, Array.length_toList]; exact Nat.min_eq_left hpre
            obtain ⟨gh3, m3, hI3, hst3, hhd3⟩ := m2.allocRow (T := e) (cells := (cur.toList.take (xs.length * wd s')).toArray ++ news.toArray ++ Builtin.zeroCells zv.cells (grownCap w (xs.length + ys.length) cap e - (xs.length + ys.length))) (xs := xs ++ ys) (s := s') hf1 ex (by rw [hlen]; exact hge) hcm (by
              simp only [Array.size_append, List.size_toArray, size_zeroCells, htk, n1, hzz, ← Nat.add_mul]; congr 1; omega) (by
              have r1 := RepC_append h6 (by simpa using hpre) n3
              have r2 := RepC_pre (ds := ((cur.toList.take (xs.length * wd s')).toArray ++ news.toArray ++ Builtin.zeroCells zv.cells (grownCap w (xs.length + ys.length) cap e - (xs.length + ys.length))).toList) r1 (by
                simp only [Array.toList_append]
                have : (cur.toList.take (xs.length * wd s') ++ news).length = (xs ++ ys).length * wd s' := by rw [List.length_append, htk, n1, hlen, Nat.add_mul]
                rw [← this, List.take_left, List.take_length])
              exact RepC.mono hsm (fun _ _ h => h) s' _ _ r2) (by
              intro v hv
              simp only [Array.toList_append, List.mem_append] at hv
              rcases hv with (hv | hv) | hv
              · exact h5 v (List.mem_of_mem_take hv)
              · exact n2 v hv
              · exact ones_zero w (I := gh.I) hz hi hzv _ v hv)
            rw [dead_first hgd] at m3 hst3
            intro K Q hK
            refine wp_value (hexec _ _ hrun) (hK _ _ ⟨_, hg.apply (out := ⟨.rw d, [(g, .dead), (d, .row s' (xs ++ ys) ex)], g :: l⟩) m3 (fun b' o' v hI hc => Same.alloc m2 _ b' o' v hI (hsm b' o' v hI hc)) hI3 (fun k => (hst1 k).trans (by rw [← dead_first hgd] at hst3 ⊢; exact hst3 k)) hd fun _ => ?_⟩)
            simp only [RV]
            have e2 : updL [(g, .dead), (d, .row s' (xs ++ ys) ex)] σ.obj d = .row s' (xs ++ ys) ex := by simp [updL, look, hgd]
            rw [e2]
            exact ⟨by rw [hhd3, hlen]; rfl, rfl⟩
    · cases hs
  · cases hs

end Go.Proofs.YtbgkalolmichdaaA
