/- Stores: the abstract machine tells what the translated operation does. Conditions: none. -/
import Derived.Test.YtbgkalolmichdaaAJ
namespace Go.Proofs.YtbgkalolmichdaaA
open Go
set_option linter.unusedSimpArgs false
set_option linter.unusedVariables false

variable {P : Program} {c : Ctx} {σ : St} {a : Act} {w w' : World} {gh : Gh} {ob : Obs} {call : FuncId → List XV → Option Res} {d : Nat}

theorem part_take {α : Type} (d : α) : ∀ (n : Nat) (l : List α) (off : Nat), off + n ≤ l.length → part d l off n = (l.drop off).take n
  | 0, l, off, _ => by simp [part]
  | n + 1, l, off, h => by
    have hn : nth d l off = l[off] := by
      have key : ∀ (l : List α) (off : Nat) (h : off < l.length), nth d l off = l[off] := by
        intro l
        induction l with
        | nil => intro off h; simp at h
        | cons x l ih => intro off h; cases off with
          | zero => rfl
          | succ off => simp [nth, ih off (by simpa using h)]
      exact key l off (by omega)
    rw [part, part_take d n l (off + 1) (by omega), hn, List.drop_eq_getElem_cons (show off < l.length by omega), List.take_succ_cons]

/-- What a store into an element leaves. -/
theorem setElem_rel {I : Imm} {s off n : Nat} {x p y : PV} {u v : Value} (h : setElem s x off n p = some y) (hx : RepV w I x u) (hf : x.fits s = true) (hp : RepV w I p v) (hv : v.cells.size = wd n) (h1 : ones v.cells.toList) :
    ∃ r, RepV w I y r ∧ y.fits s = true ∧ r.cells.toList = putN u.cells.toList off v.cells.toList ∧ off + wd n ≤ wd s := by
  cases s with
  | zero =>
    cases off with
    | succ off => simp [setElem] at h
    | zero =>
      cases n with
      | succ n => simp [setElem] at h
      | zero =>
        simp only [setElem] at h
        cases hb : p.one <;> rw [hb] at h <;> simp only [cond_true, cond_false] at h <;> cases h
        have hu1 := one_cells (RepV_one (fits_zero hf) hx)
        have hv1 := one_cells (RepV_one hb hp)
        exact ⟨v, hp, hb, by rw [hu1, hv1]; rfl, by simp [wd]⟩
  | succ s =>
    obtain ⟨ps, rfl, hlen⟩ := fits_succ hf
    simp only [RepV] at hx
    obtain ⟨us, rfl, hl⟩ := hx
    have hul := RepL_len hl
    have hus : us.size = s + 1 := by simpa [hlen] using hul
    have put : ∀ (qs : List PV) (vs : List Value), RepL w I qs vs → off + qs.length ≤ s + 1 → RepL w I (putN ps off qs) (putN us.toList off vs) := by
      intro qs vs hq hle
      have hset : ∀ (l : List PV) (ws : List Value) (j : Nat) (q : PV) (z : Value), RepL w I l ws → RepV w I q z → z.oneCell' = true → RepL w I (setN l j q) (ws.set j z) := by
        intro l
        induction l with
        | nil => intro ws j q z h _ _; simp only [RepL] at h; subst h; cases j <;> simp [setN, RepL]
        | cons e l ih =>
          intro ws j q z h hq hz
          simp only [RepL] at h
          obtain ⟨z0, ws', rfl, g1, g2, g3⟩ := h
          cases j with
          | zero => exact ⟨z, ws', rfl, hz, hq, g3⟩
          | succ j => exact ⟨z0, ws'.set j z, rfl, g1, g2, ih ws' j q z g3 hq hz⟩
      have hput : ∀ (qs : List PV) (vs : List Value) (l : List PV) (ws : List Value) (j : Nat), RepL w I qs vs → RepL w I l ws → RepL w I (putN l j qs) (putN ws j vs) := by
        intro qs
        induction qs with
        | nil => intro vs l ws j hq hl; simp only [RepL] at hq; subst hq; exact hl
        | cons q qs ih =>
          intro vs l ws j hq hl
          simp only [RepL] at hq
          obtain ⟨z, vs', rfl, g1, g2, g3⟩ := hq
          simp only [putN]
          rw [setN_eq ws j z]
          exact ih vs' _ _ (j + 1) g3 (hset l ws j q z hl g2 g1)
      exact hput qs vs ps us.toList off hq hl
    cases n with
    | zero =>
      simp only [setElem] at h
      cases hb : (Nat.ble (off + 1) (s + 1) && p.one) <;> rw [hb] at h <;> simp only [cond_true, cond_false] at h <;> cases h
      simp only [Bool.and_eq_true] at hb
      have hle := Nat_ble hb.1
      have ho := RepV_one hb.2 hp
      have hv1 := one_cells ho
      have hr := put [p] [v] ⟨v, [], rfl, ho, hp, by simp [RepL]⟩ (by simpa using hle)
      refine ⟨.agg (putN us.toList off [v]).toArray, ⟨_, rfl, by simpa [PV.cells, putN] using hr⟩, ?_, by rw [hv1]; simp [Value.cells], by simpa [wd] using hle⟩
      simp only [PV.fits, PV.isAgg, PV.cells]
      rw [lenIs_iff, setN_eq]; simp [hlen]
    | succ n =>
      simp only [setElem] at h
      cases hb : (Nat.ble (off + (n + 1)) (s + 1) && p.isAgg (n + 1)) <;> rw [hb] at h <;> simp only [cond_true, cond_false] at h <;> cases h
      simp only [Bool.and_eq_true] at hb
      have hle := Nat_ble hb.1
      obtain ⟨qs, rfl, hql⟩ := fits_succ (s := n) hb.2
      simp only [RepV] at hp
      obtain ⟨vs, rfl, hvl⟩ := hp
      have hr := put qs vs.toList hvl (by omega)
      refine ⟨.agg (putN us.toList off vs.toList).toArray, ⟨_, rfl, ?_⟩, ?_, by simp [Value.cells], by simpa [wd] using hle⟩
      · simp only [PV.cells]
        rw [← hql, part_all]
        simpa using hr
      · simp only [PV.fits, PV.isAgg, PV.cells]
        rw [lenIs_iff, putN_len]; exact hlen

theorem RepC_set {I : Imm} {s : Nat} : ∀ {xs : List PV} {cs cs' : List Value} {i : Nat} {y : PV} {r : Value}, RepC w I s xs cs → i < xs.length → xs.length * wd s ≤ cs.length → RepV w I y r → y.fits s = true → r.cells.size = wd s →
    cs' = cs.take (i * wd s) ++ r.cells.toList ++ cs.drop (i * wd s + wd s) → RepC w I s (xs.set i y) cs'
  | [], cs, cs', i, y, r, _, hi, _, _, _, _, _ => by simp at hi
  | x :: xs, cs, cs', i, y, r, h, hi, hc, hy, hf, hr, he => by
    simp only [RepC] at h
    obtain ⟨⟨v, e1, e2, e3, e4⟩, hl⟩ := h
    have hrl : r.cells.toList.length = wd s := by simpa using hr
    have hw := wd_pos s
    simp only [List.length_cons, Nat.succ_mul] at hc
    cases i with
    | zero =>
      simp only [Nat.zero_mul, List.take_zero, List.nil_append, Nat.zero_add] at he
      simp only [List.set_cons_zero, RepC]
      subst he
      refine ⟨⟨r, hy, hf, hr, ?_⟩, ?_⟩
      · rw [← hrl, List.take_left]
      · rw [← hrl, List.drop_left, hrl]; exact hl
    | succ i =>
      simp only [List.set_cons_succ, RepC]
      have h1 : cs'.take (wd s) = cs.take (wd s) := by
        rw [he, List.append_assoc, List.take_append_of_le_length (by simp [Nat.succ_mul]; omega), List.take_take]
        congr 1; rw [Nat.succ_mul]; omega
      refine ⟨⟨v, e1, e2, e3, by rw [h1, e4]⟩, ?_⟩
      refine RepC_set (i := i) hl (by simpa using hi) (by rw [List.length_drop]; omega) hy hf hr ?_
      rw [he, List.append_assoc, List.drop_append_of_le_length (by simp [Nat.succ_mul]; omega), List.append_assoc]
      rw [List.drop_take, List.drop_drop]
      congr 2
      · rw [Nat.succ_mul]; omega
      · rw [Nat.succ_mul]; congr 1; omega

theorem oneCell_RepV {I : Imm} {p : PV} {v : Value} (h : RepV w I p v) : ones v.cells.toList := by
  cases p with
  | agg cs =>
    simp only [RepV] at h
    obtain ⟨vs, rfl, hl⟩ := h
    exact RepL_ones hl
  | _ =>
    have h1 := RepV_one (by rfl) h
    rw [one_cells h1]
    intro u hu; simp at hu; rw [hu]; exact h1

theorem store_shows {o : Oper} {t : TypeId} {n : Nat} {x y : Operand} (ho : o.op = .store t x y) (hw : widthOf P t = some n) {x' y' : Opd} (hx : opdOf x = some x') (hy : opdOf y = some y') (hg : Good c σ a w gh) (hd : dstOk c.nt o.dst = true) (hnone : o.dst = none) {out : Out}
    (hs : stepK call d σ (.store n x' y') some = some out) : Shows P c σ a w o out := by
  have hv := opd_rel hg hx
  have hv2 := opd_rel hg hy
  simp only [stepK, cellsK_eq] at hs
  split at hs
  · rename_i g off hp
    rw [hp] at hv
    simp only [RV] at hv
    split at hs
    · rename_i cs hb
      rw [hb] at hv
      obtain ⟨vs, hvs, hs⟩ := Option.bind_eq_some_iff.1 hs
      cases hk : Nat.ble (off + vs.length) cs.length <;> rw [hk] at hs <;> simp only [cond_true, cond_false] at hs <;> cases hs
      have hle := Nat_ble hk
      obtain ⟨r1, r2, r3⟩ := cellsOf_rel hvs hv2
      have hro := hg.mem.ro g
      rw [hb] at hro
      obtain ⟨cur, T, hh, hl, h1, _⟩ := hro
      have hlen := RVL_len hl
      have hlen2 := RVL_len r1
      have hsz : wd n = vs.length := by rw [← r3]; simpa using hlen2
      have hcl : cur.size = cs.length := by simpa using hlen
      have hrun := run_storeVar (P := P) (w := w) hw (o := off) r3 hh (by omega) r2
      have hl0 : live σ.obj gh g := by unfold live; rw [hb]; trivial
      obtain ⟨s1, s2, s3, s4, s5⟩ := setRow_same (w := w) (gh.β g) (putN cur.toList off ((a.eval y).cells.toList)).toArray
      obtain ⟨m', hsame, hst⟩ := hg.mem.turn hl0 (.box (putN cs off vs) true) (.inl ⟨cs, _, hb, rfl⟩) s1 s2 s3 s4 s5 (fun hsame hst => by
        refine ⟨(putN cur.toList off ((a.eval y).cells.toList)).toArray, T, setRow_heap w _ _ _ _ _ hh, ?_, ?_, fun h => by cases h⟩
        · exact RVL_put off (RVL.move hsame (fun _ _ h => h) hst _ _ hl) (RVL.move hsame (fun _ _ h => h) hst _ _ r1)
        · intro u hu
          have hu : u ∈ putN cur.toList off ((a.eval y).cells.toList) := by simpa using hu
          rw [putN_eq _ _ _ (by rw [hlen2]; simp; omega)] at hu
          simp only [List.mem_append] at hu
          rcases hu with (hu | hu) | hu
          · exact h1 u (List.mem_of_mem_take hu)
          · exact r2 u hu
          · exact h1 u (List.mem_of_mem_drop hu))
      intro K Q hK
      refine wp_skipped (w' := w.setRow (gh.β g) (putN cur.toList off ((a.eval y).cells.toList)).toArray) ?_ (hK undef _ ⟨gh, hg.apply (out := ⟨.undef, [(g, .box (putN cs off vs) true)], [g]⟩) m' hsame (fun _ _ h => h) hst hd fun h => absurd hnone h⟩)
      simp [execOp, ho, hv, Instr.storeAt, Instr.sureAddr, hrun]
    · cases hs
  · rename_i g i off hp
    rw [hp] at hv
    simp only [RV] at hv
    split at hs
    · rename_i s xs hb
      rw [hb] at hv
      split at hs
      · rename_i p l hpl
        cases hgl : l.any (Nat.beq g) <;> rw [hgl] at hs <;> simp only [cond_true, cond_false] at hs
        case true => cases hs
        obtain ⟨q, hq, hs⟩ := Option.bind_eq_some_iff.1 hs
        obtain ⟨z, hz, hs⟩ := Option.bind_eq_some_iff.1 hs
        cases hs
        have hgn : g ∉ l := fun h => by
          have : l.any (Nat.beq g) = true := List.any_eq_true.2 ⟨g, h, Nat.beq_refl g⟩
          rw [hgl] at this; cases this
        obtain ⟨gh1, m1, hI1, hst1, hmv1, hrow1, hβ1, hhd1⟩ := hg.shareL l
        have hob1 : updL (share σ l) σ.obj g = .row s xs true := by
          rw [share_eq, updL_share, if_neg hgn, hb]
        have hrp : RepV w gh1.I p (a.eval y) := toPV_rel (ob' := updL (share σ l) σ.obj) m1.ro hpl (hmv1 _ _ hv2) (hrow1 l fun _ h => h)
        have hro := m1.ro g
        rw [hob1] at hro
        rcases hro with ⟨_, hnil⟩ | ⟨cap, cur, T, hhd, hh, c1, c2, c3, h1, hr, _⟩
        · rw [hnil] at hq; simp at hq
        · obtain ⟨u, e1, e2, e3, e4⟩ := RepC_nth hr hq
          have hin : i < xs.length := (List.getElem?_eq_some_iff.1 hq).1
          obtain ⟨vsz, hones⟩ : (a.eval y).cells.size = wd n ∧ ones (a.eval y).cells.toList := by
            refine ⟨?_, oneCell_RepV hrp⟩
            cases n with
            | zero =>
              cases s with
              | zero =>
                cases off <;> simp [setElem] at hz
                cases hb1 : p.one <;> rw [hb1] at hz <;> simp at hz
                rw [one_cells (RepV_one hb1 hrp)]; rfl
              | succ s =>
                simp only [setElem] at hz
                cases hb1 : (Nat.ble (off + 1) (s + 1) && p.one) <;> rw [hb1] at hz <;> simp at hz
                simp only [Bool.and_eq_true] at hb1
                rw [one_cells (RepV_one hb1.2 hrp)]; rfl
            | succ n =>
              cases s with
              | zero => cases off <;> simp [setElem] at hz
              | succ s =>
                simp only [setElem] at hz
                cases hb1 : (Nat.ble (off + (n + 1)) (s + 1) && p.isAgg (n + 1)) <;> rw [hb1] at hz <;> simp at hz
                simp only [Bool.and_eq_true] at hb1
                exact RepV_fits (s := n + 1) hb1.2 hrp
          obtain ⟨r, f1, f2, f3, f4⟩ := setElem_rel hz e1 e2 hrp vsz hones
          have hidx : i * wd s + wd s ≤ xs.length * wd s := by
            rw [← Nat.succ_mul]; exact Nat.mul_le_mul_right _ hin
          have hcap : xs.length * wd s ≤ cur.size := by rw [c3]; exact Nat.mul_le_mul_right _ c1
          have hrun := run_storeVar (P := P) (w := w) hw (o := i * wd s + off) vsz hh (by omega) hones
          rw [hβ1] at hrun
          have hl0 : live (updL (share σ l) σ.obj) gh1 g := by unfold live; rw [hob1]; simp [hhd]
          obtain ⟨s1, s2, s3, s4, s5⟩ := setRow_same (w := w) (gh1.β g) (putN cur.toList (i * wd s + off) ((a.eval y).cells.toList)).toArray
          have hvl : (a.eval y).cells.toList.length = wd n := by simpa using vsz
          have hul : u.cells.toList.length = wd s := by simpa using e3
          have hseg : putN cur.toList (i * wd s + off) ((a.eval y).cells.toList) = cur.toList.take (i * wd s) ++ r.cells.toList ++ cur.toList.drop (i * wd s + wd s) := by
            rw [f3, putN_eq _ _ _ (by rw [hvl]; simp; omega), putN_eq _ _ _ (by rw [hvl, hul]; omega), ← e4]
            rw [List.take_take, List.drop_take, List.drop_drop, hvl]
            have t1 : min off (wd s) = off := by omega
            rw [t1]
            have t2 : cur.toList.take (i * wd s + off) = cur.toList.take (i * wd s) ++ (cur.toList.drop (i * wd s)).take off := List.take_add
            rw [t2]
            simp only [List.append_assoc]
            congr 3
            have t3 : cur.toList.drop (i * wd s + off + wd n) = (cur.toList.drop (i * wd s + (off + wd n))).take (wd s - (off + wd n)) ++ cur.toList.drop (i * wd s + wd s) := by
              have h := (List.take_append_drop (wd s - (off + wd n)) (cur.toList.drop (i * wd s + (off + wd n)))).symm
              rw [List.drop_drop] at h
              rw [show i * wd s + wd s = i * wd s + (off + wd n) + (wd s - (off + wd n)) by omega, show i * wd s + off + wd n = i * wd s + (off + wd n) by omega]
              exact h
            rw [t3]
          obtain ⟨m', hsame, hst⟩ := m1.turn hl0 (.row s (xs.set i z) true) (.inr ⟨s, xs, _, hob1, rfl⟩) s1 s2 s3 s4 s5 (fun hsame hst => by
            refine .inr ⟨cap, (putN cur.toList (i * wd s + off) ((a.eval y).cells.toList)).toArray, T, by rw [hhd]; simp, setRow_heap w _ _ _ _ _ hh, by simpa using c1, c2, ?_, ?_, ?_, fun h => by cases h⟩
            · simp [putN_len, c3]
            · intro v hvm
              have hvm : v ∈ putN cur.toList (i * wd s + off) ((a.eval y).cells.toList) := by simpa using hvm
              rw [putN_eq _ _ _ (by rw [hvl]; simp; omega)] at hvm
              simp only [List.mem_append] at hvm
              rcases hvm with (hu | hu) | hu
              · exact h1 v (List.mem_of_mem_take hu)
              · exact hones v hu
              · exact h1 v (List.mem_of_mem_drop hu)
            · have hrm := RepC.mono hsame (fun _ _ h => h) s xs _ hr
              exact RepC_set hrm hin (by simpa using hcap) (RepV.mono hsame (fun _ _ h => h) z r f1) f2 (RepV_fits f2 f1) (by simpa using hseg))
          have hupd : updL [(g, .row s (xs.set i z) true)] (updL (share σ l) σ.obj) = updL ((g, .row s (xs.set i z) true) :: share σ l) σ.obj := by
            rw [← updL_append]; rfl
          rw [hupd] at m' hst
          intro K Q hK
          refine wp_skipped (w' := w.setRow (gh.β g) (putN cur.toList (i * wd s + off) ((a.eval y).cells.toList)).toArray) ?_ (hK undef _ ⟨gh1, ?_⟩)
          · simp [execOp, ho, hv, Instr.storeAt, Instr.sureAddr, hrun]
          · rw [← hβ1]
            exact hg.apply (out := ⟨.undef, (g, .row s (xs.set i z) true) :: share σ l, g :: l⟩) m' (fun b o' v hI hc => hsame b o' v (hI1 b o' hI) hc) hI1 (fun k => (hst1 k).trans (hst k)) hd fun h => absurd hnone h
      · cases hs
    · cases hs
  · cases hs

end Go.Proofs.YtbgkalolmichdaaA
