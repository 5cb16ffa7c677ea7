/- The abstract machine's plain operations tell what the translated ones do. Conditions: none. -/
import Derived.Test.YtbgkalolmichdaaAE
import Derived.WalkKit
import Derived.WalkLawsBesides
import Derived.WalkSpells
import Derived.Laws.MakeOwn
namespace Go.Proofs.YtbgkalolmichdaaA
open Go
set_option linter.unusedSimpArgs false
set_option linter.unusedVariables false

variable {P : Program} {c : Ctx} {σ : St} {a : Act} {w : World} {gh : Gh} {call : FuncId → List XV → Option Res} {d : Nat}

theorem all?_cons {α β : Type} {f : α → Option β} {x : α} {l : List α} {r : List β} (h : all? f (x :: l) = some r) : ∃ y ys, f x = some y ∧ all? f l = some ys ∧ r = y :: ys := by
  simp only [all?] at h
  split at h
  · rename_i y ys h1 h2; cases h; exact ⟨y, ys, h1, h2, rfl⟩
  · cases h

theorem avOf_rel (ob : Obs) {v : Value} {x : AV} (h : avOf v = some x) : RV w gh ob x v := by
  unfold avOf at h
  split at h <;> cases h <;> simp [RV, RepV]

theorem avOf_one {v : Value} {x : AV} (h : avOf v = some x) : v.oneCell' = true := by
  unfold avOf at h
  split at h <;> cases h <;> rfl
theorem avOf_all (ob : Obs) : ∀ (l : List Value) (r : List AV), all? avOf l = some r → RVL w gh ob r l ∧ ones l
  | [], r, h => by simp only [all?] at h; cases h; simp [RVL, ones]
  | v :: l, r, h => by
    obtain ⟨y, ys, h1, h2, rfl⟩ := all?_cons h
    have ih := avOf_all ob l ys h2
    refine ⟨⟨v, l, rfl, avOf_rel ob h1, ih.1⟩, fun u hu => ?_⟩
    rcases List.mem_cons.1 hu with rfl | hu
    · exact avOf_one h1
    · exact ih.2 u hu

theorem opd_rel (hg : Good c σ a w gh) {x : Operand} {y : Opd} (h : opdOf x = some y) : RV w gh σ.obj (σ.opd y) (a.eval x) := by
  cases x with
  | tmp t => simp only [opdOf] at h; cases h; exact hg.tm t
  | global g => simp [opdOf] at h
  | func f => simp only [opdOf] at h; cases h; simp [St.opd, RV, Act.eval]
  | const v =>
    cases v with
    | agg cs =>
      simp only [opdOf, Option.map_eq_some_iff] at h
      obtain ⟨l, h1, rfl⟩ := h
      exact ⟨cs, rfl, (avOf_all _ _ _ h1).1, (avOf_all (w := w) (gh := gh) σ.obj _ _ h1).2⟩
    | _ =>
      simp only [opdOf, Option.map_eq_some_iff] at h
      obtain ⟨l, h1, rfl⟩ := h
      exact avOf_rel _ h1

theorem wp_value {o : Oper} {K : Act → World → Prop} {Q : Exit → Act → World → Prop} {v : Value} {w' : World} (h : (execOp a.eval o).run P w = .ok (.value v) w') (hk : K (a.put o.dst v) w') : o.wp P a w K Q := by
  unfold Oper.wp; rw [h]; exact hk
theorem wp_skipped {o : Oper} {K : Act → World → Prop} {Q : Exit → Act → World → Prop} {w' : World} (h : (execOp a.eval o).run P w = .ok .skip w') (hk : K (a.put o.dst undef) w') : o.wp P a w K Q := by
  unfold Oper.wp; rw [h]; exact hk

/-- What an operation must show. -/
def Shows (P : Program) (c : Ctx) (σ : St) (a : Act) (w : World) (o : Oper) (out : Out) : Prop :=
  ∀ (K : Act → World → Prop) (Q : Exit → Act → World → Prop), (∀ v w', G c (σ.apply o.dst out) (a.put o.dst v) w' → K (a.put o.dst v) w') → o.wp P a w K Q

/-- An operation that only computes. -/
theorem shows_quiet {o : Oper} (hg : Good c σ a w gh) (hd : dstOk c.nt o.dst = true) {x : AV} {l : List Nat} {v : Value}
    (h : (execOp a.eval o).run P w = .ok (.value v) w) (hv : RV w gh σ.obj x v) : Shows P c σ a w o ⟨x, [], l⟩ :=
  fun K Q hk => wp_value h (hk v w ⟨gh, hg.quiet hd fun _ => hv⟩)

theorem RV_pv {ob : Obs} {p : PV} {v : Value} : RV w gh ob (.pv p) v ↔ RepV w gh.I p v := by simp [RV]

theorem asPv_some {x : AV} {R : Type} {k : PV → Option R} {r : R} (h : asPv x k = some r) : ∃ p, x = .pv p ∧ k p = some r := by
  cases x <;> simp only [asPv] at h <;> first | exact ⟨_, rfl, h⟩ | cases h

theorem asBool_some {p : PV} {b : Bool} (h : p.asBool = some b) : p = .bool b := by cases p <;> simp [PV.asBool] at h; rw [h]
theorem asStr_some {p : PV} {b : ByteArray} (h : p.asStr = some b) : p = .str b := by cases p <;> simp [PV.asStr] at h; rw [h]
theorem asSl_some {p : PV} {b : List PV} (h : p.asSl = some b) : p = .sl b := by cases p <;> simp [PV.asSl] at h; rw [h]
theorem asNum_some {p : PV} {b : IntKind × Int} (h : p.asNum = some b) : p = .int b.1 b.2 := by cases p <;> simp [PV.asNum] at h; rw [← h]
theorem asInt_some {p : PV} {n : Int} (h : p.asInt = some n) : p = .int .i64 n := by
  unfold PV.asInt at h
  split at h <;> cases h; rfl

theorem move_shows {o : Oper} {x : Operand} (ho : o.op = .move x ∨ o.op = .assign x) {y : Opd} (hx : opdOf x = some y) (hg : Good c σ a w gh) (hd : dstOk c.nt o.dst = true) {out : Out}
    (hs : stepK call d σ (.move y) some = some out) : Shows P c σ a w o out := by
  simp only [stepK] at hs
  cases hs
  refine shows_quiet hg hd (v := a.eval x) ?_ (opd_rel hg hx)
  rcases ho with ho | ho <;> simp [execOp, ho]

theorem un_shows {o : Oper} {op : UnOp} {t : TypeId} {x : Operand} (ho : o.op = .unOp op t x) {y : Opd} (hx : opdOf x = some y) (hg : Good c σ a w gh) (hd : dstOk c.nt o.dst = true) {out : Out}
    (hs : stepK call d σ (.un op y) some = some out) : Shows P c σ a w o out := by
  simp only [stepK] at hs
  obtain ⟨p, hp, hs⟩ := asPv_some hs
  obtain ⟨r, hr, hs⟩ := Option.bind_eq_some_iff.1 hs
  cases hs
  have hv := opd_rel hg hx
  rw [hp, RV_pv] at hv
  unfold unPV at hr
  split at hr <;> cases hr <;> simp only [RepV] at hv <;>
    exact shows_quiet hg hd (by simp [execOp, ho, hv, Op.unary, Op.intArith]; rfl) (by simp [RV, RepV])

theorem conv_shows {o : Oper} {src dst : TypeId} {k0 k : IntKind} {x : Operand} (ho : o.op = .convert src dst x) (h1 : P.underlying src = some (.int k0)) (h2 : P.underlying dst = some (.int k)) {y : Opd} (hx : opdOf x = some y) (hg : Good c σ a w gh) (hd : dstOk c.nt o.dst = true) {out : Out}
    (hs : stepK call d σ (.conv k y) some = some out) : Shows P c σ a w o out := by
  simp only [stepK] at hs
  obtain ⟨p, hp, hs⟩ := asPv_some hs
  obtain ⟨n, hn, hs⟩ := Option.bind_eq_some_iff.1 hs
  cases hs
  have hv := opd_rel hg hx
  rw [hp, RV_pv, asNum_some hn] at hv
  simp only [RepV] at hv
  exact shows_quiet hg hd (by simp [execOp, ho, hv, convert, run_underlying h1, run_underlying h2, Conv.intToInt]; rfl) (by simp [RV, RepV])

theorem strLen_shows {o : Oper} {t : TypeId} {x : Operand} {ts : Array TypeId} (ho : o.op = .call { callee := .builtin .len, args := #[x], argTypes := #[t] }) (h1 : P.underlying t = some .string) {y : Opd} (hx : opdOf x = some y) (hg : Good c σ a w gh) (hd : dstOk c.nt o.dst = true) {out : Out}
    (hs : stepK call d σ (.strLen y) some = some out) : Shows P c σ a w o out := by
  simp only [stepK] at hs
  obtain ⟨p, hp, hs⟩ := asPv_some hs
  obtain ⟨n, hn, hs⟩ := Option.bind_eq_some_iff.1 hs
  cases hs
  have hv := opd_rel hg hx
  rw [hp, RV_pv, asStr_some hn] at hv
  simp only [RepV] at hv
  exact shows_quiet hg hd (by simp [execOp, ho, hv, resolve, invoke, builtin, Builtin.len_, run_underlying h1, goInt]; rfl) (by simp [RV, RepV])

theorem sidx_some {s : ByteArray} {i n : Int} (h : sidx s i = some n) : ∃ hi : i.toNat < s.size, 0 ≤ i ∧ n = (s[i.toNat].toNat : Int) := by
  unfold sidx at h
  split at h
  · rename_i h0
    simp only [Option.map_eq_some_iff] at h
    obtain ⟨b, hb, rfl⟩ := h
    have hlt : i.toNat < s.data.toList.length := (List.getElem?_eq_some_iff.1 hb).1
    have hlt' : i.toNat < s.size := by simpa using hlt
    refine ⟨hlt', h0, ?_⟩
    have := (List.getElem?_eq_some_iff.1 hb).2
    rw [← this]; rfl
  · cases h

theorem strIdx_shows {o : Oper} {t : TypeId} {x i : Operand} (ho : o.op = .index t x i) (h1 : P.underlying t = some .string) {y z : Opd} (hx : opdOf x = some y) (hi : opdOf i = some z) (hg : Good c σ a w gh) (hd : dstOk c.nt o.dst = true) {out : Out}
    (hs : stepK call d σ (.strIdx y z) some = some out) : Shows P c σ a w o out := by
  simp only [stepK] at hs
  obtain ⟨p, hp, hs⟩ := asPv_some hs
  obtain ⟨s, hn, hs⟩ := Option.bind_eq_some_iff.1 hs
  obtain ⟨q, hq, hs⟩ := asPv_some hs
  obtain ⟨j, hj, hs⟩ := Option.bind_eq_some_iff.1 hs
  obtain ⟨n, hn2, hs⟩ := Option.bind_eq_some_iff.1 hs
  cases hs
  have hv := opd_rel hg hx
  rw [hp, RV_pv, asStr_some hn] at hv
  have hv2 := opd_rel hg hi
  rw [hq, RV_pv, asInt_some hj] at hv2
  simp only [RepV] at hv hv2
  obtain ⟨hlt, h0, rfl⟩ := sidx_some hn2
  refine shows_quiet hg hd (v := .int .u8 (s[j.toNat].toNat : Int)) ?_ (by simp [RV, RepV])
  simp [execOp, ho, hv, hv2, Instr.index, asIntOf, run_underlying h1, h0, hlt]

theorem bin_shows {o : Oper} {op : BinOp} {t u : TypeId} {x y : Operand} (ho : o.op = .binOp op t x y u) (ht : plainT P t = true) {x' y' : Opd} (hx : opdOf x = some x') (hy : opdOf y = some y') (hg : Good c σ a w gh) (hd : dstOk c.nt o.dst = true) {out : Out}
    (hs : stepK call d σ (.bin op x' y') some = some out) : Shows P c σ a w o out := by
  simp only [stepK] at hs
  obtain ⟨p, hp, hs⟩ := asPv_some hs
  obtain ⟨q, hq, hs⟩ := asPv_some hs
  obtain ⟨r, hr, hs⟩ := Option.bind_eq_some_iff.1 hs
  cases hs
  have hv := opd_rel hg hx
  have hv2 := opd_rel hg hy
  rw [hp, RV_pv] at hv
  rw [hq, RV_pv] at hv2
  unfold binPV at hr
  split at hr
  · rename_i k n k' m
    split at hr
    · rename_i hk
      subst hk
      simp only [RepV] at hv hv2
      unfold intBin at hr
      split at hr <;> (try split at hr) <;> cases hr <;>
        exact shows_quiet hg hd (by simp [execOp, ho, hv, hv2, eqGuard, binOp, Op.intArith, Op.intDiv, Op.intCmp, *]; try rfl) (by simp [RV, RepV])
    · cases hr
  · simp only [RepV] at hv hv2
    unfold strBin at hr
    split at hr
    · split at hr
      · rename_i hle
        cases hr
        have hq := run_string_add_sum (P := P) (w := w) _ _ (Nat.le_trans hle (by decide))
        exact shows_quiet hg hd (by simp [execOp, ho, hv, hv2, eqGuard, binOp, hq]; rfl) (by simp [RV, RepV])
      · cases hr
    all_goals
      first
      | (cases hr; done)
      | (cases hr; exact shows_quiet hg hd (by simp [execOp, ho, hv, hv2, eqGuard, binOp, Op.stringOp]; try rfl) (by simp [RV, RepV]))
  · cases hr

theorem run_equalIn_bool {t : TypeId} (ht : P.underlying t = some .bool) (n : Nat) (p q : Bool) : (Op.equalIn (n + 1) t (.bool p) (.bool q)).run P w = .ok (p == q) w := by
  simp only [Op.equalIn, Sem.run_bind, run_underlying ht, Result.andThen_ok]; rfl

theorem binB_shows {o : Oper} {op : BinOp} {t u : TypeId} {x y : Operand} (ho : o.op = .binOp op t x y u) (ht : P.underlying t = some .bool) {x' y' : Opd} (hx : opdOf x = some x') (hy : opdOf y = some y') (hg : Good c σ a w gh) (hd : dstOk c.nt o.dst = true) {out : Out}
    (hs : stepK call d σ (.binB op x' y') some = some out) : Shows P c σ a w o out := by
  simp only [stepK] at hs
  obtain ⟨p, hp, hs⟩ := asPv_some hs
  obtain ⟨q, hq, hs⟩ := asPv_some hs
  obtain ⟨p', hp', hs⟩ := Option.bind_eq_some_iff.1 hs
  obtain ⟨q', hq', hs⟩ := Option.bind_eq_some_iff.1 hs
  obtain ⟨r, hr, hs⟩ := Option.bind_eq_some_iff.1 hs
  cases hs
  have hv := opd_rel hg hx
  have hv2 := opd_rel hg hy
  rw [hp, RV_pv, asBool_some hp'] at hv
  rw [hq, RV_pv, asBool_some hq'] at hv2
  simp only [RepV] at hv hv2
  have he : (Op.equal t (.bool p') (.bool q')).run P w = .ok (p' == q') w := by
    exact run_equalIn_bool ht 9999 p' q'
  unfold boolBin at hr
  split at hr <;> cases hr <;>
    exact shows_quiet hg hd (by simp only [execOp, ho, hv, hv2, eqGuard, binOp]; simp [he]; try rfl) (by simp [RV, RepV])

theorem mm_shows {o : Oper} {b : Bool} {ts : Array TypeId} {x y : Operand} (ho : o.op = .call { callee := .builtin (cond b .max .min), args := #[x, y], argTypes := ts }) {x' y' : Opd} (hx : opdOf x = some x') (hy : opdOf y = some y') (hg : Good c σ a w gh) (hd : dstOk c.nt o.dst = true) {out : Out}
    (hs : stepK call d σ (.mm b x' y') some = some out) : Shows P c σ a w o out := by
  simp only [stepK] at hs
  obtain ⟨p, hp, hs⟩ := asPv_some hs
  obtain ⟨q, hq, hs⟩ := asPv_some hs
  obtain ⟨p', hp', hs⟩ := Option.bind_eq_some_iff.1 hs
  obtain ⟨q', hq', hs⟩ := Option.bind_eq_some_iff.1 hs
  cases hs
  have hv := opd_rel hg hx
  have hv2 := opd_rel hg hy
  rw [hp, RV_pv, asInt_some hp'] at hv
  rw [hq, RV_pv, asInt_some hq'] at hv2
  simp only [RepV] at hv hv2
  cases b <;> exact shows_quiet hg hd (by simp [execOp, ho, hv, hv2, resolve, invoke, builtin, Builtin.max_, Builtin.min_, Builtin.max2, Builtin.min2]; try rfl) (by simp [RV, RepV])

theorem strSlice_shows {o : Oper} {t : TypeId} {x : Operand} {lo hi : Option Operand} (ho : o.op = .slice t x lo hi none) (h1 : P.underlying t = some .string) {x' : Opd} {lo' hi' : Option Opd} (hx : opdOf x = some x') (hlo : optOpd lo = some lo') (hhi : optOpd hi = some hi') (hg : Good c σ a w gh) (hd : dstOk c.nt o.dst = true) {out : Out}
    (hs : stepK call d σ (.strSlice x' lo' hi') some = some out) : Shows P c σ a w o out := by
  simp only [stepK, optInt_eq] at hs
  obtain ⟨p, hp, hs⟩ := asPv_some hs
  obtain ⟨s, hs1, hs⟩ := Option.bind_eq_some_iff.1 hs
  obtain ⟨l, hl, hs⟩ := Option.bind_eq_some_iff.1 hs
  obtain ⟨h, hh, hs⟩ := Option.bind_eq_some_iff.1 hs
  split at hs
  case isFalse => cases hs
  rename_i hb
  cases hs
  have hv := opd_rel hg hx
  rw [hp, RV_pv, asStr_some hs1] at hv
  simp only [RepV] at hv
  have key : ∀ (z : Option Operand) (z' : Option Opd) (dflt n : Int), optOpd z = some z' → optOf σ z' dflt = some n → (z = none ∧ n = dflt) ∨ ∃ y, z = some y ∧ a.eval y = .int .i64 n := by
    intro z z' dflt n hz hn
    cases z with
    | none => simp only [optOpd] at hz; cases hz; simp only [optOf, optInt] at hn; cases hn; exact .inl ⟨rfl, rfl⟩
    | some y =>
      simp only [optOpd, Option.map_eq_some_iff] at hz
      obtain ⟨y', hy, rfl⟩ := hz
      simp only [optOf, optInt] at hn
      split at hn
      · rename_i p hp
        obtain ⟨m, hm, hn⟩ := Option.bind_eq_some_iff.1 hn
        cases hn
        have hv := opd_rel hg hy
        rw [hp, RV_pv, asInt_some hm] at hv
        simp only [RepV] at hv
        exact .inr ⟨y, rfl, hv⟩
      · cases hn
  refine shows_quiet hg hd (v := .string (s.extract l.toNat h.toNat)) ?_ (by simp [RV, RepV])
  have h2 : h ≤ ((s.size : Nat) : Int) := hb.2.2
  have b1 : 0 ≤ h := Int.le_trans hb.1 hb.2.1
  have b2 : l ≤ ((h.toNat : Nat) : Int) := by omega
  rcases key lo lo' 0 l hlo hl with ⟨rfl, rfl⟩ | ⟨yl, rfl, hyl⟩ <;> rcases key hi hi' s.size h hhi hh with ⟨rfl, rfl⟩ | ⟨yh, rfl, hyh⟩ <;>
    simp [execOp, ho, hv, Instr.sliceAt, Instr.slice, run_underlying h1, Instr.sliceBounds, Instr.sliceBound, asIntOf, *]
  all_goals (intro hx; exfalso; omega)

end Go.Proofs.YtbgkalolmichdaaA
