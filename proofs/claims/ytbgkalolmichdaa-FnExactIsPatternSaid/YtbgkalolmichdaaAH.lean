/- The abstract machine's loads, lengths and indexes tell what the translated ones do. Conditions: none. -/
import Derived.Test.YtbgkalolmichdaaAG
namespace Go.Proofs.YtbgkalolmichdaaA
open Go
set_option linter.unusedSimpArgs false
set_option linter.unusedVariables false

variable {P : Program} {c : Ctx} {σ : St} {a : Act} {w : World} {gh : Gh} {ob : Obs} {call : FuncId → List XV → Option Res} {d : Nat}

theorem pick_shows {o : Oper} {x y z : Operand} (ho : o.op = .pick x y z) {x' y' z' : Opd} (hx : opdOf x = some x') (hy : opdOf y = some y') (hz : opdOf z = some z') (hg : Good c σ a w gh) (hd : dstOk c.nt o.dst = true) {out : Out}
    (hs : stepK call d σ (.pick x' y' z') some = some out) : Shows P c σ a w o out := by
  simp only [stepK] at hs
  obtain ⟨p, hp, hs⟩ := asPv_some hs
  obtain ⟨t, ht, hs⟩ := Option.bind_eq_some_iff.1 hs
  cases hs
  have hv := opd_rel hg hx
  rw [hp, RV_pv, asBool_some ht] at hv
  simp only [RepV] at hv
  have h1 := opd_rel hg hy
  have h2 := opd_rel hg hz
  refine shows_quiet hg hd (v := if t then a.eval y else a.eval z) (by simp [execOp, ho, hv, asBool]) ?_
  unfold pickAV
  split
  · rename_i u v e1 e2
    rw [e1] at h1; rw [e2] at h2
    cases t <;> simpa using (by assumption)
  · cases t <;> simp <;> assumption

theorem RepV_one {I : Imm} {x : PV} {u : Value} (h : x.one = true) (hr : RepV w I x u) : u.oneCell' = true := by
  cases x <;> simp only [RepV] at hr
  case agg => simp [PV.one] at h
  case sl => rcases hr with ⟨_, rfl | ⟨_, _, rfl, _⟩⟩ | ⟨_, _, _, _, rfl, _⟩ <;> rfl
  all_goals subst hr; rfl

theorem fits_zero {x : PV} (h : x.fits 0 = true) : x.one = true := h
theorem fits_succ {x : PV} {s : Nat} (h : x.fits (s + 1) = true) : ∃ ps, x = .agg ps ∧ ps.length = s + 1 := by
  cases x <;> simp [PV.fits, PV.isAgg] at h
  exact ⟨_, rfl, lenIs_iff.1 h⟩

theorem beq_true {a b : Nat} (h : Nat.beq a b = true) : a = b := Nat.eq_of_beq_eq_true h

/-- A load of a part of an element. -/
theorem load_part {t : TypeId} {n : Nat} (hw : widthOf P t = some n) {I : Imm} {gh : Gh} (hI : gh.I = I) {x : PV} {u : Value} {s b o off : Nat} (hu : RepV w I x u) (hf : x.fits s = true)
    (hc : ∀ j v, u.cells.toList[j]? = some v → w.cell? ⟨b, o + j, none⟩ = some v) (hk : partOk s off n = true) :
    ∃ u', (loadVar t ⟨b, o + off, none⟩).run P w = .ok u' w ∧ RV w gh ob (partOf s x off n) u' := by
  subst hI
  cases s with
  | zero =>
    cases n with
    | succ n => simp [partOk, Nat.ble] at hk
    | zero =>
      have h0 : off = 0 := beq_true hk
      subst h0
      have h1 := RepV_one (fits_zero hf) hu
      have hcells : u.cells = #[u] := by cases u <;> simp_all [Value.cells, Value.oneCell']
      exact ⟨u, run_loadVar hw (by rw [hcells]; rfl) (fun _ => h1) (fun h => by omega) (fun j v hj => hc j v hj), by simp [partOf, RV]; exact hu⟩
  | succ s =>
    obtain ⟨ps, rfl, hlen⟩ := fits_succ hf
    simp only [RepV] at hu
    obtain ⟨vs, rfl, hl⟩ := hu
    have hvl := RepL_len hl
    have hvs : vs.size = s + 1 := by simpa [hlen] using hvl
    simp only [Value.cells] at hc
    cases n with
    | zero =>
      have hlt : off + 1 ≤ s + 1 := Nat_ble hk
      obtain ⟨v, e1, e2, e3⟩ := RepL_nth hl (show off < ps.length by omega)
      have hcv : v.cells = #[v] := by cases v <;> simp_all [Value.cells, Value.oneCell']
      refine ⟨v, run_loadVar hw (by rw [hcv]; rfl) (fun _ => e3) (fun h => by omega) (fun j v' hj => ?_), by simpa [partOf, RV, PV.cell, PV.cells] using e2⟩
      rw [hcv] at hj
      cases j with
      | zero => cases hj; exact hc off v e1
      | succ j => simp at hj
    | succ n =>
      have hle : off + (n + 1) ≤ s + 1 := Nat_ble hk
      have hpart : RVL w gh ob ((part .nilp ps off (n + 1)).map .pv) ((vs.toList.drop off).take (n + 1)) := RepL_toRVL (RepL_part (n + 1) (off := off) hl (by omega))
      refine ⟨.agg ((vs.toList.drop off).take (n + 1)).toArray, run_loadVar hw ?_ (fun h => by omega) (fun _ => ⟨_, rfl⟩) (fun j v hj => ?_), ?_⟩
      · simp [Value.cells, wd]; omega
      · simp only [Value.cells] at hj
        have hj' : j < n + 1 ∧ vs.toList[off + j]? = some v := by
          rw [List.getElem?_take] at hj
          split at hj
          · rw [List.getElem?_drop] at hj; exact ⟨by assumption, hj⟩
          · cases hj
        have := hc (off + j) v hj'.2
        rwa [← Nat.add_assoc] at this
      · show RV w gh ob (bif (Nat.beq off 0 && Nat.beq (s + 1) (n + 1)) then .pv (.agg ps) else .agg ((part .nilp ps off (n + 1)).map .pv)) _
        cases hb : (Nat.beq off 0 && Nat.beq (s + 1) (n + 1)) with
        | true =>
          simp only [Bool.and_eq_true] at hb
          have h0 := beq_true hb.1
          have h1 := beq_true hb.2
          subst h0
          have : s = n := by omega
          subst this
          simp only [cond_true, RV, RepV]
          refine ⟨_, rfl, ?_⟩
          rw [List.drop_zero, List.take_of_length_le (by omega)]
          simpa using hl
        | false =>
          simp only [cond_false, RV]
          exact ⟨_, rfl, by simpa using hpart, by simpa using ones_part (RepL_ones hl) off (n + 1)⟩

theorem RepC_nth {I : Imm} {s : Nat} : ∀ {xs : List PV} {cs : List Value} {i : Nat} {x : PV}, RepC w I s xs cs → xs[i]? = some x →
    ∃ v, RepV w I x v ∧ x.fits s = true ∧ v.cells.size = wd s ∧ (cs.drop (i * wd s)).take (wd s) = v.cells.toList
  | [], cs, i, x, _, hx => by simp at hx
  | y :: xs, cs, i, x, h, hx => by
    simp only [RepC] at h
    obtain ⟨h0, hl⟩ := h
    cases i with
    | zero =>
      simp at hx; subst hx
      simpa using h0
    | succ i =>
      have hx' : xs[i]? = some x := by simpa using hx
      obtain ⟨v, e1, e2, e3, e4⟩ := RepC_nth hl hx'
      refine ⟨v, e1, e2, e3, ?_⟩
      rw [List.drop_drop] at e4
      rw [← e4]
      congr 2
      rw [Nat.succ_mul]; omega

theorem cells_of_take {cur : Array Value} {b o : Nat} {T : TypeId} {u : Value} {n : Nat} (hh : w.heap[b]? = some (.cells cur T (0, 0))) (ht : (cur.toList.drop o).take n = u.cells.toList) :
    ∀ j v, u.cells.toList[j]? = some v → w.cell? ⟨b, o + j, none⟩ = some v := by
  intro j v hj
  rw [← ht, List.getElem?_take] at hj
  split at hj
  · rw [List.getElem?_drop] at hj
    simp only [World.cell?, hh]
    simpa using hj
  · cases hj

theorem load_shows {o : Oper} {t : TypeId} {n : Nat} {x : Operand} (ho : o.op = .load t x) (hw : widthOf P t = some n) {y : Opd} (hx : opdOf x = some y) (hg : Good c σ a w gh) (hd : dstOk c.nt o.dst = true) {out : Out}
    (hs : stepK call d σ (.load n y) some = some out) : Shows P c σ a w o out := by
  have hv := opd_rel hg hx
  have key : ∀ (b o' : Nat) (u : Value) (r : AV) (l : List Nat), a.eval x = .pointer (some ⟨b, o', none⟩) → (loadVar t ⟨b, o', none⟩).run P w = .ok u w → RV w gh σ.obj r u → Shows P c σ a w o ⟨r, [], l⟩ := by
    intro b o' u r l he hl hr
    exact shows_quiet hg hd (v := u) (by simp [execOp, ho, he, Instr.loadAt, Instr.sureAddr, hl]) hr
  simp only [stepK] at hs
  split at hs
  · rename_i g off hp
    rw [hp] at hv
    simp only [RV] at hv
    split at hs
    · rename_i cs e hb
      rw [hb] at hv
      have hro := hg.mem.ro g
      rw [hb] at hro
      obtain ⟨cur, T, hh, hl, h1, _⟩ := hro
      have hlen := RVL_len hl
      cases n with
      | zero =>
        simp only at hs
        cases hk : Nat.ble (off + 1) cs.length <;> rw [hk] at hs <;> simp only [cond_true, cond_false] at hs <;> cases hs
        have hle := Nat_ble hk
        obtain ⟨v, e1, e2⟩ := RVL_nth hl (show off < cs.length by omega)
        have ev : v.oneCell' = true := h1 v (List.mem_of_getElem? e1)
        have hcv : v.cells = #[v] := by cases v <;> simp_all [Value.cells, Value.oneCell']
        refine key _ _ v _ _ hv (run_loadVar hw (by rw [hcv]; rfl) (fun _ => ev) (fun h => by omega) (fun j v' hj => ?_)) e2
        rw [hcv] at hj
        cases j with
        | zero => cases hj; simp only [World.cell?, hh]; simpa using e1
        | succ j => simp at hj
      | succ n =>
        simp only at hs
        cases hk : Nat.ble (off + (n + 1)) cs.length <;> rw [hk] at hs <;> simp only [cond_true, cond_false] at hs <;> cases hs
        have hle := Nat_ble hk
        have e1 := RVL_part (n + 1) (off := off) hl hle
        refine key _ _ (.agg ((cur.toList.drop off).take (n + 1)).toArray) _ _ hv (run_loadVar hw ?_ (fun h => by omega) (fun _ => ⟨_, rfl⟩) ?_) ?_
        · simp [Value.cells, wd]
          have : cur.size = cs.length := by simpa using hlen
          omega
        · exact cells_of_take (n := n + 1) hh (by simp [Value.cells])
        · exact ⟨_, rfl, by simpa using e1, by simpa using ones_part h1 off (n + 1)⟩
    · cases hs
  · rename_i s q off hp
    rw [hp] at hv
    simp only [RV] at hv
    obtain ⟨b, o0, u, hv, hu, hf, hsz, hc⟩ := hv
    cases hk : partOk s off n <;> rw [hk] at hs <;> simp only [cond_true, cond_false] at hs <;> cases hs
    obtain ⟨u', h1, h2⟩ := load_part (ob := σ.obj) hw (gh := gh) rfl hu hf (fun j v hj => (hc j v hj).1) hk
    exact key _ _ u' _ _ hv h1 h2
  · rename_i g i off hp
    rw [hp] at hv
    simp only [RV] at hv
    split at hs
    · rename_i s xs e hb
      rw [hb] at hv
      have hro := hg.mem.ro g
      rw [hb] at hro
      cases hk : partOk s off n <;> rw [hk] at hs <;> simp only [cond_true, cond_false] at hs
      · cases hs
      obtain ⟨q, hq, hs⟩ := Option.bind_eq_some_iff.1 hs
      cases hs
      rcases hro with ⟨_, hn⟩ | ⟨cap, cur, T, _, hh, _, _, _, _, hr, _⟩
      · rw [hn] at hq; simp at hq
      · obtain ⟨u, e1, e2, e3, e4⟩ := RepC_nth hr hq
        obtain ⟨u', h1, h2⟩ := load_part (ob := σ.obj) hw (gh := gh) rfl e1 e2 (cells_of_take hh e4) hk
        exact key _ _ u' _ _ hv h1 h2
    · cases hs
  · cases hs

/-- What a slice holds. -/
theorem slOf_rel (hg : Good c σ a w gh) {x : AV} {v : Value} (hv : RV w gh σ.obj x v) {xs : List PV} {l : List Nat} (h : slOf σ x = some (xs, l)) :
    (v = .slice none 0 0 ∧ xs = []) ∨ ∃ a cap, v = .slice (some a) xs.length cap ∧ xs.length ≤ cap ∧ cap ≤ maxLen := by
  unfold slOf slK at h
  split at h
  · obtain ⟨ys, h1, h2⟩ := Option.bind_eq_some_iff.1 h
    cases h2
    rw [RV_pv, asSl_some h1] at hv
    simp only [RepV] at hv
    rcases hv with ⟨h1, h2 | ⟨a, cap, h2, h3⟩⟩ | ⟨b, off, cap, s, h1, h2, h3, _⟩
    · exact .inl ⟨h2, h1⟩
    · exact .inr ⟨a, cap, by rw [h1]; exact h2, by rw [h1]; exact Nat.zero_le _, h3⟩
    · exact .inr ⟨_, cap, h1, h2, h3⟩
  · cases h; simp only [RV] at hv; exact .inl ⟨hv, rfl⟩
  · rename_i g
    split at h
    · rename_i s ys e hb
      cases h
      simp only [RV, hb] at hv
      have hro := hg.mem.ro g
      rw [hb] at hro
      rcases hro with ⟨h1, h2⟩ | ⟨cap, cur, T, h1, _, h2, h3, _⟩
      · exact .inl ⟨by rw [hv.1, h1], h2⟩
      · exact .inr ⟨_, cap, by rw [hv.1, h1], h2, h3⟩
    · cases h
  · cases h

theorem len_shows {o : Oper} {t e : TypeId} {x : Operand} (ho : o.op = .call { callee := .builtin .len, args := #[x], argTypes := #[t] }) (h1 : P.underlying t = some (.slice e)) {y : Opd} (hx : opdOf x = some y) (hg : Good c σ a w gh) (hd : dstOk c.nt o.dst = true) {out : Out}
    (hs : stepK call d σ (.len y) some = some out) : Shows P c σ a w o out := by
  simp only [stepK, slK_eq] at hs
  obtain ⟨⟨xs, l⟩, h2, hs⟩ := Option.bind_eq_some_iff.1 hs
  cases hs
  rcases slOf_rel hg (opd_rel hg hx) h2 with ⟨hv, rfl⟩ | ⟨b, cap, hv, _⟩ <;>
    exact shows_quiet hg hd (v := .int .i64 _) (by simp [execOp, ho, hv, resolve, invoke, builtin, Builtin.len_, run_underlying h1, goInt]; rfl) (by simp [RV, RepV])

theorem idx_some {xs : List PV} {i : Int} {x : PV} (h : idx xs i = some x) : 0 ≤ i ∧ xs[i.toNat]? = some x ∧ i < xs.length := by
  unfold idx at h
  split at h
  · rename_i h0
    refine ⟨h0, h, ?_⟩
    have := (List.getElem?_eq_some_iff.1 h).1
    omega
  · cases h

theorem elemOf_some {t e : TypeId} (h : elemOf P t = some e) : P.underlying t = some (.slice e) := by
  unfold elemOf at h
  split at h
  · cases h; assumption
  · cases h

theorem RepE_nth {I : Imm} {s : Nat} : ∀ {xs : List PV} {b off i : Nat} {x : PV}, RepE w I s xs b off → xs[i]? = some x → ∃ v, RepV w I x v ∧ v.cells.size = s ∧ CellsAt w I b (off + i * s) v.cells.toList
  | [], b, off, i, x, _, hx => by simp at hx
  | y :: xs, b, off, i, x, h, hx => by
    simp only [RepE] at h
    obtain ⟨⟨v, e1, e2, e3⟩, hl⟩ := h
    cases i with
    | zero => simp at hx; subst hx; exact ⟨v, e1, e2, by simpa using e3⟩
    | succ i =>
      obtain ⟨v, f1, f2, f3⟩ := RepE_nth hl (show xs[i]? = some x by simpa using hx)
      refine ⟨v, f1, f2, ?_⟩
      rw [show off + (i + 1) * s = off + s + i * s by rw [Nat.succ_mul]; omega]
      exact f3

theorem RepV_fits {I : Imm} {x : PV} {u : Value} {s : Nat} (hf : x.fits s = true) (hr : RepV w I x u) : u.cells.size = wd s := by
  cases s with
  | zero =>
    have h1 := RepV_one (fits_zero hf) hr
    cases u <;> simp_all [Value.cells, Value.oneCell', wd]
  | succ s =>
    obtain ⟨ps, rfl, hl⟩ := fits_succ hf
    simp only [RepV] at hr
    obtain ⟨vs, rfl, h2⟩ := hr
    have := RepL_len h2
    simp [Value.cells, wd]
    simpa [hl] using this

theorem indexAddr_shows {o : Oper} {t e : TypeId} {s : Nat} {x i : Operand} (ho : o.op = .indexAddr t x i) (he : elemOf P t = some e) (hw : widthOf P e = some s) {x' i' : Opd} (hx : opdOf x = some x') (hi : opdOf i = some i') (hg : Good c σ a w gh) (hd : dstOk c.nt o.dst = true) {out : Out}
    (hs : stepK call d σ (.indexAddr s x' i') some = some out) : Shows P c σ a w o out := by
  have hu := elemOf_some he
  obtain ⟨inf, hinf, hsz, _⟩ := widthOf_some (w := w) hw
  have hv := opd_rel hg hx
  simp only [stepK] at hs
  obtain ⟨p, hp, hs⟩ := asPv_some hs
  obtain ⟨n, hn, hs⟩ := Option.bind_eq_some_iff.1 hs
  have hvi := opd_rel hg hi
  rw [hp, RV_pv, asInt_some hn] at hvi
  simp only [RepV] at hvi
  have key : ∀ (b off len cap : Nat) (r : AV) (l : List Nat), a.eval x = .slice (some ⟨b, off, none⟩) len cap → 0 ≤ n → n < len → RV w gh σ.obj r (.pointer (some ⟨b, off + n.toNat * wd s, none⟩)) → Shows P c σ a w o ⟨r, [], l⟩ := by
    intro b off len cap r l hx0 h0 h1 hr
    refine shows_quiet hg hd (v := .pointer (some ⟨b, off + n.toNat * wd s, none⟩)) ?_ hr
    simp [execOp, ho, hx0, hvi, Instr.indexAt, asIntOf, run_underlying hu, h0, h1, run_sizeOf' hinf, hsz, Addr.add_lit]
  split at hs
  · rename_i g hp2
    rw [hp2] at hv
    split at hs
    · rename_i s' xs ex hb
      simp only [RV, hb] at hv
      split at hs
      · rename_i hbd
        cases hk : Nat.beq s' s <;> rw [hk] at hs <;> simp only [cond_true, cond_false] at hs <;> cases hs
        have : s' = s := beq_true hk
        subst this
        have hro := hg.mem.ro g
        rw [hb] at hro
        rcases hro with ⟨_, hnil⟩ | ⟨cap, cur, T, h1, hh, h2, h3, _⟩
        · rw [hnil] at hbd; simp at hbd; omega
        · refine key _ 0 _ cap _ _ (by rw [hv.1, h1]) hbd.1 hbd.2 ?_
          simp [RV, hb]
      · cases hs
    · cases hs
  · rename_i q hq
    obtain ⟨xs, hxs, hs⟩ := Option.bind_eq_some_iff.1 hs
    obtain ⟨y, hy, hs⟩ := Option.bind_eq_some_iff.1 hs
    cases hk : y.fits s <;> rw [hk] at hs <;> simp only [cond_true, cond_false] at hs <;> cases hs
    rw [hq, RV_pv, asSl_some hxs] at hv
    obtain ⟨h0, hget, hlt⟩ := idx_some hy
    simp only [RepV] at hv
    rcases hv with ⟨hnil, _⟩ | ⟨b, off, cap, s0, hv, h1, h2, h3, hE⟩
    · rw [hnil] at hget; simp at hget
    · obtain ⟨u, e1, e2, e3⟩ := RepE_nth hE hget
      have hsz2 := RepV_fits hk e1
      have : s0 = wd s := by rw [← e2, hsz2]
      subst this
      exact key b off _ cap _ _ hv h0 hlt (by simp only [RV]; exact ⟨b, off + n.toNat * wd s, u, by simp, e1, hk, hsz2, e3⟩)
  · cases hs

end Go.Proofs.YtbgkalolmichdaaA
