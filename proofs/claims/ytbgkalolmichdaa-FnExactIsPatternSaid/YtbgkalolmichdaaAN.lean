/- Slices that grow, and texts out of bytes: the abstract machine tells what the translated operations do. Conditions: none. -/
import Derived.Test.YtbgkalolmichdaaAM
import Derived.Laws.AppendOwn
import Derived.Laws.BytesString
namespace Go.Proofs.YtbgkalolmichdaaA
open Go
set_option linter.unusedSimpArgs false
set_option linter.unusedVariables false

variable {P : Program} {c : Ctx} {σ : St} {a : Act} {w w' : World} {gh : Gh} {ob : Obs} {call : FuncId → List XV → Option Res} {d : Nat}

theorem pvOf_rel {I : Imm} {v : Value} {p : PV} (h : pvOf v = some p) : RepV w I p v := by
  unfold pvOf at h
  split at h <;> cases h <;> simp [RepV]
theorem pvOf_one {v : Value} {p : PV} (h : pvOf v = some p) : v.oneCell' = true := by
  unfold pvOf at h
  split at h <;> cases h <;> rfl
theorem pvOf_all {I : Imm} : ∀ (l : List Value) (r : List PV), all? pvOf l = some r → RepL w I r l
  | [], r, h => by simp only [all?] at h; cases h; simp [RepL]
  | v :: l, r, h => by
    obtain ⟨y, ys, h1, h2, rfl⟩ := all?_cons h
    exact ⟨v, l, rfl, pvOf_one h1, pvOf_rel h1, pvOf_all l ys h2⟩

theorem zeroPV_some {I : Imm} {t : TypeId} {z : PV} (h : zeroPV P t = some z) : ∃ i v, P.info? t = some i ∧ i.zero = some v ∧ RepV w I z v := by
  unfold zeroPV at h
  obtain ⟨v, h1, h2⟩ := Option.bind_eq_some_iff.1 h
  obtain ⟨i, h3, h4⟩ := Option.bind_eq_some_iff.1 h1
  refine ⟨i, v, h3, h4, ?_⟩
  split at h2
  · rename_i cs
    simp only [Option.map_eq_some_iff] at h2
    obtain ⟨r, h5, rfl⟩ := h2
    exact ⟨cs, rfl, pvOf_all _ _ h5⟩
  · exact pvOf_rel h2

theorem RepC_replicate {I : Imm} {s : Nat} {z : PV} {v : Value} (hz : RepV w I z v) (hf : z.fits s = true) : ∀ (n : Nat) (cs : List Value), cs.length = n * wd s → (∀ j, j < n * wd s → cs[j]? = v.cells[j % wd s]?) → RepC w I s (List.replicate n z) cs
  | 0, cs, _, _ => trivial
  | n + 1, cs, hl, h => by
    have hsz := RepV_fits hf hz
    have hw := wd_pos s
    simp only [List.replicate_succ, RepC]
    refine ⟨⟨v, hz, hf, hsz, ?_⟩, ?_⟩
    · apply List.ext_getElem?
      intro j
      rw [List.getElem?_take]
      split
      · rename_i hj
        rw [h j (by rw [Nat.succ_mul]; omega), Nat.mod_eq_of_lt hj]; simp
      · rw [List.getElem?_eq_none (by simp [hsz]; omega)]
    · refine RepC_replicate hz hf n _ (by rw [List.length_drop, hl, Nat.succ_mul]; omega) fun j hj => ?_
      rw [List.getElem?_drop, h (wd s + j) (by rw [Nat.succ_mul]; omega), Nat.add_mod_left]

theorem makeSlice_shows {o : Oper} {t e : TypeId} {s : Nat} {l cc : Operand} {z : PV} {inf : TypeInfo} (ho : o.op = .makeSlice t l cc) (hsame : sameOpd l cc = true) (he : elemOf P t = some e) (hw : widthOf P e = some s) (hi : P.info? e = some inf) (hb : 1 ≤ inf.bytes) (hz : zeroPV P e = some z) (hf : z.fits s = true) {y : Opd} (hl : opdOf l = some y) (hg : Good c σ a w gh) (hd : dstOk c.nt o.dst = true) {out : Out}
    (hs : stepK call d σ (.makeSlice s inf.bytes z y) some = some out) : Shows P c σ a w o out := by
  have hu := elemOf_some he
  obtain ⟨inf', hinf, hsz, _⟩ := widthOf_some (w := w) hw
  rw [hi] at hinf; cases hinf
  simp only [stepK] at hs
  obtain ⟨p, hp, hs⟩ := asPv_some hs
  obtain ⟨n, hn, hs⟩ := Option.bind_eq_some_iff.1 hs
  split at hs
  case isFalse => cases hs
  rename_i hbd
  cases hfr : isFree σ d <;> rw [hfr] at hs <;> simp only [cond_true, cond_false] at hs <;> cases hs
  have hv := opd_rel hg hl
  rw [hp, RV_pv, asInt_some hn] at hv
  simp only [RepV] at hv
  have hcc : a.eval cc = .int .i64 n := by
    cases l with
    | tmp t1 =>
      cases cc <;> simp [sameOpd] at hsame
      have := beq_true (by simpa using hsame)
      subst this; exact hv
    | const v1 =>
      cases cc with
      | const v2 =>
        cases v1 <;> cases v2 <;> simp [sameOpd] at hsame
        obtain ⟨rfl, rfl⟩ := hsame
        exact hv
      | _ => cases v1 <;> simp [sameOpd] at hsame
    | _ => cases cc <;> simp [sameOpd] at hsame
  obtain ⟨iz, zv, hiz, hzv, hrep⟩ := zeroPV_some (w := w) (I := gh.I) hz
  rw [hi] at hiz; cases hiz
  have hzs : zv.cells.size = wd s := RepV_fits hf hrep
  have hb1 : (inf.bytes : Int) * n ≤ 281474976710656 := by
    have := hbd.2; simp only [maxBytes] at this; rw [Int.mul_comm]; omega
  have hn1 : n ≤ n * inf.bytes := by
    have : n * 1 ≤ n * (inf.bytes : Int) := Int.mul_le_mul_of_nonneg_left (by omega) hbd.1
    omega
  have hn2 : n ≤ 140737488355328 := by have := hbd.2; simp only [maxBytes] at this; omega
  have hrun := run_make (P := P) w t e inf zv hu hi hzv .i64 .i64 n n hbd.1 (Int.le_refl _) hb1 (by omega)
  rw [hsz] at hrun
  have hcs : (madeCells zv.cells (n.toNat * wd s)).toList.length = n.toNat * wd s := by simp [size_madeCells]
  have hget : ∀ j, j < n.toNat * wd s → (madeCells zv.cells (n.toNat * wd s)).toList[j]? = zv.cells[j % wd s]? := by
    intro j hj
    simp only [madeCells, Array.toList_map, Array.toList_range, List.getElem?_map, List.getElem?_range hj, Option.map_some, hzs]
    have hlt : j % wd s < zv.cells.size := by rw [hzs]; exact Nat.mod_lt _ (wd_pos s)
    rw [Array.getElem?_eq_getElem hlt]
    simp [hlt]
  have hones : ones (madeCells zv.cells (n.toNat * wd s)).toList := by
    intro v hv
    obtain ⟨j, hj⟩ := List.getElem?_of_mem hv
    have hlt : j < n.toNat * wd s := by rw [← hcs]; exact (List.getElem?_eq_some_iff.1 hj).1
    rw [hget j hlt] at hj
    exact oneCell_RepV hrep v (by simpa using Array.mem_of_getElem? hj)
  obtain ⟨gh1, m1, hI1, hst1, _⟩ := hg.shareL []
  have hnl : (List.replicate n.toNat z).length = n.toNat := by simp
  refine row_new (l := []) hg hd (isFree_some hfr) (T := e) (cells := madeCells zv.cells (n.toNat * wd s)) m1 hI1 hst1 (by rw [hnl]; simp [size_madeCells]) (by rw [hnl]; simp only [maxLen]; omega) ?_ hones ?_
  · refine RepC_replicate (v := zv) ?_ hf n.toNat _ hcs hget
    obtain ⟨_, zv2, hq1, hq2, hq3⟩ := zeroPV_some (w := w) (I := gh1.I) hz
    rw [hi] at hq1; cases hq1
    rw [hzv] at hq2; cases hq2
    exact hq3
  · rw [hnl]
    simp only [execOp, ho, hv, hcc]
    simp [hrun]

/-- What is appended: the cells of a slice. -/
theorem slOf_cells (hg : Good c σ a w gh) {x : AV} {v : Value} (hv : RV w gh σ.obj x v) {xs : List PV} {l : List Nat} {s : Nat} (h : slOf σ x = some (xs, l)) (hf : xs.all (PV.fits s) = true) :
    ∃ news : List Value, news.length = xs.length * wd s ∧ ones news ∧ RepC w gh.I s xs news ∧ ((v = .slice none 0 0 ∧ xs = []) ∨ ∃ (a : Addr) (cap : Nat), v = .slice (some a) xs.length cap ∧ ∀ j u, news[j]? = some u → w.cell? (a.add j) = some u) := by
  have fromE : ∀ (ys : List PV) (s0 b off : Nat), RepE w gh.I s0 ys b off → ys.all (PV.fits s) = true → ∃ news : List Value, news.length = ys.length * wd s ∧ ones news ∧ RepC w gh.I s ys news ∧ ∀ j u, news[j]? = some u → w.cell? ⟨b, off + j, none⟩ = some u := by
    intro ys
    induction ys with
    | nil => intro s0 b off _ _; exact ⟨[], by simp, fun v hv => (by cases hv), trivial, fun j u hj => by simp at hj⟩
    | cons y ys ih =>
      intro s0 b off hE hall
      simp only [RepE] at hE
      obtain ⟨⟨u, e1, e2, e3⟩, hE'⟩ := hE
      simp only [List.all_cons, Bool.and_eq_true] at hall
      have hsz := RepV_fits hall.1 e1
      have hs0 : s0 = wd s := by rw [← e2, hsz]
      obtain ⟨news, n1, n2, n3, n4⟩ := ih s0 b (off + s0) hE' hall.2
      have hul : u.cells.toList.length = wd s := by simpa using hsz
      refine ⟨u.cells.toList ++ news, by simp [hsz, n1, Nat.succ_mul]; omega, ?_, ?_, ?_⟩
      · intro z hz
        rcases List.mem_append.1 hz with hz | hz
        · exact oneCell_RepV e1 z hz
        · exact n2 z hz
      · simp only [RepC]
        exact ⟨⟨u, e1, hall.1, hsz, by rw [← hul, List.take_left]⟩, by rw [← hul, List.drop_left]; exact n3⟩
      · intro j z hj
        by_cases hlt : j < wd s
        · rw [List.getElem?_append_left (by rw [hul]; exact hlt)] at hj
          exact (e3 j z hj).1
        · rw [List.getElem?_append_right (by rw [hul]; omega), hul] at hj
          have := n4 _ z hj
          rwa [hs0, show off + wd s + (j - wd s) = off + j by omega] at this
  unfold slOf slK at h
  split at h
  · obtain ⟨ys, h1, h2⟩ := Option.bind_eq_some_iff.1 h
    cases h2
    rw [RV_pv, asSl_some h1] at hv
    simp only [RepV] at hv
    rcases hv with ⟨rfl, h2 | ⟨a, cap, h2, _⟩⟩ | ⟨b, off, cap, s0, h1, _, _, _, hE⟩
    rotate_left
    · exact ⟨[], by simp, fun v hv => (by cases hv), trivial, .inr ⟨a, cap, h2, fun j u hj => by simp at hj⟩⟩
    rotate_left
    · exact ⟨[], by simp, fun v hv => (by cases hv), trivial, .inl ⟨h2, rfl⟩⟩
    · obtain ⟨news, n1, n2, n3, n4⟩ := fromE _ _ _ _ hE hf
      exact ⟨news, n1, n2, n3, .inr ⟨_, cap, h1, fun j u hj => by rw [Addr.add_lit]; exact n4 j u hj⟩⟩
  · cases h; simp only [RV] at hv; exact ⟨[], by simp, fun v hv => (by cases hv), trivial, .inl ⟨hv, rfl⟩⟩
  · rename_i g
    split at h
    · rename_i s' ys e hb
      cases h
      simp only [RV, hb] at hv
      have hro := hg.mem.ro g
      rw [hb] at hro
      rcases hro with ⟨h1, rfl⟩ | ⟨cap, cur, T, h1, hh, h2, h3, h4, h5, h6, _⟩
      · exact ⟨[], by simp, fun v hv => (by cases hv), trivial, .inl ⟨by rw [hv.1, h1], rfl⟩⟩
      · cases xs with
        | nil => exact ⟨[], by simp, fun v hv => (by cases hv), trivial, .inr ⟨_, cap, by rw [hv.1, h1], fun j u hj => by simp at hj⟩⟩
        | cons y ys =>
          have hs : wd s' = wd s := by
            simp only [RepC] at h6
            obtain ⟨⟨u, e1, e2, e3, _⟩, _⟩ := h6
            simp only [List.all_cons, Bool.and_eq_true] at hf
            rw [← e3, RepV_fits hf.1 e1]
          have hs' : s' = s := by
            simp only [RepC] at h6
            obtain ⟨⟨u, e1, e2, e3, _⟩, _⟩ := h6
            simp only [List.all_cons, Bool.and_eq_true] at hf
            cases s' <;> cases s
            · rfl
            · obtain ⟨ps, rfl, _⟩ := fits_succ hf.1; simp [PV.fits, PV.one] at e2
            · obtain ⟨ps, rfl, _⟩ := fits_succ e2; simp [PV.fits, PV.one] at hf
            · simpa [wd] using hs
          subst hs'
          have hlen : (y :: ys).length * wd s' ≤ cur.size := by rw [h4]; exact Nat.mul_le_mul_right _ h2
          refine ⟨cur.toList.take ((y :: ys).length * wd s'), by simp only [List.length_take, Array.length_toList]; exact Nat.min_eq_left hlen, fun v hv => h5 v (List.mem_of_mem_take hv), ?_, .inr ⟨_, cap, by rw [hv.1, h1], fun j u hj => ?_⟩⟩
          · have key : ∀ (zs : List PV) (cs : List Value), RepC w gh.I s' zs cs → RepC w gh.I s' zs (cs.take (zs.length * wd s')) := by
              intro zs
              induction zs with
              | nil => intro cs _; trivial
              | cons z zs ih =>
                intro cs h
                simp only [RepC] at h ⊢
                obtain ⟨⟨u, e1, e2, e3, e4⟩, hl⟩ := h
                refine ⟨⟨u, e1, e2, e3, ?_⟩, ?_⟩
                · rw [List.take_take, Nat.min_eq_left (by simp [Nat.succ_mul])]; exact e4
                · rw [List.drop_take]
                  have := ih _ hl
                  rwa [show (z :: zs).length * wd s' - wd s' = zs.length * wd s' by simp [Nat.succ_mul]]
            exact key _ _ h6
          · rw [List.getElem?_take] at hj
            split at hj
            · rw [Addr.add_lit]; simp only [World.cell?, hh]; simpa using hj
            · cases hj
    · cases h
  · cases h

/-- An append within the capacity. -/
theorem run_append_in {t ty e T : TypeId} {i : TypeInfo} (ht : P.underlying t = some (.slice e)) (hi : P.info? e = some i) {g n cap : Nat} {cur : Array Value} (hg : w.heap[g]? = some (.cells cur T (0, 0)))
    {y : Value} {m : Nat} {news : List Value} (hl : news.length = m * i.size) (hy : (y = .slice none 0 0 ∧ m = 0) ∨ ∃ (a : Addr) (c : Nat), y = .slice (some a) m c ∧ ∀ j u, news[j]? = some u → w.cell? (a.add j) = some u) (h1 : ones news)
    (hroom : n + m ≤ cap) (hfit : n * i.size + news.length ≤ cur.size) :
    (Builtin.append_ #[t, t] ty #[.slice (some ⟨g, 0, none⟩) n cap, y]).run P w = .ok (.slice (some ⟨g, 0, none⟩) (n + m) cap) (w.setRow g (putN cur.toList (n * i.size) news).toArray) := by
  have hst := run_storeCells_at P g (n * i.size) T news 0 cur w hg (by simpa using hfit) (fun u hu => h1 u hu)
  simp only [Nat.add_zero] at hst
  rw [putN_eq _ _ _ (by simpa using hfit)]
  rcases hy with ⟨rfl, rfl⟩ | ⟨ad, c, rfl, hnews⟩
  · have hn0 : news = [] := List.eq_nil_of_length_eq_zero (by simpa using hl)
    subst hn0
    simp only [Nat.add_zero] at hroom ⊢
    simp [Builtin.append_, run_underlying ht, sizeOf, typeInfo, hi, Builtin.lenOf, hroom, Builtin.firstCells, Addr.add_lit]
    simp at hst
    simp [hst]
  · have hf := run_firstCells_some (P := P) w i.size m ad m c news hl hnews
    simp [Builtin.append_, run_underlying ht, sizeOf, typeInfo, hi, Builtin.lenOf, hroom, hf, Addr.add_lit, hst]

theorem run_append_nilnil {t ty e : TypeId} {i : TypeInfo} (ht : P.underlying t = some (.slice e)) (hi : P.info? e = some i) {y : Value} (hy : y = .slice none 0 0 ∨ ∃ (a : Addr) (c : Nat), y = .slice (some a) 0 c) :
    (Builtin.append_ #[t, t] ty #[.slice none 0 0, y]).run P w = .ok (.slice none 0 0) w := by
  rcases hy with rfl | ⟨b, c, rfl⟩ <;>
    simp [Builtin.append_, run_underlying ht, sizeOf, typeInfo, hi, Builtin.lenOf, Builtin.firstCells, loadCells, loadCellsFrom]

theorem RepC_append {I : Imm} {s : Nat} : ∀ {xs ys : List PV} {cs ds : List Value}, RepC w I s xs cs → xs.length * wd s ≤ cs.length → RepC w I s ys ds → RepC w I s (xs ++ ys) (cs.take (xs.length * wd s) ++ ds)
  | [], ys, cs, ds, _, _, h => by simpa using h
  | x :: xs, ys, cs, ds, h, hl, h2 => by
    simp only [RepC] at h
    obtain ⟨⟨v, e1, e2, e3, e4⟩, h3⟩ := h
    simp only [List.length_cons, Nat.succ_mul] at hl
    simp only [List.cons_append, RepC]
    have hm : min (xs.length * wd s + wd s) cs.length = xs.length * wd s + wd s := by omega
    refine ⟨⟨v, e1, e2, e3, ?_⟩, ?_⟩
    · rw [List.take_append_of_le_length (by simp [Nat.succ_mul]; omega), List.take_take, Nat.min_eq_left (by simp [Nat.succ_mul])]; exact e4
    · rw [List.drop_append_of_le_length (by simp [Nat.succ_mul]; omega), List.drop_take]
      have := RepC_append (ys := ys) (ds := ds) h3 (by rw [List.length_drop]; omega) h2
      rwa [show (x :: xs).length * wd s - wd s = xs.length * wd s by simp [Nat.succ_mul]]

theorem RepC_pre {I : Imm} {s : Nat} : ∀ {xs : List PV} {cs ds : List Value}, RepC w I s xs cs → cs.take (xs.length * wd s) = ds.take (xs.length * wd s) → RepC w I s xs ds
  | [], cs, ds, _, _ => trivial
  | x :: xs, cs, ds, h, he => by
    simp only [RepC] at h ⊢
    obtain ⟨⟨v, e1, e2, e3, e4⟩, h3⟩ := h
    have he1 : cs.take (wd s) = ds.take (wd s) := by
      have := congrArg (List.take (wd s)) he
      simpa [List.take_take, Nat.succ_mul, Nat.min_eq_left (Nat.le_add_left (wd s) (xs.length * wd s))] using this
    refine ⟨⟨v, e1, e2, e3, by rw [← he1]; exact e4⟩, RepC_pre h3 ?_⟩
    have := congrArg (List.drop (wd s)) he
    simpa [List.drop_take, Nat.succ_mul] using this

/-- A nil row. -/
theorem Mem.nilrow {ob : Obs} (m : Mem c ob w gh) {d s : Nat} (hf : ob d = .free) (e : Bool) : Mem c (updL [(d, .row s [] e)] ob) w (gh.set d 0 (.slice none 0 0)) ∧ ∀ k, Stays gh (gh.set d 0 (.slice none 0 0)) k (ob k) (updL [(d, .row s [] e)] ob k) := by
  have hst := fresh_stays (gh := gh) hf (.row s [] e) 0 (.slice none 0 0)
  have hsame : Same gh w w := Same.refl' fun _ => rfl
  have hlive : ∀ g, live (updL [(d, .row s [] e)] ob) (gh.set d 0 (.slice none 0 0)) g → g ≠ d ∧ live ob gh g := fun g hl => by
    by_cases hg : g = d
    · subst hg; unfold live at hl; rw [updL_one, Gh.set_hd] at hl; exact absurd rfl hl
    · exact ⟨hg, (live_same (updL_ne _ ob hg) (gh.set_hd_ne _ _ hg)).1 hl⟩
  refine ⟨⟨fun g => ?_, fun i j hi hj hij => ?_, fun i o hi hI => ?_, m.old, fun i hi => ?_, m.keep, m.new, m.frame, m.size, m.os, m.tape, m.output⟩, hst⟩
  · by_cases hg : g = d
    · subst hg; rw [updL_one]; exact .inl ⟨Gh.set_hd _ _ _ _, rfl⟩
    · exact m.rest (gh' := gh.set d 0 (.slice none 0 0)) hsame (fun _ _ h => h) hst (updL_ne _ ob hg) (gh.set_β_ne _ _ hg) (gh.set_hd_ne _ _ hg) fun _ => rfl
  · obtain ⟨i1, i2⟩ := hlive i hi
    obtain ⟨j1, j2⟩ := hlive j hj
    rw [gh.set_β_ne _ _ i1, gh.set_β_ne _ _ j1] at hij
    exact m.inj i j i2 j2 hij
  · obtain ⟨i1, i2⟩ := hlive i hi
    rw [gh.set_β_ne _ _ i1] at hI
    rw [updL_ne _ ob i1]; exact m.sep i o i2 hI
  · obtain ⟨i1, i2⟩ := hlive i hi
    rw [gh.set_β_ne _ _ i1]; exact m.mod i i2

end Go.Proofs.YtbgkalolmichdaaA
