/- Calls and byte slices turned to strings: the abstract machine tells what the translated operations do. Conditions: the contract of what is called. -/
import Derived.Test.YtbgkalolmichdaaAQ
import Derived.Laws.BytesArg
namespace Go.Proofs.YtbgkalolmichdaaA
open Go
set_option linter.unusedSimpArgs false
set_option linter.unusedVariables false

variable {P : Program} {c : Ctx} {σ : St} {a : Act} {w w' : World} {gh : Gh} {ob : Obs} {call : FuncId → List XV → Option Res} {d : Nat}

theorem all?_array {xs : Array Operand} {ρ : Operand → Value} : xs.map ρ = (xs.toList.map ρ).toArray := by
  rw [← List.map_toArray]

theorem call_shows {o : Oper} {cc : Call} {f : FuncId} (ho : o.op = .call cc) (hc : cc.callee = .value (.func f)) {ys : List Opd} (hys : all? opdOf cc.args.toList = some ys) (he : Enters P f) (hs : Sound P f (call f))
    (hg : Good c σ a w gh) (hd : dstOk c.nt o.dst = true) {out : Out} (hk : stepK call d σ (.call f ys) some = some out) : Shows P c σ a w o out := by
  simp only [stepK] at hk
  refine callK_shows he hs hys rfl hg hd hk ?_
  simp only [execOp, ho, resolve, hc, Act.eval, Deferred.ofValue, Sem.run_bind, Sem.run_pure, Result.andThen, invoke]
  rw [show (#[] ++ Array.map a.eval cc.args ++ #[] : Array Value) = (List.map a.eval cc.args.toList ++ List.map (fun g => Value.pointer (some ⟨gh.β g, 0, none⟩)) []).toArray by simp [all?_array]]
  exact run_callFunc he _

theorem callv_shows {o : Oper} {cc : Call} {x : Operand} (ho : o.op = .call cc) (hc : cc.callee = .value x) {x' : Opd} (hx : opdOf x = some x') {ys : List Opd} (hys : all? opdOf cc.args.toList = some ys)
    (hall : ∀ f args r, call f args = some r → Enters P f ∧ Sound P f (call f))
    (hg : Good c σ a w gh) (hd : dstOk c.nt o.dst = true) {out : Out} (hk : stepK call d σ (.callv x' ys) some = some out) : Shows P c σ a w o out := by
  simp only [stepK] at hk
  split at hk
  case h_2 => cases hk
  rename_i f caps hf
  split at hk
  case h_2 => cases hk
  rename_i ps l hcap
  have hv := opd_rel hg hx
  rw [hf] at hv
  simp only [RV] at hv
  obtain ⟨vs, hv, hvs, _⟩ := hv
  have hcl : ∃ args r, call f args = some r := by
    simp only [callK] at hk
    split at hk
    · rename_i args sh bx fz _
      cases hnd : nodupB bx && (fz ++ caps).all (fun g => !(bx.any (Nat.beq g))) <;> simp only [hnd, cond_true, cond_false] at hk
      · cases hk
      · obtain ⟨r, h1, _⟩ := Option.bind_eq_some_iff.1 hk
        exact ⟨_, r, h1⟩
    · cases hk
  obtain ⟨args, r, hcl⟩ := hcl
  obtain ⟨he, hs⟩ := hall f args r hcl
  refine callK_shows he hs hys hcap hg hd hk ?_
  simp only [execOp, ho, resolve, hc, hv, Deferred.ofValue, Sem.run_bind, Sem.run_pure, Result.andThen, invoke]
  rw [show (#[] ++ Array.map a.eval cc.args ++ vs.toArray : Array Value) = (List.map a.eval cc.args.toList ++ List.map (fun g => Value.pointer (some ⟨gh.β g, 0, none⟩)) caps).toArray by rw [hvs]; simp [all?_array]]
  exact run_callFunc he _

theorem strOf_nums : ∀ {xs : List PV} {s : ByteArray}, strOf xs = some s → ∃ ns : List Int, xs = ns.map (.int .u8) ∧ s = ⟨(ns.map fun n => UInt8.ofNat n.toNat).toArray⟩ := by
  have key : ∀ (xs : List PV) (l : List UInt8), xs.mapM byteOf = some l → ∃ ns : List Int, xs = ns.map (.int .u8) ∧ l = ns.map fun n => UInt8.ofNat n.toNat := by
    intro xs
    induction xs with
    | nil => intro l h; simp at h; subst h; exact ⟨[], rfl, rfl⟩
    | cons x xs ih =>
      intro l h
      rw [List.mapM_cons] at h
      obtain ⟨b, h1, h⟩ := Option.bind_eq_some_iff.1 h
      obtain ⟨l', h2, h⟩ := Option.bind_eq_some_iff.1 h
      cases h
      obtain ⟨ns, e1, e2⟩ := ih l' h2
      unfold byteOf at h1
      split at h1
      · rename_i n
        cases h1
        exact ⟨n :: ns, by simp [e1], by simp [e2]⟩
      · cases h1
  intro xs s h
  unfold strOf at h
  obtain ⟨l, h1, h2⟩ := Option.map_eq_some_iff.1 h
  obtain ⟨ns, e1, e2⟩ := key xs l h1
  exact ⟨ns, e1, by rw [← h2, e2]⟩

theorem RepC_nums {I : Imm} : ∀ {ns : List Int} {news : List Value}, RepC w I 0 (ns.map (.int .u8)) news → news.length = ns.length → news = ns.map (.int .u8)
  | [], news, _, h => by cases news with | nil => rfl | cons => simp at h
  | n :: ns, news, h, hl => by
    simp only [List.map_cons, RepC] at h
    obtain ⟨⟨v, h1, _, _, h4⟩, h⟩ := h
    simp only [RepV] at h1
    subst h1
    cases news with
    | nil => simp at hl
    | cons x news =>
      simp [wd, Value.cells] at h4 h hl
      rw [h4, RepC_nums h hl]; rfl

theorem bytesToStr_shows {o : Oper} {src dst e : TypeId} {x : Operand} (ho : o.op = .convert src dst x) (h1 : P.underlying src = some (.slice e)) (h2 : P.underlying e = some (.int .u8)) (h3 : P.underlying dst = some .string)
    {y : Opd} (hx : opdOf x = some y) (hg : Good c σ a w gh) (hd : dstOk c.nt o.dst = true) {out : Out} (hs : stepK call d σ (.bytesToStr y) some = some out) : Shows P c σ a w o out := by
  simp only [stepK, slK_eq] at hs
  obtain ⟨⟨xs, l⟩, hxs, hs⟩ := Option.bind_eq_some_iff.1 hs
  obtain ⟨s, hstr, hs⟩ := Option.bind_eq_some_iff.1 hs
  cases hs
  obtain ⟨ns, rfl, rfl⟩ := strOf_nums hstr
  have hall : (ns.map (PV.int .u8)).all (PV.fits 0) = true := by simp [PV.fits, PV.one]
  obtain ⟨news, n1, n2, n3, n4⟩ := slOf_cells hg (opd_rel hg hx) hxs hall
  have hn := RepC_nums n3 (by simpa [wd] using n1)
  subst hn
  have hrun : (execOp a.eval o).run P w = .ok (.value (.string ⟨(ns.map fun n => UInt8.ofNat n.toNat).toArray⟩)) w := by
    simp only [execOp, ho]
    rcases n4 with ⟨hv, hnil⟩ | ⟨ad, cap, hv, hcells⟩
    · have : ns = [] := by simpa using hnil
      subst this
      rw [hv]
      have h0 := run_convert_bytes_nil (P := P) (w := w) src e h1 h2 0 0 dst h3
      simp only [Sem.run_bind, h0, Result.andThen]
      rfl
    · rw [hv]
      have hl := run_loadCells_list (P := P) w ad (ns.map (Value.int .u8)) hcells
      rw [List.length_map] at hl
      have h0 := run_convert_bytes_string (P := P) w src dst e (some ad) ns.length cap h1 h2 h3
      rw [run_bytesToString w ad ns.length cap ns (by rw [List.length_map] at *; simpa using hl), foldl_push_bytes] at h0
      simp only [List.length_map] at *
      simp [h0, ByteArray.empty, ByteArray.emptyWithCapacity]
      rfl
  exact shows_quiet hg hd hrun (by simp [RV, RepV])

end Go.Proofs.YtbgkalolmichdaaA
