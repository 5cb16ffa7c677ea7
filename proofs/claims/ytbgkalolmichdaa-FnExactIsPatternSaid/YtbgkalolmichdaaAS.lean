/- Every told operation: the abstract machine tells what the translated one does. Conditions: the contracts of what is called. -/
import Derived.Test.YtbgkalolmichdaaAR
namespace Go.Proofs.YtbgkalolmichdaaA
open Go
set_option linter.unusedSimpArgs false
set_option linter.unusedVariables false

variable {P : Program} {c : Ctx} {σ : St} {a : Act} {w w' : World} {gh : Gh} {ob : Obs} {call : FuncId → List XV → Option Res} {d : Nat}

/-- What may be called keeps its contract. -/
def Calling (P : Program) (call : FuncId → List XV → Option Res) : Prop := ∀ f args r, call f args = some r → Enters P f ∧ Sound P f (call f)

theorem args_one {xs : Array Operand} {x : Operand} (h : xs.toList = [x]) : xs = #[x] := by
  rw [← Array.toArray_toList (xs := xs), h]
theorem args_two {xs : Array Operand} {x y : Operand} (h : xs.toList = [x, y]) : xs = #[x, y] := by
  rw [← Array.toArray_toList (xs := xs), h]
theorem types_one {xs : Array TypeId} {x : TypeId} (h : xs.toList = [x]) : xs = #[x] := by
  rw [← Array.toArray_toList (xs := xs), h]
theorem types_two {xs : Array TypeId} {x y : TypeId} (h : xs.toList = [x, y]) : xs = #[x, y] := by
  rw [← Array.toArray_toList (xs := xs), h]

theorem call_runs {f : FuncId} {as : List AV} {extra : List PV} {sh0 fz0 : List Nat} {out : Out} (hk : callK σ call d f as extra sh0 fz0 some = some out) : ∃ args r, call f args = some r := by
  simp only [callK] at hk
  split at hk
  · rename_i args sh bx fz _
    cases hnd : nodupB bx && (fz ++ fz0).all (fun g => !(bx.any (Nat.beq g))) <;> simp only [hnd, cond_true, cond_false] at hk
    · cases hk
    · obtain ⟨r, h1, _⟩ := Option.bind_eq_some_iff.1 hk
      exact ⟨_, r, h1⟩
  · cases hk

theorem trCall_shows {o : Oper} {cc : Call} (ho : o.op = .call cc) {m : MOp} (ht : trCall P cc = some m) (hall : Calling P call) (hg : Good c σ a w gh) (hd : dstOk c.nt o.dst = true) {out : Out}
    (hs : stepK call d σ m some = some out) : Shows P c σ a w o out := by
  obtain ⟨callee, args, tys⟩ := cc
  unfold trCall at ht
  simp only at ht
  split at ht
  · -- a named function
    obtain ⟨ys, hys, rfl⟩ := Option.map_eq_some_iff.1 ht
    rename_i f
    have hk := hs
    simp only [stepK] at hk
    obtain ⟨as, r, hr⟩ := call_runs hk
    obtain ⟨he, hsd⟩ := hall f as r hr
    exact call_shows ho rfl hys he hsd hg hd hs
  · -- a function value
    split at ht
    · rename_i x' as hx has
      cases ht
      exact callv_shows ho rfl hx has hall hg hd hs
    · cases ht
  · -- a builtin
    rename_i b
    split at ht
    · rename_i x t hargs htys
      have e1 := args_one hargs
      have e2 := types_one htys
      subst e1 e2
      split at ht
      · rename_i hu
        obtain ⟨y, hy, rfl⟩ := Option.map_eq_some_iff.1 ht
        exact strLen_shows (ts := #[t]) ho hu hy hg hd hs
      · rename_i hu
        obtain ⟨y, hy, rfl⟩ := Option.map_eq_some_iff.1 ht
        exact len_shows ho hu hy hg hd hs
      · cases ht
    · rename_i x y t u hargs htys
      have e1 := args_two hargs
      have e2 := types_two htys
      subst e1 e2
      split at ht
      · rename_i x' y' e hx hy he
        split at ht
        · rename_i s inf hw hi
          split at ht
          · cases hc : Nat.ble 1 inf.bytes && zeroFits P e s <;> simp only [hc, cond_true, cond_false] at ht
            · cases ht
            · split at ht
              · rename_i htu
                cases ht
                subst htu
                obtain ⟨hb, hz⟩ := Bool.and_eq_true_iff.1 hc
                exact append_shows ho he hw hi (Nat_ble hb) hz hx hy hg hd hs
              · cases ht
          · cases ht
        · cases ht
      · cases ht
    · rename_i x y _ hargs
      have e1 := args_two hargs
      subst e1
      split at ht
      · rename_i x' y' hx hy
        cases ht
        exact mm_shows (b := false) (ts := tys) ho hx hy hg hd hs
      · cases ht
    · rename_i x y _ hargs
      have e1 := args_two hargs
      subst e1
      split at ht
      · rename_i x' y' hx hy
        cases ht
        exact mm_shows (b := true) (ts := tys) ho hx hy hg hd hs
      · cases ht
    · cases ht
  · cases ht

theorem trOp_shows {o : Oper} {m : MOp} (ht : trOp P o.op = some m) (hst : storeOk o = true) (hall : Calling P call) (hg : Good c σ a w gh) (hd : dstOk c.nt o.dst = true) {out : Out}
    (hs : stepK call d σ m some = some out) : Shows P c σ a w o out := by
  cases ho : o.op <;> rw [ho] at ht <;> simp only [trOp] at ht
  case move x =>
    obtain ⟨y, hy, rfl⟩ := Option.map_eq_some_iff.1 ht
    exact move_shows (.inl ho) hy hg hd hs
  case assign x =>
    obtain ⟨y, hy, rfl⟩ := Option.map_eq_some_iff.1 ht
    exact move_shows (.inr ho) hy hg hd hs
  case pick x y z =>
    split at ht
    · rename_i hx hy hz; cases ht; exact pick_shows ho hx hy hz hg hd hs
    · cases ht
  case alloc t =>
    obtain ⟨z, hz, rfl⟩ := Option.map_eq_some_iff.1 ht
    exact alloc_shows ho hz hg hd hs
  case box t x =>
    split at ht
    · rename_i n y hw hx; cases ht; exact box_shows ho hx hg hd hs
    · cases ht
  case build t ps =>
    split at ht
    · rename_i fs hu
      split at ht
      · rename_i places z l hpl hz hl
        cases hc : lenIs z (P.cellsOf t) <;> simp only [hc, cond_true, cond_false] at ht
        · cases ht
        · cases ht
          exact build_shows ho hu hpl hz hc hl hg hd hs
      · cases ht
    · rename_i n e hu
      split at ht
      · rename_i ie z hi hz hps
        cases ht
        exact buildArr_shows ho hu hi hz hps hg hd hs
      · cases ht
    · cases ht
  case buildSlice t len ps =>
    split at ht
    · rename_i e he
      split at ht
      · rename_i s ys hw hys
        cases hc : inOrder 0 ps.toList && Nat.beq ps.size len && Nat.ble (len * wdOf s) 10000 && ((P.info? e).bind (·.zero)).isSome <;> simp only [hc, cond_true, cond_false] at ht
        · cases ht
        · cases ht
          simp only [Bool.and_eq_true] at hc
          obtain ⟨⟨⟨h1, h2⟩, h3⟩, h4⟩ := hc
          exact buildSlice_shows ho he hw h4 hys h1 (beq_true h2) (Nat_ble h3) hg hd hs
      · cases ht
    · cases ht
  case load t x =>
    split at ht
    · rename_i n y hw hx; cases ht; exact load_shows ho hw hx hg hd hs
    · cases ht
  case store t x v =>
    split at ht
    · rename_i n y z hw hx hy
      cases ht
      have hn : o.dst = none := by
        unfold storeOk at hst
        rw [ho] at hst
        simpa using hst
      exact store_shows ho hw hx hy hg hd hn hs
    · cases ht
  case binOp op t x y u =>
    split at ht
    · rename_i x' y' hx hy
      cases hp : plainT P t <;> simp only [hp, cond_true, cond_false] at ht
      · split at ht
        · rename_i hu; cases ht; exact binB_shows ho hu hx hy hg hd hs
        · cases ht
      · cases ht; exact bin_shows ho hp hx hy hg hd hs
    · cases ht
  case unOp op t x =>
    obtain ⟨y, hy, rfl⟩ := Option.map_eq_some_iff.1 ht
    exact un_shows ho hy hg hd hs
  case convert src dst x =>
    split at ht
    · rename_i h1 h2
      obtain ⟨y, hy, rfl⟩ := Option.map_eq_some_iff.1 ht
      exact conv_shows ho h1 h2 hy hg hd hs
    · rename_i h1 h2
      split at ht
      · rename_i h3
        obtain ⟨y, hy, rfl⟩ := Option.map_eq_some_iff.1 ht
        exact bytesToStr_shows ho h1 h3 h2 hy hg hd hs
      · cases ht
    · cases ht
  case makeSlice t l cc =>
    cases hc : sameOpd l cc <;> simp only [hc, cond_true, cond_false] at ht
    · cases ht
    · split at ht
      · rename_i e he
        split at ht
        · rename_i s inf z y hw hi hz hl
          cases hc2 : Nat.ble 1 inf.bytes && z.fits s <;> simp only [hc2, cond_true, cond_false] at ht
          · cases ht
          · cases ht
            obtain ⟨h1, h2⟩ := Bool.and_eq_true_iff.1 hc2
            exact makeSlice_shows ho hc he hw hi (Nat_ble h1) hz h2 hl hg hd hs
        · cases ht
      · cases ht
  case slice t x lo hi mx =>
    cases mx with
    | some m => cases ht
    | none =>
      simp only at ht
      split at ht
      · rename_i x' lo' hi' hu hx hlo hhi
        cases ht
        exact strSlice_shows ho hu hx hlo hhi hg hd hs
      · rename_i e x' lo' hi' hu hx hlo hhi
        obtain ⟨s, hw, rfl⟩ := Option.map_eq_some_iff.1 ht
        exact slice_shows ho hu hw hx hlo hhi hg hd hs
      · cases ht
  case fieldAddr s x f =>
    split at ht
    · rename_i off n y hf hx; cases ht; exact fieldAddr_shows ho hf hx hg hd hs
    · cases ht
  case field s x f =>
    split at ht
    · rename_i off n y hf hx; cases ht; exact field_shows ho hf hx hg hd hs
    · cases ht
  case indexAddr t x i =>
    split at ht
    · rename_i n e harr
      split at ht
      · rename_i s x' i' hw hx hi
        cases ht
        exact indexArr_shows ho harr hw hx hi hg hd hs
      · cases ht
    · split at ht
      · rename_i s x' i' hw hx hi
        cases ht
        obtain ⟨e, he, hw⟩ := Option.bind_eq_some_iff.1 hw
        exact indexAddr_shows ho he hw hx hi hg hd hs
      · cases ht
  case index t x i =>
    split at ht
    · rename_i x' i' hu hx hi; cases ht; exact strIdx_shows ho hu hx hi hg hd hs
    · cases ht
  case extract x j =>
    obtain ⟨y, hy, rfl⟩ := Option.map_eq_some_iff.1 ht
    exact extract_shows ho hy hg hd hs
  case call cc => exact trCall_shows ho ht hall hg hd hs
  case makeFunc t first caps =>
    cases t <;> simp only at ht <;> try cases ht
    rename_i f
    cases hc : first.isEmpty <;> simp only [hc, cond_true, cond_false] at ht
    · cases ht
    · obtain ⟨ys, hys, rfl⟩ := Option.map_eq_some_iff.1 ht
      exact mkfn_shows ho hc hys hg hd hs
  case nilCheck x =>
    obtain ⟨y, hy, rfl⟩ := Option.map_eq_some_iff.1 ht
    exact nilCheck_shows ho hy hg hd hs
  all_goals cases ht

end Go.Proofs.YtbgkalolmichdaaA
