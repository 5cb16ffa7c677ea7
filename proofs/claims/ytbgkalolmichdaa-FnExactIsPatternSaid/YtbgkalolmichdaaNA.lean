/- Names and texts: what the small functions on bytes answer. Conditions: none beyond those that each lemma names. -/
import Derived.Test.YtbgkalolmichdaaDA
namespace Go.Proofs.YtbgkalolmichdaaA
open Go Go.Proofs
set_option linter.unusedVariables false
set_option linter.unusedSimpArgs false
set_option maxRecDepth 20000
attribute [local simp ↓] X_skip X_exit X_ret X_region XD_eq X_seq X_cond X_block X_forget X_loop O_nil O_cons str_eq
attribute [local simp] Log.idle MOper.log Opd.tmps MOp.opds Gets_some A_true B_some B_none C_true C_false boolOf guardSays outOf stepK asPv St.opd St.tmp St.obj St.put St.apply look forgetS keep1 keepBox keepCells nodupB lenIs nth setN part_zero part_skip part_cons putN PV.asInt PV.asNum PV.asBool PV.asStr PV.asSl PV.cells PV.isAgg PV.one PV.fits PV.cell
  slK pv1 pvs toPV share1 share cellsK wdA partOf partOk intBin strBin boolBin binPV unPV pickAV capsOf argOf argsOf backK imp1 impL imp isFree allFree callK setElem partsK elemsOf optInt capIds enter resOf resAll outsOf leave ble_dec beq_dec int_bne int_beq

def inR (a b n : Int) : Bool := decide (a ≤ n) && decide (n ≤ b)
theorem inR_yes {a b n : Int} (h1 : a ≤ n) (h2 : n ≤ b) : inR a b n = true := by simp [inR, h1, h2]
theorem inR_lo {a b n : Int} (h1 : ¬ a ≤ n) : inR a b n = false := by simp [inR, h1]
theorem inR_hi {a b n : Int} (h1 : ¬ n ≤ b) : inR a b n = false := by simp [inR, h1]
def lower (n : Int) : Bool := inR 97 122 n
def digit (n : Int) : Bool := inR 48 57 n
def nameB (n : Int) : Bool := lower n || digit n || decide (n = 45)
def textB (n : Int) : Bool := inR 32 126 n

theorem run_l1In (a b n : Int) : EV 58 [.pv (.int .i64 n), .pv (.int .i64 a), .pv (.int .i64 b)] = some ([], .pv (.bool (inR a b n))) := by
  refine run (c := m58c) code58 rfl rfl rfl ?_
  by_cases c1 : a ≤ n
  · by_cases c2 : n ≤ b
    · simp -implicitDefEqProofs (maxSteps := 2000000) [c1, c2, inR]
    · simp -implicitDefEqProofs (maxSteps := 2000000) [c1, c2, inR]
  · simp -implicitDefEqProofs (maxSteps := 2000000) [c1, inR]
theorem run_isLower (n : Int) : EV 81 [.pv (.int .u8 n)] = some ([], .pv (.bool (lower n))) := by
  refine run (c := m81c) code81 rfl rfl rfl ?_
  by_cases c1 : 97 ≤ n
  · by_cases c2 : n ≤ 122
    · simp -implicitDefEqProofs (maxSteps := 2000000) [c1, c2, lower, inR]
    · simp -implicitDefEqProofs (maxSteps := 2000000) [c1, c2, lower, inR]
  · simp -implicitDefEqProofs (maxSteps := 2000000) [c1, lower, inR]
theorem run_isDigit (n : Int) : EV 96 [.pv (.int .u8 n)] = some ([], .pv (.bool (digit n))) := by
  refine run (c := m96c) code96 rfl rfl rfl ?_
  by_cases c1 : 48 ≤ n
  · by_cases c2 : n ≤ 57
    · simp -implicitDefEqProofs (maxSteps := 2000000) [c1, c2, digit, inR]
    · simp -implicitDefEqProofs (maxSteps := 2000000) [c1, c2, digit, inR]
  · simp -implicitDefEqProofs (maxSteps := 2000000) [c1, digit, inR]
theorem run_isNameByte (n : Int) : EV 82 [.pv (.int .u8 n)] = some ([], .pv (.bool (nameB n))) := by
  refine run (c := m82c) code82 rfl rfl rfl ?_
  have h1 := run_isLower n
  have h2 := run_isDigit n
  unfold nameB
  cases hl : lower n with
  | true => simp -implicitDefEqProofs (maxSteps := 2000000) [h1, hl]
  | false =>
    cases hd : digit n with
    | true => simp -implicitDefEqProofs (maxSteps := 2000000) [h1, h2, hl, hd]
    | false =>
      by_cases c : n = 45
      · subst c; simp -implicitDefEqProofs (maxSteps := 2000000) [h1, h2, hl, hd]
      · simp -implicitDefEqProofs (maxSteps := 2000000) [h1, h2, hl, hd, c]

/-! ### Texts -/
def textBs (l : List UInt8) : Bool := l.all fun b => textB b.toNat
def textOk (s : Str) : Bool := textBs (bs s) && decide ((s.size : Int) ≤ 40)

theorem run_impl_IsText (s : Str) (hs : s.size ≤ 9223372036854775807) : EV 65 [.pv (.str s)] = some ([], .pv (.bool (textOk s))) := by
  refine run (c := m65c) code65 rfl rfl rfl ?_
  simp -implicitDefEqProofs (maxSteps := 2000000)
  refine LX_str s (fun i (_ : Unit) => ⟨[(3, .pv (.int .i64 i)), (0, .pv (.str s))], []⟩) (fun rest _ => ([], XV.pv (.bool (textBs rest && decide ((s.size : Int) ≤ 40))))) (fun _ _ => True) hs (fun i _ _ hi c => ?_) (fun i e rest _ _ he h0 c hd hx hw hb IH => ?_) 0 () (by omega) (by omega) trivial
  · simp -implicitDefEqProofs (maxSteps := 2000000) [c, textBs]
  · by_cases c1 : (e.toNat : Int) < 32
    · have : textB e.toNat = false := inR_lo (by omega)
      simp -implicitDefEqProofs (maxSteps := 2000000) [c, hx, hw, c1, textBs, this]
    · by_cases c2 : (126 : Int) < e.toNat
      · have : textB e.toNat = false := inR_hi (by omega)
        simp -implicitDefEqProofs (maxSteps := 2000000) [c, hx, hw, c1, c2, textBs, this]
      · have : textB e.toNat = true := inR_yes (by omega) (by omega)
        have e1 : textBs (e :: rest) = textBs rest := by simp [textBs, this]
        simp -implicitDefEqProofs (maxSteps := 2000000) [c, hx, hw, c1, c2, e1]
        exact IH () trivial

theorem run_spec_IsText (s : Str) (hs : s.size ≤ 9223372036854775807) : EV 59 [.pv (.str s)] = some ([], .pv (.bool (textOk s))) := by
  refine run (c := m59c) code59 rfl rfl rfl ?_
  simp -implicitDefEqProofs (maxSteps := 2000000)
  refine LX_str s (fun i (_ : Unit) => ⟨[(3, .pv (.int .i64 i)), (0, .pv (.str s))], []⟩) (fun rest _ => ([], XV.pv (.bool (textBs rest && decide ((s.size : Int) ≤ 40))))) (fun _ _ => True) hs (fun i _ _ hi c => ?_) (fun i e rest _ _ he h0 c hd hx hw hb IH => ?_) 0 () (by omega) (by omega) trivial
  · simp -implicitDefEqProofs (maxSteps := 2000000) [c, textBs]
  · have h1 := run_l1In 32 126 e.toNat
    have hc : IntKind.i64.wrap (e.toNat : Int) = e.toNat := wrap_in (by omega) (by omega)
    cases ht : inR 32 126 (e.toNat : Int) with
    | false =>
      rw [ht] at h1
      simp -implicitDefEqProofs (maxSteps := 2000000) [c, hx, hw, hc, h1, textBs, show textB e.toNat = false from ht]
    | true =>
      rw [ht] at h1
      have e1 : textBs (e :: rest) = textBs rest := by simp [textBs, show textB e.toNat = true from ht]
      simp -implicitDefEqProofs (maxSteps := 2000000) [c, hx, hw, hc, h1, e1]
      exact IH () trivial

/-! ### Names -/
def nameBs (l : List UInt8) : Bool := l.all fun b => nameB b.toNat
def lastOk (s : Str) : Bool := match (bs s).getLast? with | some b => decide (b.toNat ≠ 45) | none => false
def nameOk (s : Str) : Bool := match bs s with
  | [] => false
  | b :: l => decide ((s.size : Int) ≤ 16) && lower b.toNat && nameBs l && lastOk s
theorem last_at {s : Str} (h : 0 < s.size) : ∃ b, (bs s).getLast? = some b ∧ sidx s (s.size - 1) = some (b.toNat : Int) := by
  obtain ⟨b, _, h1, _, h2⟩ := sidx_b (s := s) (i := s.size - 1) (by omega) (by omega)
  refine ⟨b, ?_, h2⟩
  rw [List.getLast?_eq_getElem?, ← h1]
  congr 1; rw [← size_bs]; omega

theorem run_impl_IsName (s : Str) (hs : s.size ≤ 9223372036854775807) : EV 69 [.pv (.str s)] = some ([], .pv (.bool (nameOk s))) := by
  refine run (c := m69c) code69 rfl rfl rfl ?_
  by_cases c0 : (s.size : Int) < 1
  · have : bs s = [] := by rw [← List.length_eq_zero_iff, ← size_bs]; omega
    have e1 : nameOk s = false := by simp [nameOk, this]
    simp -implicitDefEqProofs (maxSteps := 2000000) [c0, e1]
  · obtain ⟨b, hb, _, hd, hx⟩ := sidx_b (s := s) (i := 0) (by omega) (by omega)
    have hd : bs s = b :: (bs s).drop 1 := hd
    have e1 : nameOk s = (decide ((s.size : Int) ≤ 16) && lower b.toNat && nameBs ((bs s).drop 1) && lastOk s) := by unfold nameOk; rw [hd]; rfl
    by_cases c1 : 16 < (s.size : Int)
    · have : ¬ (s.size : Int) ≤ 16 := by omega
      simp -implicitDefEqProofs (maxSteps := 2000000) [c0, c1, e1, this]
    · have c2 : (s.size : Int) ≤ 16 := by omega
      have h1 := run_isLower b.toNat
      cases hl : lower (b.toNat : Int) with
      | false =>
        rw [hl] at h1
        simp -implicitDefEqProofs (maxSteps := 2000000) [c0, c1, hx, h1, e1, hl]
      | true =>
        rw [hl] at h1
        simp -implicitDefEqProofs (maxSteps := 2000000) [c0, c1, hx, h1, e1, hl, c2]
        rw [← List.drop_one]
        refine LX_str s (fun i (_ : Unit) => ⟨[(3, .pv (.int .i64 i)), (0, .pv (.str s))], []⟩) (fun rest _ => ([], XV.pv (.bool (nameBs rest && lastOk s)))) (fun _ _ => True) hs (fun i _ _ hi c => ?_) (fun i e rest _ _ he h0 c hd hx hw hb IH => ?_) 1 () (by omega) (by omega) trivial
        · obtain ⟨z, hz, hx2⟩ := last_at (s := s) (by omega)
          have hw : IntKind.i64.wrap ((s.size : Int) - 1) = s.size - 1 := wrap_in (by omega) (by omega)
          by_cases cz : (z.toNat : Int) = 45
          · have : lastOk s = false := by simp [lastOk, hz]; omega
            simp -implicitDefEqProofs (maxSteps := 2000000) [c, nameBs, this, hw, hx2, cz]
          · have : lastOk s = true := by simp [lastOk, hz]; omega
            simp -implicitDefEqProofs (maxSteps := 2000000) [c, nameBs, this, hw, hx2, cz]
        · have h2 := run_isNameByte e.toNat
          cases hn : nameB (e.toNat : Int) with
          | false =>
            rw [hn] at h2
            have e1 : nameBs (e :: rest) = false := by simp [nameBs, hn]
            simp -implicitDefEqProofs (maxSteps := 2000000) [c, hx, hw, h2, e1]
          | true =>
            rw [hn] at h2
            have e1 : nameBs (e :: rest) = nameBs rest := by simp [nameBs, hn]
            simp -implicitDefEqProofs (maxSteps := 2000000) [c, hx, hw, h2, e1]
            exact IH () trivial

/-- What the reference's loop says of a name's bytes: the first of them a letter. -/
def nameAll (first : Bool) : List UInt8 → Bool
  | [] => true
  | b :: l => (lower b.toNat || !first && (digit b.toNat || decide ((b.toNat : Int) = 45))) && nameAll false l
theorem nameAll_bs : ∀ l : List UInt8, nameAll false l = nameBs l
  | [] => rfl
  | b :: l => by
    rw [nameAll, nameAll_bs l]
    simp [nameBs, nameB, Bool.or_assoc]
theorem nameOk_eq (s : Str) : nameOk s = (nameAll true (bs s) && (decide ((1 : Int) ≤ s.size) && decide ((s.size : Int) ≤ 16) && lastOk s)) := by
  unfold nameOk
  have h := size_bs s
  cases hl : bs s with
  | nil => rw [hl] at h; simp at h; simp [h]
  | cons b l =>
    rw [hl] at h; simp at h
    have : (1 : Int) ≤ s.size := by omega
    rw [nameAll, nameAll_bs]
    simp only [this, decide_true, Bool.true_and, Bool.not_true, Bool.false_and, Bool.or_false]
    cases decide ((s.size : Int) ≤ 16) <;> cases lower (b.toNat : Int) <;> cases nameBs l <;> cases lastOk s <;> rfl

theorem run_spec_IsName (s : Str) (hs : s.size ≤ 9223372036854775807) : EV 56 [.pv (.str s)] = some ([], .pv (.bool (nameOk s))) := by
  refine run (c := m56c) code56 rfl rfl rfl ?_
  rw [nameOk_eq]
  simp -implicitDefEqProofs (maxSteps := 2000000)
  refine LX_str s (fun i (_ : Bool) => ⟨[(3, .pv (.int .i64 i)), (0, .pv (.str s))], []⟩) (fun rest f => ([], XV.pv (.bool (nameAll f rest && (decide ((1 : Int) ≤ s.size) && decide ((s.size : Int) ≤ 16) && lastOk s))))) (fun i f => f = decide (i = 0)) hs (fun i f hf hi c => ?_) (fun i e rest f hf he h0 c hd hx hw hb IH => ?_) 0 true (by omega) (by omega) rfl
  · have h1 := run_l1In 1 16 s.size
    cases ht : inR 1 16 (s.size : Int) with
    | false =>
      rw [ht] at h1
      have : (decide ((1 : Int) ≤ s.size) && decide ((s.size : Int) ≤ 16)) = false := ht
      simp -implicitDefEqProofs (maxSteps := 2000000) [c, h1, nameAll, this]
    | true =>
      rw [ht] at h1
      have e1 : (decide ((1 : Int) ≤ s.size) && decide ((s.size : Int) ≤ 16)) = true := ht
      have e2 := e1
      simp only [Bool.and_eq_true, decide_eq_true_eq] at e2
      obtain ⟨z, hz, hx2⟩ := last_at (s := s) (by omega)
      have hw : IntKind.i64.wrap ((s.size : Int) - 1) = s.size - 1 := wrap_in (by omega) (by omega)
      by_cases cz : (z.toNat : Int) = 45
      · have : lastOk s = false := by simp [lastOk, hz]; omega
        simp -implicitDefEqProofs (maxSteps := 2000000) [c, h1, nameAll, e1, this, hw, hx2, cz]
      · have : lastOk s = true := by simp [lastOk, hz]; omega
        simp -implicitDefEqProofs (maxSteps := 2000000) [c, h1, nameAll, e1, this, hw, hx2, cz]
  · have hc : IntKind.i64.wrap (e.toNat : Int) = e.toNat := wrap_in (by omega) (by omega)
    have h1 := run_l1In 97 122 e.toNat
    have h2 := run_l1In 48 57 e.toNat
    have hn : decide (i + 1 = 0) = false := by simp; omega
    have IH := IH false hn.symm
    rw [nameAll]
    unfold lower digit
    cases hl : inR 97 122 (e.toNat : Int) with
    | true =>
      rw [hl] at h1
      simp -implicitDefEqProofs (maxSteps := 2000000) [c, hx, hw, hc, h1]
      exact IH
    | false =>
      rw [hl] at h1
      by_cases ci : i = 0
      · subst ci
        have c' : 0 < s.size := by omega
        simp -implicitDefEqProofs (maxSteps := 2000000) [c', hx, hw, hc, h1, hf]
      · have : f = false := by rw [hf]; simp [ci]
        cases hg : inR 48 57 (e.toNat : Int) with
        | true =>
          rw [hg] at h2
          simp -implicitDefEqProofs (maxSteps := 2000000) [c, hx, hw, hc, h1, h2, ci, this]
          exact IH
        | false =>
          rw [hg] at h2
          by_cases cd : (e.toNat : Int) = 45
          · have cd := decide_eq_true cd
            simp -implicitDefEqProofs (maxSteps := 2000000) [c, hx, hw, hc, h1, h2, ci, this, cd]
            exact IH
          · simp -implicitDefEqProofs (maxSteps := 2000000) [c, hx, hw, hc, h1, h2, ci, this, cd]

end Go.Proofs.YtbgkalolmichdaaA
