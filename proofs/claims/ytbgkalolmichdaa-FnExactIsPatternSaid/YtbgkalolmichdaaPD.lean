/- Patterns: what the readers answer, as one plain function. Conditions: none. -/
import Derived.Test.YtbgkalolmichdaaPC
import Derived.Test.YtbgkalolmichdaaPT
namespace Go.Proofs.YtbgkalolmichdaaA
open Go Go.Proofs

def fin (op : Int) (acc : List Pt) : Pt := match acc with | [p] => p | _ => .mk op ⟨#[]⟩ acc
def suffix (p : Pt) (r : List UInt8) : Pt × List UInt8 :=
  match r with
  | [] => (p, [])
  | b :: r' => if b = 42 then (.mk 4 ⟨#[]⟩ [p], r') else if b = 43 then (.mk 2 ⟨#[]⟩ [p, .mk 4 ⟨#[]⟩ [p]], r') else if b = 63 then (.mk 5 ⟨#[]⟩ [p], r') else (p, b :: r')
def stops (r : List UInt8) : Bool := match r with | [] => true | b :: _ => decide (b = 124) || decide (b = 41)
def close (m : Option (Pt × List UInt8)) : Option (Pt × List UInt8) := match m with
  | some (p, b :: r) => if b = 41 then some (p, r) else none
  | _ => none
def one (b : UInt8) : Bool := lower b.toNat || digit b.toNat || decide (b = 45)
def charPt (l : List UInt8) : Pt := .mk 1 (mkS l) []
mutual
def pAtom (r : List UInt8) : Option (Pt × List UInt8) :=
  match r with
  | [] => none
  | b :: r' => if b = 40 then close (pAlt r') else if b = 91 then mcls (cls r' noB true) else if b = 46 then some (charPt anyTxt, r') else if one b then some (charPt [b], r') else none
termination_by (r.length, 0)
def pItem (r : List UInt8) : Option (Pt × List UInt8) := match pAtom r with
  | none => none
  | some (p, r2) => some (suffix p r2)
termination_by (r.length, 1)
def pSeq (r : List UInt8) (acc : List Pt) : Option (Pt × List UInt8) := if stops r then some (fin 2 acc, r) else match pItem r with
  | none => none
  | some (p, r2) => if r2.length < r.length then pSeq r2 (acc ++ [p]) else none
termination_by (r.length, 2)
def pAlts (r : List UInt8) (acc : List Pt) : Option (Pt × List UInt8) :=
  match r with
  | [] => some (fin 3 acc, [])
  | b :: r' => if b = 124 then (match pSeq r' [] with
      | none => none
      | some (p, r2) => if r2.length ≤ r'.length then pAlts r2 (acc ++ [p]) else none) else some (fin 3 acc, b :: r')
termination_by (r.length, 3)
def pAlt (r : List UInt8) : Option (Pt × List UInt8) := match pSeq r [] with
  | none => none
  | some (p, r2) => if r2.length ≤ r.length then pAlts r2 [p] else none
termination_by (r.length, 4)
decreasing_by
  · exact Prod.Lex.right _ (by omega)
  · rename_i h
    rcases Nat.lt_or_eq_of_le h with h | h
    · exact Prod.Lex.left _ _ h
    · rw [h]; exact Prod.Lex.right _ (by omega)
end

theorem cls_len : ∀ (n : Nat) (r : List UInt8) (has : List Bool) (f : Bool) (x : List Bool) (r2 : List UInt8), r.length ≤ n → cls r has f = some (x, r2) → r2.length < r.length := by
  intro n
  induction n with
  | zero =>
    intro r has f x r2 hn h
    have : r = [] := List.length_eq_zero_iff.1 (by omega)
    subst this; rw [cls] at h; cases h
  | succ n ih =>
    intro r has f x r2 hn h
    cases r with
    | nil => rw [cls] at h; cases h
    | cons a r =>
      rw [cls] at h
      split at h
      · cases h; simp
      · split at h
        · cases h
        · split at h
          · cases h
          · rename_i z r' hc
            have h1 := (cstep_len hc).1
            simp only [List.length_cons] at hn ⊢
            have := ih r' _ _ _ _ (by omega) h
            omega
theorem suffix_len (p : Pt) (r : List UInt8) : (suffix p r).2.length ≤ r.length := by
  unfold suffix
  split
  · simp
  · split
    · simp
    · split
      · simp
      · split <;> simp

theorem p_len : ∀ (n : Nat) (r : List UInt8), r.length ≤ n → (∀ p r2, pAtom r = some (p, r2) → r2.length < r.length) ∧ (∀ p r2, pItem r = some (p, r2) → r2.length < r.length) ∧ (∀ acc p r2, pSeq r acc = some (p, r2) → r2.length ≤ r.length) ∧ (∀ acc p r2, pAlts r acc = some (p, r2) → r2.length ≤ r.length) ∧ (∀ p r2, pAlt r = some (p, r2) → r2.length ≤ r.length) := by
  intro n
  induction n with
  | zero =>
    intro r hr
    have : r = [] := List.length_eq_zero_iff.1 (by omega)
    subst this
    have hs : ∀ acc, pSeq [] acc = some (fin 2 acc, []) := fun acc => by rw [pSeq]; rfl
    have ha : ∀ acc, pAlts [] acc = some (fin 3 acc, []) := fun acc => by rw [pAlts]
    refine ⟨fun p r2 h => ?_, fun p r2 h => ?_, fun acc p r2 h => ?_, fun acc p r2 h => ?_, fun p r2 h => ?_⟩
    · rw [pAtom] at h; cases h
    · rw [pItem, pAtom] at h; cases h
    · rw [hs] at h; cases h; simp
    · rw [ha] at h; cases h; simp
    · rw [pAlt, hs] at h; simp only [List.length_nil, Nat.le_refl, if_true, ha] at h; cases h; simp
  | succ n ih =>
    intro r hr
    have atom : ∀ p r2, pAtom r = some (p, r2) → r2.length < r.length := fun p r2 h => by
      cases r with
      | nil => rw [pAtom] at h; cases h
      | cons b r' =>
        simp only [List.length_cons] at hr ⊢
        rw [pAtom] at h
        split at h
        · unfold close at h
          split at h
          · rename_i q c r3 hq
            split at h
            · cases h
              have := (ih r' (by omega)).2.2.2.2 _ _ hq
              simp at this; omega
            · cases h
          · cases h
        · split at h
          · unfold mcls at h
            obtain ⟨x, hx, e⟩ := Option.map_eq_some_iff.1 h
            cases e
            have := cls_len _ _ _ _ _ _ (Nat.le_refl _) hx
            omega
          · split at h
            · cases h; omega
            · split at h
              · cases h; omega
              · cases h
    have item : ∀ p r2, pItem r = some (p, r2) → r2.length < r.length := fun p r2 h => by
      rw [pItem] at h
      split at h
      · cases h
      · rename_i q r3 hq
        have := atom _ _ hq
        have h2 := suffix_len q r3
        have h3 := congrArg Prod.snd (Option.some.inj h)
        simp only at h3
        rw [h3] at h2
        omega
    have seq : ∀ acc p r2, pSeq r acc = some (p, r2) → r2.length ≤ r.length := fun acc p r2 h => by
      rw [pSeq] at h
      split at h
      · cases h; exact Nat.le_refl _
      · split at h
        · cases h
        · rename_i q r3 hq
          split at h
          · have := (ih r3 (by omega)).2.2.1 _ _ _ h
            omega
          · cases h
    have alts : ∀ acc p r2, pAlts r acc = some (p, r2) → r2.length ≤ r.length := fun acc p r2 h => by
      cases r with
      | nil => rw [pAlts] at h; cases h; simp
      | cons b r' =>
        simp only [List.length_cons] at hr ⊢
        rw [pAlts] at h
        split at h
        · split at h
          · cases h
          · rename_i q r3 hq
            split at h
            · have := (ih r3 (by omega)).2.2.2.1 _ _ _ h
              omega
            · cases h
        · cases h; simp
    refine ⟨atom, item, seq, alts, fun p r2 h => ?_⟩
    rw [pAlt] at h
    split at h
    · cases h
    · rename_i q r3 hq
      split at h
      · rename_i hle
        by_cases e : r3.length = r.length
        · cases r3 with
          | nil => rw [pAlts] at h; cases h; simp
          | cons b r' =>
            rw [pAlts] at h
            split at h
            · split at h
              · cases h
              · rename_i q2 r4 hq2
                split at h
                · have := (ih r4 (by simp at e; omega)).2.2.2.1 _ _ _ h
                  simp at e; omega
                · cases h
            · cases h; omega
        · have := (ih r3 (by omega)).2.2.2.1 _ _ _ h
          omega
      · cases h

theorem pSeq_step {r r2 : List UInt8} {acc : List Pt} {p : Pt} (hs : stops r = false) (h : pItem r = some (p, r2)) : pSeq r acc = pSeq r2 (acc ++ [p]) := by
  rw [pSeq, hs, h]
  have := (p_len _ r (Nat.le_refl _)).2.1 _ _ h
  simp [this]
theorem pSeq_none {r : List UInt8} {acc : List Pt} (hs : stops r = false) (h : pItem r = none) : pSeq r acc = none := by
  rw [pSeq, hs, h]; simp
theorem pSeq_stop {r : List UInt8} {acc : List Pt} (hs : stops r = true) : pSeq r acc = some (fin 2 acc, r) := by
  rw [pSeq, hs]; simp
theorem pAlts_step {r r2 : List UInt8} {acc : List Pt} {p : Pt} (h : pSeq r [] = some (p, r2)) : pAlts (124 :: r) acc = pAlts r2 (acc ++ [p]) := by
  rw [pAlts, if_pos rfl, h]
  have := (p_len _ r (Nat.le_refl _)).2.2.1 _ _ _ h
  simp [this]
theorem pAlts_none {r : List UInt8} {acc : List Pt} (h : pSeq r [] = none) : pAlts (124 :: r) acc = none := by
  rw [pAlts, if_pos rfl, h]
theorem pAlts_stop {r : List UInt8} {acc : List Pt} (h : ∀ r', r ≠ 124 :: r') : pAlts r acc = some (fin 3 acc, r) := by
  cases r with
  | nil => rw [pAlts]
  | cons b r' =>
    rw [pAlts, if_neg]
    rintro rfl; exact h r' rfl
theorem pAlt_step {r r2 : List UInt8} {p : Pt} (h : pSeq r [] = some (p, r2)) : pAlt r = pAlts r2 [p] := by
  rw [pAlt, h]
  have := (p_len _ r (Nat.le_refl _)).2.2.1 _ _ _ h
  simp [this]
theorem pAlt_none {r : List UInt8} (h : pSeq r [] = none) : pAlt r = none := by rw [pAlt, h]

theorem fin_sm {op : Int} {acc : List Pt} (h1 : acc.length ≤ 1000) (h2 : Pt.sms acc) : (fin op acc).sm := by
  match acc with
  | [] => simp only [fin, Pt.sm]; exact ⟨h1, h2⟩
  | [p] => rw [Pt.sms] at h2; exact h2.1
  | a :: b :: c => simp only [fin, Pt.sm]; exact ⟨h1, h2⟩
theorem suffix_sm {p : Pt} {r : List UInt8} (h : p.sm) : (suffix p r).1.sm := by
  have h1 : (Pt.mk 4 ⟨#[]⟩ [p]).sm := by simp only [Pt.sm, Pt.sms, List.length_cons, List.length_nil]; exact ⟨by omega, h, trivial⟩
  unfold suffix
  split
  · exact h
  · split
    · exact h1
    · split
      · simp only [Pt.sm, Pt.sms, List.length_cons, List.length_nil]; rw [Pt.sm] at h1; exact ⟨by omega, h, ⟨by omega, h, trivial⟩, trivial⟩
      · split
        · simp only [Pt.sm, Pt.sms, List.length_cons, List.length_nil]; exact ⟨by omega, h, trivial⟩
        · exact h
theorem charPt_sm (l : List UInt8) : (charPt l).sm := by simp only [charPt, Pt.sm, Pt.sms, List.length_nil]; exact ⟨by omega, trivial⟩
theorem p_sm : ∀ (n : Nat) (r : List UInt8), r.length ≤ n → r.length ≤ 900 → (∀ p r2, pAtom r = some (p, r2) → p.sm) ∧ (∀ p r2, pItem r = some (p, r2) → p.sm) ∧ (∀ acc p r2, pSeq r acc = some (p, r2) → acc.length + r.length ≤ 1000 → Pt.sms acc → p.sm) ∧ (∀ acc p r2, pAlts r acc = some (p, r2) → acc.length + r.length ≤ 1000 → Pt.sms acc → p.sm) ∧ (∀ p r2, pAlt r = some (p, r2) → p.sm) := by
  intro n
  induction n with
  | zero =>
    intro r hr _
    have : r = [] := List.length_eq_zero_iff.1 (by omega)
    subst this
    have hs : ∀ acc, pSeq [] acc = some (fin 2 acc, []) := fun acc => by rw [pSeq]; rfl
    have ha : ∀ acc, pAlts [] acc = some (fin 3 acc, []) := fun acc => by rw [pAlts]
    refine ⟨fun p r2 h => ?_, fun p r2 h => ?_, fun acc p r2 h h1 h2 => ?_, fun acc p r2 h h1 h2 => ?_, fun p r2 h => ?_⟩
    · rw [pAtom] at h; cases h
    · rw [pItem, pAtom] at h; cases h
    · rw [hs] at h; cases h; exact fin_sm (by simp at h1; omega) h2
    · rw [ha] at h; cases h; exact fin_sm (by simp at h1; omega) h2
    · rw [pAlt, hs] at h; simp only [List.length_nil, Nat.le_refl, if_true, ha] at h; cases h; exact fin_sm (by simp) (by rw [Pt.sms, Pt.sms]; exact ⟨fin_sm (by simp) trivial, trivial⟩)
  | succ n ih =>
    intro r hr hr9
    have atom : ∀ p r2, pAtom r = some (p, r2) → p.sm := fun p r2 h => by
      cases r with
      | nil => rw [pAtom] at h; cases h
      | cons b r' =>
        simp only [List.length_cons] at hr hr9
        rw [pAtom] at h
        split at h
        · unfold close at h
          split at h
          · rename_i q c r3 hq
            split at h
            · cases h
              exact (ih r' (by omega) (by omega)).2.2.2.2 _ _ hq
            · cases h
          · cases h
        · split at h
          · unfold mcls at h
            obtain ⟨x, hx, e⟩ := Option.map_eq_some_iff.1 h
            cases e
            simp only [charsP, Pt.sm, Pt.sms, List.length_nil]; exact ⟨by omega, trivial⟩
          · split at h
            · cases h; exact charPt_sm _
            · split at h
              · cases h; exact charPt_sm _
              · cases h
    have item : ∀ p r2, pItem r = some (p, r2) → p.sm := fun p r2 h => by
      rw [pItem] at h
      split at h
      · cases h
      · rename_i q r3 hq
        have := atom _ _ hq
        have h3 := congrArg Prod.fst (Option.some.inj h)
        simp only at h3
        rw [← h3]
        exact suffix_sm this
    have seq : ∀ acc p r2, pSeq r acc = some (p, r2) → acc.length + r.length ≤ 1000 → Pt.sms acc → p.sm := fun acc p r2 h h1 h2 => by
      rw [pSeq] at h
      split at h
      · cases h; exact fin_sm (by omega) h2
      · split at h
        · cases h
        · rename_i q r3 hq
          split at h
          · exact (ih r3 (by omega) (by omega)).2.2.1 _ _ _ h (by simp; omega) (Pt.sms_snoc h2 (item _ _ hq))
          · cases h
    have alts : ∀ acc p r2, pAlts r acc = some (p, r2) → acc.length + r.length ≤ 1000 → Pt.sms acc → p.sm := fun acc p r2 h h1 h2 => by
      cases r with
      | nil => rw [pAlts] at h; cases h; exact fin_sm (by omega) h2
      | cons b r' =>
        simp only [List.length_cons] at hr hr9 h1
        rw [pAlts] at h
        split at h
        · split at h
          · cases h
          · rename_i q r3 hq
            split at h
            · exact (ih r3 (by omega) (by omega)).2.2.2.1 _ _ _ h (by simp; omega) (Pt.sms_snoc h2 ((ih r' (by omega) (by omega)).2.2.1 _ _ _ hq (by simp; omega) trivial))
            · cases h
        · cases h; exact fin_sm (by omega) h2
    refine ⟨atom, item, seq, alts, fun p r2 h => ?_⟩
    rw [pAlt] at h
    split at h
    · cases h
    · rename_i q r3 hq
      have hsm : Pt.sms [q] := by rw [Pt.sms, Pt.sms]; exact ⟨seq _ _ _ hq (by simp; omega) trivial, trivial⟩
      split at h
      · rename_i hle
        cases r3 with
        | nil => rw [pAlts] at h; cases h; exact fin_sm (by simp) hsm
        | cons b r' =>
          simp only [List.length_cons] at hle
          rw [pAlts] at h
          split at h
          · split at h
            · cases h
            · rename_i q2 r4 hq2
              split at h
              · have s2 := (ih r' (by omega) (by omega)).2.2.1 _ _ _ hq2 (by simp; omega) trivial
                exact (ih r4 (by omega) (by omega)).2.2.2.1 _ _ _ h (by simp; omega) (Pt.sms_snoc hsm s2)
              · cases h
          · cases h; exact fin_sm (by simp) hsm
      · cases h
end Go.Proofs.YtbgkalolmichdaaA
