/- The program's reader of a class in a pattern, as functions; how it goes with the plain one. Conditions: none beyond those that each lemma names. -/
import Derived.Test.YtbgkalolmichdaaPD
namespace Go.Proofs.YtbgkalolmichdaaA
open Go Go.Proofs

def chOk (l : List UInt8) (i : Int) : Bool := match l.drop i.toNat with | [] => false | x :: _ => charB x.toNat
def chI (l : List UInt8) (i : Int) : Int := if chOk l i then i + 1 else i
def chV (l : List UInt8) (i : Int) : UInt8 := match l.drop i.toNat with | [] => 0 | x :: _ => if charB x.toNat then x else 0
def tk (l : List UInt8) (i : Int) (b : UInt8) : Bool := match l.drop i.toNat with | [] => false | x :: _ => decide (x = b)
def tkI (l : List UInt8) (i : Int) (b : UInt8) : Int := if tk l i b then i + 1 else i

theorem char_fn (l : List UInt8) (i : Int) (bad : Bool) (hl : l.length ≤ 1048576) (h0 : 0 ≤ i) (h1 : i ≤ l.length) :
    EV 116 [rdr l i bad] = some ([rdr l (chI l i) (bad || !chOk l i)], .pv (.int .u8 (chV l i).toNat)) := by
  rw [run_char l i bad hl h0 h1]
  unfold chI chV chOk
  cases l.drop i.toNat with
  | nil => simp
  | cons x r =>
    by_cases hc : charB (x.toNat : Int) = true <;> simp [hc]
theorem take_fn (l : List UInt8) (i : Int) (bad : Bool) (b : UInt8) (hl : l.length ≤ 1048576) (h0 : 0 ≤ i) (h1 : i ≤ l.length) :
    EV 86 [rdr l i bad, .pv (.int .u8 b.toNat)] = some ([rdr l (tkI l i b) bad], .pv (.bool (tk l i b))) := by
  rw [run_take l i bad b hl h0 h1]
  unfold tkI tk
  cases l.drop i.toNat with
  | nil => simp
  | cons x r =>
    simp only
    by_cases e : x = b <;> simp [e]
theorem in_lt {l : List UInt8} {i : Int} {x : UInt8} {r : List UInt8} (h : l.drop i.toNat = x :: r) (h0 : 0 ≤ i) : i < l.length := by
  have := congrArg List.length h; simp at this; omega
theorem chI_in {l : List UInt8} {i : Int} (h0 : 0 ≤ i) (h1 : i ≤ l.length) : i ≤ chI l i ∧ chI l i ≤ l.length ∧ (chOk l i = true → i + 1 ≤ chI l i) := by
  unfold chI chOk
  cases h : l.drop i.toNat with
  | nil => simp; omega
  | cons x r =>
    have := in_lt h h0
    by_cases hc : charB (x.toNat : Int) = true <;> simp [hc] <;> omega
theorem tkI_in {l : List UInt8} {i : Int} {b : UInt8} (h0 : 0 ≤ i) (h1 : i ≤ l.length) : i ≤ tkI l i b ∧ tkI l i b ≤ l.length := by
  unfold tkI tk
  cases h : l.drop i.toNat with
  | nil => simp; omega
  | cons x r =>
    have := in_lt h h0
    simp only
    by_cases e : x = b <;> simp [e] <;> omega

/-- One round of the program's loop: where it stands behind it, the upper end, whether something was wrong. -/
def rI (l : List UInt8) (i : Int) : Int := if tk l (chI l i) 126 then chI l (chI l i + 1) else chI l i
def rZ (l : List UInt8) (i : Int) : UInt8 := if tk l (chI l i) 126 then chV l (chI l i + 1) else chV l i
def rB (l : List UInt8) (i : Int) : Bool := !chOk l i || (tk l (chI l i) 126 && !chOk l (chI l i + 1)) || decide ((rZ l i).toNat < (chV l i).toNat)
theorem rI_in {l : List UInt8} {i : Int} (h0 : 0 ≤ i) (h1 : i ≤ l.length) : i ≤ rI l i ∧ rI l i ≤ l.length ∧ (rB l i = false → i + 1 ≤ rI l i) := by
  have a := chI_in h0 h1
  unfold rI rB
  cases ht : tk l (chI l i) 126 with
  | false =>
    simp only [Bool.false_eq_true, if_false]
    refine ⟨by omega, by omega, fun h => ?_⟩
    cases hc : chOk l i with
    | false => rw [hc] at h; simp at h
    | true => exact a.2.2 hc
  | true =>
    have hb : chI l i + 1 ≤ l.length := by
      have := tkI_in (b := 126) (l := l) (i := chI l i) (by omega) (by omega)
      unfold tkI at this; rw [ht] at this; simp at this; omega
    have b := chI_in (l := l) (i := chI l i + 1) (by omega) hb
    simp only [if_true]
    exact ⟨by omega, by omega, fun _ => by omega⟩
theorem round_cls {l : List UInt8} {i : Int} {has : List Bool} {f : Bool} (h0 : 0 ≤ i) (h1 : i ≤ l.length) (h93 : f = true ∨ tk l i 93 = false) :
    cls (l.drop i.toNat) has f = if rB l i then none else cls (l.drop (rI l i).toNat) (setR has (chV l i).toNat ((rZ l i).toNat + 1 - (chV l i).toNat)) false := by
  cases h : l.drop i.toNat with
  | nil =>
    have : chOk l i = false := by simp [chOk, h]
    rw [cls]; simp [rB, this]
  | cons x r =>
    have hx93 : ¬ (x = 93 ∧ f = false) := by
      rintro ⟨rfl, rfl⟩
      rcases h93 with h93 | h93
      · cases h93
      · simp [tk, h] at h93
    cases hc : charB (x.toNat : Int) with
    | false =>
      have : chOk l i = false := by simp [chOk, h, hc]
      rw [cls, if_neg hx93, if_pos hc]; simp [rB, this]
    | true =>
      have e1 : chOk l i = true := by simp [chOk, h, hc]
      have e2 : chV l i = x := by simp [chV, h, hc]
      have e3 : chI l i = i + 1 := by simp [chI, e1]
      have hd := drop_next h0 h
      have n93 := not93 hc
      cases r with
      | nil =>
        have t : tk l (i + 1) 126 = false := by simp [tk, hd]
        rw [cls_one n93 hc (show cstep x [] = some (x, []) from rfl)]
        simp [rB, rI, rZ, e1, e2, e3, t, hd]
      | cons y r2 =>
        by_cases hy : y = 126
        · subst hy
          have t : tk l (i + 1) 126 = true := by simp [tk, hd]
          have hd2 := drop_next (by omega) hd
          cases r2 with
          | nil =>
            have e4 : chOk l (i + 1 + 1) = false := by simp [chOk, hd2]
            rw [cls_bad n93 hc (show cstep x [126] = none from rfl)]
            simp [rB, e3, t, e4]
          | cons z r3 =>
            have hd3 := drop_next (by omega) hd2
            cases hz : charB (z.toNat : Int) with
            | false =>
              have e4 : chOk l (i + 1 + 1) = false := by simp [chOk, hd2, hz]
              rw [cls_bad n93 hc (by simp [cstep, hz])]
              simp [rB, e3, t, e4]
            | true =>
              have e4 : chOk l (i + 1 + 1) = true := by simp [chOk, hd2, hz]
              have e5 : chV l (i + 1 + 1) = z := by simp [chV, hd2, hz]
              have e6 : chI l (i + 1 + 1) = i + 1 + 1 + 1 := by simp [chI, e4]
              by_cases hza : z.toNat < x.toNat
              · rw [cls_bad n93 hc (by simp [cstep, hz]; omega)]
                simp [rB, rZ, e3, t, e2, e5, hza]
              · rw [cls_one n93 hc (show cstep x (126 :: z :: r3) = some (z, r3) by simp [cstep, hz]; omega)]
                simp [rB, rI, rZ, e1, e2, e3, t, e4, e5, e6, hza, hd3]
        · have t : tk l (i + 1) 126 = false := by simp [tk, hd, hy]
          rw [cls_one n93 hc (show cstep x (y :: r2) = some (x, y :: r2) by simp [cstep, hy])]
          simp [rB, rI, rZ, e1, e2, e3, t, hd]

/-- As Rok, and what was read has no long row. -/
def RokS (l : List UInt8) (m : Option (Pt × List UInt8)) (r : Res) : Prop :=
  ∃ (j : Int) (bad : Bool) (p : Pt), r = ([rdr l j bad], .pv p.pv) ∧ 0 ≤ j ∧ j ≤ l.length ∧ p.sm ∧ match m with
    | some (q, r2) => bad = false ∧ p = q ∧ l.drop j.toNat = r2
    | none => bad = true
theorem sm_nil (o : Int) (t : Str) : (Pt.mk o t []).sm := by simp only [Pt.sm, Pt.sms, List.length_nil]; exact ⟨by omega, trivial⟩
theorem RokS_bad {l : List UInt8} {j : Int} {o : Int} {t : Str} {ks : List Pt} (h0 : 0 ≤ j) (h1 : j ≤ l.length) (hs : (Pt.mk o t ks).sm) : RokS l none ([.box [.str (mkS l), .int .i64 j, .bool true]], .pv (.agg [.int .i64 o, .str t, .sl (ks.map Pt.pv)])) :=
  ⟨j, true, .mk o t ks, by rw [Pt.pv_mk], h0, h1, hs, rfl⟩
theorem RokS_good {l : List UInt8} {j : Int} {o : Int} {t : Str} {ks : List Pt} (h0 : 0 ≤ j) (h1 : j ≤ l.length) (hs : (Pt.mk o t ks).sm) {r : List UInt8} (h : l.drop j.toNat = r) : RokS l (some (.mk o t ks, r)) ([.box [.str (mkS l), .int .i64 j, .bool false]], .pv (.agg [.int .i64 o, .str t, .sl (ks.map Pt.pv)])) :=
  ⟨j, false, .mk o t ks, by rw [Pt.pv_mk], h0, h1, hs, rfl, rfl, h⟩
theorem RokS_bad0 {l : List UInt8} {j : Int} (h0 : 0 ≤ j) (h1 : j ≤ l.length) (o : Int) (t : Str) : RokS l none ([.box [.str (mkS l), .int .i64 j, .bool true]], .pv (.agg [.int .i64 o, .str t, .sl []])) := RokS_bad (ks := []) h0 h1 (sm_nil o t)
theorem RokS_good0 {l : List UInt8} {j : Int} (h0 : 0 ≤ j) (h1 : j ≤ l.length) (o : Int) (t : Str) {r : List UInt8} (h : l.drop j.toNat = r) : RokS l (some (.mk o t [], r)) ([.box [.str (mkS l), .int .i64 j, .bool false]], .pv (.agg [.int .i64 o, .str t, .sl []])) := RokS_good (ks := []) h0 h1 (sm_nil o t) h
end Go.Proofs.YtbgkalolmichdaaA
