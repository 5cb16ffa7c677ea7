/- How simp runs told code without a count of rounds: it looks at the state alone, never into what comes behind; loops by induction. Conditions: none. -/
import Derived.Test.YtbgkalolmichdaaEW
import Derived.Lib.Strings
import Derived.Below
namespace Go.Proofs.YtbgkalolmichdaaA
open Go Go.RowKit
set_option linter.unusedVariables false

variable {R : Type}
theorem ble_dec (a b : Nat) : Nat.ble a b = decide (a ≤ b) := by rw [Bool.eq_iff_iff]; simp [Nat.ble_eq]
theorem beq_dec (a b : Nat) : Nat.beq a b = decide (a = b) := by rw [Bool.eq_iff_iff]; simp [Nat.beq_eq]

/-! ### What comes behind is handed over where simp does not look -/
class K2 (R : Type) where
  k : Ex → St → Option R
class K3 (R : Type) where
  k : St → List Log → Option R
class KB (α β : Type) where
  k : α → Option β
noncomputable def X (call : FuncId → List XV → Option Res) (bx : List Nat) (c : MCode) (σ : St) [K : K2 R] : Option R := execE call bx c σ K.k
def O (call : FuncId → List XV → Option Res) (l : List MOper) (σ : St) (lg : List Log) [K : K3 R] : Option R := opsK call l σ lg K.k
def B {α β : Type} (x : Option α) [K : KB α β] : Option β := x.bind K.k
def C {α β : Type} (b : Bool) (x y : α) [K : KB α β] : Option β := cond b (K.k x) (K.k y)
def A {β : Type} (b : Bool) [K : KB Unit β] : Option β := bif b then K.k () else none
noncomputable def LX (call : FuncId → List XV → Option Res) (bx keep : List Nat) (b : MCode) (σ : St) [K : K2 R] : Option R := LP call bx keep b σ K.k

theorem B_some {α β : Type} {x : α} {K : KB α β} : @B α β (some x) K = K.k x := rfl
theorem B_none {α β : Type} {K : KB α β} : @B α β none K = none := rfl
theorem C_true {α β : Type} {x y : α} {K : KB α β} : @C α β true x y K = K.k x := rfl
theorem A_true {R : Type} {K : KB Unit R} : @A R true K = K.k () := rfl
theorem A_go {R : Type} {x : Bool} {K : KB Unit R} (h : x = true) : @A R x K = K.k () := by rw [h]; rfl
theorem C_false {α β : Type} {x y : α} {K : KB α β} : @C α β false x y K = K.k y := rfl
section
variable {call : FuncId → List XV → Option Res} {bx : List Nat} {σ : St} {lg : List Log}
theorem O_nil {K : K3 R} : @O R call [] σ lg K = K.k σ lg.reverse := rfl
theorem O_cons {m : MOper} {ms : List MOper} {K : K3 R} : @O R call (m :: ms) σ lg K = @B (St × Log) R (outOf call m σ) ⟨fun p => @O R call ms p.1 (p.2 :: lg) K⟩ := by
  unfold O; rw [opsK_cons]; rfl
theorem X_skip {K : K2 R} : @X R call bx .skip σ K = K.k .normal σ := rfl
theorem X_exit {id : Nat} {K : K2 R} : @X R call bx (.exit id) σ K = K.k (.exit id) σ := rfl
theorem X_ret {K : K2 R} : @X R call bx .ret σ K = K.k .ret σ := rfl
theorem X_region {l : List MOper} {K : K2 R} : @X R call bx (.region l none) σ K = @O R call l σ [] ⟨fun σ _ => K.k .normal σ⟩ := rfl
def Log.bare (l : Log) : Log := ⟨l.dst, l.looks, [], []⟩
def MOper.bare (m : MOper) : Log := (m.log ⟨.undef, [], []⟩)
def Log.idle (l : Log) : Bool := l.wr.isEmpty
def slotApart (l : List MOper) (d : List Nat) : Bool := apartAll (l.map MOper.bare) d
theorem outOf_bare {m : MOper} {p : St × Log} (h : outOf call m σ = some p) : p.2.bare = m.bare := by
  unfold outOf at h
  have run : ∀ {σ : St}, ((stepK call (64 * m.dst.getD 0) σ m.op some).bind fun out =>
      match m.split with
      | true => asPv out.val fun p => p.asBool.bind fun _ => some (σ.apply m.dst out, m.log out)
      | false => some (σ.apply m.dst out, m.log out)) = some p → p.2.bare = m.bare := by
    intro σ e
    obtain ⟨out, h1, h2⟩ := Option.bind_eq_some_iff.1 e
    cases hs : m.split with
    | false => rw [hs] at h2; cases h2; rfl
    | true =>
      rw [hs] at h2
      obtain ⟨q, _, h2⟩ := asPv_some h2
      obtain ⟨_, _, h2⟩ := Option.bind_eq_some_iff.1 h2
      cases h2; rfl
  simp only at h
  split at h
  · exact run h
  · rename_i t want _
    obtain ⟨r, _, h⟩ := Option.bind_eq_some_iff.1 h
    cases r with
    | false => cases h; rfl
    | true => exact run h
theorem opsK_congr : ∀ (l : List MOper) (σ : St) (lg : List Log) (k k' : St → List Log → Option R), (∀ σ' lg', lg'.map Log.bare = lg.reverse.map Log.bare ++ l.map MOper.bare → k σ' lg' = k' σ' lg') → opsK call l σ lg k = opsK call l σ lg k'
  | [], σ, lg, k, k', h => h _ _ (by simp)
  | m :: l, σ, lg, k, k', h => by
    rw [opsK_cons, opsK_cons]
    cases ho : outOf call m σ with
    | none => rfl
    | some p =>
      simp only [Option.bind_some]
      refine opsK_congr l _ _ k k' fun σ' lg' e => h σ' lg' ?_
      rw [e]
      simp [outOf_bare ho]
theorem nth_map {α β : Type} (f : α → β) (d : α) : ∀ (l : List α) (i : Nat), nth (f d) (l.map f) i = f (nth d l i)
  | [], i => by simp [nth]
  | x :: l, 0 => rfl
  | x :: l, i + 1 => nth_map f d l i
theorem nth_all {α : Type} {p : α → Bool} {d : α} (hd : p d = true) : ∀ (l : List α) (i : Nat), l.all p = true → p (nth d l i) = true
  | [], i, _ => hd
  | x :: l, 0, h => by simp only [List.all_cons, Bool.and_eq_true] at h; exact h.1
  | x :: l, i + 1, h => by simp only [List.all_cons, Bool.and_eq_true] at h; exact nth_all hd l i h.2
theorem apart_bare {a b : Log} (ha : a.idle = true) (hb : b.idle = true) : a.bare.apart b.bare = a.apart b := by
  obtain ⟨d, l, w, r⟩ := a
  obtain ⟨d', l', w', r'⟩ := b
  simp only [Log.idle, List.isEmpty_iff] at ha hb
  subst ha; subst hb
  simp [Log.apart, Log.bare, Log.dsts, meets]
theorem apartAll_bare {lg : List Log} {d : List Nat} (h : lg.all Log.idle = true) : apartAll (lg.map Log.bare) d = apartAll lg d := by
  unfold apartAll
  rw [List.length_map]
  congr 1; funext j
  congr 1; funext i
  have e : (⟨none, [], [], []⟩ : Log) = Log.bare ⟨none, [], [], []⟩ := rfl
  rw [e, nth_map, nth_map, apart_bare (nth_all rfl lg i h) (nth_all rfl lg j h)]
  rfl
/-- A region of drawn order. -/
def XD (call : FuncId → List XV → Option Res) (l : List MOper) (d : List Nat) (σ : St) [K : K2 R] : Option R := @O R call l σ [] ⟨fun σ lg => @A R (lg.all Log.idle || apartAll lg d) ⟨fun _ => K.k .normal σ⟩⟩
theorem XD_eq {l : List MOper} {d : List Nat} {K : K2 R} : @XD R call l d σ K = @O R call l σ [] ⟨fun σ lg => @A R (lg.all Log.idle || apartAll lg d) ⟨fun _ => K.k .normal σ⟩⟩ := rfl
theorem X_draw {l : List MOper} {d : List Nat} (hs : slotApart l d = true) {K : K2 R} : @X R call bx (.region l (some d)) σ K = @XD R call l d σ K := by
  unfold XD
  unfold X O A; simp only [execE]
  refine opsK_congr l σ [] _ _ fun σ' lg' e => ?_
  cases hi : lg'.all Log.idle with
  | true =>
    have : apartAll lg' d = true := by rw [← apartAll_bare hi, e]; simpa [slotApart] using hs
    simp [this]
  | false => cases apartAll lg' d <;> rfl
theorem X_seq {a b : MCode} {K : K2 R} : @X R call bx (.seq a b) σ K = @X R call bx a σ ⟨fun e σ => match e with
    | .normal => @X R call bx b σ K
    | e => K.k e σ⟩ := rfl
def boolOf (σ : St) (o : Opd) : Option Bool := asPv (σ.opd o) PV.asBool
theorem X_cond {o : Opd} {a b : MCode} {K : K2 R} : @X R call bx (.cond o a b) σ K = @B Bool R (boolOf σ o) ⟨fun t => @C MCode R t a b ⟨fun c => @X R call bx c σ K⟩⟩ := by
  unfold X B C boolOf
  simp only [execE]
  cases σ.opd o <;> simp only [asPv, Option.bind_none]
theorem X_block {id : Nat} {a : MCode} {K : K2 R} : @X R call bx (.block id a) σ K = @X R call bx a σ ⟨fun e σ => match e with
    | .exit j => if j = id then K.k .normal σ else K.k (.exit j) σ
    | e => K.k e σ⟩ := rfl
theorem X_forget {keep : List Nat} {K : K2 R} : @X R call bx (.forget keep) σ K = @B St R (forgetS σ bx keep [] (bx.flatMap (keepBox σ))) ⟨fun σ => K.k .normal σ⟩ := by
  unfold X B; simp only [execE, forgetK_eq]
theorem X_loop {keep : List Nat} {b : MCode} {K : K2 R} : @X R call bx (.loop (.seq (.forget keep) b)) σ K = @B St R (forgetS σ bx keep [] (bx.flatMap (keepBox σ))) ⟨fun σ => @LX R call bx keep b σ K⟩ := by
  unfold X B LX; rw [execE_LP, forgetK_eq]; rfl
/-- A loop's round: its body, and then the loop again. -/
theorem LX_eq {keep : List Nat} {b : MCode} {K : K2 R} : @LX R call bx keep b σ K = @X R call bx b σ ⟨fun e σ => match e with
    | .normal => @B St R (forgetS σ bx keep [] (bx.flatMap (keepBox σ))) ⟨fun σ => @LX R call bx keep b σ K⟩
    | e => K.k e σ⟩ := by
  unfold LX X B LP
  simp only
  congr 1; funext e σ
  cases e with
  | normal => simp only; rw [itE_LP, forgetK_eq]; rfl
  | exit id => rfl
  | ret => rfl
end

/-- A told function answers what its body comes to. -/
theorem run_of {prim : FuncId → Option (List XV → Option Res)} {code : FuncId → Option MFunc} {f : FuncId} {m : MFunc} {c : MCode} (hp : prim f = none) (hc : code f = some m) (hb : m.body = c) {args : List XV} {ts : List (Nat × AV)} {os : List (Nat × Obj)} {bx : List Nat} (hl : lenIs args m.nparams = true) (he : enter 0 args = some (ts, os, bx)) {r : Res}
    (h : @X Res (Ev prim code) bx c ⟨ts, os⟩ ⟨fun e σ => match e with
      | .exit _ => none
      | _ => leave m bx σ⟩ = some r) : Ev prim code f args = some r := by
  subst hb; exact Ev_of hp hc hl he h

theorem LP_ind {α : Type} {call : FuncId → List XV → Option Res} {bx keep : List Nat} {b : MCode} {K : K2 R} (st : α → St) (res : α → R) (Inv : α → Prop) (μ : α → Nat)
    (h : ∀ a, Inv a → (∀ a', Inv a' → μ a' < μ a → @LX R call bx keep b (st a') K = some (res a')) → @X R call bx b (st a) ⟨fun e σ => match e with
    | .normal => @B St R (forgetS σ bx keep [] (bx.flatMap (keepBox σ))) ⟨fun σ => @LX R call bx keep b σ K⟩
    | e => K.k e σ⟩ = some (res a)) :
    ∀ a, Inv a → @LX R call bx keep b (st a) K = some (res a) := by
  have key : ∀ n a, μ a < n → Inv a → @LX R call bx keep b (st a) K = some (res a) := by
    intro n
    induction n with
    | zero => intro a hn; omega
    | succ n ih => intro a hn hi; rw [LX_eq]; exact h a hi fun a' hi' hm => ih a' (by omega) hi'
  intro a hi
  exact key _ a (Nat.lt_succ_self _) hi
theorem LP_ind1 {α1 : Type} {call : FuncId → List XV → Option Res} {bx keep : List Nat} {b : MCode} {K : K2 R} (st : α1 → St) (res : α1 → R) (Inv : α1 → Prop) (μ : α1 → Nat)
    (h : ∀ (x1 : α1), Inv x1 → (∀ (y1 : α1), Inv y1 → μ y1 < μ x1 → @LX R call bx keep b (st y1) K = some (res y1)) → @X R call bx b (st x1) ⟨fun e σ => match e with | .normal => @B St R (forgetS σ bx keep [] (bx.flatMap (keepBox σ))) ⟨fun σ => @LX R call bx keep b σ K⟩ | e => K.k e σ⟩ = some (res x1)) :
    ∀ (x1 : α1), Inv x1 → @LX R call bx keep b (st x1) K = some (res x1) := fun x1 hi =>
  LP_ind (α := α1) (fun p => st p) (fun p => res p) (fun p => Inv p) (fun p => μ p) (fun p hp IH => h p hp fun y1 hy hm => IH y1 hy hm) x1 hi
theorem LP_ind2 {α1 α2 : Type} {call : FuncId → List XV → Option Res} {bx keep : List Nat} {b : MCode} {K : K2 R} (st : α1 → α2 → St) (res : α1 → α2 → R) (Inv : α1 → α2 → Prop) (μ : α1 → α2 → Nat)
    (h : ∀ (x1 : α1) (x2 : α2), Inv x1 x2 → (∀ (y1 : α1) (y2 : α2), Inv y1 y2 → μ y1 y2 < μ x1 x2 → @LX R call bx keep b (st y1 y2) K = some (res y1 y2)) → @X R call bx b (st x1 x2) ⟨fun e σ => match e with | .normal => @B St R (forgetS σ bx keep [] (bx.flatMap (keepBox σ))) ⟨fun σ => @LX R call bx keep b σ K⟩ | e => K.k e σ⟩ = some (res x1 x2)) :
    ∀ (x1 : α1) (x2 : α2), Inv x1 x2 → @LX R call bx keep b (st x1 x2) K = some (res x1 x2) := fun x1 x2 hi =>
  LP_ind (α := α1 × α2) (fun p => st p.1 p.2) (fun p => res p.1 p.2) (fun p => Inv p.1 p.2) (fun p => μ p.1 p.2) (fun p hp IH => h (p.1) (p.2) hp fun y1 y2 hy hm => IH (y1, y2) hy hm) (x1, x2) hi
theorem LP_ind3 {α1 α2 α3 : Type} {call : FuncId → List XV → Option Res} {bx keep : List Nat} {b : MCode} {K : K2 R} (st : α1 → α2 → α3 → St) (res : α1 → α2 → α3 → R) (Inv : α1 → α2 → α3 → Prop) (μ : α1 → α2 → α3 → Nat)
    (h : ∀ (x1 : α1) (x2 : α2) (x3 : α3), Inv x1 x2 x3 → (∀ (y1 : α1) (y2 : α2) (y3 : α3), Inv y1 y2 y3 → μ y1 y2 y3 < μ x1 x2 x3 → @LX R call bx keep b (st y1 y2 y3) K = some (res y1 y2 y3)) → @X R call bx b (st x1 x2 x3) ⟨fun e σ => match e with | .normal => @B St R (forgetS σ bx keep [] (bx.flatMap (keepBox σ))) ⟨fun σ => @LX R call bx keep b σ K⟩ | e => K.k e σ⟩ = some (res x1 x2 x3)) :
    ∀ (x1 : α1) (x2 : α2) (x3 : α3), Inv x1 x2 x3 → @LX R call bx keep b (st x1 x2 x3) K = some (res x1 x2 x3) := fun x1 x2 x3 hi =>
  LP_ind (α := α1 × α2 × α3) (fun p => st p.1 p.2.1 p.2.2) (fun p => res p.1 p.2.1 p.2.2) (fun p => Inv p.1 p.2.1 p.2.2) (fun p => μ p.1 p.2.1 p.2.2) (fun p hp IH => h (p.1) (p.2.1) (p.2.2) hp fun y1 y2 y3 hy hm => IH (y1, y2, y3) hy hm) (x1, x2, x3) hi
theorem LP_ind4 {α1 α2 α3 α4 : Type} {call : FuncId → List XV → Option Res} {bx keep : List Nat} {b : MCode} {K : K2 R} (st : α1 → α2 → α3 → α4 → St) (res : α1 → α2 → α3 → α4 → R) (Inv : α1 → α2 → α3 → α4 → Prop) (μ : α1 → α2 → α3 → α4 → Nat)
    (h : ∀ (x1 : α1) (x2 : α2) (x3 : α3) (x4 : α4), Inv x1 x2 x3 x4 → (∀ (y1 : α1) (y2 : α2) (y3 : α3) (y4 : α4), Inv y1 y2 y3 y4 → μ y1 y2 y3 y4 < μ x1 x2 x3 x4 → @LX R call bx keep b (st y1 y2 y3 y4) K = some (res y1 y2 y3 y4)) → @X R call bx b (st x1 x2 x3 x4) ⟨fun e σ => match e with | .normal => @B St R (forgetS σ bx keep [] (bx.flatMap (keepBox σ))) ⟨fun σ => @LX R call bx keep b σ K⟩ | e => K.k e σ⟩ = some (res x1 x2 x3 x4)) :
    ∀ (x1 : α1) (x2 : α2) (x3 : α3) (x4 : α4), Inv x1 x2 x3 x4 → @LX R call bx keep b (st x1 x2 x3 x4) K = some (res x1 x2 x3 x4) := fun x1 x2 x3 x4 hi =>
  LP_ind (α := α1 × α2 × α3 × α4) (fun p => st p.1 p.2.1 p.2.2.1 p.2.2.2) (fun p => res p.1 p.2.1 p.2.2.1 p.2.2.2) (fun p => Inv p.1 p.2.1 p.2.2.1 p.2.2.2) (fun p => μ p.1 p.2.1 p.2.2.1 p.2.2.2) (fun p hp IH => h (p.1) (p.2.1) (p.2.2.1) (p.2.2.2) hp fun y1 y2 y3 y4 hy hm => IH (y1, y2, y3, y4) hy hm) (x1, x2, x3, x4) hi
theorem LP_ind5 {α1 α2 α3 α4 α5 : Type} {call : FuncId → List XV → Option Res} {bx keep : List Nat} {b : MCode} {K : K2 R} (st : α1 → α2 → α3 → α4 → α5 → St) (res : α1 → α2 → α3 → α4 → α5 → R) (Inv : α1 → α2 → α3 → α4 → α5 → Prop) (μ : α1 → α2 → α3 → α4 → α5 → Nat)
    (h : ∀ (x1 : α1) (x2 : α2) (x3 : α3) (x4 : α4) (x5 : α5), Inv x1 x2 x3 x4 x5 → (∀ (y1 : α1) (y2 : α2) (y3 : α3) (y4 : α4) (y5 : α5), Inv y1 y2 y3 y4 y5 → μ y1 y2 y3 y4 y5 < μ x1 x2 x3 x4 x5 → @LX R call bx keep b (st y1 y2 y3 y4 y5) K = some (res y1 y2 y3 y4 y5)) → @X R call bx b (st x1 x2 x3 x4 x5) ⟨fun e σ => match e with | .normal => @B St R (forgetS σ bx keep [] (bx.flatMap (keepBox σ))) ⟨fun σ => @LX R call bx keep b σ K⟩ | e => K.k e σ⟩ = some (res x1 x2 x3 x4 x5)) :
    ∀ (x1 : α1) (x2 : α2) (x3 : α3) (x4 : α4) (x5 : α5), Inv x1 x2 x3 x4 x5 → @LX R call bx keep b (st x1 x2 x3 x4 x5) K = some (res x1 x2 x3 x4 x5) := fun x1 x2 x3 x4 x5 hi =>
  LP_ind (α := α1 × α2 × α3 × α4 × α5) (fun p => st p.1 p.2.1 p.2.2.1 p.2.2.2.1 p.2.2.2.2) (fun p => res p.1 p.2.1 p.2.2.1 p.2.2.2.1 p.2.2.2.2) (fun p => Inv p.1 p.2.1 p.2.2.1 p.2.2.2.1 p.2.2.2.2) (fun p => μ p.1 p.2.1 p.2.2.1 p.2.2.2.1 p.2.2.2.2) (fun p hp IH => h (p.1) (p.2.1) (p.2.2.1) (p.2.2.2.1) (p.2.2.2.2) hp fun y1 y2 y3 y4 y5 hy hm => IH (y1, y2, y3, y4, y5) hy hm) (x1, x2, x3, x4, x5) hi
theorem LP_ind6 {α1 α2 α3 α4 α5 α6 : Type} {call : FuncId → List XV → Option Res} {bx keep : List Nat} {b : MCode} {K : K2 R} (st : α1 → α2 → α3 → α4 → α5 → α6 → St) (res : α1 → α2 → α3 → α4 → α5 → α6 → R) (Inv : α1 → α2 → α3 → α4 → α5 → α6 → Prop) (μ : α1 → α2 → α3 → α4 → α5 → α6 → Nat)
    (h : ∀ (x1 : α1) (x2 : α2) (x3 : α3) (x4 : α4) (x5 : α5) (x6 : α6), Inv x1 x2 x3 x4 x5 x6 → (∀ (y1 : α1) (y2 : α2) (y3 : α3) (y4 : α4) (y5 : α5) (y6 : α6), Inv y1 y2 y3 y4 y5 y6 → μ y1 y2 y3 y4 y5 y6 < μ x1 x2 x3 x4 x5 x6 → @LX R call bx keep b (st y1 y2 y3 y4 y5 y6) K = some (res y1 y2 y3 y4 y5 y6)) → @X R call bx b (st x1 x2 x3 x4 x5 x6) ⟨fun e σ => match e with | .normal => @B St R (forgetS σ bx keep [] (bx.flatMap (keepBox σ))) ⟨fun σ => @LX R call bx keep b σ K⟩ | e => K.k e σ⟩ = some (res x1 x2 x3 x4 x5 x6)) :
    ∀ (x1 : α1) (x2 : α2) (x3 : α3) (x4 : α4) (x5 : α5) (x6 : α6), Inv x1 x2 x3 x4 x5 x6 → @LX R call bx keep b (st x1 x2 x3 x4 x5 x6) K = some (res x1 x2 x3 x4 x5 x6) := fun x1 x2 x3 x4 x5 x6 hi =>
  LP_ind (α := α1 × α2 × α3 × α4 × α5 × α6) (fun p => st p.1 p.2.1 p.2.2.1 p.2.2.2.1 p.2.2.2.2.1 p.2.2.2.2.2) (fun p => res p.1 p.2.1 p.2.2.1 p.2.2.2.1 p.2.2.2.2.1 p.2.2.2.2.2) (fun p => Inv p.1 p.2.1 p.2.2.1 p.2.2.2.1 p.2.2.2.2.1 p.2.2.2.2.2) (fun p => μ p.1 p.2.1 p.2.2.1 p.2.2.2.1 p.2.2.2.2.1 p.2.2.2.2.2) (fun p hp IH => h (p.1) (p.2.1) (p.2.2.1) (p.2.2.2.1) (p.2.2.2.2.1) (p.2.2.2.2.2) hp fun y1 y2 y3 y4 y5 y6 hy hm => IH (y1, y2, y3, y4, y5, y6) hy hm) (x1, x2, x3, x4, x5, x6) hi
theorem LP_ind7 {α1 α2 α3 α4 α5 α6 α7 : Type} {call : FuncId → List XV → Option Res} {bx keep : List Nat} {b : MCode} {K : K2 R} (st : α1 → α2 → α3 → α4 → α5 → α6 → α7 → St) (res : α1 → α2 → α3 → α4 → α5 → α6 → α7 → R) (Inv : α1 → α2 → α3 → α4 → α5 → α6 → α7 → Prop) (μ : α1 → α2 → α3 → α4 → α5 → α6 → α7 → Nat)
    (h : ∀ (x1 : α1) (x2 : α2) (x3 : α3) (x4 : α4) (x5 : α5) (x6 : α6) (x7 : α7), Inv x1 x2 x3 x4 x5 x6 x7 → (∀ (y1 : α1) (y2 : α2) (y3 : α3) (y4 : α4) (y5 : α5) (y6 : α6) (y7 : α7), Inv y1 y2 y3 y4 y5 y6 y7 → μ y1 y2 y3 y4 y5 y6 y7 < μ x1 x2 x3 x4 x5 x6 x7 → @LX R call bx keep b (st y1 y2 y3 y4 y5 y6 y7) K = some (res y1 y2 y3 y4 y5 y6 y7)) → @X R call bx b (st x1 x2 x3 x4 x5 x6 x7) ⟨fun e σ => match e with | .normal => @B St R (forgetS σ bx keep [] (bx.flatMap (keepBox σ))) ⟨fun σ => @LX R call bx keep b σ K⟩ | e => K.k e σ⟩ = some (res x1 x2 x3 x4 x5 x6 x7)) :
    ∀ (x1 : α1) (x2 : α2) (x3 : α3) (x4 : α4) (x5 : α5) (x6 : α6) (x7 : α7), Inv x1 x2 x3 x4 x5 x6 x7 → @LX R call bx keep b (st x1 x2 x3 x4 x5 x6 x7) K = some (res x1 x2 x3 x4 x5 x6 x7) := fun x1 x2 x3 x4 x5 x6 x7 hi =>
  LP_ind (α := α1 × α2 × α3 × α4 × α5 × α6 × α7) (fun p => st p.1 p.2.1 p.2.2.1 p.2.2.2.1 p.2.2.2.2.1 p.2.2.2.2.2.1 p.2.2.2.2.2.2) (fun p => res p.1 p.2.1 p.2.2.1 p.2.2.2.1 p.2.2.2.2.1 p.2.2.2.2.2.1 p.2.2.2.2.2.2) (fun p => Inv p.1 p.2.1 p.2.2.1 p.2.2.2.1 p.2.2.2.2.1 p.2.2.2.2.2.1 p.2.2.2.2.2.2) (fun p => μ p.1 p.2.1 p.2.2.1 p.2.2.2.1 p.2.2.2.2.1 p.2.2.2.2.2.1 p.2.2.2.2.2.2) (fun p hp IH => h (p.1) (p.2.1) (p.2.2.1) (p.2.2.2.1) (p.2.2.2.2.1) (p.2.2.2.2.2.1) (p.2.2.2.2.2.2) hp fun y1 y2 y3 y4 y5 y6 y7 hy hm => IH (y1, y2, y3, y4, y5, y6, y7) hy hm) (x1, x2, x3, x4, x5, x6, x7) hi
theorem LP_ind8 {α1 α2 α3 α4 α5 α6 α7 α8 : Type} {call : FuncId → List XV → Option Res} {bx keep : List Nat} {b : MCode} {K : K2 R} (st : α1 → α2 → α3 → α4 → α5 → α6 → α7 → α8 → St) (res : α1 → α2 → α3 → α4 → α5 → α6 → α7 → α8 → R) (Inv : α1 → α2 → α3 → α4 → α5 → α6 → α7 → α8 → Prop) (μ : α1 → α2 → α3 → α4 → α5 → α6 → α7 → α8 → Nat)
    (h : ∀ (x1 : α1) (x2 : α2) (x3 : α3) (x4 : α4) (x5 : α5) (x6 : α6) (x7 : α7) (x8 : α8), Inv x1 x2 x3 x4 x5 x6 x7 x8 → (∀ (y1 : α1) (y2 : α2) (y3 : α3) (y4 : α4) (y5 : α5) (y6 : α6) (y7 : α7) (y8 : α8), Inv y1 y2 y3 y4 y5 y6 y7 y8 → μ y1 y2 y3 y4 y5 y6 y7 y8 < μ x1 x2 x3 x4 x5 x6 x7 x8 → @LX R call bx keep b (st y1 y2 y3 y4 y5 y6 y7 y8) K = some (res y1 y2 y3 y4 y5 y6 y7 y8)) → @X R call bx b (st x1 x2 x3 x4 x5 x6 x7 x8) ⟨fun e σ => match e with | .normal => @B St R (forgetS σ bx keep [] (bx.flatMap (keepBox σ))) ⟨fun σ => @LX R call bx keep b σ K⟩ | e => K.k e σ⟩ = some (res x1 x2 x3 x4 x5 x6 x7 x8)) :
    ∀ (x1 : α1) (x2 : α2) (x3 : α3) (x4 : α4) (x5 : α5) (x6 : α6) (x7 : α7) (x8 : α8), Inv x1 x2 x3 x4 x5 x6 x7 x8 → @LX R call bx keep b (st x1 x2 x3 x4 x5 x6 x7 x8) K = some (res x1 x2 x3 x4 x5 x6 x7 x8) := fun x1 x2 x3 x4 x5 x6 x7 x8 hi =>
  LP_ind (α := α1 × α2 × α3 × α4 × α5 × α6 × α7 × α8) (fun p => st p.1 p.2.1 p.2.2.1 p.2.2.2.1 p.2.2.2.2.1 p.2.2.2.2.2.1 p.2.2.2.2.2.2.1 p.2.2.2.2.2.2.2) (fun p => res p.1 p.2.1 p.2.2.1 p.2.2.2.1 p.2.2.2.2.1 p.2.2.2.2.2.1 p.2.2.2.2.2.2.1 p.2.2.2.2.2.2.2) (fun p => Inv p.1 p.2.1 p.2.2.1 p.2.2.2.1 p.2.2.2.2.1 p.2.2.2.2.2.1 p.2.2.2.2.2.2.1 p.2.2.2.2.2.2.2) (fun p => μ p.1 p.2.1 p.2.2.1 p.2.2.2.1 p.2.2.2.2.1 p.2.2.2.2.2.1 p.2.2.2.2.2.2.1 p.2.2.2.2.2.2.2) (fun p hp IH => h (p.1) (p.2.1) (p.2.2.1) (p.2.2.2.1) (p.2.2.2.2.1) (p.2.2.2.2.2.1) (p.2.2.2.2.2.2.1) (p.2.2.2.2.2.2.2) hp fun y1 y2 y3 y4 y5 y6 y7 y8 hy hm => IH (y1, y2, y3, y4, y5, y6, y7, y8) hy hm) (x1, x2, x3, x4, x5, x6, x7, x8) hi
/-- It comes to something of which a thing is true; simp does not look at what is said of it. -/
class PQ (R : Type) where
  q : R → Prop
def Gets {R : Type} (x : Option R) [Q : PQ R] : Prop := ∃ r, x = some r ∧ Q.q r
theorem Gets_some {r : R} {Q : PQ R} : @Gets R (some r) Q = Q.q r := by
  unfold Gets; apply propext; constructor
  · rintro ⟨r', h, hq⟩; cases h; exact hq
  · intro h; exact ⟨r, rfl, h⟩
theorem LP_indE {α : Type} {call : FuncId → List XV → Option Res} {bx keep : List Nat} {b : MCode} {K : K2 R} (st : α → St) (Q : α → R → Prop) (Inv : α → Prop) (μ : α → Nat)
    (h : ∀ a, Inv a → (∀ a', Inv a' → μ a' < μ a → @Gets R (@LX R call bx keep b (st a') K) ⟨Q a'⟩) → @Gets R (@X R call bx b (st a) ⟨fun e σ => match e with
    | .normal => @B St R (forgetS σ bx keep [] (bx.flatMap (keepBox σ))) ⟨fun σ => @LX R call bx keep b σ K⟩
    | e => K.k e σ⟩) ⟨Q a⟩) :
    ∀ a, Inv a → @Gets R (@LX R call bx keep b (st a) K) ⟨Q a⟩ := by
  have key : ∀ n a, μ a < n → Inv a → @Gets R (@LX R call bx keep b (st a) K) ⟨Q a⟩ := by
    intro n
    induction n with
    | zero => intro a hn; omega
    | succ n ih => intro a hn hi; rw [LX_eq]; exact h a hi fun a' hi' hm => ih a' (by omega) hi'
  intro a hi
  exact key _ a (Nat.lt_succ_self _) hi
theorem LP_indE1 {α1 : Type} {call : FuncId → List XV → Option Res} {bx keep : List Nat} {b : MCode} {K : K2 R} (st : α1 → St) (Q : α1 → R → Prop) (Inv : α1 → Prop) (μ : α1 → Nat)
    (h : ∀ (x1 : α1), Inv x1 → (∀ (y1 : α1), Inv y1 → μ y1 < μ x1 → @Gets R (@LX R call bx keep b (st y1) K) ⟨Q y1⟩) → @Gets R (@X R call bx b (st x1) ⟨fun e σ => match e with | .normal => @B St R (forgetS σ bx keep [] (bx.flatMap (keepBox σ))) ⟨fun σ => @LX R call bx keep b σ K⟩ | e => K.k e σ⟩) ⟨Q x1⟩) :
    ∀ (x1 : α1), Inv x1 → @Gets R (@LX R call bx keep b (st x1) K) ⟨Q x1⟩ := fun x1 hi =>
  LP_indE (α := α1) (fun p => st p) (fun p => Q p) (fun p => Inv p) (fun p => μ p) (fun p hp IH => h p hp fun y1 hy hm => IH y1 hy hm) x1 hi
theorem LP_indE2 {α1 α2 : Type} {call : FuncId → List XV → Option Res} {bx keep : List Nat} {b : MCode} {K : K2 R} (st : α1 → α2 → St) (Q : α1 → α2 → R → Prop) (Inv : α1 → α2 → Prop) (μ : α1 → α2 → Nat)
    (h : ∀ (x1 : α1) (x2 : α2), Inv x1 x2 → (∀ (y1 : α1) (y2 : α2), Inv y1 y2 → μ y1 y2 < μ x1 x2 → @Gets R (@LX R call bx keep b (st y1 y2) K) ⟨Q y1 y2⟩) → @Gets R (@X R call bx b (st x1 x2) ⟨fun e σ => match e with | .normal => @B St R (forgetS σ bx keep [] (bx.flatMap (keepBox σ))) ⟨fun σ => @LX R call bx keep b σ K⟩ | e => K.k e σ⟩) ⟨Q x1 x2⟩) :
    ∀ (x1 : α1) (x2 : α2), Inv x1 x2 → @Gets R (@LX R call bx keep b (st x1 x2) K) ⟨Q x1 x2⟩ := fun x1 x2 hi =>
  LP_indE (α := α1 × α2) (fun p => st p.1 p.2) (fun p => Q p.1 p.2) (fun p => Inv p.1 p.2) (fun p => μ p.1 p.2) (fun p hp IH => h (p.1) (p.2) hp fun y1 y2 hy hm => IH (y1, y2) hy hm) (x1, x2) hi
theorem LP_indE3 {α1 α2 α3 : Type} {call : FuncId → List XV → Option Res} {bx keep : List Nat} {b : MCode} {K : K2 R} (st : α1 → α2 → α3 → St) (Q : α1 → α2 → α3 → R → Prop) (Inv : α1 → α2 → α3 → Prop) (μ : α1 → α2 → α3 → Nat)
    (h : ∀ (x1 : α1) (x2 : α2) (x3 : α3), Inv x1 x2 x3 → (∀ (y1 : α1) (y2 : α2) (y3 : α3), Inv y1 y2 y3 → μ y1 y2 y3 < μ x1 x2 x3 → @Gets R (@LX R call bx keep b (st y1 y2 y3) K) ⟨Q y1 y2 y3⟩) → @Gets R (@X R call bx b (st x1 x2 x3) ⟨fun e σ => match e with | .normal => @B St R (forgetS σ bx keep [] (bx.flatMap (keepBox σ))) ⟨fun σ => @LX R call bx keep b σ K⟩ | e => K.k e σ⟩) ⟨Q x1 x2 x3⟩) :
    ∀ (x1 : α1) (x2 : α2) (x3 : α3), Inv x1 x2 x3 → @Gets R (@LX R call bx keep b (st x1 x2 x3) K) ⟨Q x1 x2 x3⟩ := fun x1 x2 x3 hi =>
  LP_indE (α := α1 × α2 × α3) (fun p => st p.1 p.2.1 p.2.2) (fun p => Q p.1 p.2.1 p.2.2) (fun p => Inv p.1 p.2.1 p.2.2) (fun p => μ p.1 p.2.1 p.2.2) (fun p hp IH => h (p.1) (p.2.1) (p.2.2) hp fun y1 y2 y3 hy hm => IH (y1, y2, y3) hy hm) (x1, x2, x3) hi
theorem LP_indE4 {α1 α2 α3 α4 : Type} {call : FuncId → List XV → Option Res} {bx keep : List Nat} {b : MCode} {K : K2 R} (st : α1 → α2 → α3 → α4 → St) (Q : α1 → α2 → α3 → α4 → R → Prop) (Inv : α1 → α2 → α3 → α4 → Prop) (μ : α1 → α2 → α3 → α4 → Nat)
    (h : ∀ (x1 : α1) (x2 : α2) (x3 : α3) (x4 : α4), Inv x1 x2 x3 x4 → (∀ (y1 : α1) (y2 : α2) (y3 : α3) (y4 : α4), Inv y1 y2 y3 y4 → μ y1 y2 y3 y4 < μ x1 x2 x3 x4 → @Gets R (@LX R call bx keep b (st y1 y2 y3 y4) K) ⟨Q y1 y2 y3 y4⟩) → @Gets R (@X R call bx b (st x1 x2 x3 x4) ⟨fun e σ => match e with | .normal => @B St R (forgetS σ bx keep [] (bx.flatMap (keepBox σ))) ⟨fun σ => @LX R call bx keep b σ K⟩ | e => K.k e σ⟩) ⟨Q x1 x2 x3 x4⟩) :
    ∀ (x1 : α1) (x2 : α2) (x3 : α3) (x4 : α4), Inv x1 x2 x3 x4 → @Gets R (@LX R call bx keep b (st x1 x2 x3 x4) K) ⟨Q x1 x2 x3 x4⟩ := fun x1 x2 x3 x4 hi =>
  LP_indE (α := α1 × α2 × α3 × α4) (fun p => st p.1 p.2.1 p.2.2.1 p.2.2.2) (fun p => Q p.1 p.2.1 p.2.2.1 p.2.2.2) (fun p => Inv p.1 p.2.1 p.2.2.1 p.2.2.2) (fun p => μ p.1 p.2.1 p.2.2.1 p.2.2.2) (fun p hp IH => h (p.1) (p.2.1) (p.2.2.1) (p.2.2.2) hp fun y1 y2 y3 y4 hy hm => IH (y1, y2, y3, y4) hy hm) (x1, x2, x3, x4) hi
theorem LP_indE5 {α1 α2 α3 α4 α5 : Type} {call : FuncId → List XV → Option Res} {bx keep : List Nat} {b : MCode} {K : K2 R} (st : α1 → α2 → α3 → α4 → α5 → St) (Q : α1 → α2 → α3 → α4 → α5 → R → Prop) (Inv : α1 → α2 → α3 → α4 → α5 → Prop) (μ : α1 → α2 → α3 → α4 → α5 → Nat)
    (h : ∀ (x1 : α1) (x2 : α2) (x3 : α3) (x4 : α4) (x5 : α5), Inv x1 x2 x3 x4 x5 → (∀ (y1 : α1) (y2 : α2) (y3 : α3) (y4 : α4) (y5 : α5), Inv y1 y2 y3 y4 y5 → μ y1 y2 y3 y4 y5 < μ x1 x2 x3 x4 x5 → @Gets R (@LX R call bx keep b (st y1 y2 y3 y4 y5) K) ⟨Q y1 y2 y3 y4 y5⟩) → @Gets R (@X R call bx b (st x1 x2 x3 x4 x5) ⟨fun e σ => match e with | .normal => @B St R (forgetS σ bx keep [] (bx.flatMap (keepBox σ))) ⟨fun σ => @LX R call bx keep b σ K⟩ | e => K.k e σ⟩) ⟨Q x1 x2 x3 x4 x5⟩) :
    ∀ (x1 : α1) (x2 : α2) (x3 : α3) (x4 : α4) (x5 : α5), Inv x1 x2 x3 x4 x5 → @Gets R (@LX R call bx keep b (st x1 x2 x3 x4 x5) K) ⟨Q x1 x2 x3 x4 x5⟩ := fun x1 x2 x3 x4 x5 hi =>
  LP_indE (α := α1 × α2 × α3 × α4 × α5) (fun p => st p.1 p.2.1 p.2.2.1 p.2.2.2.1 p.2.2.2.2) (fun p => Q p.1 p.2.1 p.2.2.1 p.2.2.2.1 p.2.2.2.2) (fun p => Inv p.1 p.2.1 p.2.2.1 p.2.2.2.1 p.2.2.2.2) (fun p => μ p.1 p.2.1 p.2.2.1 p.2.2.2.1 p.2.2.2.2) (fun p hp IH => h (p.1) (p.2.1) (p.2.2.1) (p.2.2.2.1) (p.2.2.2.2) hp fun y1 y2 y3 y4 y5 hy hm => IH (y1, y2, y3, y4, y5) hy hm) (x1, x2, x3, x4, x5) hi
theorem LP_indE6 {α1 α2 α3 α4 α5 α6 : Type} {call : FuncId → List XV → Option Res} {bx keep : List Nat} {b : MCode} {K : K2 R} (st : α1 → α2 → α3 → α4 → α5 → α6 → St) (Q : α1 → α2 → α3 → α4 → α5 → α6 → R → Prop) (Inv : α1 → α2 → α3 → α4 → α5 → α6 → Prop) (μ : α1 → α2 → α3 → α4 → α5 → α6 → Nat)
    (h : ∀ (x1 : α1) (x2 : α2) (x3 : α3) (x4 : α4) (x5 : α5) (x6 : α6), Inv x1 x2 x3 x4 x5 x6 → (∀ (y1 : α1) (y2 : α2) (y3 : α3) (y4 : α4) (y5 : α5) (y6 : α6), Inv y1 y2 y3 y4 y5 y6 → μ y1 y2 y3 y4 y5 y6 < μ x1 x2 x3 x4 x5 x6 → @Gets R (@LX R call bx keep b (st y1 y2 y3 y4 y5 y6) K) ⟨Q y1 y2 y3 y4 y5 y6⟩) → @Gets R (@X R call bx b (st x1 x2 x3 x4 x5 x6) ⟨fun e σ => match e with | .normal => @B St R (forgetS σ bx keep [] (bx.flatMap (keepBox σ))) ⟨fun σ => @LX R call bx keep b σ K⟩ | e => K.k e σ⟩) ⟨Q x1 x2 x3 x4 x5 x6⟩) :
    ∀ (x1 : α1) (x2 : α2) (x3 : α3) (x4 : α4) (x5 : α5) (x6 : α6), Inv x1 x2 x3 x4 x5 x6 → @Gets R (@LX R call bx keep b (st x1 x2 x3 x4 x5 x6) K) ⟨Q x1 x2 x3 x4 x5 x6⟩ := fun x1 x2 x3 x4 x5 x6 hi =>
  LP_indE (α := α1 × α2 × α3 × α4 × α5 × α6) (fun p => st p.1 p.2.1 p.2.2.1 p.2.2.2.1 p.2.2.2.2.1 p.2.2.2.2.2) (fun p => Q p.1 p.2.1 p.2.2.1 p.2.2.2.1 p.2.2.2.2.1 p.2.2.2.2.2) (fun p => Inv p.1 p.2.1 p.2.2.1 p.2.2.2.1 p.2.2.2.2.1 p.2.2.2.2.2) (fun p => μ p.1 p.2.1 p.2.2.1 p.2.2.2.1 p.2.2.2.2.1 p.2.2.2.2.2) (fun p hp IH => h (p.1) (p.2.1) (p.2.2.1) (p.2.2.2.1) (p.2.2.2.2.1) (p.2.2.2.2.2) hp fun y1 y2 y3 y4 y5 y6 hy hm => IH (y1, y2, y3, y4, y5, y6) hy hm) (x1, x2, x3, x4, x5, x6) hi
/-! ### Numbers -/
theorem int_bne (a b : Int) : (a != b) = !decide (a = b) := by rw [Bool.eq_iff_iff]; simp
theorem int_beq (a b : Int) : (a == b) = decide (a = b) := by rw [Bool.eq_iff_iff]; simp
theorem wrap_in {x : Int} (h1 : -9223372036854775808 ≤ x) (h2 : x ≤ 9223372036854775807) : IntKind.i64.wrap x = x := by
  simp [IntKind.wrap, IntKind.bits, IntKind.signed]
  omega

/-! ### Lists -/
theorem idx_at {α : Type} {es : List α} {i : Int} (h0 : 0 ≤ i) (h1 : i < es.length) : ∃ e, e ∈ es ∧ es[i.toNat]? = some e ∧ es.drop i.toNat = e :: es.drop (i + 1).toNat ∧ ∀ f : α → PV, idx (es.map f) i = some (f e) := by
  have hl : i.toNat < es.length := by omega
  refine ⟨es[i.toNat], List.getElem_mem hl, List.getElem?_eq_getElem hl, ?_, fun f => ?_⟩
  · rw [List.drop_eq_getElem_cons hl]
    congr 2; omega
  · simp only [idx, h0, if_true, List.getElem?_map, List.getElem?_eq_getElem hl, Option.map_some]

theorem drop_end {α : Type} {es : List α} {i : Int} (h : ¬ i < es.length) (h0 : 0 ≤ i) : es.drop i.toNat = [] := by rw [List.drop_eq_nil_iff]; omega
/-- A row that is filled from the front. -/
def filled {α : Type} (f : α → PV) (z : PV) (es : List α) (i : Int) : List PV := (es.take i.toNat).map f ++ List.replicate (es.length - i.toNat) z
theorem filled_zero {α : Type} (f : α → PV) (z : PV) (es : List α) : filled f z es 0 = List.replicate es.length z := by simp [filled]
theorem filled_len {α : Type} (f : α → PV) (z : PV) (es : List α) {i : Int} (h : i ≤ es.length) : (filled f z es i).length = es.length := by simp [filled]; omega
theorem filled_all {α : Type} (f : α → PV) (z : PV) (es : List α) {i : Int} (h0 : 0 ≤ i) (h : ¬ i < es.length) : filled f z es i = es.map f := by
  have h1 : es.take i.toNat = es := List.take_of_length_le (by omega)
  have h2 : es.length - i.toNat = 0 := by omega
  simp [filled, h1, h2]
theorem filled_at {α : Type} (f : α → PV) (z : PV) (es : List α) {i : Int} (h0 : 0 ≤ i) (h : i < es.length) : (filled f z es i)[i.toNat]? = some z := by
  have h1 : i.toNat < es.length := by omega
  simp only [filled]
  rw [List.getElem?_append_right (by simp; omega), List.getElem?_replicate, if_pos (by simp; omega)]
theorem filled_get {α : Type} (f : α → PV) (z : PV) (es : List α) {i : Int} (h0 : 0 ≤ i) (h : i < es.length) (hl : i.toNat < (filled f z es i).length) : (filled f z es i)[i.toNat] = z := by
  have := filled_at f z es h0 h
  rw [List.getElem?_eq_getElem hl] at this
  exact Option.some.inj this
theorem filled_set {α : Type} (f : α → PV) (z : PV) (es : List α) {i : Int} {e : α} (h0 : 0 ≤ i) (h : es[i.toNat]? = some e) : (filled f z es i).set i.toNat (f e) = filled f z es (i + 1) := by
  obtain ⟨h1, h2⟩ := List.getElem?_eq_some_iff.1 h
  have e1 : (i + 1).toNat = i.toNat + 1 := by omega
  have e2 : es.length - i.toNat = (es.length - (i.toNat + 1)) + 1 := by omega
  simp only [filled, e1]
  rw [List.set_append_right _ _ (by simp; omega)]
  have e3 : i.toNat - ((es.take i.toNat).map f).length = 0 := by simp; omega
  rw [e3, e2, List.replicate_succ, List.set_cons_zero, ← List.take_append_getElem (i := i.toNat) (by omega)]
  simp [h2]

/-- What is left of an allowance. -/
def lim (w : Nat) (l : Int) : Int := if (w : Int) ≤ l then l - w else -1
theorem lim_yes {a : Nat} {l : Int} (h : (a : Int) ≤ l) : lim a l = l - a := if_pos h
theorem lim_no {a : Nat} {l : Int} (h : ¬ (a : Int) ≤ l) : lim a l = -1 := if_neg h
theorem lim_lim (a b : Nat) (l : Int) (h : 0 ≤ lim a l) : lim b (lim a l) = lim (a + b) l := by
  by_cases c : (a : Int) ≤ l
  · rw [lim_yes c]
    by_cases d : (b : Int) ≤ l - a
    · rw [lim_yes d, lim_yes (by omega)]; omega
    · rw [lim_no d, lim_no (by omega)]
  · rw [lim_no c] at h; omega
theorem lim_neg' (a : Nat) (l : Int) (h : lim a l < 0) (h0 : 0 ≤ l) : lim a l = -1 := by
  by_cases c : (a : Int) ≤ l
  · rw [lim_yes c] at h; omega
  · exact lim_no c
theorem lim_neg (a b : Nat) (l : Int) (h : lim a l < 0) (h0 : 0 ≤ l) : lim (a + b) l = -1 := by
  by_cases c : (a : Int) ≤ l
  · rw [lim_yes c] at h; omega
  · exact lim_no (by omega)
theorem lim_le (a : Nat) (l : Int) (h0 : 0 ≤ l) : lim a l ≤ l ∧ -1 ≤ lim a l := by simp only [lim]; split <;> omega

/-! ### Strings -/
abbrev Str := ByteArray
def bs (s : Str) : List UInt8 := s.data.toList
theorem toList_bs (s : Str) : s.toList = bs s := Lib.toList_data s
theorem size_bs (s : Str) : s.size = (bs s).length := by simp [bs]
theorem bs_inj {s t : Str} : bs s = bs t ↔ s = t := by
  constructor
  · intro h
    obtain ⟨⟨a⟩⟩ := s
    obtain ⟨⟨b⟩⟩ := t
    simp only [bs] at h
    rw [h]
  · rintro rfl; rfl
theorem str_eq (s t : Str) : (s.toList == t.toList) = decide (s = t) := by
  rw [toList_bs, toList_bs, Bool.eq_iff_iff]; simp [bs_inj]
theorem bs_app (s t : Str) : bs (s ++ t) = bs s ++ bs t := by simp [bs]
theorem bs_ext (s : Str) (a b : Nat) : bs (s.extract a b) = ((bs s).take b).drop a := by
  simp only [bs]
  rw [Lib.extract_data]
  rw [List.drop_take]
def mkS (l : List UInt8) : Str := ⟨l.toArray⟩
theorem bs_mk (l : List UInt8) : bs (mkS l) = l := by simp [bs, mkS]
theorem mk_bs (s : Str) : mkS (bs s) = s := by rw [← bs_inj, bs_mk]
theorem sidx_at {s : Str} {i : Int} (h0 : 0 ≤ i) (h1 : i < s.size) : ∃ b, (bs s)[i.toNat]? = some b ∧ (bs s).drop i.toNat = b :: (bs s).drop (i + 1).toNat ∧ sidx s i = some (b.toNat : Int) := by
  have hl : i.toNat < (bs s).length := by rw [← size_bs]; omega
  refine ⟨(bs s)[i.toNat], List.getElem?_eq_getElem hl, ?_, ?_⟩
  · rw [List.drop_eq_getElem_cons hl]
    congr 2; omega
  · have : (s.data.toList[i.toNat]?) = some (bs s)[i.toNat] := List.getElem?_eq_getElem hl
    simp only [sidx, h0, if_true, this, Option.map_some]

theorem sidx_b {s : Str} {i : Int} (h0 : 0 ≤ i) (h1 : i < s.size) : ∃ b, b ∈ bs s ∧ (bs s)[i.toNat]? = some b ∧ (bs s).drop i.toNat = b :: (bs s).drop (i + 1).toNat ∧ sidx s i = some (b.toNat : Int) := by
  obtain ⟨b, h2, h3, h4⟩ := sidx_at h0 h1
  exact ⟨b, List.mem_of_getElem? h2, h2, h3, h4⟩
theorem byte_lt (b : UInt8) : (b.toNat : Int) < 256 := by have := UInt8.toNat_lt b; omega

/-! ### Strings as lists of bytes -/
theorem mk_inj {a b : List UInt8} : mkS a = mkS b ↔ a = b := by rw [← bs_inj, bs_mk, bs_mk]
theorem mk_size (l : List UInt8) : (mkS l).size = l.length := by rw [size_bs, bs_mk]
theorem mk_app (a b : List UInt8) : mkS a ++ mkS b = mkS (a ++ b) := by rw [← bs_inj, bs_app, bs_mk, bs_mk, bs_mk]
theorem mk_ext (l : List UInt8) (a b : Nat) : (mkS l).extract a b = mkS ((l.take b).drop a) := by rw [← bs_inj, bs_ext, bs_mk, bs_mk]
theorem mk_sidx (l : List UInt8) (i : Int) : sidx (mkS l) i = if 0 ≤ i then (l[i.toNat]?).map fun b => (b.toNat : Int) else none := by simp [sidx, mkS]
theorem mk_sidx0 (b : UInt8) (l : List UInt8) : sidx (mkS (b :: l)) 0 = some (b.toNat : Int) := by simp [mk_sidx]
theorem mk_eq (a b : List UInt8) : decide (mkS a = mkS b) = decide (a = b) := by rw [decide_eq_decide, mk_inj]
theorem to_mk (s : Str) : ∃ l, s = mkS l := ⟨bs s, (mk_bs s).symm⟩
theorem lit_mk (l : List UInt8) : (⟨l.toArray⟩ : ByteArray) = mkS l := rfl
def bpv (b : UInt8) : PV := .int .u8 (b.toNat : Int)
theorem strOf_bpv (l : List UInt8) : strOf (l.map bpv) = some (mkS l) := by
  have : (l.map bpv).mapM byteOf = some l := by
    induction l with
    | nil => rfl
    | cons b l ih => simp [List.mapM_cons, ih, bpv, byteOf]
  simp [strOf, this, mkS]
theorem bpv_fits (l : List UInt8) : (l.map bpv).all (PV.fits 0) = true := by simp [bpv, PV.fits, PV.one]
theorem bpv_snoc (l : List UInt8) (b : UInt8) : l.map bpv ++ [PV.int .u8 (b.toNat : Int)] = (l ++ [b]).map bpv := by simp [bpv]
theorem byte_eq {b : UInt8} {n : Nat} (hn : n < 256) : ((b.toNat : Int) = (n : Int)) ↔ b = UInt8.ofNat n := by
  constructor
  · intro h
    have : b.toNat = n := by omega
    rw [← this]; simp
  · rintro rfl
    simp only [UInt8.toNat_ofNat']
    omega
/-- The test for a prefix at an index. -/
theorem pre_at (p l : List UInt8) (i : Nat) (hi : i ≤ l.length) : (decide (i + p.length ≤ l.length) && decide ((l.take (i + p.length)).drop i = p)) = p.isPrefixOf (l.drop i) := by
  rw [Bool.eq_iff_iff]
  simp only [Bool.and_eq_true, decide_eq_true_eq, List.isPrefixOf_iff_prefix]
  rw [List.prefix_iff_eq_take, List.drop_take, show i + p.length - i = p.length by omega]
  constructor
  · rintro ⟨_, h⟩; exact h.symm
  · intro h
    have := congrArg List.length h
    simp only [List.length_take, List.length_drop] at this
    exact ⟨by omega, h.symm⟩

/-! ### Loops over lists and over strings -/
section
variable {call : FuncId → List XV → Option Res} {bx keep : List Nat} {b : MCode} {K : K2 R}
/-- A loop that goes over a list with an index. -/
theorem LX_list {α γ : Type} (es : List α) (st : Int → γ → St) (res : List α → γ → R) (Inv : Int → γ → Prop) (hlen : es.length ≤ 9223372036854775807)
    (hend : ∀ (i : Int) (acc : γ), Inv i acc → i = es.length → ¬ i < es.length → @X R call bx b (st i acc) ⟨fun e σ => match e with | .normal => @B St R (forgetS σ bx keep [] (bx.flatMap (keepBox σ))) ⟨fun σ => @LX R call bx keep b σ K⟩ | e => K.k e σ⟩ = some (res [] acc))
    (hstep : ∀ (i : Int) (e : α) (rest : List α) (acc : γ), Inv i acc → e ∈ es → 0 ≤ i → i < es.length → es.drop i.toNat = e :: rest → es[i.toNat]? = some e → (∀ f : α → PV, idx (es.map f) i = some (f e)) → IntKind.i64.wrap (i + 1) = i + 1 → (∀ acc', Inv (i + 1) acc' → @LX R call bx keep b (st (i + 1) acc') K = some (res rest acc')) →
      @X R call bx b (st i acc) ⟨fun e σ => match e with | .normal => @B St R (forgetS σ bx keep [] (bx.flatMap (keepBox σ))) ⟨fun σ => @LX R call bx keep b σ K⟩ | e => K.k e σ⟩ = some (res (e :: rest) acc)) :
    ∀ (i : Int) (acc : γ), 0 ≤ i → i ≤ es.length → Inv i acc → @LX R call bx keep b (st i acc) K = some (res (es.drop i.toNat) acc) := by
  intro i acc h0 h1 hi
  refine LP_ind2 st (fun i acc => res (es.drop i.toNat) acc) (fun i acc => 0 ≤ i ∧ i ≤ es.length ∧ Inv i acc) (fun i _ => (es.length - i).toNat) (fun i acc h IH => ?_) i acc ⟨h0, h1, hi⟩
  by_cases c : i < es.length
  · obtain ⟨e, he, hat, hdr, hidx⟩ := idx_at h.1 c
    simp only [hdr]
    refine hstep i e _ acc h.2.2 he h.1 c hdr hat hidx (wrap_in (by omega) (by omega)) fun acc' hi' => ?_
    exact IH (i + 1) acc' ⟨by omega, by omega, hi'⟩ (by omega)
  · simp only [drop_end c h.1]
    exact hend i acc h.2.2 (by omega) c
/-- The same for a string's bytes. -/
theorem LX_str {γ : Type} (s : Str) (st : Int → γ → St) (res : List UInt8 → γ → R) (Inv : Int → γ → Prop) (hlen : s.size ≤ 9223372036854775807)
    (hend : ∀ (i : Int) (acc : γ), Inv i acc → i = s.size → ¬ i < s.size → @X R call bx b (st i acc) ⟨fun e σ => match e with | .normal => @B St R (forgetS σ bx keep [] (bx.flatMap (keepBox σ))) ⟨fun σ => @LX R call bx keep b σ K⟩ | e => K.k e σ⟩ = some (res [] acc))
    (hstep : ∀ (i : Int) (e : UInt8) (rest : List UInt8) (acc : γ), Inv i acc → e ∈ bs s → 0 ≤ i → i < s.size → (bs s).drop i.toNat = e :: rest → sidx s i = some (e.toNat : Int) → IntKind.i64.wrap (i + 1) = i + 1 → (e.toNat : Int) < 256 → (∀ acc', Inv (i + 1) acc' → @LX R call bx keep b (st (i + 1) acc') K = some (res rest acc')) →
      @X R call bx b (st i acc) ⟨fun e σ => match e with | .normal => @B St R (forgetS σ bx keep [] (bx.flatMap (keepBox σ))) ⟨fun σ => @LX R call bx keep b σ K⟩ | e => K.k e σ⟩ = some (res (e :: rest) acc)) :
    ∀ (i : Int) (acc : γ), 0 ≤ i → i ≤ s.size → Inv i acc → @LX R call bx keep b (st i acc) K = some (res ((bs s).drop i.toNat) acc) := by
  intro i acc h0 h1 hi
  refine LP_ind2 st (fun i acc => res ((bs s).drop i.toNat) acc) (fun i acc => 0 ≤ i ∧ i ≤ s.size ∧ Inv i acc) (fun i _ => (s.size - i).toNat) (fun i acc h IH => ?_) i acc ⟨h0, h1, hi⟩
  by_cases c : i < s.size
  · obtain ⟨e, he, hat, hdr, hidx⟩ := sidx_b h.1 c
    simp only [hdr]
    refine hstep i e _ acc h.2.2 he h.1 c hdr hidx (wrap_in (by omega) (by omega)) (byte_lt e) fun acc' hi' => ?_
    exact IH (i + 1) acc' ⟨by omega, by omega, hi'⟩ (by omega)
  · simp only [drop_end (es := bs s) (by rw [← size_bs]; exact c) h.1]
    exact hend i acc h.2.2 (by omega) c
end

theorem bpv_app (l : List UInt8) (b : UInt8) : (l ++ [b]).map bpv = l.map bpv ++ [bpv b] := by simp

/-! ### Parts of lists, as far as the lists are written out -/
theorem part_zero {α : Type} (d : α) (l : List α) (off : Nat) : part d l off 0 = [] := rfl
theorem part_skip {α : Type} (d x : α) (l : List α) : ∀ (n off : Nat), part d (x :: l) (off + 1) n = part d l off n
  | 0, off => rfl
  | n + 1, off => by rw [part, part, part_skip d x l n (off + 1)]; rfl
theorem part_cons {α : Type} (d x : α) (l : List α) (n : Nat) : part d (x :: l) 0 (n + 1) = x :: part d l 0 n := by rw [part, part_skip]; rfl

/-! ### For the words of 'simp -implicitDefEqProofs (maxSteps := 2000000) (disch := first | omega | (simp only [List.length_append, List.length_cons, List.length_nil, List.length_map, maxBytes]; omega) | (show apartAll _ _ = true; decide +kernel)) [wrap_in, ite_yes, dec_yes, dec_no, A_go]' -/
theorem ite_yes {α : Type} {p : Prop} [Decidable p] {a b : α} (h : p) : (if p then a else b) = a := if_pos h
theorem dec_yes {p : Prop} [Decidable p] (h : p) : decide p = true := decide_eq_true h
theorem dec_no {p : Prop} [Decidable p] (h : ¬ p) : decide p = false := decide_eq_false h

/-! ### Functions of the library by their contracts -/
theorem Post.plain {w w' : World} {I : Imm} (hb : Below w.heap.size w w') (hI : ∀ b o, I b o → b < w.heap.size) {p : PV} {v : Value} (hv : RepV w' I p v) : Post w I [] [] (.pv p) w' v I [] :=
  ⟨fun _ _ h => h, fun _ _ h => .inl h, fun b o h => Nat.lt_of_lt_of_le (hI b o h) hb.size, fun b h _ => hb.block b h, hb.size, hb.os, hb.tape, hb.output, rfl, ⟨hv, rfl⟩, List.nodup_nil⟩
theorem AR_nil {w : World} {I : Imm} {vals : List Value} {bs : List Nat} (h : AR w I [] vals bs) : vals = [] ∧ bs = [] := h
theorem AR_str {w : World} {I : Imm} {s : Str} {xs : List XV} {vals : List Value} {bs : List Nat} (h : AR w I (.pv (.str s) :: xs) vals bs) : ∃ vs, vals = .string s :: vs ∧ AR w I xs vs bs := by
  obtain ⟨v, vs, b1, b2, rfl, rfl, ⟨h1, rfl⟩, h2⟩ := h
  simp only [RepV] at h1
  subst h1
  exact ⟨vs, rfl, h2⟩
theorem AR_int {w : World} {I : Imm} {k : IntKind} {n : Int} {xs : List XV} {vals : List Value} {bs : List Nat} (h : AR w I (.pv (.int k n) :: xs) vals bs) : ∃ vs, vals = .int k n :: vs ∧ AR w I xs vs bs := by
  obtain ⟨v, vs, b1, b2, rfl, rfl, ⟨h1, rfl⟩, h2⟩ := h
  simp only [RepV] at h1
  subst h1
  exact ⟨vs, rfl, h2⟩
theorem sound_of {P : Program} {f : FuncId} {F : List XV → Option Res}
    (h : ∀ args outs r, F args = some (outs, r) → outs = [] ∧ ∃ p, r = .pv p ∧ ∀ (vals : List Value) (bs : List Nat) (w : World) (I : Imm), AR w I args vals bs → bs = [] ∧ Calls P f vals.toArray w fun e w' => ∃ v, e = .returned v ∧ Below w.heap.size w w' ∧ RepV w' I p v) : Sound P f F := by
  intro args outs r he vals bs w I hA _ hI
  obtain ⟨rfl, p, rfl, h2⟩ := h args outs r he
  obtain ⟨rfl, h3⟩ := h2 vals bs w I hA
  refine h3.mono fun e w' ⟨v, e1, h4, h5⟩ => ?_
  subst e1
  exact ⟨I, [], Post.plain h4 hI h5⟩
attribute [irreducible] X LX O XD
attribute [irreducible] Gets
end Go.Proofs.YtbgkalolmichdaaA
