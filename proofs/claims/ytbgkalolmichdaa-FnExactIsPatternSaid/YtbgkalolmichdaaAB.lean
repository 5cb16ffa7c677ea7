/- The translated code's operations, told in the abstract machine's words. Conditions: none; nothing is proved here. -/
import Derived.Test.YtbgkalolmichdaaAA
import GoSem.Core.View
namespace Go.Proofs.YtbgkalolmichdaaA
open Go

def avOf : Value → Option AV
  | .int k n => some (.pv (.int k n))
  | .bool b => some (.pv (.bool b))
  | .string s => some (.pv (.str s))
  | .slice none 0 0 => some .nils
  | .pointer none => some (.pv .nilp)
  | _ => none
def pvOf : Value → Option PV
  | .int k n => some (.int k n)
  | .bool b => some (.bool b)
  | .string s => some (.str s)
  | .slice none 0 0 => some (.sl [])
  | .pointer none => some .nilp
  | _ => none
def all? {α β : Type} (f : α → Option β) : List α → Option (List β)
  | [] => some []
  | x :: l => match f x, all? f l with | some y, some ys => some (y :: ys) | _, _ => none

def opdOf : Operand → Option Opd
  | .tmp t => some (.tmp t)
  | .const (.agg cs) => (all? avOf cs.toList).map fun l => .val (.agg l)
  | .const v => (avOf v).map .val
  | .func f => some (.val (.fn f []))
  | .global _ => none

def isAggT (P : Program) (t : TypeId) : Bool := match P.underlying t with | some (.struct _) | some (.array _ _) => true | _ => false
/-- How many cells; 0: one cell that is no struct. -/
def widthOf (P : Program) (t : TypeId) : Option Nat :=
  match P.info? t, P.underlying t with
  | some i, some _ => bif isAggT P t then (if i.size = 0 then none else some i.size) else (if i.size = 1 then some 0 else none)
  | _, _ => none
def zeroCells (P : Program) (t : TypeId) : Option (List AV) :=
  ((P.info? t).bind (·.zero)).bind fun z => all? avOf z.cells.toList
def zeroPV (P : Program) (t : TypeId) : Option PV :=
  ((P.info? t).bind (·.zero)).bind fun z => match z with
    | .agg cs => (all? pvOf cs.toList).map .agg
    | z => pvOf z
def fieldOf (P : Program) (s f : Nat) : Option (Nat × Nat) :=
  match P.underlying s with
  | some (.struct fs) => match fs[f]? with
    | some x => (widthOf P x.type).map fun w => (x.offset, w)
    | none => none
  | _ => none
def elemOf (P : Program) (t : TypeId) : Option TypeId := match P.underlying t with | some (.slice e) => some e | _ => none
def arrOf (P : Program) (t : TypeId) : Option (Nat × TypeId) := match P.underlying t with | some (.array n e) => some (n, e) | _ => none
def optOpd : Option Operand → Option (Option Opd)
  | none => some none
  | some x => (opdOf x).map some

def wdOf : Nat → Nat
  | 0 => 1
  | n + 1 => n + 1
def inOrder : Nat → List (Nat × Operand) → Bool
  | _, [] => true
  | n, (i, _) :: l => Nat.beq i n && inOrder (n + 1) l
def sameOpd : Operand → Operand → Bool
  | .tmp a, .tmp b => Nat.beq a b
  | .const (.int k n), .const (.int k' n') => decide (k = k') && decide (n = n')
  | _, _ => false
def plainT (P : Program) (t : TypeId) : Bool := match P.underlying t with | some (.int _) | some .string => true | _ => false

/-- The zero value fills an element. -/
def zeroFits (P : Program) (e : TypeId) (w : Nat) : Bool := match zeroPV P e with | some z => z.fits w | none => false

def trCall (P : Program) (c : Call) : Option MOp :=
  match c.callee with
  | .value (.func f) => (all? opdOf c.args.toList).map (.call f)
  | .value x => match opdOf x, all? opdOf c.args.toList with | some x, some as => some (.callv x as) | _, _ => none
  | .builtin b => match b, c.args.toList, c.argTypes.toList with
    | .len, [x], [t] => match P.underlying t with
      | some .string => (opdOf x).map .strLen
      | some (.slice _) => (opdOf x).map .len
      | _ => none
    | .append, [x, y], [t, u] => match opdOf x, opdOf y, (elemOf P t) with
      | some x, some y, some e => match widthOf P e, P.info? e with
        | some w, some i => match P.underlying u with
          | some (.slice _) => bif Nat.ble 1 i.bytes && zeroFits P e w then (if t = u then some (.append w i.bytes x y) else none) else none
          | _ => none
        | _, _ => none
      | _, _, _ => none
    | .min, [x, y], _ => match opdOf x, opdOf y with | some x, some y => some (.mm false x y) | _, _ => none
    | .max, [x, y], _ => match opdOf x, opdOf y with | some x, some y => some (.mm true x y) | _, _ => none
    | _, _, _ => none
  | _ => none

def trOp (P : Program) : Op → Option MOp
  | .move x | .assign x => (opdOf x).map .move
  | .pick c a b => match opdOf c, opdOf a, opdOf b with | some c, some a, some b => some (.pick c a b) | _, _, _ => none
  | .alloc t => (zeroCells P t).map .alloc
  | .box t x => match widthOf P t, opdOf x with | some n, some x => some (.box n x) | _, _ => none
  | .build t ps => match P.underlying t with
    | some (.struct fs) => match fs.toList.mapM (fun f => (P.info? f.type).map fun i => (f.offset, i.size)), zeroCells P t, all? (fun p : Nat × Operand => match fieldOf P t p.1, opdOf p.2 with | some (off, n), some x => bif Nat.ble (off + wdOf n) (P.cellsOf t) then some (off, n, x) else none | _, _ => none) ps.toList with
      | some _, some z, some l => bif lenIs z (P.cellsOf t) then some (.build z l) else none
      | _, _, _ => none
    | some (.array _ e) => match P.info? e, zeroCells P t, ps.toList with
      | some _, some z, [] => some (.build z [])
      | _, _, _ => none
    | _ => none
  | .buildSlice t len ps => match elemOf P t with
    | some e => match widthOf P e, all? (fun p : Nat × Operand => opdOf p.2) ps.toList with
      | some w, some l => bif inOrder 0 ps.toList && Nat.beq ps.size len && Nat.ble (len * wdOf w) 10000 && ((P.info? e).bind (·.zero)).isSome then some (.buildSlice w l) else none
      | _, _ => none
    | none => none
  | .load t x => match widthOf P t, opdOf x with | some n, some x => some (.load n x) | _, _ => none
  | .store t x v => match widthOf P t, opdOf x, opdOf v with | some n, some x, some v => some (.store n x v) | _, _, _ => none
  | .binOp op t x y _ => match opdOf x, opdOf y with
    | some x, some y => bif plainT P t then some (.bin op x y) else (match P.underlying t with | some .bool => some (.binB op x y) | _ => none)
    | _, _ => none
  | .unOp op _ x => (opdOf x).map (.un op)
  | .convert src dst x => match P.underlying src, P.underlying dst with
    | some (.int _), some (.int k) => (opdOf x).map (.conv k)
    | some (.slice e), some .string => match P.underlying e with | some (.int .u8) => (opdOf x).map .bytesToStr | _ => none
    | _, _ => none
  | .makeSlice t l c => bif sameOpd l c then
      match elemOf P t with
      | some e => match widthOf P e, P.info? e, zeroPV P e, opdOf l with
        | some w, some i, some z, some l => bif Nat.ble 1 i.bytes && z.fits w then some (.makeSlice w i.bytes z l) else none
        | _, _, _, _ => none
      | none => none
    else none
  | .slice t x lo hi none => match P.underlying t, opdOf x, optOpd lo, optOpd hi with
    | some .string, some x, some lo, some hi => some (.strSlice x lo hi)
    | some (.slice e), some x, some lo, some hi => (widthOf P e).map fun w => .slice w x lo hi
    | _, _, _, _ => none
  | .fieldAddr s x f => match fieldOf P s f, opdOf x with | some (off, _), some x => some (.fieldAddr off x) | _, _ => none
  | .field s x f => match fieldOf P s f, opdOf x with | some (off, n), some x => some (.field n off x) | _, _ => none
  | .indexAddr t x i => match arrOf P t with
    | some (n, e) => match widthOf P e, opdOf x, opdOf i with | some w, some x, some i => some (.indexArr n w x i) | _, _, _ => none
    | none => match (elemOf P t).bind (widthOf P), opdOf x, opdOf i with | some w, some x, some i => some (.indexAddr w x i) | _, _, _ => none
  | .index t x i => match P.underlying t, opdOf x, opdOf i with | some .string, some x, some i => some (.strIdx x i) | _, _, _ => none
  | .extract x j => (opdOf x).map fun x => .extract x j
  | .call c => trCall P c
  | .makeFunc (.func f) first caps => bif first.isEmpty then (all? opdOf caps.toList).map (.mkfn f) else none
  | .nilCheck x => (opdOf x).map .nilCheck
  | _ => none

def isGuard (ops : List Oper) (j : Nat) : Bool := ops.any fun o => match o.guard with | some (i, _) => Nat.beq i j | none => false
def guardOf (ops : Array Oper) (o : Oper) : Option (Option (Nat × Bool)) :=
  match o.guard with
  | none => some none
  | some (j, want) => match (ops[j]?).bind (·.dst) with | some t => some (some (t, want)) | none => none

def dstOk (nt : Nat) : Option Nat → Bool
  | none => true
  | some t => Nat.blt t nt
def storeOk (o : Oper) : Bool := match o.op with | .store .. => o.dst.isNone | _ => true
def trOps (P : Program) (nt : Nat) (ops : Array Oper) : Nat → List Oper → Option (List MOper)
  | _, [] => some []
  | j, o :: os => match trOp P o.op, guardOf ops o, trOps P nt ops (j + 1) os with
    | some m, some g, some l => bif dstOk nt o.dst && storeOk o then some (⟨o.dst, m, g, isGuard ops.toList j⟩ :: l) else none
    | _, _, _ => none

/-- Binding edges lead back. -/
def edgesOk : Nat → List Oper → Bool
  | _, [] => true
  | j, o :: os => o.after.all (fun e => !Region.binds .any e || Nat.blt e.on j) && edgesOk (j + 1) os

def trCode (P : Program) (nt : Nat) : Code → Option MCode
  | .skip => some .skip
  | .region _ ops draw => bif draw then (bif edgesOk 0 ops.toList then (trOps P nt ops 0 ops.toList).map fun l => .region l (some (Region.before ops).toList) else none)
    else (trOps P nt ops 0 ops.toList).map fun l => .region l none
  | .seq a b => match trCode P nt a, trCode P nt b with | some a, some b => some (.seq a b) | _, _ => none
  | .cond c a b => match opdOf c, trCode P nt a, trCode P nt b with | some c, some a, some b => some (.cond c a b) | _, _, _ => none
  | .block id a => (trCode P nt a).map (.block id)
  | .loop a => (trCode P nt a).map .loop
  | .exit id => some (.exit id)
  | .ret => some .ret
  | _ => none

/-- The same code without what it forgets. -/
def MCode.strip : MCode → MCode
  | .seq (.forget _) b => b.strip
  | .seq a b => .seq a.strip b.strip
  | .cond c a b => .cond c a.strip b.strip
  | .block id a => .block id a.strip
  | .loop a => .loop a.strip
  | c => c

def trRes (P : Program) : ResultVar → Option MRes
  | .tmp t => some (.tmp t)
  | .cell a t => (widthOf P t).map fun n => .cell a n

/-- Does the told function fit the translated one? -/
def fits (P : Program) (fn : Func) (m : MFunc) : Prop :=
  ∃ c, fn.body = some c ∧ trCode P fn.ntmps c = some m.body.strip ∧ all? (trRes P) fn.results.toList = some m.results ∧ m.nparams ≤ fn.ntmps

end Go.Proofs.YtbgkalolmichdaaA
