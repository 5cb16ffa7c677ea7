/- An abstract machine over plain values for the operations of the translated code: its values, its states and what each operation does. Conditions: none; nothing is proved here. -/
import Derived.Calls
import Derived.Orders
namespace Go.Proofs.YtbgkalolmichdaaA
open Go

/-- A plain value: no memory in it. -/
inductive PV where
  | int (k : IntKind) (n : Int)
  | bool (b : Bool)
  | str (s : ByteArray)
  | nilp
  | sl (xs : List PV)
  | agg (cs : List PV)
  deriving Inhabited

/-- What a slot or a cell holds. -/
inductive AV where
  | undef
  | pv (p : PV)
  | nils
  | rw (g : Nat)
  | ptr (g off : Nat)
  | eptr (g i off : Nat)
  | cptr (s : Nat) (x : PV) (off : Nat)
  | agg (as : List AV)
  | tup (as : List AV)
  | fn (f : FuncId) (caps : List Nat)
  deriving Inhabited

/-- What a call made. -/
inductive Obj where
  | free
  | dead
  | box (cs : List AV) (excl : Bool)
  | row (s : Nat) (xs : List PV) (excl : Bool)
  deriving Inhabited

/-- A state: what the slots hold, and what the objects are; the first entry counts. -/
structure St where
  tmps : List (Nat × AV)
  objs : List (Nat × Obj)
  deriving Inhabited

/-- A value at a call's border. -/
inductive XV where
  | pv (p : PV)
  | row (s : Nat) (xs : List PV)
  | box (cs : List PV)
  | cp (x : PV)
  | fn (f : FuncId) (caps : List PV)
  | tup (xs : List XV)
  deriving Inhabited

abbrev Res := List XV × XV

inductive Opd where
  | tmp (t : Nat)
  | val (a : AV)

inductive MOp where
  | move (x : Opd)
  | pick (c a b : Opd)
  | alloc (zero : List AV)
  | box (n : Nat) (x : Opd)
  | build (zero : List AV) (parts : List (Nat × Nat × Opd))
  | buildSlice (s : Nat) (parts : List Opd)
  | load (n : Nat) (x : Opd)
  | store (n : Nat) (x v : Opd)
  | bin (op : BinOp) (x y : Opd)
  | binB (op : BinOp) (x y : Opd)
  | un (op : UnOp) (x : Opd)
  | conv (k : IntKind) (x : Opd)
  | bytesToStr (x : Opd)
  | makeSlice (s bytes : Nat) (zero : PV) (n : Opd)
  | strSlice (x : Opd) (lo hi : Option Opd)
  | slice (s : Nat) (x : Opd) (lo hi : Option Opd)
  | fieldAddr (off : Nat) (x : Opd)
  | field (n off : Nat) (x : Opd)
  | indexAddr (s : Nat) (x i : Opd)
  | indexArr (n s : Nat) (x i : Opd)
  | strIdx (x i : Opd)
  | extract (x : Opd) (j : Nat)
  | call (f : FuncId) (args : List Opd)
  | callv (x : Opd) (args : List Opd)
  | len (x : Opd)
  | strLen (x : Opd)
  | append (s bytes : Nat) (x y : Opd)
  | appendStr (x y : Opd)
  | mm (isMax : Bool) (x y : Opd)
  | mkfn (f : FuncId) (caps : List Opd)
  | nilCheck (x : Opd)

structure MOper where
  dst : Option Nat
  op : MOp
  guard : Option (Nat × Bool)
  split : Bool

inductive MCode where
  | skip
  | region (ops : List MOper) (draw : Option (List Nat))
  | seq (a b : MCode)
  | cond (c : Opd) (a b : MCode)
  | block (id : Nat) (a : MCode)
  | loop (a : MCode)
  | exit (id : Nat)
  | ret
  | forget (keep : List Nat)

/-! ### Reading values -/
def wdA : Nat → Nat
  | 0 => 1
  | n + 1 => n + 1
/-- A list of one thing over and over. -/
def uni {α : Type} (n : Nat) (a : α) : List α := List.replicate n a
def lenIs {α : Type} : List α → Nat → Bool
  | [], 0 => true
  | _ :: l, n + 1 => lenIs l n
  | _, _ => false

def nth {α : Type} (d : α) : List α → Nat → α
  | [], _ => d
  | x :: _, 0 => x
  | _ :: l, n + 1 => nth d l n

def setN {α : Type} : List α → Nat → α → List α
  | [], _, _ => []
  | _ :: l, 0, v => v :: l
  | x :: l, n + 1, v => x :: setN l n v

/-- n cells from an offset on. -/
def part {α : Type} (d : α) (l : List α) (off : Nat) : Nat → List α
  | 0 => []
  | n + 1 => nth d l off :: part d l (off + 1) n

def putN {α : Type} (l : List α) (off : Nat) : List α → List α
  | [] => l
  | v :: vs => putN (setN l off v) (off + 1) vs

def PV.asInt : PV → Option Int | .int .i64 n => some n | _ => none
def PV.asNum : PV → Option (IntKind × Int) | .int k n => some (k, n) | _ => none
def PV.asBool : PV → Option Bool | .bool b => some b | _ => none
def PV.asStr : PV → Option ByteArray | .str s => some s | _ => none
def PV.asSl : PV → Option (List PV) | .sl xs => some xs | _ => none
/-- The cells of a struct of n cells; n = 0: a value of one cell. -/
def PV.cells (x : PV) : List PV := match x with | .agg cs => cs | _ => []
def PV.isAgg (n : Nat) (x : PV) : Bool := match x with | .agg cs => lenIs cs n | _ => false
def PV.one (x : PV) : Bool := match x with | .agg _ => false | _ => true
/-- Is it an element of width s (0: one cell, no struct)? -/
def PV.fits (s : Nat) (x : PV) : Bool := match s with | 0 => x.one | n + 1 => x.isAgg (n + 1)
def PV.cell (x : PV) (j : Nat) : PV := nth .nilp x.cells j

def look {α : Type} (d : α) : List (Nat × α) → Nat → α
  | [], _ => d
  | (k, v) :: l, i => if k = i then v else look d l i

def St.tmp (σ : St) (t : Nat) : AV := look .undef σ.tmps t
def St.obj (σ : St) (g : Nat) : Obj := look .free σ.objs g
def St.opd (σ : St) : Opd → AV
  | .tmp t => σ.tmp t
  | .val a => a

def idx (xs : List PV) (i : Int) : Option PV := if 0 ≤ i then xs[i.toNat]? else none
def sidx (s : ByteArray) (i : Int) : Option Int := if 0 ≤ i then (s.data.toList[i.toNat]?).map fun b => (b.toNat : Int) else none
def maxBytes : Nat := 140737488355328

/-- What an operation tells: its value, the objects that it turns, the objects that it looks at. -/
structure Out where
  val : AV
  upd : List (Nat × Obj)
  rds : List Nat

section
variable {R : Type}

def slK (σ : St) (a : AV) (k : List PV → List Nat → Option R) : Option R :=
  match a with
  | .pv p => p.asSl.bind fun xs => k xs []
  | .nils => k [] []
  | .rw g => match σ.obj g with | .row _ xs _ => k xs [g] | _ => none
  | _ => none

/-- A cell's content as a plain value; the rows whose memory it shares. -/
def pv1 (σ : St) : AV → Option (PV × List Nat)
  | .pv p => some (p, [])
  | .nils => some (.sl [], [])
  | .rw g => match σ.obj g with | .row _ xs _ => some (.sl xs, [g]) | _ => none
  | _ => none

def pvs (σ : St) : List AV → Option (List PV × List Nat)
  | [] => some ([], [])
  | a :: as => match pv1 σ a, pvs σ as with | some (p, l), some (ps, ls) => some (p :: ps, l ++ ls) | _, _ => none

/-- The same for a struct's cells. -/
def toPV (σ : St) (a : AV) : Option (PV × List Nat) :=
  match a with
  | .agg as => match pvs σ as with | some (ps, l) => some (.agg ps, l) | _ => none
  | a => pv1 σ a

def share1 (σ : St) (g : Nat) : Nat × Obj :=
  (g, match σ.obj g with | .row s xs _ => .row s xs false | .box cs _ => .box cs false | o => o)
def share (σ : St) (l : List Nat) : List (Nat × Obj) := l.map (share1 σ)

/-- The cells of a value that fills n cells; n = 0: one cell that is no struct. -/
def cellsK (n : Nat) (a : AV) (k : List AV → Option R) : Option R :=
  match n with
  | 0 => match a with
    | .agg _ => none
    | .tup _ => none
    | .undef => none
    | .pv p => bif p.one then k [.pv p] else none
    | a => k [a]
  | n + 1 => match a with
    | .agg as => bif lenIs as (n + 1) then k as else none
    | .pv x => bif x.isAgg (n + 1) then k ((part .nilp x.cells 0 (n + 1)).map .pv) else none
    | _ => none

/-- A part of a value at an element of width s: n cells from an offset on. -/
def partOf (s : Nat) (x : PV) (off n : Nat) : AV :=
  match n with
  | 0 => match s with | 0 => .pv x | _ => .pv (x.cell off)
  | n + 1 => bif (Nat.beq off 0 && Nat.beq s (n + 1)) then .pv x else .agg ((part .nilp x.cells off (n + 1)).map .pv)

def partOk (s off n : Nat) : Bool := match n with | 0 => (match s with | 0 => Nat.beq off 0 | s + 1 => Nat.ble (off + 1) (s + 1)) | n + 1 => Nat.ble (off + (n + 1)) s

def intBin (op : BinOp) (k : IntKind) (x y : Int) : Option PV :=
  match op with
  | .add => some (.int k (k.wrap (x + y)))
  | .sub => some (.int k (k.wrap (x - y)))
  | .mul => some (.int k (k.wrap (x * y)))
  | .quo => if y = 0 then none else some (.int k (k.wrap (x.tdiv y)))
  | .rem => if y = 0 then none else some (.int k (x.tmod y))
  | .eql => some (.bool (x == y))
  | .neq => some (.bool (x != y))
  | .lss => some (.bool (x < y))
  | .leq => some (.bool (x ≤ y))
  | .gtr => some (.bool (x > y))
  | .geq => some (.bool (x ≥ y))
  | _ => none

def strBin (op : BinOp) (x y : ByteArray) : Option PV :=
  match op with
  | .add => if x.size + y.size ≤ 4611686018427387904 then some (.str (x ++ y)) else none
  | .eql => some (.bool (x.toList == y.toList))
  | .neq => some (.bool !(x.toList == y.toList))
  | .lss => some (.bool (Op.bytesLess x.toList y.toList))
  | .leq => some (.bool (Op.bytesLess x.toList y.toList || x.toList == y.toList))
  | .gtr => some (.bool !(Op.bytesLess x.toList y.toList || x.toList == y.toList))
  | .geq => some (.bool !(Op.bytesLess x.toList y.toList))
  | _ => none

def boolBin (op : BinOp) (x y : Bool) : Option PV :=
  match op with
  | .eql => some (.bool (x == y))
  | .neq => some (.bool !(x == y))
  | _ => none

def binPV (op : BinOp) (x y : PV) : Option PV :=
  match x, y with
  | .int k a, .int k' b => if k = k' then intBin op k a b else none
  | .str a, .str b => strBin op a b
  | _, _ => none

def unPV (op : UnOp) (x : PV) : Option PV :=
  match op, x with
  | .neg, .int k n => some (.int k (k.wrap (0 - n)))
  | .not, .bool b => some (.bool !b)
  | _, _ => none

def pickAV (c : Bool) (a b : AV) : AV :=
  match a, b with
  | .pv (.bool x), .pv (.bool y) => .pv (.bool (cond c x y))
  | a, b => cond c a b

/-- The plain values of some numbers of bytes. -/
def bytesOf (s : ByteArray) : List PV := s.data.toList.map fun b => .int .u8 b.toNat
def byteOf : PV → Option UInt8 | .int .u8 n => some (UInt8.ofNat n.toNat) | _ => none
def strOf (xs : List PV) : Option ByteArray := (xs.mapM byteOf).map fun l => ⟨l.toArray⟩


/-! ### Calls: what is handed over -/
structure Arg where
  x : XV
  sh : List Nat
  bx : List Nat
  fz : List Nat

def capsOf (σ : St) : List Nat → Option (List PV × List Nat)
  | [] => some ([], [])
  | g :: l => match σ.obj g with
    | .box cs _ => match pvs σ cs, capsOf σ l with | some (p :: ps, a), some (qs, b) => some (.agg (p :: ps) :: qs, a ++ b) | _, _ => none
    | _ => none

def argOf (σ : St) (a : AV) : Option Arg :=
  match a with
  | .ptr g off => match off, σ.obj g with
    | 0, .box cs true => match pvs σ cs with | some (ps, l) => some ⟨.box ps, l, [g], []⟩ | _ => none
    | _, _ => none
  | .cptr _ x off => match off with | 0 => some ⟨.cp x, [], [], []⟩ | _ => none
  | .fn f caps => match capsOf σ caps with | some (ps, l) => some ⟨.fn f ps, l, [], caps⟩ | _ => none
  | a => match toPV σ a with | some (p, l) => some ⟨.pv p, l, [], []⟩ | _ => none

def argsOf (σ : St) : List AV → Option (List XV × List Nat × List Nat × List Nat)
  | [] => some ([], [], [], [])
  | a :: as => match argOf σ a, argsOf σ as with
    | some r, some (xs, sh, bx, fz) => some (r.x :: xs, r.sh ++ sh, r.bx ++ bx, r.fz ++ fz)
    | _, _ => none

/-- The turned boxes behind a call. -/
def backK (bx : List Nat) (outs : List XV) (k : List (Nat × Obj) → Option R) : Option R :=
  match bx, outs with
  | [], [] => k []
  | g :: bx, .box cs :: outs => backK bx outs fun l => k ((g, .box (cs.map .pv) true) :: l)
  | _, _ => none

/-- A result as the caller holds it, under a number. -/
def imp1 (d : Nat) : XV → Option (AV × List (Nat × Obj))
  | .pv p => some (.pv p, [])
  | .row s xs => some (.rw d, [(d, .row s xs true)])
  | .box cs => some (.ptr d 0, [(d, .box (cs.map .pv) true)])
  | _ => none

def impL (d : Nat) : List XV → Option (List AV × List (Nat × Obj))
  | [] => some ([], [])
  | x :: xs => match imp1 d x, impL (d + 1) xs with | some (a, l), some (as, ls) => some (a :: as, l ++ ls) | _, _ => none

def imp (d : Nat) : XV → Option (AV × List (Nat × Obj))
  | .tup xs => match impL (d + 1) xs with | some (as, l) => some (.tup as, l) | _ => none
  | x => imp1 d x

def isFree (σ : St) (g : Nat) : Bool := match σ.obj g with | .free => true | _ => false
def allFree (σ : St) (l : List (Nat × Obj)) : Bool := l.all fun p => isFree σ p.1
def nodupB : List Nat → Bool
  | [] => true
  | x :: l => !(l.any (Nat.beq x)) && nodupB l

def callK (σ : St) (call : FuncId → List XV → Option Res) (d : Nat) (f : FuncId) (as : List AV) (extra : List PV) (sh0 fz0 : List Nat) (k : Out → Option R) : Option R :=
  match argsOf σ as with
  | some (xs, sh, bx, fz) =>
    bif nodupB bx && (fz ++ fz0).all (fun g => !(bx.any (Nat.beq g))) then
      (call f (xs ++ extra.map .cp)).bind fun r =>
        backK bx r.1 fun l =>
          match imp d r.2 with
          | some (v, l') => bif allFree σ l' then k ⟨v, l' ++ (l ++ share σ ((sh ++ sh0) ++ (fz ++ fz0))), (sh ++ sh0) ++ (bx ++ (fz ++ fz0))⟩ else none
          | _ => none
    else none
  | _ => none

/-- A value stored into a row's element. -/
def setElem (s : Nat) (x : PV) (off n : Nat) (p : PV) : Option PV :=
  match s with
  | 0 => match off, n with | 0, 0 => bif p.one then some p else none | _, _ => none
  | s + 1 => match n with
    | 0 => bif Nat.ble (off + 1) (s + 1) && p.one then some (.agg (setN x.cells off p)) else none
    | n + 1 => bif Nat.ble (off + (n + 1)) (s + 1) && p.isAgg (n + 1) then some (.agg (putN x.cells off (part .nilp p.cells 0 (n + 1)))) else none

def partsK (σ : St) (cells : List AV) : List (Nat × Nat × Opd) → (List AV → Option R) → Option R
  | [], k => k cells
  | (off, n, x) :: l, k => cellsK n (σ.opd x) fun cs => partsK σ (putN cells off cs) l k

def elemsOf (σ : St) (s : Nat) : List Opd → Option (List PV × List Nat)
  | [] => some ([], [])
  | x :: l => match toPV σ (σ.opd x), elemsOf σ s l with
    | some (p, a), some (ps, b) => bif p.fits s then some (p :: ps, a ++ b) else none
    | _, _ => none

def optInt (σ : St) (x : Option Opd) (dflt : Int) (k : Int → Option R) : Option R :=
  match x with
  | none => k dflt
  | some x => match σ.opd x with | .pv p => p.asInt.bind k | _ => none

def asPv (a : AV) (k : PV → Option R) : Option R := match a with | .pv p => k p | _ => none

def capIds (σ : St) : List AV → Option (List Nat)
  | [] => some []
  | a :: l => match a with
    | .ptr g off => match off, σ.obj g, capIds σ l with | 0, .box _ _, some gs => some (g :: gs) | _, _, _ => none
    | _ => none

/-- What an operation does; d: the number of its slot, times 64. -/
def stepK (call : FuncId → List XV → Option Res) (d : Nat) (σ : St) (o : MOp) (k : Out → Option R) : Option R :=
  match o with
  | .move x => k ⟨σ.opd x, [], []⟩
  | .pick c a b => asPv (σ.opd c) fun p => p.asBool.bind fun t => k ⟨pickAV t (σ.opd a) (σ.opd b), [], []⟩
  | .alloc zero => bif isFree σ d then k ⟨.ptr d 0, [(d, .box zero true)], []⟩ else none
  | .box n x => cellsK n (σ.opd x) fun cs => bif isFree σ d then k ⟨.ptr d 0, [(d, .box cs true)], []⟩ else none
  | .build zero parts => partsK σ zero parts fun cs => k ⟨.agg cs, [], []⟩
  | .buildSlice s parts => match elemsOf σ s parts with
    | some (ps, l) => bif isFree σ d then k ⟨.rw d, (d, .row s ps true) :: share σ l, l⟩ else none
    | _ => none
  | .load n x => match σ.opd x with
    | .ptr g off => match σ.obj g with
      | .box cs _ => bif Nat.ble (off + (match n with | 0 => 1 | n + 1 => n + 1)) cs.length then
          (match n with | 0 => k ⟨nth .undef cs off, [], [g]⟩ | n + 1 => k ⟨.agg (part .undef cs off (n + 1)), [], [g]⟩) else none
      | _ => none
    | .cptr s x off => bif partOk s off n then k ⟨partOf s x off n, [], []⟩ else none
    | .eptr g i off => match σ.obj g with
      | .row s xs _ => bif partOk s off n then (xs[i]?).bind fun x => k ⟨partOf s x off n, [], [g]⟩ else none
      | _ => none
    | _ => none
  | .store n x v => match σ.opd x with
    | .ptr g off => match σ.obj g with
      | .box cs true => cellsK n (σ.opd v) fun vs => bif Nat.ble (off + vs.length) cs.length then k ⟨.undef, [(g, .box (putN cs off vs) true)], [g]⟩ else none
      | _ => none
    | .eptr g i off => match σ.obj g with
      | .row s xs true => match toPV σ (σ.opd v) with
        | some (p, l) => bif l.any (Nat.beq g) then none else
          (xs[i]?).bind fun x => (setElem s x off n p).bind fun y => k ⟨.undef, (g, .row s (xs.set i y) true) :: share σ l, g :: l⟩
        | _ => none
      | _ => none
    | _ => none
  | .bin op x y => asPv (σ.opd x) fun p => asPv (σ.opd y) fun q => (binPV op p q).bind fun r => k ⟨.pv r, [], []⟩
  | .binB op x y => asPv (σ.opd x) fun p => asPv (σ.opd y) fun q => p.asBool.bind fun p => q.asBool.bind fun q => (boolBin op p q).bind fun r => k ⟨.pv r, [], []⟩
  | .un op x => asPv (σ.opd x) fun p => (unPV op p).bind fun r => k ⟨.pv r, [], []⟩
  | .conv q x => asPv (σ.opd x) fun p => p.asNum.bind fun n => k ⟨.pv (.int q (q.wrap n.2)), [], []⟩
  | .bytesToStr x => slK σ (σ.opd x) fun xs l => (strOf xs).bind fun s => k ⟨.pv (.str s), [], l⟩
  | .makeSlice s bytes zero n => asPv (σ.opd n) fun p => p.asInt.bind fun n =>
      if 0 ≤ n ∧ n * bytes ≤ maxBytes then (bif isFree σ d then k ⟨.rw d, [(d, .row s (List.replicate n.toNat zero) true)], []⟩ else none) else none
  | .strSlice x lo hi => asPv (σ.opd x) fun p => p.asStr.bind fun s => optInt σ lo 0 fun l => optInt σ hi s.size fun h =>
      if 0 ≤ l ∧ l ≤ h ∧ h ≤ s.size then k ⟨.pv (.str (s.extract l.toNat h.toNat)), [], []⟩ else none
  | .slice s x lo hi => slK σ (σ.opd x) fun xs gs => optInt σ lo 0 fun l => optInt σ hi xs.length fun h =>
      if 0 ≤ l ∧ l ≤ h ∧ h ≤ xs.length then (bif xs.all (PV.fits s) then k ⟨.pv (.sl ((xs.take h.toNat).drop l.toNat)), share σ gs, gs⟩ else none) else none
  | .fieldAddr off x => match σ.opd x with
    | .ptr g o => k ⟨.ptr g (o + off), [], []⟩
    | .cptr s x o => k ⟨.cptr s x (o + off), [], []⟩
    | .eptr g i o => match σ.obj g with | .row _ _ _ => k ⟨.eptr g i (o + off), [], [g]⟩ | _ => none
    | _ => none
  | .field n off x => match σ.opd x with
    | .agg as => bif Nat.ble (off + (match n with | 0 => 1 | n + 1 => n + 1)) as.length then
        (match n with | 0 => k ⟨nth .undef as off, [], []⟩ | n + 1 => k ⟨.agg (part .undef as off (n + 1)), [], []⟩) else none
    | .pv p => bif Nat.ble (off + (match n with | 0 => 1 | n + 1 => n + 1)) p.cells.length then
        (match n with | 0 => k ⟨.pv (p.cell off), [], []⟩ | n + 1 => k ⟨.agg ((part .nilp p.cells off (n + 1)).map .pv), [], []⟩) else none
    | _ => none
  | .indexAddr s x i => asPv (σ.opd i) fun p => p.asInt.bind fun i => match σ.opd x with
    | .rw g => match σ.obj g with
      | .row s' xs _ => if 0 ≤ i ∧ i < xs.length then (bif Nat.beq s' s then k ⟨.eptr g i.toNat 0, [], [g]⟩ else none) else none
      | _ => none
    | .pv q => q.asSl.bind fun xs => (idx xs i).bind fun x => bif x.fits s then k ⟨.cptr s x 0, [], []⟩ else none
    | _ => none
  | .indexArr n s x i => asPv (σ.opd i) fun p => p.asInt.bind fun i => match σ.opd x with
    | .ptr g off => if 0 ≤ i ∧ i < n then k ⟨.ptr g (off + i.toNat * wdA s), [], []⟩ else none
    | _ => none
  | .strIdx x i => asPv (σ.opd x) fun p => p.asStr.bind fun s => asPv (σ.opd i) fun q => q.asInt.bind fun i => (sidx s i).bind fun n => k ⟨.pv (.int .u8 n), [], []⟩
  | .extract x j => match σ.opd x with
    | .tup as => bif Nat.ble (j + 1) as.length then k ⟨nth .undef as j, [], []⟩ else none
    | _ => none
  | .call f args => callK σ call d f (args.map σ.opd) [] [] [] k
  | .callv x args => match σ.opd x with
    | .fn f caps => match capsOf σ caps with
      | some (ps, l) => callK σ call d f (args.map σ.opd) ps l caps k
      | _ => none
    | _ => none
  | .len x => slK σ (σ.opd x) fun xs l => k ⟨.pv (.int .i64 xs.length), [], l⟩
  | .strLen x => asPv (σ.opd x) fun p => p.asStr.bind fun s => k ⟨.pv (.int .i64 s.size), [], []⟩
  | .append s bytes x y => slK σ (σ.opd y) fun ys l =>
      bif ys.all (PV.fits s) && isFree σ d then
        match σ.opd x with
        | .nils => if ys.length * bytes ≤ maxBytes then k ⟨.rw d, [(d, .row s ys true)], l⟩ else none
        | .rw g => match σ.obj g with
          | .row s' xs e => bif Nat.beq s' s && !(l.any (Nat.beq g)) then
              (if (xs.length + ys.length) * bytes ≤ maxBytes then k ⟨.rw d, [(g, .dead), (d, .row s (xs ++ ys) e)], g :: l⟩ else none) else none
          | _ => none
        | _ => none
      else none
  | .appendStr x y => asPv (σ.opd y) fun p => p.asStr.bind fun b =>
      bif isFree σ d then
        match σ.opd x with
        | .rw g => match σ.obj g with
          | .row s' xs e => bif Nat.beq s' 0 then
              (if xs.length + b.size ≤ maxBytes then k ⟨.rw d, [(g, .dead), (d, .row 0 (xs ++ bytesOf b) e)], [g]⟩ else none) else none
          | _ => none
        | _ => none
      else none
  | .mm isMax x y => asPv (σ.opd x) fun p => asPv (σ.opd y) fun q => p.asInt.bind fun a => q.asInt.bind fun b =>
      k ⟨.pv (.int .i64 (cond isMax (if b > a then b else a) (if b < a then b else a))), [], []⟩
  | .mkfn f caps => match capIds σ (caps.map σ.opd) with | some l => k ⟨.fn f l, [], l⟩ | _ => none
  | .nilCheck x => match σ.opd x with
    | .ptr g o => k ⟨.ptr g o, [], []⟩
    | .cptr s x o => k ⟨.cptr s x o, [], []⟩
    | .eptr g i o => match σ.obj g with | .row _ _ _ => k ⟨.eptr g i o, [], [g]⟩ | _ => none
    | _ => none

def St.put (σ : St) (dst : Option Nat) (v : AV) : St := match dst with | some t => { σ with tmps := (t, v) :: σ.tmps } | none => σ
def St.apply (σ : St) (dst : Option Nat) (out : Out) : St := { tmps := (σ.put dst out.val).tmps, objs := out.upd ++ σ.objs }

def Opd.tmps : Opd → List Nat
  | .tmp t => [t]
  | .val _ => []
def MOp.opds : MOp → List Opd
  | .move x | .box _ x | .load _ x | .un _ x | .conv _ x | .bytesToStr x | .makeSlice _ _ _ x | .fieldAddr _ x | .field _ _ x | .extract x _ | .len x | .strLen x | .nilCheck x => [x]
  | .pick a b c => [a, b, c]
  | .alloc _ => []
  | .build _ ps => ps.map fun p => p.2.2
  | .buildSlice _ ps => ps
  | .store _ x y | .bin _ x y | .binB _ x y | .indexAddr _ x y | .indexArr _ _ x y | .strIdx x y | .append _ _ x y | .appendStr x y | .mm _ x y => [x, y]
  | .strSlice x l h | .slice _ x l h => x :: (l.toList ++ h.toList)
  | .call _ as => as
  | .callv x as => x :: as
  | .mkfn _ as => as

/-- What is kept of an operation that was done: its slot, the slots that it looks at, the objects that it turns, those that it looks at. -/
structure Log where
  dst : Option Nat
  looks : List Nat
  wr : List Nat
  rd : List Nat

def MOper.log (o : MOper) (out : Out) : Log :=
  ⟨o.dst, (match o.guard with | some (t, _) => [t] | none => []) ++ o.op.opds.flatMap Opd.tmps, out.upd.map (·.1), out.rds⟩

/-- What a guard's slot says: an operation behind a guard that was not done itself is not done. -/
def guardSays : AV → Bool → Option Bool
  | .tup [], _ => some false
  | .pv (.bool b), w => some (b == w)
  | _, _ => none

def opsK (call : FuncId → List XV → Option Res) : List MOper → St → List Log → (St → List Log → Option R) → Option R
  | [], σ, lg, k => k σ lg.reverse
  | o :: os, σ, lg, k =>
    let run (σ : St) : Option R := stepK call (64 * o.dst.getD 0) σ o.op fun out =>
      let next (v : AV) : Option R := opsK call os (σ.apply o.dst { out with val := v }) (o.log out :: lg) k
      match o.split with
      | true => asPv out.val fun p => p.asBool.bind fun b => cond b (next (.pv (.bool true))) (next (.pv (.bool false)))
      | false => next out.val
    match o.guard with
    | none => run σ
    | some (t, want) => (guardSays (σ.tmp t) want).bind fun r =>
        cond r (run σ) (opsK call os (σ.put o.dst (.tup [])) (o.log ⟨.tup [], [], []⟩ :: lg) k)

def meets (a b : List Nat) : Bool := a.any fun x => b.any (Nat.beq x)
def Log.dsts (a : Log) : List Nat := a.dst.toList
/-- May the two stand in either order? -/
def Log.apart (a b : Log) : Bool :=
  !(meets a.dsts (b.dsts ++ b.looks)) && !(meets b.dsts a.looks) && !(meets a.wr (b.wr ++ b.rd)) && !(meets b.wr a.rd)
def apartAll (lgs : List Log) (before : List Nat) : Bool :=
  (List.range lgs.length).all fun j => (List.range j).all fun i =>
    (nth 0 before j).testBit i || (nth ⟨none, [], [], []⟩ lgs i).apart (nth ⟨none, [], [], []⟩ lgs j)

inductive Ex where
  | normal
  | exit (id : Nat)
  | ret

/-- A kept object: its new number, its old one, what it is. -/
structure Ent where
  new : Nat
  old : Nat
  obj : Obj

/-- Cells kept at a loop's head, their rows under new numbers. -/
def keepCells (σ : St) (d : Nat) : List AV → List AV × List Ent
  | [] => ([], [])
  | a :: as => let (bs, l) := keepCells σ (d + 1) as
    match a with
    | .pv p => (.pv p :: bs, l)
    | .nils => (.nils :: bs, l)
    | .rw g => match σ.obj g with | .row s xs e => (.rw d :: bs, ⟨d, g, .row s xs e⟩ :: l) | _ => (.undef :: bs, l)
    | _ => (.undef :: bs, l)

/-- A handed box is kept under its own number. -/
def keepBox (σ : St) (g : Nat) : List Ent :=
  match σ.obj g with
  | .box cs e => let (bs, l) := keepCells σ (g + 1) cs; ⟨g, g, .box bs e⟩ :: l
  | _ => []

/-- A slot kept at a loop's head: what it holds, under the slot's own numbers. -/
def keep1 (σ : St) (bx : List Nat) (t : Nat) : AV × List Ent :=
  match σ.tmp t with
  | .pv p => (.pv p, [])
  | .nils => (.nils, [])
  | .cptr s x o => (.cptr s x o, [])
  | .rw g => match σ.obj g with | .row s xs e => (.rw (64 * t), [⟨64 * t, g, .row s xs e⟩]) | _ => (.undef, [])
  | .ptr g off => bif bx.any (Nat.beq g) then (.ptr g off, []) else match σ.obj g with
    | .box cs e => let (bs, l) := keepCells σ (64 * t + 1) cs; (.ptr (64 * t) off, ⟨64 * t, g, .box bs e⟩ :: l)
    | _ => (.undef, [])
  | .agg as => let (bs, l) := keepCells σ (64 * t + 1) as; (.agg bs, l)
  | _ => (.undef, [])

def forgetK (σ : St) (bx : List Nat) : List Nat → List (Nat × AV) → List Ent → (St → Option R) → Option R
  | [], ts, es, k => bif nodupB (es.map (·.new)) && nodupB (es.map (·.old)) then k ⟨ts, es.map fun e => (e.new, e.obj)⟩ else none
  | t :: l, ts, es, k => let (a, o) := keep1 σ bx t; forgetK σ bx l ((t, a) :: ts) (o ++ es) k

def iter (body : St → (Ex → St → Option R) → Option R) : Nat → St → (Ex → St → Option R) → Option R
  | 0, _, _ => none
  | m + 1, σ, k => body σ fun e σ => match e with
    | .normal => iter body m σ k
    | e => k e σ

def exec (call : FuncId → List XV → Option Res) (n : Nat) (bx : List Nat) : MCode → St → (Ex → St → Option R) → Option R
  | .skip, σ, k => k .normal σ
  | .region ops draw, σ, k => opsK call ops σ [] fun σ lg => match draw with
    | none => k .normal σ
    | some before => bif apartAll lg before then k .normal σ else none
  | .seq a b, σ, k => exec call n bx a σ fun e σ => match e with
    | .normal => exec call n bx b σ k
    | e => k e σ
  | .cond c a b, σ, k => asPv (σ.opd c) fun p => p.asBool.bind fun t => cond t (exec call n bx a σ k) (exec call n bx b σ k)
  | .block id a, σ, k => exec call n bx a σ fun e σ => match e with
    | .exit j => if j = id then k .normal σ else k (.exit j) σ
    | e => k e σ
  | .loop a, σ, k => iter (exec call n bx a) n σ k
  | .exit id, σ, k => k (.exit id) σ
  | .ret, σ, k => k .ret σ
  | .forget keep, σ, k => forgetK σ bx keep [] (bx.flatMap (keepBox σ)) fun σ => k .normal σ

/-- A function: where its results lie (a slot; or a box of n cells, named by a slot). -/
inductive MRes where
  | tmp (t : Nat)
  | cell (t n : Nat)

structure MFunc where
  nparams : Nat
  results : List MRes
  body : MCode

def enter (i : Nat) : List XV → Option (List (Nat × AV) × List (Nat × Obj) × List Nat)
  | [] => some ([], [], [])
  | x :: xs => match enter (i + 1) xs with
    | some (ts, os, bx) => match x with
      | .pv p => some ((i, .pv p) :: ts, os, bx)
      | .box cs => some ((i, .ptr (64 * i) 0) :: ts, (64 * i, .box (cs.map .pv) true) :: os, 64 * i :: bx)
      | .cp x => some ((i, .cptr x.cells.length x 0) :: ts, os, bx)
      | _ => none
    | none => none

/-- A result: the objects that go with it, the rows whose memory it shares. -/
def resOf (σ : St) (bx : List Nat) (r : MRes) : Option (XV × List Nat × List Nat) :=
  match r with
  | .tmp t => match σ.tmp t with
    | .rw g => match σ.obj g with | .row s xs true => some (.row s xs, [g], []) | .row _ xs false => some (.pv (.sl xs), [], [g]) | _ => none
    | .ptr g off => match off, σ.obj g with
      | 0, .box cs true => bif bx.any (Nat.beq g) then none else (match pvs σ cs with | some (ps, l) => some (.box ps, [g], l) | _ => none)
      | _, _ => none
    | a => match toPV σ a with | some (p, l) => some (.pv p, [], l) | _ => none
  | .cell t n => match σ.tmp t with
    | .ptr g off => match off, σ.obj g, n with
      | 0, .box cs _, n + 1 => bif lenIs cs (n + 1) then (match pvs σ cs with | some (ps, l) => some (.pv (.agg ps), [], l) | _ => none) else none
      | _, _, _ => none
    | _ => none

def resAll (σ : St) (bx : List Nat) : List MRes → Option (List XV × List Nat × List Nat)
  | [] => some ([], [], [])
  | r :: rs => match resOf σ bx r, resAll σ bx rs with | some (x, l, m), some (xs, ls, ms) => some (x :: xs, l ++ ls, m ++ ms) | _, _ => none

def outsOf (σ : St) : List Nat → Option (List XV × List Nat)
  | [] => some ([], [])
  | g :: l => match σ.obj g, outsOf σ l with
    | .box cs true, some (xs, ms) => match pvs σ cs with | some (ps, m) => some (.box ps :: xs, m ++ ms) | _ => none
    | _, _ => none

def leave (m : MFunc) (bx : List Nat) (σ : St) : Option Res :=
  match resAll σ bx m.results, outsOf σ bx with
  | some (xs, l, r), some (outs, r') => bif nodupB l && (r ++ r').all (fun g => !(l.any (Nat.beq g))) then (match xs with | [x] => some (outs, x) | xs => some (outs, .tup xs)) else none
  | _, _ => none

/-- A call of a function, with so many rounds. -/
def ev (prim : FuncId → Option (List XV → Option Res)) (code : FuncId → Option MFunc) : Nat → FuncId → List XV → Option Res
  | 0, _, _ => none
  | n + 1, f, args => match prim f with
    | some F => F args
    | none => match code f with
      | some m => bif lenIs args m.nparams then (match enter 0 args with
        | some (ts, os, bx) => exec (ev prim code n) n bx m.body ⟨ts, os⟩ fun e σ => match e with
          | .exit _ => none
          | _ => leave m bx σ
        | none => none) else none
      | none => none

end
end Go.Proofs.YtbgkalolmichdaaA
