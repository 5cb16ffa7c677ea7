/- The told functions of the seat, printed by tell.sh; that they fit; the table. Conditions: none. -/
import Derived.Test.YtbgkalolmichdaaPR0
import Derived.Test.YtbgkalolmichdaaProg
import Derived.KernelRfl
namespace Go.Proofs.YtbgkalolmichdaaA
open Go Go.Proofs
set_option maxRecDepth 20000
-- loop.example/g03013/laws.FnExactIsPattern
@[reducible] def m7c : MCode :=
  (.seq (.region [⟨(some 2), .move (.val (.pv (.bool false))), none, false⟩] none)
  (.seq (.seq (.region [⟨(some 5), .move (.tmp 0), none, false⟩,
    ⟨(some 6), .strLen (.tmp 5), none, false⟩,
    ⟨(some 7), .bin .gtr (.tmp 6) (.val (.pv (.int .i64 (1048576)))), none, false⟩] none)
  (.cond (.tmp 7) (.seq (.region [⟨(some 2), .move (.val (.pv (.bool true))), none, false⟩] none)
   .ret)
  .skip))
  (.seq (.region [⟨(some 8), .move (.tmp 0), none, false⟩,
    ⟨(some 9), .call 25 [(.tmp 8)], none, false⟩,
    ⟨(some 3), .move (.tmp 9), none, false⟩] none)
  (.seq (.region [⟨(some 10), .move (.tmp 0), none, false⟩,
    ⟨(some 11), .call 26 [(.tmp 10)], none, false⟩,
    ⟨(some 4), .move (.tmp 11), none, false⟩] none)
  (.seq (.seq (.region [⟨(some 12), .move (.tmp 4), none, false⟩,
    ⟨(some 13), .move (.tmp 3), none, false⟩,
    ⟨(some 14), .binB .neq (.tmp 12) (.tmp 13), none, false⟩] none)
  (.cond (.tmp 14) (.seq (.region [⟨(some 2), .move (.val (.pv (.bool false))), none, false⟩] none)
   .ret)
  .skip))
  (.seq (.region [⟨(some 2), .move (.val (.pv (.bool true))), none, false⟩] none)
  .ret))))))
def m7 : MFunc := { nparams := 1, results := [.tmp 2], body := m7c }
attribute [simp] m7
-- loop.example/g03013/spec.IsPattern
@[reducible] def m25c : MCode :=
  (.seq (.region [⟨(some 2), .move (.val (.pv (.bool false))), none, false⟩] none)
  (.seq (.region [⟨(some 6), .move (.tmp 0), none, false⟩,
    ⟨(some 7), .call 48 [(.tmp 6)], none, false⟩,
    ⟨(some 5), .move (.tmp 7), none, false⟩,
    ⟨(some 8), .extract (.tmp 5) 0, none, false⟩,
    ⟨(some 9), .extract (.tmp 5) 1, none, false⟩,
    ⟨(some 3), .alloc [(.pv (.int .i64 (0))), (.pv (.str ⟨#[]⟩)), .nils], none, false⟩,
    ⟨none, .store 3 (.tmp 3) (.tmp 8), none, false⟩,
    ⟨(some 4), .move (.tmp 9), none, false⟩] none)
  (.seq (.region [⟨(some 10), .move (.tmp 4), none, false⟩,
    ⟨(some 2), .move (.tmp 10), none, false⟩] none)
  .ret)))
def m25 : MFunc := { nparams := 1, results := [.tmp 2], body := m25c }
attribute [simp] m25
-- loop.example/g03013/impl.IsPattern
@[reducible] def m26c : MCode :=
  (.seq (.region [⟨(some 2), .move (.val (.pv (.bool false))), none, false⟩] none)
  (.seq (.region [⟨(some 6), .move (.tmp 0), none, false⟩,
    ⟨(some 7), .call 49 [(.tmp 6)], none, false⟩,
    ⟨(some 5), .move (.tmp 7), none, false⟩,
    ⟨(some 8), .extract (.tmp 5) 0, none, false⟩,
    ⟨(some 9), .extract (.tmp 5) 1, none, false⟩,
    ⟨(some 3), .alloc [(.pv (.int .i64 (0))), (.pv (.str ⟨#[]⟩)), .nils], none, false⟩,
    ⟨none, .store 3 (.tmp 3) (.tmp 8), none, false⟩,
    ⟨(some 4), .move (.tmp 9), none, false⟩] none)
  (.seq (.region [⟨(some 10), .move (.tmp 4), none, false⟩,
    ⟨(some 2), .move (.tmp 10), none, false⟩] none)
  .ret)))
def m26 : MFunc := { nparams := 1, results := [.tmp 2], body := m26c }
attribute [simp] m26
-- loop.example/g03013/spec.ParsePattern
@[reducible] def m48c : MCode :=
  (.seq (.region [⟨(some 2), .alloc [(.pv (.int .i64 (0))), (.pv (.str ⟨#[]⟩)), .nils], none, false⟩,
    ⟨(some 3), .move (.val (.pv (.bool false))), none, false⟩] none)
  (.seq (.region [⟨(some 6), .move (.tmp 0), none, false⟩,
    ⟨(some 7), .move (.tmp 0), none, false⟩,
    ⟨(some 8), .strLen (.tmp 7), none, false⟩,
    ⟨(some 9), .bin .gtr (.tmp 8) (.val (.pv (.int .i64 (30)))), none, false⟩,
    ⟨(some 10), .build [(.pv (.str ⟨#[]⟩)), (.pv (.int .i64 (0))), (.pv (.bool false))] [(0, 0, (.tmp 6)), (2, 0, (.tmp 9))], none, false⟩,
    ⟨(some 11), .box 3 (.tmp 10), none, false⟩,
    ⟨(some 4), .move (.tmp 11), none, false⟩] none)
  (.seq (.seq (.region [⟨(some 12), .move (.tmp 4), none, false⟩,
    ⟨(some 13), .nilCheck (.tmp 12), none, false⟩,
    ⟨(some 14), .fieldAddr 2 (.tmp 13), none, false⟩,
    ⟨(some 15), .load 0 (.tmp 14), none, false⟩] none)
  (.cond (.tmp 15) (.seq (.region [⟨(some 16), .build [(.pv (.int .i64 (0))), (.pv (.str ⟨#[]⟩)), .nils] [], none, false⟩,
     ⟨none, .store 3 (.tmp 2) (.tmp 16), none, false⟩,
     ⟨(some 3), .move (.val (.pv (.bool false))), none, false⟩] none)
   .ret)
  .skip))
  (.seq (.region [⟨(some 17), .move (.tmp 4), none, false⟩,
    ⟨(some 18), .call 70 [(.tmp 17)], none, false⟩,
    ⟨(some 5), .alloc [(.pv (.int .i64 (0))), (.pv (.str ⟨#[]⟩)), .nils], none, false⟩,
    ⟨none, .store 3 (.tmp 5) (.tmp 18), none, false⟩] none)
  (.seq (.seq (.region [⟨(some 19), .move (.tmp 4), none, false⟩,
    ⟨(some 20), .nilCheck (.tmp 19), none, false⟩,
    ⟨(some 21), .fieldAddr 2 (.tmp 20), none, false⟩,
    ⟨(some 22), .load 0 (.tmp 21), none, false⟩,
    ⟨(some 23), .move (.tmp 22), none, true⟩,
    ⟨(some 24), .move (.tmp 4), (some (23, false)), false⟩,
    ⟨(some 25), .nilCheck (.tmp 24), (some (23, false)), false⟩,
    ⟨(some 26), .fieldAddr 1 (.tmp 25), (some (23, false)), false⟩,
    ⟨(some 27), .load 0 (.tmp 26), (some (23, false)), false⟩,
    ⟨(some 28), .move (.tmp 0), (some (23, false)), false⟩,
    ⟨(some 29), .strLen (.tmp 28), (some (23, false)), false⟩,
    ⟨(some 30), .bin .neq (.tmp 27) (.tmp 29), (some (23, false)), false⟩,
    ⟨(some 31), .pick (.tmp 23) (.val (.pv (.bool true))) (.tmp 30), none, false⟩] none)
  (.cond (.tmp 31) (.seq (.region [⟨(some 32), .build [(.pv (.int .i64 (0))), (.pv (.str ⟨#[]⟩)), .nils] [], none, false⟩,
     ⟨none, .store 3 (.tmp 2) (.tmp 32), none, false⟩,
     ⟨(some 3), .move (.val (.pv (.bool false))), none, false⟩] none)
   .ret)
  .skip))
  (.seq (.region [⟨(some 33), .load 3 (.tmp 5), none, false⟩,
    ⟨none, .store 3 (.tmp 2) (.tmp 33), none, false⟩,
    ⟨(some 3), .move (.val (.pv (.bool true))), none, false⟩] none)
  .ret))))))
def m48 : MFunc := { nparams := 1, results := [.cell 2 3, .tmp 3], body := m48c }
attribute [simp] m48
-- loop.example/g03013/impl.ParsePattern
@[reducible] def m49c : MCode :=
  (.seq (.region [⟨(some 2), .alloc [(.pv (.int .i64 (0))), (.pv (.str ⟨#[]⟩)), .nils], none, false⟩,
    ⟨(some 3), .move (.val (.pv (.bool false))), none, false⟩] none)
  (.seq (.seq (.region [⟨(some 6), .move (.tmp 0), none, false⟩,
    ⟨(some 7), .strLen (.tmp 6), none, false⟩,
    ⟨(some 8), .bin .gtr (.tmp 7) (.val (.pv (.int .i64 (30)))), none, false⟩] none)
  (.cond (.tmp 8) (.seq (.region [⟨(some 9), .build [(.pv (.int .i64 (0))), (.pv (.str ⟨#[]⟩)), .nils] [], none, false⟩,
     ⟨none, .store 3 (.tmp 2) (.tmp 9), none, false⟩,
     ⟨(some 3), .move (.val (.pv (.bool false))), none, false⟩] none)
   .ret)
  .skip))
  (.seq (.region [⟨(some 10), .move (.tmp 0), none, false⟩,
    ⟨(some 11), .build [(.pv (.str ⟨#[]⟩)), (.pv (.int .i64 (0))), (.pv (.bool false))] [(0, 0, (.tmp 10))], none, false⟩,
    ⟨(some 12), .box 3 (.tmp 11), none, false⟩,
    ⟨(some 4), .move (.tmp 12), none, false⟩] none)
  (.seq (.region [⟨(some 13), .move (.tmp 4), none, false⟩,
    ⟨(some 14), .call 71 [(.tmp 13)], none, false⟩,
    ⟨(some 5), .alloc [(.pv (.int .i64 (0))), (.pv (.str ⟨#[]⟩)), .nils], none, false⟩,
    ⟨none, .store 3 (.tmp 5) (.tmp 14), none, false⟩] none)
  (.seq (.seq (.region [⟨(some 15), .move (.tmp 4), none, false⟩,
    ⟨(some 16), .nilCheck (.tmp 15), none, false⟩,
    ⟨(some 17), .fieldAddr 2 (.tmp 16), none, false⟩,
    ⟨(some 18), .load 0 (.tmp 17), none, false⟩,
    ⟨(some 19), .move (.tmp 18), none, true⟩,
    ⟨(some 20), .move (.tmp 4), (some (19, false)), false⟩,
    ⟨(some 21), .nilCheck (.tmp 20), (some (19, false)), false⟩,
    ⟨(some 22), .fieldAddr 1 (.tmp 21), (some (19, false)), false⟩,
    ⟨(some 23), .load 0 (.tmp 22), (some (19, false)), false⟩,
    ⟨(some 24), .move (.tmp 0), (some (19, false)), false⟩,
    ⟨(some 25), .strLen (.tmp 24), (some (19, false)), false⟩,
    ⟨(some 26), .bin .neq (.tmp 23) (.tmp 25), (some (19, false)), false⟩,
    ⟨(some 27), .pick (.tmp 19) (.val (.pv (.bool true))) (.tmp 26), none, false⟩] none)
  (.cond (.tmp 27) (.seq (.region [⟨(some 28), .build [(.pv (.int .i64 (0))), (.pv (.str ⟨#[]⟩)), .nils] [], none, false⟩,
     ⟨none, .store 3 (.tmp 2) (.tmp 28), none, false⟩,
     ⟨(some 3), .move (.val (.pv (.bool false))), none, false⟩] none)
   .ret)
  .skip))
  (.seq (.region [⟨(some 29), .load 3 (.tmp 5), none, false⟩,
    ⟨none, .store 3 (.tmp 2) (.tmp 29), none, false⟩,
    ⟨(some 3), .move (.val (.pv (.bool true))), none, false⟩] none)
  .ret))))))
def m49 : MFunc := { nparams := 1, results := [.cell 2 3, .tmp 3], body := m49c }
attribute [simp] m49
-- loop.example/g03013/spec.IsName
@[reducible] def m56k0 : List Nat := [0, 3]
@[reducible] def m56d0 : MCode :=
  (.seq (.seq (.region [⟨(some 5), .move (.tmp 3), none, false⟩,
    ⟨(some 6), .move (.tmp 0), none, false⟩,
    ⟨(some 7), .strLen (.tmp 6), none, false⟩,
    ⟨(some 8), .bin .lss (.tmp 5) (.tmp 7), none, false⟩] none)
  (.cond (.tmp 8) .skip
  (.exit 0)))
  (.seq (.block 1 (.seq (.region [⟨(some 11), .move (.tmp 0), none, false⟩,
    ⟨(some 12), .move (.tmp 3), none, false⟩,
    ⟨(some 13), .strIdx (.tmp 11) (.tmp 12), none, false⟩,
    ⟨(some 14), .conv .i64 (.tmp 13), none, false⟩,
    ⟨(some 15), .call 58 [(.tmp 14), (.val (.pv (.int .i64 (97)))), (.val (.pv (.int .i64 (122))))], none, false⟩,
    ⟨(some 4), .move (.tmp 15), none, false⟩] none)
  (.seq (.region [⟨(some 16), .move (.tmp 4), none, false⟩,
    ⟨(some 17), .un .not (.tmp 16), none, false⟩,
    ⟨(some 18), .move (.tmp 17), none, true⟩,
    ⟨(some 19), .move (.tmp 3), (some (18, true)), false⟩,
    ⟨(some 20), .bin .eql (.tmp 19) (.val (.pv (.int .i64 (0)))), (some (18, true)), false⟩,
    ⟨(some 21), .move (.tmp 20), (some (18, true)), true⟩,
    ⟨(some 22), .move (.tmp 0), (some (21, false)), false⟩,
    ⟨(some 23), .move (.tmp 3), (some (21, false)), false⟩,
    ⟨(some 24), .strIdx (.tmp 22) (.tmp 23), (some (21, false)), false⟩,
    ⟨(some 25), .conv .i64 (.tmp 24), (some (21, false)), false⟩,
    ⟨(some 26), .call 58 [(.tmp 25), (.val (.pv (.int .i64 (48)))), (.val (.pv (.int .i64 (57))))], (some (21, false)), false⟩,
    ⟨(some 27), .un .not (.tmp 26), (some (21, false)), false⟩,
    ⟨(some 28), .move (.tmp 27), (some (21, false)), true⟩,
    ⟨(some 29), .move (.tmp 0), (some (28, true)), false⟩,
    ⟨(some 30), .move (.tmp 3), (some (28, true)), false⟩,
    ⟨(some 31), .strIdx (.tmp 29) (.tmp 30), (some (28, true)), false⟩,
    ⟨(some 32), .bin .neq (.tmp 31) (.val (.pv (.int .u8 (45)))), (some (28, true)), false⟩,
    ⟨(some 33), .pick (.tmp 28) (.tmp 32) (.val (.pv (.bool false))), (some (21, false)), false⟩,
    ⟨(some 34), .pick (.tmp 21) (.val (.pv (.bool true))) (.tmp 33), (some (18, true)), false⟩,
    ⟨(some 35), .pick (.tmp 18) (.tmp 34) (.val (.pv (.bool false))), none, false⟩] none)
  (.cond (.tmp 35) (.seq (.region [⟨(some 2), .move (.val (.pv (.bool false))), none, false⟩] none)
   .ret)
  .skip))))
  (.region [⟨(some 9), .move (.tmp 3), none, false⟩,
    ⟨(some 10), .bin .add (.tmp 9) (.val (.pv (.int .i64 (1)))), none, false⟩,
    ⟨(some 3), .move (.tmp 10), none, false⟩] none)))
def m56b0 : MCode := m56d0
theorem m56x0 {R : Type} {call : FuncId → List XV → Option Res} {bx : List Nat} {σ : St} {K : K2 R} : @X R call bx m56b0 σ K = @X R call bx m56d0 σ K := rfl
attribute [simp ↓] m56x0
@[reducible] def m56c : MCode :=
  (.seq (.region [⟨(some 2), .move (.val (.pv (.bool false))), none, false⟩] none)
  (.seq (.seq (.region [⟨(some 3), .move (.val (.pv (.int .i64 (0)))), none, false⟩] none)
  (.block 0 (.loop (.seq (.forget m56k0) m56b0))))
  (.seq (.region [⟨(some 36), .move (.tmp 0), none, false⟩,
    ⟨(some 37), .strLen (.tmp 36), none, false⟩,
    ⟨(some 38), .call 58 [(.tmp 37), (.val (.pv (.int .i64 (1)))), (.val (.pv (.int .i64 (16))))], none, false⟩,
    ⟨(some 39), .move (.tmp 38), none, true⟩,
    ⟨(some 40), .move (.tmp 0), (some (39, true)), false⟩,
    ⟨(some 41), .move (.tmp 0), (some (39, true)), false⟩,
    ⟨(some 42), .strLen (.tmp 41), (some (39, true)), false⟩,
    ⟨(some 43), .bin .sub (.tmp 42) (.val (.pv (.int .i64 (1)))), (some (39, true)), false⟩,
    ⟨(some 44), .strIdx (.tmp 40) (.tmp 43), (some (39, true)), false⟩,
    ⟨(some 45), .bin .neq (.tmp 44) (.val (.pv (.int .u8 (45)))), (some (39, true)), false⟩,
    ⟨(some 46), .pick (.tmp 39) (.tmp 45) (.val (.pv (.bool false))), none, false⟩,
    ⟨(some 2), .move (.tmp 46), none, false⟩] none)
  .ret)))
def m56 : MFunc := { nparams := 1, results := [.tmp 2], body := m56c }
attribute [simp] m56
-- loop.example/g03013/spec.l1In
@[reducible] def m58c : MCode :=
  (.seq (.region [⟨(some 6), .move (.val (.pv (.bool false))), none, false⟩] none)
  (.seq (.region [⟨(some 7), .move (.tmp 0), none, false⟩,
    ⟨(some 8), .move (.tmp 1), none, false⟩,
    ⟨(some 9), .bin .geq (.tmp 7) (.tmp 8), none, false⟩,
    ⟨(some 10), .move (.tmp 9), none, true⟩,
    ⟨(some 11), .move (.tmp 0), (some (10, true)), false⟩,
    ⟨(some 12), .move (.tmp 2), (some (10, true)), false⟩,
    ⟨(some 13), .bin .leq (.tmp 11) (.tmp 12), (some (10, true)), false⟩,
    ⟨(some 14), .pick (.tmp 10) (.tmp 13) (.val (.pv (.bool false))), none, false⟩,
    ⟨(some 6), .move (.tmp 14), none, false⟩] none)
  .ret))
def m58 : MFunc := { nparams := 3, results := [.tmp 6], body := m58c }
attribute [simp] m58
-- loop.example/g03013/spec.IsText
@[reducible] def m59k0 : List Nat := [0, 3]
@[reducible] def m59d0 : MCode :=
  (.seq (.seq (.region [⟨(some 4), .move (.tmp 3), none, false⟩,
    ⟨(some 5), .move (.tmp 0), none, false⟩,
    ⟨(some 6), .strLen (.tmp 5), none, false⟩,
    ⟨(some 7), .bin .lss (.tmp 4) (.tmp 6), none, false⟩] none)
  (.cond (.tmp 7) .skip
  (.exit 0)))
  (.seq (.block 1 (.seq (.region [⟨(some 10), .move (.tmp 0), none, false⟩,
    ⟨(some 11), .move (.tmp 3), none, false⟩,
    ⟨(some 12), .strIdx (.tmp 10) (.tmp 11), none, false⟩,
    ⟨(some 13), .conv .i64 (.tmp 12), none, false⟩,
    ⟨(some 14), .call 58 [(.tmp 13), (.val (.pv (.int .i64 (32)))), (.val (.pv (.int .i64 (126))))], none, false⟩,
    ⟨(some 15), .un .not (.tmp 14), none, false⟩] none)
  (.cond (.tmp 15) (.seq (.region [⟨(some 2), .move (.val (.pv (.bool false))), none, false⟩] none)
   .ret)
  .skip)))
  (.region [⟨(some 8), .move (.tmp 3), none, false⟩,
    ⟨(some 9), .bin .add (.tmp 8) (.val (.pv (.int .i64 (1)))), none, false⟩,
    ⟨(some 3), .move (.tmp 9), none, false⟩] none)))
def m59b0 : MCode := m59d0
theorem m59x0 {R : Type} {call : FuncId → List XV → Option Res} {bx : List Nat} {σ : St} {K : K2 R} : @X R call bx m59b0 σ K = @X R call bx m59d0 σ K := rfl
attribute [simp ↓] m59x0
@[reducible] def m59c : MCode :=
  (.seq (.region [⟨(some 2), .move (.val (.pv (.bool false))), none, false⟩] none)
  (.seq (.seq (.region [⟨(some 3), .move (.val (.pv (.int .i64 (0)))), none, false⟩] none)
  (.block 0 (.loop (.seq (.forget m59k0) m59b0))))
  (.seq (.region [⟨(some 16), .move (.tmp 0), none, false⟩,
    ⟨(some 17), .strLen (.tmp 16), none, false⟩,
    ⟨(some 18), .bin .leq (.tmp 17) (.val (.pv (.int .i64 (40)))), none, false⟩,
    ⟨(some 2), .move (.tmp 18), none, false⟩] none)
  .ret)))
def m59 : MFunc := { nparams := 1, results := [.tmp 2], body := m59c }
attribute [simp] m59
-- loop.example/g03013/impl.IsText
@[reducible] def m65k0 : List Nat := [0, 3]
@[reducible] def m65d0 : MCode :=
  (.seq (.seq (.region [⟨(some 4), .move (.tmp 3), none, false⟩,
    ⟨(some 5), .move (.tmp 0), none, false⟩,
    ⟨(some 6), .strLen (.tmp 5), none, false⟩,
    ⟨(some 7), .bin .lss (.tmp 4) (.tmp 6), none, false⟩] none)
  (.cond (.tmp 7) .skip
  (.exit 0)))
  (.seq (.block 1 (.seq (.region [⟨(some 10), .move (.tmp 0), none, false⟩,
    ⟨(some 11), .move (.tmp 3), none, false⟩,
    ⟨(some 12), .strIdx (.tmp 10) (.tmp 11), none, false⟩,
    ⟨(some 13), .bin .lss (.tmp 12) (.val (.pv (.int .u8 (32)))), none, false⟩,
    ⟨(some 14), .move (.tmp 13), none, true⟩,
    ⟨(some 15), .move (.tmp 0), (some (14, false)), false⟩,
    ⟨(some 16), .move (.tmp 3), (some (14, false)), false⟩,
    ⟨(some 17), .strIdx (.tmp 15) (.tmp 16), (some (14, false)), false⟩,
    ⟨(some 18), .bin .gtr (.tmp 17) (.val (.pv (.int .u8 (126)))), (some (14, false)), false⟩,
    ⟨(some 19), .pick (.tmp 14) (.val (.pv (.bool true))) (.tmp 18), none, false⟩] none)
  (.cond (.tmp 19) (.seq (.region [⟨(some 2), .move (.val (.pv (.bool false))), none, false⟩] none)
   .ret)
  .skip)))
  (.region [⟨(some 8), .move (.tmp 3), none, false⟩,
    ⟨(some 9), .bin .add (.tmp 8) (.val (.pv (.int .i64 (1)))), none, false⟩,
    ⟨(some 3), .move (.tmp 9), none, false⟩] none)))
def m65b0 : MCode := m65d0
theorem m65x0 {R : Type} {call : FuncId → List XV → Option Res} {bx : List Nat} {σ : St} {K : K2 R} : @X R call bx m65b0 σ K = @X R call bx m65d0 σ K := rfl
attribute [simp ↓] m65x0
@[reducible] def m65c : MCode :=
  (.seq (.region [⟨(some 2), .move (.val (.pv (.bool false))), none, false⟩] none)
  (.seq (.seq (.region [⟨(some 3), .move (.val (.pv (.int .i64 (0)))), none, false⟩] none)
  (.block 0 (.loop (.seq (.forget m65k0) m65b0))))
  (.seq (.region [⟨(some 20), .move (.tmp 0), none, false⟩,
    ⟨(some 21), .strLen (.tmp 20), none, false⟩,
    ⟨(some 22), .bin .leq (.tmp 21) (.val (.pv (.int .i64 (40)))), none, false⟩,
    ⟨(some 2), .move (.tmp 22), none, false⟩] none)
  .ret)))
def m65 : MFunc := { nparams := 1, results := [.tmp 2], body := m65c }
attribute [simp] m65
-- loop.example/g03013/impl.IsName
@[reducible] def m69k0 : List Nat := [0, 3]
@[reducible] def m69d0 : MCode :=
  (.seq (.seq (.region [⟨(some 18), .move (.tmp 3), none, false⟩,
    ⟨(some 19), .move (.tmp 0), none, false⟩,
    ⟨(some 20), .strLen (.tmp 19), none, false⟩,
    ⟨(some 21), .bin .lss (.tmp 18) (.tmp 20), none, false⟩] none)
  (.cond (.tmp 21) .skip
  (.exit 0)))
  (.seq (.block 1 (.seq (.region [⟨(some 24), .move (.tmp 0), none, false⟩,
    ⟨(some 25), .move (.tmp 3), none, false⟩,
    ⟨(some 26), .strIdx (.tmp 24) (.tmp 25), none, false⟩,
    ⟨(some 27), .call 82 [(.tmp 26)], none, false⟩,
    ⟨(some 28), .un .not (.tmp 27), none, false⟩] none)
  (.cond (.tmp 28) (.seq (.region [⟨(some 2), .move (.val (.pv (.bool false))), none, false⟩] none)
   .ret)
  .skip)))
  (.region [⟨(some 22), .move (.tmp 3), none, false⟩,
    ⟨(some 23), .bin .add (.tmp 22) (.val (.pv (.int .i64 (1)))), none, false⟩,
    ⟨(some 3), .move (.tmp 23), none, false⟩] none)))
def m69b0 : MCode := m69d0
theorem m69x0 {R : Type} {call : FuncId → List XV → Option Res} {bx : List Nat} {σ : St} {K : K2 R} : @X R call bx m69b0 σ K = @X R call bx m69d0 σ K := rfl
attribute [simp ↓] m69x0
@[reducible] def m69c : MCode :=
  (.seq (.region [⟨(some 2), .move (.val (.pv (.bool false))), none, false⟩] none)
  (.seq (.seq (.region [⟨(some 4), .move (.tmp 0), none, false⟩,
    ⟨(some 5), .strLen (.tmp 4), none, false⟩,
    ⟨(some 6), .bin .lss (.tmp 5) (.val (.pv (.int .i64 (1)))), none, false⟩,
    ⟨(some 7), .move (.tmp 6), none, true⟩,
    ⟨(some 8), .move (.tmp 0), (some (7, false)), false⟩,
    ⟨(some 9), .strLen (.tmp 8), (some (7, false)), false⟩,
    ⟨(some 10), .bin .gtr (.tmp 9) (.val (.pv (.int .i64 (16)))), (some (7, false)), false⟩,
    ⟨(some 11), .pick (.tmp 7) (.val (.pv (.bool true))) (.tmp 10), none, false⟩,
    ⟨(some 12), .move (.tmp 11), none, true⟩,
    ⟨(some 13), .move (.tmp 0), (some (12, false)), false⟩,
    ⟨(some 14), .strIdx (.tmp 13) (.val (.pv (.int .i64 (0)))), (some (12, false)), false⟩,
    ⟨(some 15), .call 81 [(.tmp 14)], (some (12, false)), false⟩,
    ⟨(some 16), .un .not (.tmp 15), (some (12, false)), false⟩,
    ⟨(some 17), .pick (.tmp 12) (.val (.pv (.bool true))) (.tmp 16), none, false⟩] none)
  (.cond (.tmp 17) (.seq (.region [⟨(some 2), .move (.val (.pv (.bool false))), none, false⟩] none)
   .ret)
  .skip))
  (.seq (.seq (.region [⟨(some 3), .move (.val (.pv (.int .i64 (1)))), none, false⟩] none)
  (.block 0 (.loop (.seq (.forget m69k0) m69b0))))
  (.seq (.region [⟨(some 29), .move (.tmp 0), none, false⟩,
    ⟨(some 30), .move (.tmp 0), none, false⟩,
    ⟨(some 31), .strLen (.tmp 30), none, false⟩,
    ⟨(some 32), .bin .sub (.tmp 31) (.val (.pv (.int .i64 (1)))), none, false⟩,
    ⟨(some 33), .strIdx (.tmp 29) (.tmp 32), none, false⟩,
    ⟨(some 34), .bin .neq (.tmp 33) (.val (.pv (.int .u8 (45)))), none, false⟩,
    ⟨(some 2), .move (.tmp 34), none, false⟩] none)
  .ret))))
def m69 : MFunc := { nparams := 1, results := [.tmp 2], body := m69c }
attribute [simp] m69
-- loop.example/g03013/spec.l5Alt
@[reducible] def m70k0 : List Nat := [0, 2, 3]
@[reducible] def m70d0 : MCode :=
  (.seq (.seq (.region [⟨(some 7), .move (.tmp 0), none, false⟩,
    ⟨(some 8), .call 84 [(.tmp 7), (.val (.pv (.int .u8 (124))))], none, false⟩] none)
  (.cond (.tmp 8) .skip
  (.exit 0)))
  (.block 1 (.region [⟨(some 9), .move (.tmp 3), none, false⟩,
    ⟨(some 10), .move (.tmp 0), none, false⟩,
    ⟨(some 11), .call 83 [(.tmp 10)], none, false⟩,
    ⟨(some 12), .buildSlice 3 [(.tmp 11)], none, false⟩,
    ⟨(some 13), .append 3 48 (.tmp 9) (.tmp 12), none, false⟩,
    ⟨(some 3), .move (.tmp 13), none, false⟩] none)))
def m70b0 : MCode := m70d0
theorem m70x0 {R : Type} {call : FuncId → List XV → Option Res} {bx : List Nat} {σ : St} {K : K2 R} : @X R call bx m70b0 σ K = @X R call bx m70d0 σ K := rfl
attribute [simp ↓] m70x0
@[reducible] def m70c : MCode :=
  (.seq (.region [⟨(some 2), .alloc [(.pv (.int .i64 (0))), (.pv (.str ⟨#[]⟩)), .nils], none, false⟩] none)
  (.seq (.region [⟨(some 4), .move (.tmp 0), none, false⟩,
    ⟨(some 5), .call 83 [(.tmp 4)], none, false⟩,
    ⟨(some 6), .buildSlice 3 [(.tmp 5)], none, false⟩,
    ⟨(some 3), .move (.tmp 6), none, false⟩] none)
  (.seq (.block 0 (.loop (.seq (.forget m70k0) m70b0)))
  (.seq (.seq (.region [⟨(some 14), .move (.tmp 3), none, false⟩,
    ⟨(some 15), .len (.tmp 14), none, false⟩,
    ⟨(some 16), .bin .eql (.tmp 15) (.val (.pv (.int .i64 (1)))), none, false⟩] none)
  (.cond (.tmp 16) (.seq (.region [⟨(some 17), .move (.tmp 3), none, false⟩,
     ⟨(some 18), .indexAddr 3 (.tmp 17) (.val (.pv (.int .i64 (0)))), none, false⟩,
     ⟨(some 19), .load 3 (.tmp 18), none, false⟩,
     ⟨none, .store 3 (.tmp 2) (.tmp 19), none, false⟩] none)
   .ret)
  .skip))
  (.seq (.region [⟨(some 20), .move (.tmp 3), none, false⟩,
    ⟨(some 21), .build [(.pv (.int .i64 (0))), (.pv (.str ⟨#[]⟩)), .nils] [(0, 0, (.val (.pv (.int .i64 (3))))), (2, 0, (.tmp 20))], none, false⟩,
    ⟨none, .store 3 (.tmp 2) (.tmp 21), none, false⟩] none)
  .ret)))))
def m70 : MFunc := { nparams := 1, results := [.cell 2 3], body := m70c }
attribute [simp] m70
-- (*loop.example/g03013/impl.patReader).alt
@[reducible] def m71k0 : List Nat := [0, 2, 3]
@[reducible] def m71d0 : MCode :=
  (.seq (.seq (.region [⟨(some 7), .move (.tmp 0), none, false⟩,
    ⟨(some 8), .call 86 [(.tmp 7), (.val (.pv (.int .u8 (124))))], none, false⟩] none)
  (.cond (.tmp 8) .skip
  (.exit 0)))
  (.block 1 (.region [⟨(some 9), .move (.tmp 3), none, false⟩,
    ⟨(some 10), .move (.tmp 0), none, false⟩,
    ⟨(some 11), .call 85 [(.tmp 10)], none, false⟩,
    ⟨(some 12), .buildSlice 3 [(.tmp 11)], none, false⟩,
    ⟨(some 13), .append 3 48 (.tmp 9) (.tmp 12), none, false⟩,
    ⟨(some 3), .move (.tmp 13), none, false⟩] none)))
def m71b0 : MCode := m71d0
theorem m71x0 {R : Type} {call : FuncId → List XV → Option Res} {bx : List Nat} {σ : St} {K : K2 R} : @X R call bx m71b0 σ K = @X R call bx m71d0 σ K := rfl
attribute [simp ↓] m71x0
@[reducible] def m71c : MCode :=
  (.seq (.region [⟨(some 2), .alloc [(.pv (.int .i64 (0))), (.pv (.str ⟨#[]⟩)), .nils], none, false⟩] none)
  (.seq (.region [⟨(some 4), .move (.tmp 0), none, false⟩,
    ⟨(some 5), .call 85 [(.tmp 4)], none, false⟩,
    ⟨(some 6), .buildSlice 3 [(.tmp 5)], none, false⟩,
    ⟨(some 3), .move (.tmp 6), none, false⟩] none)
  (.seq (.block 0 (.loop (.seq (.forget m71k0) m71b0)))
  (.seq (.seq (.region [⟨(some 14), .move (.tmp 3), none, false⟩,
    ⟨(some 15), .len (.tmp 14), none, false⟩,
    ⟨(some 16), .bin .eql (.tmp 15) (.val (.pv (.int .i64 (1)))), none, false⟩] none)
  (.cond (.tmp 16) (.seq (.region [⟨(some 17), .move (.tmp 3), none, false⟩,
     ⟨(some 18), .indexAddr 3 (.tmp 17) (.val (.pv (.int .i64 (0)))), none, false⟩,
     ⟨(some 19), .load 3 (.tmp 18), none, false⟩,
     ⟨none, .store 3 (.tmp 2) (.tmp 19), none, false⟩] none)
   .ret)
  .skip))
  (.seq (.region [⟨(some 20), .move (.tmp 3), none, false⟩,
    ⟨(some 21), .build [(.pv (.int .i64 (0))), (.pv (.str ⟨#[]⟩)), .nils] [(0, 0, (.val (.pv (.int .i64 (3))))), (2, 0, (.tmp 20))], none, false⟩,
    ⟨none, .store 3 (.tmp 2) (.tmp 21), none, false⟩] none)
  .ret)))))
def m71 : MFunc := { nparams := 1, results := [.cell 2 3], body := m71c }
attribute [simp] m71
-- loop.example/g03013/impl.isLower
@[reducible] def m81c : MCode :=
  (.seq (.region [⟨(some 2), .move (.val (.pv (.bool false))), none, false⟩] none)
  (.seq (.region [⟨(some 3), .move (.tmp 0), none, false⟩,
    ⟨(some 4), .bin .geq (.tmp 3) (.val (.pv (.int .u8 (97)))), none, false⟩,
    ⟨(some 5), .move (.tmp 4), none, true⟩,
    ⟨(some 6), .move (.tmp 0), (some (5, true)), false⟩,
    ⟨(some 7), .bin .leq (.tmp 6) (.val (.pv (.int .u8 (122)))), (some (5, true)), false⟩,
    ⟨(some 8), .pick (.tmp 5) (.tmp 7) (.val (.pv (.bool false))), none, false⟩,
    ⟨(some 2), .move (.tmp 8), none, false⟩] none)
  .ret))
def m81 : MFunc := { nparams := 1, results := [.tmp 2], body := m81c }
attribute [simp] m81
-- loop.example/g03013/impl.isNameByte
@[reducible] def m82c : MCode :=
  (.seq (.region [⟨(some 2), .move (.val (.pv (.bool false))), none, false⟩] none)
  (.seq (.region [⟨(some 3), .move (.tmp 0), none, false⟩,
    ⟨(some 4), .call 81 [(.tmp 3)], none, false⟩,
    ⟨(some 5), .move (.tmp 4), none, true⟩,
    ⟨(some 6), .move (.tmp 0), (some (5, false)), false⟩,
    ⟨(some 7), .call 96 [(.tmp 6)], (some (5, false)), false⟩,
    ⟨(some 8), .pick (.tmp 5) (.val (.pv (.bool true))) (.tmp 7), none, false⟩,
    ⟨(some 9), .move (.tmp 8), none, true⟩,
    ⟨(some 10), .move (.tmp 0), (some (9, false)), false⟩,
    ⟨(some 11), .bin .eql (.tmp 10) (.val (.pv (.int .u8 (45)))), (some (9, false)), false⟩,
    ⟨(some 12), .pick (.tmp 9) (.val (.pv (.bool true))) (.tmp 11), none, false⟩,
    ⟨(some 2), .move (.tmp 12), none, false⟩] none)
  .ret))
def m82 : MFunc := { nparams := 1, results := [.tmp 2], body := m82c }
attribute [simp] m82
-- loop.example/g03013/spec.l5Seq
@[reducible] def m83e0 : List MOper := [⟨(some 6), .move (.tmp 0), none, false⟩,
  ⟨(some 7), .nilCheck (.tmp 6), none, false⟩,
  ⟨(some 8), .fieldAddr 2 (.tmp 7), none, false⟩,
  ⟨(some 9), .load 0 (.tmp 8), none, false⟩,
  ⟨(some 10), .un .not (.tmp 9), none, false⟩,
  ⟨(some 11), .move (.tmp 10), none, true⟩,
  ⟨(some 12), .move (.tmp 0), (some (11, true)), false⟩,
  ⟨(some 13), .nilCheck (.tmp 12), (some (11, true)), false⟩,
  ⟨(some 14), .fieldAddr 1 (.tmp 13), (some (11, true)), false⟩,
  ⟨(some 15), .load 0 (.tmp 14), (some (11, true)), false⟩,
  ⟨(some 16), .move (.tmp 0), (some (11, true)), false⟩,
  ⟨(some 17), .nilCheck (.tmp 16), (some (11, true)), false⟩,
  ⟨(some 18), .fieldAddr 0 (.tmp 17), (some (11, true)), false⟩,
  ⟨(some 19), .load 0 (.tmp 18), (some (11, true)), false⟩,
  ⟨(some 20), .strLen (.tmp 19), (some (11, true)), false⟩,
  ⟨(some 21), .bin .lss (.tmp 15) (.tmp 20), (some (11, true)), false⟩,
  ⟨(some 22), .pick (.tmp 11) (.tmp 21) (.val (.pv (.bool false))), none, false⟩,
  ⟨(some 23), .move (.tmp 22), none, true⟩,
  ⟨(some 24), .move (.tmp 0), (some (23, true)), false⟩,
  ⟨(some 25), .nilCheck (.tmp 24), (some (23, true)), false⟩,
  ⟨(some 26), .fieldAddr 0 (.tmp 25), (some (23, true)), false⟩,
  ⟨(some 27), .load 0 (.tmp 26), (some (23, true)), false⟩,
  ⟨(some 28), .move (.tmp 0), (some (23, true)), false⟩,
  ⟨(some 29), .nilCheck (.tmp 28), (some (23, true)), false⟩,
  ⟨(some 30), .fieldAddr 1 (.tmp 29), (some (23, true)), false⟩,
  ⟨(some 31), .load 0 (.tmp 30), (some (23, true)), false⟩,
  ⟨(some 32), .strIdx (.tmp 27) (.tmp 31), (some (23, true)), false⟩,
  ⟨(some 33), .bin .neq (.tmp 32) (.val (.pv (.int .u8 (124)))), (some (23, true)), false⟩,
  ⟨(some 34), .pick (.tmp 23) (.tmp 33) (.val (.pv (.bool false))), none, false⟩,
  ⟨(some 35), .move (.tmp 34), none, true⟩,
  ⟨(some 36), .move (.tmp 0), (some (35, true)), false⟩,
  ⟨(some 37), .nilCheck (.tmp 36), (some (35, true)), false⟩,
  ⟨(some 38), .fieldAddr 0 (.tmp 37), (some (35, true)), false⟩,
  ⟨(some 39), .load 0 (.tmp 38), (some (35, true)), false⟩,
  ⟨(some 40), .move (.tmp 0), (some (35, true)), false⟩,
  ⟨(some 41), .nilCheck (.tmp 40), (some (35, true)), false⟩,
  ⟨(some 42), .fieldAddr 1 (.tmp 41), (some (35, true)), false⟩,
  ⟨(some 43), .load 0 (.tmp 42), (some (35, true)), false⟩,
  ⟨(some 44), .strIdx (.tmp 39) (.tmp 43), (some (35, true)), false⟩,
  ⟨(some 45), .bin .neq (.tmp 44) (.val (.pv (.int .u8 (41)))), (some (35, true)), false⟩,
  ⟨(some 46), .pick (.tmp 35) (.tmp 45) (.val (.pv (.bool false))), none, false⟩]
def m83r0 : List MOper := m83e0
def m83q0 : List Nat := [0, 1, 3, 7, 15, 31, 63, 127, 255, 511, 63, 1087, 3135, 7231, 15423, 32767, 65535, 131071, 262143, 524287, 1048575, 2097151, 262143, 4456447, 12845055, 29622271, 67108863, 134217727, 268435455, 536870911, 1073741823, 2147483647, 4294967295, 8589934591, 1073741823, 18253611007, 52613349375, 121332826111, 274877906943, 549755813887, 1099511627775]
theorem m83x0 {R : Type} {call : FuncId → List XV → Option Res} {bx : List Nat} {σ : St} {K : K2 R} : @X R call bx (.region m83r0 (some m83q0)) σ K = @XD R call m83e0 m83q0 σ K := X_draw (by decide +kernel)
attribute [simp ↓] m83x0
@[reducible] def m83e1 : List MOper := [⟨(some 58), .load 3 (.tmp 4), none, false⟩,
  ⟨(some 59), .load 3 (.tmp 4), none, false⟩,
  ⟨(some 60), .call 98 [(.tmp 59)], none, false⟩,
  ⟨(some 61), .buildSlice 3 [(.tmp 60)], none, false⟩,
  ⟨(some 62), .build [(.pv (.int .i64 (0))), (.pv (.str ⟨#[]⟩)), .nils] [(0, 0, (.val (.pv (.int .i64 (4))))), (2, 0, (.tmp 61))], none, false⟩,
  ⟨(some 63), .buildSlice 3 [(.tmp 58), (.tmp 62)], none, false⟩,
  ⟨(some 64), .build [(.pv (.int .i64 (0))), (.pv (.str ⟨#[]⟩)), .nils] [(0, 0, (.val (.pv (.int .i64 (2))))), (2, 0, (.tmp 63))], none, false⟩,
  ⟨none, .store 3 (.tmp 4) (.tmp 64), none, false⟩]
def m83r1 : List MOper := m83e1
def m83q1 : List Nat := [0, 0, 2, 6, 14, 31, 63, 127]
theorem m83x1 {R : Type} {call : FuncId → List XV → Option Res} {bx : List Nat} {σ : St} {K : K2 R} : @X R call bx (.region m83r1 (some m83q1)) σ K = @XD R call m83e1 m83q1 σ K := X_draw (by decide +kernel)
attribute [simp ↓] m83x1
@[reducible] def m83k2 : List Nat := [0, 2, 3]
@[reducible] def m83d2 : MCode :=
  (.seq (.seq (.region m83r0 (some m83q0))
  (.cond (.tmp 46) .skip
  (.exit 0)))
  (.block 1 (.seq (.region [⟨(some 47), .move (.tmp 0), none, false⟩,
    ⟨(some 48), .call 97 [(.tmp 47)], none, false⟩,
    ⟨(some 4), .alloc [(.pv (.int .i64 (0))), (.pv (.str ⟨#[]⟩)), .nils], none, false⟩,
    ⟨none, .store 3 (.tmp 4) (.tmp 48), none, false⟩] none)
  (.seq (.block 2 (.seq (.region [⟨(some 50), .move (.tmp 0), none, false⟩,
    ⟨(some 51), .call 84 [(.tmp 50), (.val (.pv (.int .u8 (42))))], none, false⟩,
    ⟨(some 49), .move (.tmp 51), none, false⟩] none)
  (.cond (.tmp 49) (.region [⟨(some 52), .load 3 (.tmp 4), none, false⟩,
     ⟨(some 53), .buildSlice 3 [(.tmp 52)], none, false⟩,
     ⟨(some 54), .build [(.pv (.int .i64 (0))), (.pv (.str ⟨#[]⟩)), .nils] [(0, 0, (.val (.pv (.int .i64 (4))))), (2, 0, (.tmp 53))], none, false⟩,
     ⟨none, .store 3 (.tmp 4) (.tmp 54), none, false⟩] none)
  (.seq (.region [⟨(some 56), .move (.tmp 0), none, false⟩,
     ⟨(some 57), .call 84 [(.tmp 56), (.val (.pv (.int .u8 (43))))], none, false⟩,
     ⟨(some 55), .move (.tmp 57), none, false⟩] none)
   (.cond (.tmp 55) (.region m83r1 (some m83q1))
   (.seq (.region [⟨(some 66), .move (.tmp 0), none, false⟩,
      ⟨(some 67), .call 84 [(.tmp 66), (.val (.pv (.int .u8 (63))))], none, false⟩,
      ⟨(some 65), .move (.tmp 67), none, false⟩] none)
    (.cond (.tmp 65) (.region [⟨(some 68), .load 3 (.tmp 4), none, false⟩,
       ⟨(some 69), .buildSlice 3 [(.tmp 68)], none, false⟩,
       ⟨(some 70), .build [(.pv (.int .i64 (0))), (.pv (.str ⟨#[]⟩)), .nils] [(0, 0, (.val (.pv (.int .i64 (5))))), (2, 0, (.tmp 69))], none, false⟩,
       ⟨none, .store 3 (.tmp 4) (.tmp 70), none, false⟩] none)
    .skip)))))))
  (.region [⟨(some 71), .move (.tmp 3), none, false⟩,
    ⟨(some 72), .load 3 (.tmp 4), none, false⟩,
    ⟨(some 73), .buildSlice 3 [(.tmp 72)], none, false⟩,
    ⟨(some 74), .append 3 48 (.tmp 71) (.tmp 73), none, false⟩,
    ⟨(some 3), .move (.tmp 74), none, false⟩] none)))))
def m83b2 : MCode := m83d2
theorem m83x2 {R : Type} {call : FuncId → List XV → Option Res} {bx : List Nat} {σ : St} {K : K2 R} : @X R call bx m83b2 σ K = @X R call bx m83d2 σ K := rfl
attribute [simp ↓] m83x2
@[reducible] def m83c : MCode :=
  (.seq (.region [⟨(some 2), .alloc [(.pv (.int .i64 (0))), (.pv (.str ⟨#[]⟩)), .nils], none, false⟩] none)
  (.seq (.region [⟨(some 5), .buildSlice 3 [], none, false⟩,
    ⟨(some 3), .move (.tmp 5), none, false⟩] none)
  (.seq (.block 0 (.loop (.seq (.forget m83k2) m83b2)))
  (.seq (.seq (.region [⟨(some 75), .move (.tmp 3), none, false⟩,
    ⟨(some 76), .len (.tmp 75), none, false⟩,
    ⟨(some 77), .bin .eql (.tmp 76) (.val (.pv (.int .i64 (1)))), none, false⟩] none)
  (.cond (.tmp 77) (.seq (.region [⟨(some 78), .move (.tmp 3), none, false⟩,
     ⟨(some 79), .indexAddr 3 (.tmp 78) (.val (.pv (.int .i64 (0)))), none, false⟩,
     ⟨(some 80), .load 3 (.tmp 79), none, false⟩,
     ⟨none, .store 3 (.tmp 2) (.tmp 80), none, false⟩] none)
   .ret)
  .skip))
  (.seq (.region [⟨(some 81), .move (.tmp 3), none, false⟩,
    ⟨(some 82), .build [(.pv (.int .i64 (0))), (.pv (.str ⟨#[]⟩)), .nils] [(0, 0, (.val (.pv (.int .i64 (2))))), (2, 0, (.tmp 81))], none, false⟩,
    ⟨none, .store 3 (.tmp 2) (.tmp 82), none, false⟩] none)
  .ret)))))
def m83 : MFunc := { nparams := 1, results := [.cell 2 3], body := m83c }
attribute [simp] m83
-- loop.example/g03013/spec.l5Next
@[reducible] def m84e0 : List MOper := [⟨(some 5), .move (.tmp 0), none, false⟩,
  ⟨(some 6), .nilCheck (.tmp 5), none, false⟩,
  ⟨(some 7), .fieldAddr 2 (.tmp 6), none, false⟩,
  ⟨(some 8), .load 0 (.tmp 7), none, false⟩,
  ⟨(some 9), .un .not (.tmp 8), none, false⟩,
  ⟨(some 10), .move (.tmp 9), none, true⟩,
  ⟨(some 11), .move (.tmp 0), (some (10, true)), false⟩,
  ⟨(some 12), .nilCheck (.tmp 11), (some (10, true)), false⟩,
  ⟨(some 13), .fieldAddr 1 (.tmp 12), (some (10, true)), false⟩,
  ⟨(some 14), .load 0 (.tmp 13), (some (10, true)), false⟩,
  ⟨(some 15), .move (.tmp 0), (some (10, true)), false⟩,
  ⟨(some 16), .nilCheck (.tmp 15), (some (10, true)), false⟩,
  ⟨(some 17), .fieldAddr 0 (.tmp 16), (some (10, true)), false⟩,
  ⟨(some 18), .load 0 (.tmp 17), (some (10, true)), false⟩,
  ⟨(some 19), .strLen (.tmp 18), (some (10, true)), false⟩,
  ⟨(some 20), .bin .lss (.tmp 14) (.tmp 19), (some (10, true)), false⟩,
  ⟨(some 21), .pick (.tmp 10) (.tmp 20) (.val (.pv (.bool false))), none, false⟩,
  ⟨(some 22), .move (.tmp 21), none, true⟩,
  ⟨(some 23), .move (.tmp 0), (some (22, true)), false⟩,
  ⟨(some 24), .nilCheck (.tmp 23), (some (22, true)), false⟩,
  ⟨(some 25), .fieldAddr 0 (.tmp 24), (some (22, true)), false⟩,
  ⟨(some 26), .load 0 (.tmp 25), (some (22, true)), false⟩,
  ⟨(some 27), .move (.tmp 0), (some (22, true)), false⟩,
  ⟨(some 28), .nilCheck (.tmp 27), (some (22, true)), false⟩,
  ⟨(some 29), .fieldAddr 1 (.tmp 28), (some (22, true)), false⟩,
  ⟨(some 30), .load 0 (.tmp 29), (some (22, true)), false⟩,
  ⟨(some 31), .strIdx (.tmp 26) (.tmp 30), (some (22, true)), false⟩,
  ⟨(some 32), .move (.tmp 1), (some (22, true)), false⟩,
  ⟨(some 33), .bin .eql (.tmp 31) (.tmp 32), (some (22, true)), false⟩,
  ⟨(some 34), .pick (.tmp 22) (.tmp 33) (.val (.pv (.bool false))), none, false⟩]
def m84r0 : List MOper := m84e0
def m84q0 : List Nat := [0, 1, 3, 7, 15, 31, 63, 127, 255, 511, 63, 1087, 3135, 7231, 15423, 32767, 65535, 131071, 262143, 524287, 1048575, 2097151, 262143, 4456447, 12845055, 29622271, 67108863, 262143, 268435455, 536870911]
theorem m84x0 {R : Type} {call : FuncId → List XV → Option Res} {bx : List Nat} {σ : St} {K : K2 R} : @X R call bx (.region m84r0 (some m84q0)) σ K = @XD R call m84e0 m84q0 σ K := X_draw (by decide +kernel)
attribute [simp ↓] m84x0
@[reducible] def m84c : MCode :=
  (.seq (.region [⟨(some 4), .move (.val (.pv (.bool false))), none, false⟩] none)
  (.seq (.seq (.region m84r0 (some m84q0))
  (.cond (.tmp 34) (.seq (.region [⟨(some 35), .move (.tmp 0), none, false⟩,
     ⟨(some 36), .move (.tmp 0), none, false⟩,
     ⟨(some 37), .nilCheck (.tmp 36), none, false⟩,
     ⟨(some 38), .fieldAddr 1 (.tmp 37), none, false⟩,
     ⟨(some 39), .load 0 (.tmp 38), none, false⟩,
     ⟨(some 40), .bin .add (.tmp 39) (.val (.pv (.int .i64 (1)))), none, false⟩,
     ⟨(some 41), .nilCheck (.tmp 35), none, false⟩,
     ⟨(some 42), .fieldAddr 1 (.tmp 41), none, false⟩,
     ⟨none, .store 0 (.tmp 42) (.tmp 40), none, false⟩] none)
   (.seq (.region [⟨(some 4), .move (.val (.pv (.bool true))), none, false⟩] none)
   .ret))
  .skip))
  (.seq (.region [⟨(some 4), .move (.val (.pv (.bool false))), none, false⟩] none)
  .ret)))
def m84 : MFunc := { nparams := 2, results := [.tmp 4], body := m84c }
attribute [simp] m84
-- (*loop.example/g03013/impl.patReader).seq
@[reducible] def m85e0 : List MOper := [⟨(some 5), .move (.tmp 0), none, false⟩,
  ⟨(some 6), .nilCheck (.tmp 5), none, false⟩,
  ⟨(some 7), .fieldAddr 2 (.tmp 6), none, false⟩,
  ⟨(some 8), .load 0 (.tmp 7), none, false⟩,
  ⟨(some 9), .un .not (.tmp 8), none, false⟩,
  ⟨(some 10), .move (.tmp 9), none, true⟩,
  ⟨(some 11), .move (.tmp 0), (some (10, true)), false⟩,
  ⟨(some 12), .nilCheck (.tmp 11), (some (10, true)), false⟩,
  ⟨(some 13), .fieldAddr 1 (.tmp 12), (some (10, true)), false⟩,
  ⟨(some 14), .load 0 (.tmp 13), (some (10, true)), false⟩,
  ⟨(some 15), .move (.tmp 0), (some (10, true)), false⟩,
  ⟨(some 16), .nilCheck (.tmp 15), (some (10, true)), false⟩,
  ⟨(some 17), .fieldAddr 0 (.tmp 16), (some (10, true)), false⟩,
  ⟨(some 18), .load 0 (.tmp 17), (some (10, true)), false⟩,
  ⟨(some 19), .strLen (.tmp 18), (some (10, true)), false⟩,
  ⟨(some 20), .bin .lss (.tmp 14) (.tmp 19), (some (10, true)), false⟩,
  ⟨(some 21), .pick (.tmp 10) (.tmp 20) (.val (.pv (.bool false))), none, false⟩,
  ⟨(some 22), .move (.tmp 21), none, true⟩,
  ⟨(some 23), .move (.tmp 0), (some (22, true)), false⟩,
  ⟨(some 24), .nilCheck (.tmp 23), (some (22, true)), false⟩,
  ⟨(some 25), .fieldAddr 0 (.tmp 24), (some (22, true)), false⟩,
  ⟨(some 26), .load 0 (.tmp 25), (some (22, true)), false⟩,
  ⟨(some 27), .move (.tmp 0), (some (22, true)), false⟩,
  ⟨(some 28), .nilCheck (.tmp 27), (some (22, true)), false⟩,
  ⟨(some 29), .fieldAddr 1 (.tmp 28), (some (22, true)), false⟩,
  ⟨(some 30), .load 0 (.tmp 29), (some (22, true)), false⟩,
  ⟨(some 31), .strIdx (.tmp 26) (.tmp 30), (some (22, true)), false⟩,
  ⟨(some 32), .bin .neq (.tmp 31) (.val (.pv (.int .u8 (124)))), (some (22, true)), false⟩,
  ⟨(some 33), .pick (.tmp 22) (.tmp 32) (.val (.pv (.bool false))), none, false⟩,
  ⟨(some 34), .move (.tmp 33), none, true⟩,
  ⟨(some 35), .move (.tmp 0), (some (34, true)), false⟩,
  ⟨(some 36), .nilCheck (.tmp 35), (some (34, true)), false⟩,
  ⟨(some 37), .fieldAddr 0 (.tmp 36), (some (34, true)), false⟩,
  ⟨(some 38), .load 0 (.tmp 37), (some (34, true)), false⟩,
  ⟨(some 39), .move (.tmp 0), (some (34, true)), false⟩,
  ⟨(some 40), .nilCheck (.tmp 39), (some (34, true)), false⟩,
  ⟨(some 41), .fieldAddr 1 (.tmp 40), (some (34, true)), false⟩,
  ⟨(some 42), .load 0 (.tmp 41), (some (34, true)), false⟩,
  ⟨(some 43), .strIdx (.tmp 38) (.tmp 42), (some (34, true)), false⟩,
  ⟨(some 44), .bin .neq (.tmp 43) (.val (.pv (.int .u8 (41)))), (some (34, true)), false⟩,
  ⟨(some 45), .pick (.tmp 34) (.tmp 44) (.val (.pv (.bool false))), none, false⟩]
def m85r0 : List MOper := m85e0
def m85q0 : List Nat := [0, 1, 3, 7, 15, 31, 63, 127, 255, 511, 63, 1087, 3135, 7231, 15423, 32767, 65535, 131071, 262143, 524287, 1048575, 2097151, 262143, 4456447, 12845055, 29622271, 67108863, 134217727, 268435455, 536870911, 1073741823, 2147483647, 4294967295, 8589934591, 1073741823, 18253611007, 52613349375, 121332826111, 274877906943, 549755813887, 1099511627775]
theorem m85x0 {R : Type} {call : FuncId → List XV → Option Res} {bx : List Nat} {σ : St} {K : K2 R} : @X R call bx (.region m85r0 (some m85q0)) σ K = @XD R call m85e0 m85q0 σ K := X_draw (by decide +kernel)
attribute [simp ↓] m85x0
@[reducible] def m85k1 : List Nat := [0, 2, 3]
@[reducible] def m85d1 : MCode :=
  (.seq (.seq (.region m85r0 (some m85q0))
  (.cond (.tmp 45) .skip
  (.exit 0)))
  (.block 1 (.region [⟨(some 46), .move (.tmp 3), none, false⟩,
    ⟨(some 47), .move (.tmp 0), none, false⟩,
    ⟨(some 48), .call 99 [(.tmp 47)], none, false⟩,
    ⟨(some 49), .buildSlice 3 [(.tmp 48)], none, false⟩,
    ⟨(some 50), .append 3 48 (.tmp 46) (.tmp 49), none, false⟩,
    ⟨(some 3), .move (.tmp 50), none, false⟩] none)))
def m85b1 : MCode := m85d1
theorem m85x1 {R : Type} {call : FuncId → List XV → Option Res} {bx : List Nat} {σ : St} {K : K2 R} : @X R call bx m85b1 σ K = @X R call bx m85d1 σ K := rfl
attribute [simp ↓] m85x1
@[reducible] def m85c : MCode :=
  (.seq (.region [⟨(some 2), .alloc [(.pv (.int .i64 (0))), (.pv (.str ⟨#[]⟩)), .nils], none, false⟩] none)
  (.seq (.region [⟨(some 4), .buildSlice 3 [], none, false⟩,
    ⟨(some 3), .move (.tmp 4), none, false⟩] none)
  (.seq (.block 0 (.loop (.seq (.forget m85k1) m85b1)))
  (.seq (.seq (.region [⟨(some 51), .move (.tmp 3), none, false⟩,
    ⟨(some 52), .len (.tmp 51), none, false⟩,
    ⟨(some 53), .bin .eql (.tmp 52) (.val (.pv (.int .i64 (1)))), none, false⟩] none)
  (.cond (.tmp 53) (.seq (.region [⟨(some 54), .move (.tmp 3), none, false⟩,
     ⟨(some 55), .indexAddr 3 (.tmp 54) (.val (.pv (.int .i64 (0)))), none, false⟩,
     ⟨(some 56), .load 3 (.tmp 55), none, false⟩,
     ⟨none, .store 3 (.tmp 2) (.tmp 56), none, false⟩] none)
   .ret)
  .skip))
  (.seq (.region [⟨(some 57), .move (.tmp 3), none, false⟩,
    ⟨(some 58), .build [(.pv (.int .i64 (0))), (.pv (.str ⟨#[]⟩)), .nils] [(0, 0, (.val (.pv (.int .i64 (2))))), (2, 0, (.tmp 57))], none, false⟩,
    ⟨none, .store 3 (.tmp 2) (.tmp 58), none, false⟩] none)
  .ret)))))
def m85 : MFunc := { nparams := 1, results := [.cell 2 3], body := m85c }
attribute [simp] m85
-- (*loop.example/g03013/impl.patReader).take
@[reducible] def m86e0 : List MOper := [⟨(some 5), .move (.tmp 0), none, false⟩,
  ⟨(some 6), .nilCheck (.tmp 5), none, false⟩,
  ⟨(some 7), .fieldAddr 1 (.tmp 6), none, false⟩,
  ⟨(some 8), .load 0 (.tmp 7), none, false⟩,
  ⟨(some 9), .move (.tmp 0), none, false⟩,
  ⟨(some 10), .nilCheck (.tmp 9), none, false⟩,
  ⟨(some 11), .fieldAddr 0 (.tmp 10), none, false⟩,
  ⟨(some 12), .load 0 (.tmp 11), none, false⟩,
  ⟨(some 13), .strLen (.tmp 12), none, false⟩,
  ⟨(some 14), .bin .lss (.tmp 8) (.tmp 13), none, false⟩,
  ⟨(some 15), .move (.tmp 14), none, true⟩,
  ⟨(some 16), .move (.tmp 0), (some (15, true)), false⟩,
  ⟨(some 17), .nilCheck (.tmp 16), (some (15, true)), false⟩,
  ⟨(some 18), .fieldAddr 0 (.tmp 17), (some (15, true)), false⟩,
  ⟨(some 19), .load 0 (.tmp 18), (some (15, true)), false⟩,
  ⟨(some 20), .move (.tmp 0), (some (15, true)), false⟩,
  ⟨(some 21), .nilCheck (.tmp 20), (some (15, true)), false⟩,
  ⟨(some 22), .fieldAddr 1 (.tmp 21), (some (15, true)), false⟩,
  ⟨(some 23), .load 0 (.tmp 22), (some (15, true)), false⟩,
  ⟨(some 24), .strIdx (.tmp 19) (.tmp 23), (some (15, true)), false⟩,
  ⟨(some 25), .move (.tmp 1), (some (15, true)), false⟩,
  ⟨(some 26), .bin .eql (.tmp 24) (.tmp 25), (some (15, true)), false⟩,
  ⟨(some 27), .pick (.tmp 15) (.tmp 26) (.val (.pv (.bool false))), none, false⟩]
def m86r0 : List MOper := m86e0
def m86q0 : List Nat := [0, 1, 3, 7, 0, 16, 48, 112, 240, 511, 1023, 2047, 4095, 8191, 16383, 2047, 34815, 100351, 231423, 524287, 2047, 2097151, 4194303]
theorem m86x0 {R : Type} {call : FuncId → List XV → Option Res} {bx : List Nat} {σ : St} {K : K2 R} : @X R call bx (.region m86r0 (some m86q0)) σ K = @XD R call m86e0 m86q0 σ K := X_draw (by decide +kernel)
attribute [simp ↓] m86x0
@[reducible] def m86c : MCode :=
  (.seq (.region [⟨(some 4), .move (.val (.pv (.bool false))), none, false⟩] none)
  (.seq (.seq (.region m86r0 (some m86q0))
  (.cond (.tmp 27) (.seq (.region [⟨(some 28), .move (.tmp 0), none, false⟩,
     ⟨(some 29), .nilCheck (.tmp 28), none, false⟩,
     ⟨(some 30), .fieldAddr 1 (.tmp 29), none, false⟩,
     ⟨(some 31), .load 0 (.tmp 30), none, false⟩,
     ⟨(some 32), .bin .add (.tmp 31) (.val (.pv (.int .i64 (1)))), none, false⟩,
     ⟨(some 33), .nilCheck (.tmp 28), none, false⟩,
     ⟨(some 34), .fieldAddr 1 (.tmp 33), none, false⟩,
     ⟨none, .store 0 (.tmp 34) (.tmp 32), none, false⟩] none)
   (.seq (.region [⟨(some 4), .move (.val (.pv (.bool true))), none, false⟩] none)
   .ret))
  .skip))
  (.seq (.region [⟨(some 4), .move (.val (.pv (.bool false))), none, false⟩] none)
  .ret)))
def m86 : MFunc := { nparams := 2, results := [.tmp 4], body := m86c }
attribute [simp] m86
-- loop.example/g03013/impl.isDigit
@[reducible] def m96c : MCode :=
  (.seq (.region [⟨(some 2), .move (.val (.pv (.bool false))), none, false⟩] none)
  (.seq (.region [⟨(some 3), .move (.tmp 0), none, false⟩,
    ⟨(some 4), .bin .geq (.tmp 3) (.val (.pv (.int .u8 (48)))), none, false⟩,
    ⟨(some 5), .move (.tmp 4), none, true⟩,
    ⟨(some 6), .move (.tmp 0), (some (5, true)), false⟩,
    ⟨(some 7), .bin .leq (.tmp 6) (.val (.pv (.int .u8 (57)))), (some (5, true)), false⟩,
    ⟨(some 8), .pick (.tmp 5) (.tmp 7) (.val (.pv (.bool false))), none, false⟩,
    ⟨(some 2), .move (.tmp 8), none, false⟩] none)
  .ret))
def m96 : MFunc := { nparams := 1, results := [.tmp 2], body := m96c }
attribute [simp] m96
-- loop.example/g03013/spec.l5Atom
@[reducible] def m97e0 : List MOper := [⟨(some 27), .move (.tmp 0), none, false⟩,
  ⟨(some 28), .nilCheck (.tmp 27), none, false⟩,
  ⟨(some 29), .fieldAddr 1 (.tmp 28), none, false⟩,
  ⟨(some 30), .load 0 (.tmp 29), none, false⟩,
  ⟨(some 31), .move (.tmp 0), none, false⟩,
  ⟨(some 32), .nilCheck (.tmp 31), none, false⟩,
  ⟨(some 33), .fieldAddr 0 (.tmp 32), none, false⟩,
  ⟨(some 34), .load 0 (.tmp 33), none, false⟩,
  ⟨(some 35), .strLen (.tmp 34), none, false⟩,
  ⟨(some 36), .bin .lss (.tmp 30) (.tmp 35), none, false⟩,
  ⟨(some 37), .move (.tmp 36), none, true⟩,
  ⟨(some 38), .move (.tmp 0), (some (37, true)), false⟩,
  ⟨(some 39), .nilCheck (.tmp 38), (some (37, true)), false⟩,
  ⟨(some 40), .fieldAddr 0 (.tmp 39), (some (37, true)), false⟩,
  ⟨(some 41), .load 0 (.tmp 40), (some (37, true)), false⟩,
  ⟨(some 42), .move (.tmp 0), (some (37, true)), false⟩,
  ⟨(some 43), .nilCheck (.tmp 42), (some (37, true)), false⟩,
  ⟨(some 44), .fieldAddr 1 (.tmp 43), (some (37, true)), false⟩,
  ⟨(some 45), .load 0 (.tmp 44), (some (37, true)), false⟩,
  ⟨(some 46), .strIdx (.tmp 41) (.tmp 45), (some (37, true)), false⟩,
  ⟨(some 47), .call 107 [(.tmp 46)], (some (37, true)), false⟩,
  ⟨(some 48), .move (.tmp 47), (some (37, true)), true⟩,
  ⟨(some 49), .move (.tmp 0), (some (48, false)), false⟩,
  ⟨(some 50), .nilCheck (.tmp 49), (some (48, false)), false⟩,
  ⟨(some 51), .fieldAddr 0 (.tmp 50), (some (48, false)), false⟩,
  ⟨(some 52), .load 0 (.tmp 51), (some (48, false)), false⟩,
  ⟨(some 53), .move (.tmp 0), (some (48, false)), false⟩,
  ⟨(some 54), .nilCheck (.tmp 53), (some (48, false)), false⟩,
  ⟨(some 55), .fieldAddr 1 (.tmp 54), (some (48, false)), false⟩,
  ⟨(some 56), .load 0 (.tmp 55), (some (48, false)), false⟩,
  ⟨(some 57), .strIdx (.tmp 52) (.tmp 56), (some (48, false)), false⟩,
  ⟨(some 58), .call 108 [(.tmp 57)], (some (48, false)), false⟩,
  ⟨(some 59), .pick (.tmp 48) (.val (.pv (.bool true))) (.tmp 58), (some (37, true)), false⟩,
  ⟨(some 60), .move (.tmp 59), (some (37, true)), true⟩,
  ⟨(some 61), .move (.tmp 0), (some (60, false)), false⟩,
  ⟨(some 62), .nilCheck (.tmp 61), (some (60, false)), false⟩,
  ⟨(some 63), .fieldAddr 0 (.tmp 62), (some (60, false)), false⟩,
  ⟨(some 64), .load 0 (.tmp 63), (some (60, false)), false⟩,
  ⟨(some 65), .move (.tmp 0), (some (60, false)), false⟩,
  ⟨(some 66), .nilCheck (.tmp 65), (some (60, false)), false⟩,
  ⟨(some 67), .fieldAddr 1 (.tmp 66), (some (60, false)), false⟩,
  ⟨(some 68), .load 0 (.tmp 67), (some (60, false)), false⟩,
  ⟨(some 69), .strIdx (.tmp 64) (.tmp 68), (some (60, false)), false⟩,
  ⟨(some 70), .bin .eql (.tmp 69) (.val (.pv (.int .u8 (45)))), (some (60, false)), false⟩,
  ⟨(some 71), .pick (.tmp 60) (.val (.pv (.bool true))) (.tmp 70), (some (37, true)), false⟩,
  ⟨(some 72), .pick (.tmp 37) (.tmp 71) (.val (.pv (.bool false))), none, false⟩,
  ⟨(some 26), .move (.tmp 72), none, false⟩]
def m97r0 : List MOper := m97e0
def m97q0 : List Nat := [0, 1, 3, 7, 0, 16, 48, 112, 240, 511, 1023, 2047, 4095, 8191, 16383, 2047, 34815, 100351, 231423, 524287, 1048575, 2097151, 4194303, 8388607, 16777215, 33554431, 4194303, 71303167, 205520895, 473956351, 1073741823, 2147483647, 4294967295, 8589934591, 17179869183, 34359738367, 68719476735, 137438953471, 17179869183, 292057776127, 841813590015, 1941325217791, 4398046511103, 8796093022207, 17592186044415, 35184372088831, 70368744177663]
theorem m97x0 {R : Type} {call : FuncId → List XV → Option Res} {bx : List Nat} {σ : St} {K : K2 R} : @X R call bx (.region m97r0 (some m97q0)) σ K = @XD R call m97e0 m97q0 σ K := X_draw (by decide +kernel)
attribute [simp ↓] m97x0
@[reducible] def m97e1 : List MOper := [⟨(some 81), .move (.tmp 0), none, false⟩,
  ⟨(some 82), .nilCheck (.tmp 81), none, false⟩,
  ⟨(some 83), .fieldAddr 0 (.tmp 82), none, false⟩,
  ⟨(some 84), .load 0 (.tmp 83), none, false⟩,
  ⟨(some 85), .move (.tmp 0), none, false⟩,
  ⟨(some 86), .nilCheck (.tmp 85), none, false⟩,
  ⟨(some 87), .fieldAddr 1 (.tmp 86), none, false⟩,
  ⟨(some 88), .load 0 (.tmp 87), none, false⟩,
  ⟨(some 89), .bin .sub (.tmp 88) (.val (.pv (.int .i64 (1)))), none, false⟩,
  ⟨(some 90), .move (.tmp 0), none, false⟩,
  ⟨(some 91), .nilCheck (.tmp 90), none, false⟩,
  ⟨(some 92), .fieldAddr 1 (.tmp 91), none, false⟩,
  ⟨(some 93), .load 0 (.tmp 92), none, false⟩,
  ⟨(some 94), .strSlice (.tmp 84) (some (.tmp 89)) (some (.tmp 93)), none, false⟩,
  ⟨(some 95), .build [(.pv (.int .i64 (0))), (.pv (.str ⟨#[]⟩)), .nils] [(0, 0, (.val (.pv (.int .i64 (1))))), (1, 0, (.tmp 94))], none, false⟩,
  ⟨none, .store 3 (.tmp 2) (.tmp 95), none, false⟩]
def m97r1 : List MOper := m97e1
def m97q1 : List Nat := [0, 1, 3, 7, 0, 16, 48, 112, 240, 0, 512, 1536, 3584, 8191, 16383, 32767]
theorem m97x1 {R : Type} {call : FuncId → List XV → Option Res} {bx : List Nat} {σ : St} {K : K2 R} : @X R call bx (.region m97r1 (some m97q1)) σ K = @XD R call m97e1 m97q1 σ K := X_draw (by decide +kernel)
attribute [simp ↓] m97x1
@[reducible] def m97c : MCode :=
  (.seq (.region [⟨(some 2), .alloc [(.pv (.int .i64 (0))), (.pv (.str ⟨#[]⟩)), .nils], none, false⟩] none)
  (.seq (.block 0 (.seq (.region [⟨(some 5), .move (.tmp 0), none, false⟩,
    ⟨(some 6), .call 84 [(.tmp 5), (.val (.pv (.int .u8 (40))))], none, false⟩,
    ⟨(some 4), .move (.tmp 6), none, false⟩] none)
  (.cond (.tmp 4) (.seq (.region [⟨(some 7), .move (.tmp 0), none, false⟩,
     ⟨(some 8), .call 70 [(.tmp 7)], none, false⟩,
     ⟨(some 3), .alloc [(.pv (.int .i64 (0))), (.pv (.str ⟨#[]⟩)), .nils], none, false⟩,
     ⟨none, .store 3 (.tmp 3) (.tmp 8), none, false⟩] none)
   (.seq (.seq (.region [⟨(some 9), .move (.tmp 0), none, false⟩,
     ⟨(some 10), .call 84 [(.tmp 9), (.val (.pv (.int .u8 (41))))], none, false⟩,
     ⟨(some 11), .un .not (.tmp 10), none, false⟩] none)
   (.cond (.tmp 11) (.region [⟨(some 12), .move (.tmp 0), none, false⟩,
      ⟨(some 13), .nilCheck (.tmp 12), none, false⟩,
      ⟨(some 14), .fieldAddr 2 (.tmp 13), none, false⟩,
      ⟨none, .store 0 (.tmp 14) (.val (.pv (.bool true))), none, false⟩] none)
   .skip))
   (.seq (.region [⟨(some 15), .load 3 (.tmp 3), none, false⟩,
     ⟨none, .store 3 (.tmp 2) (.tmp 15), none, false⟩] none)
   .ret)))
  (.seq (.region [⟨(some 17), .move (.tmp 0), none, false⟩,
     ⟨(some 18), .call 84 [(.tmp 17), (.val (.pv (.int .u8 (91))))], none, false⟩,
     ⟨(some 16), .move (.tmp 18), none, false⟩] none)
   (.cond (.tmp 16) (.seq (.region [⟨(some 19), .move (.tmp 0), none, false⟩,
      ⟨(some 20), .call 105 [(.tmp 19)], none, false⟩,
      ⟨none, .store 3 (.tmp 2) (.tmp 20), none, false⟩] none)
    .ret)
   (.seq (.region [⟨(some 22), .move (.tmp 0), none, false⟩,
      ⟨(some 23), .call 84 [(.tmp 22), (.val (.pv (.int .u8 (46))))], none, false⟩,
      ⟨(some 21), .move (.tmp 23), none, false⟩] none)
    (.cond (.tmp 21) (.seq (.region [⟨(some 24), .call 106 [], none, false⟩,
       ⟨(some 25), .build [(.pv (.int .i64 (0))), (.pv (.str ⟨#[]⟩)), .nils] [(0, 0, (.val (.pv (.int .i64 (1))))), (1, 0, (.tmp 24))], none, false⟩,
       ⟨none, .store 3 (.tmp 2) (.tmp 25), none, false⟩] none)
     .ret)
    (.seq (.region m97r0 (some m97q0))
     (.cond (.tmp 26) (.seq (.region [⟨(some 73), .move (.tmp 0), none, false⟩,
        ⟨(some 74), .move (.tmp 0), none, false⟩,
        ⟨(some 75), .nilCheck (.tmp 74), none, false⟩,
        ⟨(some 76), .fieldAddr 1 (.tmp 75), none, false⟩,
        ⟨(some 77), .load 0 (.tmp 76), none, false⟩,
        ⟨(some 78), .bin .add (.tmp 77) (.val (.pv (.int .i64 (1)))), none, false⟩,
        ⟨(some 79), .nilCheck (.tmp 73), none, false⟩,
        ⟨(some 80), .fieldAddr 1 (.tmp 79), none, false⟩,
        ⟨none, .store 0 (.tmp 80) (.tmp 78), none, false⟩] none)
      (.seq (.region m97r1 (some m97q1))
      .ret))
     .skip)))))))))
  (.seq (.region [⟨(some 96), .move (.tmp 0), none, false⟩,
    ⟨(some 97), .nilCheck (.tmp 96), none, false⟩,
    ⟨(some 98), .fieldAddr 2 (.tmp 97), none, false⟩,
    ⟨none, .store 0 (.tmp 98) (.val (.pv (.bool true))), none, false⟩] none)
  (.seq (.region [⟨(some 99), .build [(.pv (.int .i64 (0))), (.pv (.str ⟨#[]⟩)), .nils] [], none, false⟩,
    ⟨none, .store 3 (.tmp 2) (.tmp 99), none, false⟩] none)
  .ret))))
def m97 : MFunc := { nparams := 1, results := [.cell 2 3], body := m97c }
attribute [simp] m97
-- loop.example/g03013/spec.l5Twin
@[reducible] def m98e0 : List MOper := [⟨(some 17), .fieldAddr 2 (.tmp 3), none, false⟩,
  ⟨(some 18), .load 0 (.tmp 17), none, false⟩,
  ⟨(some 19), .fieldAddr 2 (.tmp 1), none, false⟩,
  ⟨(some 20), .load 0 (.tmp 19), none, false⟩,
  ⟨(some 21), .move (.tmp 4), none, false⟩,
  ⟨(some 22), .indexAddr 3 (.tmp 20) (.tmp 21), none, false⟩,
  ⟨(some 23), .load 3 (.tmp 22), none, false⟩,
  ⟨(some 24), .call 98 [(.tmp 23)], none, false⟩,
  ⟨(some 25), .buildSlice 3 [(.tmp 24)], none, false⟩,
  ⟨(some 26), .append 3 48 (.tmp 18) (.tmp 25), none, false⟩,
  ⟨(some 27), .fieldAddr 2 (.tmp 3), none, false⟩,
  ⟨none, .store 0 (.tmp 27) (.tmp 26), none, false⟩]
def m98r0 : List MOper := m98e0
def m98q0 : List Nat := [0, 1, 0, 4, 0, 28, 60, 124, 252, 511, 1023, 2047]
theorem m98x0 {R : Type} {call : FuncId → List XV → Option Res} {bx : List Nat} {σ : St} {K : K2 R} : @X R call bx (.region m98r0 (some m98q0)) σ K = @XD R call m98e0 m98q0 σ K := X_draw (by decide +kernel)
attribute [simp ↓] m98x0
@[reducible] def m98k1 : List Nat := [1, 2, 3, 4]
@[reducible] def m98d1 : MCode :=
  (.seq (.seq (.region [⟨(some 10), .move (.tmp 4), none, false⟩,
    ⟨(some 11), .fieldAddr 2 (.tmp 1), none, false⟩,
    ⟨(some 12), .load 0 (.tmp 11), none, false⟩,
    ⟨(some 13), .len (.tmp 12), none, false⟩,
    ⟨(some 14), .bin .lss (.tmp 10) (.tmp 13), none, false⟩] none)
  (.cond (.tmp 14) .skip
  (.exit 0)))
  (.seq (.block 1 (.region m98r0 (some m98q0)))
  (.region [⟨(some 15), .move (.tmp 4), none, false⟩,
    ⟨(some 16), .bin .add (.tmp 15) (.val (.pv (.int .i64 (1)))), none, false⟩,
    ⟨(some 4), .move (.tmp 16), none, false⟩] none)))
def m98b1 : MCode := m98d1
theorem m98x1 {R : Type} {call : FuncId → List XV → Option Res} {bx : List Nat} {σ : St} {K : K2 R} : @X R call bx m98b1 σ K = @X R call bx m98d1 σ K := rfl
attribute [simp ↓] m98x1
@[reducible] def m98c : MCode :=
  (.seq (.region [⟨(some 1), .box 3 (.tmp 0), none, false⟩,
    ⟨(some 2), .alloc [(.pv (.int .i64 (0))), (.pv (.str ⟨#[]⟩)), .nils], none, false⟩] none)
  (.seq (.region [⟨(some 5), .fieldAddr 0 (.tmp 1), none, false⟩,
    ⟨(some 6), .load 0 (.tmp 5), none, false⟩,
    ⟨(some 7), .fieldAddr 1 (.tmp 1), none, false⟩,
    ⟨(some 8), .load 0 (.tmp 7), none, false⟩,
    ⟨(some 9), .build [(.pv (.int .i64 (0))), (.pv (.str ⟨#[]⟩)), .nils] [(0, 0, (.tmp 6)), (1, 0, (.tmp 8))], none, false⟩,
    ⟨(some 3), .alloc [(.pv (.int .i64 (0))), (.pv (.str ⟨#[]⟩)), .nils], none, false⟩,
    ⟨none, .store 3 (.tmp 3) (.tmp 9), none, false⟩] none)
  (.seq (.seq (.region [⟨(some 4), .move (.val (.pv (.int .i64 (0)))), none, false⟩] none)
  (.block 0 (.loop (.seq (.forget m98k1) m98b1))))
  (.seq (.region [⟨(some 28), .load 3 (.tmp 3), none, false⟩,
    ⟨none, .store 3 (.tmp 2) (.tmp 28), none, false⟩] none)
  .ret))))
def m98 : MFunc := { nparams := 1, results := [.cell 2 3], body := m98c }
attribute [simp] m98
-- (*loop.example/g03013/impl.patReader).item
@[reducible] def m99e0 : List MOper := [⟨(some 15), .load 3 (.tmp 3), none, false⟩,
  ⟨(some 16), .call 110 [(.tmp 15)], none, false⟩,
  ⟨(some 17), .load 3 (.tmp 3), none, false⟩,
  ⟨(some 18), .buildSlice 3 [(.tmp 17)], none, false⟩,
  ⟨(some 19), .build [(.pv (.int .i64 (0))), (.pv (.str ⟨#[]⟩)), .nils] [(0, 0, (.val (.pv (.int .i64 (4))))), (2, 0, (.tmp 18))], none, false⟩,
  ⟨(some 20), .buildSlice 3 [(.tmp 16), (.tmp 19)], none, false⟩,
  ⟨(some 21), .build [(.pv (.int .i64 (0))), (.pv (.str ⟨#[]⟩)), .nils] [(0, 0, (.val (.pv (.int .i64 (2))))), (2, 0, (.tmp 20))], none, false⟩,
  ⟨none, .store 3 (.tmp 2) (.tmp 21), none, false⟩]
def m99r0 : List MOper := m99e0
def m99q0 : List Nat := [0, 1, 0, 4, 12, 31, 63, 127]
theorem m99x0 {R : Type} {call : FuncId → List XV → Option Res} {bx : List Nat} {σ : St} {K : K2 R} : @X R call bx (.region m99r0 (some m99q0)) σ K = @XD R call m99e0 m99q0 σ K := X_draw (by decide +kernel)
attribute [simp ↓] m99x0
@[reducible] def m99c : MCode :=
  (.seq (.region [⟨(some 2), .alloc [(.pv (.int .i64 (0))), (.pv (.str ⟨#[]⟩)), .nils], none, false⟩] none)
  (.seq (.region [⟨(some 4), .move (.tmp 0), none, false⟩,
    ⟨(some 5), .call 109 [(.tmp 4)], none, false⟩,
    ⟨(some 3), .alloc [(.pv (.int .i64 (0))), (.pv (.str ⟨#[]⟩)), .nils], none, false⟩,
    ⟨none, .store 3 (.tmp 3) (.tmp 5), none, false⟩] none)
  (.seq (.block 0 (.seq (.region [⟨(some 7), .move (.tmp 0), none, false⟩,
    ⟨(some 8), .call 86 [(.tmp 7), (.val (.pv (.int .u8 (42))))], none, false⟩,
    ⟨(some 6), .move (.tmp 8), none, false⟩] none)
  (.cond (.tmp 6) (.seq (.region [⟨(some 9), .load 3 (.tmp 3), none, false⟩,
     ⟨(some 10), .buildSlice 3 [(.tmp 9)], none, false⟩,
     ⟨(some 11), .build [(.pv (.int .i64 (0))), (.pv (.str ⟨#[]⟩)), .nils] [(0, 0, (.val (.pv (.int .i64 (4))))), (2, 0, (.tmp 10))], none, false⟩,
     ⟨none, .store 3 (.tmp 2) (.tmp 11), none, false⟩] none)
   .ret)
  (.seq (.region [⟨(some 13), .move (.tmp 0), none, false⟩,
     ⟨(some 14), .call 86 [(.tmp 13), (.val (.pv (.int .u8 (43))))], none, false⟩,
     ⟨(some 12), .move (.tmp 14), none, false⟩] none)
   (.cond (.tmp 12) (.seq (.region m99r0 (some m99q0))
    .ret)
   (.seq (.region [⟨(some 23), .move (.tmp 0), none, false⟩,
      ⟨(some 24), .call 86 [(.tmp 23), (.val (.pv (.int .u8 (63))))], none, false⟩,
      ⟨(some 22), .move (.tmp 24), none, false⟩] none)
    (.cond (.tmp 22) (.seq (.region [⟨(some 25), .load 3 (.tmp 3), none, false⟩,
       ⟨(some 26), .buildSlice 3 [(.tmp 25)], none, false⟩,
       ⟨(some 27), .build [(.pv (.int .i64 (0))), (.pv (.str ⟨#[]⟩)), .nils] [(0, 0, (.val (.pv (.int .i64 (5))))), (2, 0, (.tmp 26))], none, false⟩,
       ⟨none, .store 3 (.tmp 2) (.tmp 27), none, false⟩] none)
     .ret)
    .skip)))))))
  (.seq (.region [⟨(some 28), .load 3 (.tmp 3), none, false⟩,
    ⟨none, .store 3 (.tmp 2) (.tmp 28), none, false⟩] none)
  .ret))))
def m99 : MFunc := { nparams := 1, results := [.cell 2 3], body := m99c }
attribute [simp] m99
-- loop.example/g03013/spec.l5Class
@[reducible] def m105e0 : List MOper := [⟨(some 25), .move (.tmp 0), none, false⟩,
  ⟨(some 26), .nilCheck (.tmp 25), none, false⟩,
  ⟨(some 27), .fieldAddr 1 (.tmp 26), none, false⟩,
  ⟨(some 28), .load 0 (.tmp 27), none, false⟩,
  ⟨(some 29), .move (.tmp 0), none, false⟩,
  ⟨(some 30), .nilCheck (.tmp 29), none, false⟩,
  ⟨(some 31), .fieldAddr 0 (.tmp 30), none, false⟩,
  ⟨(some 32), .load 0 (.tmp 31), none, false⟩,
  ⟨(some 33), .strLen (.tmp 32), none, false⟩,
  ⟨(some 34), .bin .geq (.tmp 28) (.tmp 33), none, false⟩,
  ⟨(some 35), .move (.tmp 34), none, true⟩,
  ⟨(some 36), .move (.tmp 0), (some (35, false)), false⟩,
  ⟨(some 37), .nilCheck (.tmp 36), (some (35, false)), false⟩,
  ⟨(some 38), .fieldAddr 0 (.tmp 37), (some (35, false)), false⟩,
  ⟨(some 39), .load 0 (.tmp 38), (some (35, false)), false⟩,
  ⟨(some 40), .move (.tmp 0), (some (35, false)), false⟩,
  ⟨(some 41), .nilCheck (.tmp 40), (some (35, false)), false⟩,
  ⟨(some 42), .fieldAddr 1 (.tmp 41), (some (35, false)), false⟩,
  ⟨(some 43), .load 0 (.tmp 42), (some (35, false)), false⟩,
  ⟨(some 44), .strIdx (.tmp 39) (.tmp 43), (some (35, false)), false⟩,
  ⟨(some 45), .call 114 [(.tmp 44)], (some (35, false)), false⟩,
  ⟨(some 46), .un .not (.tmp 45), (some (35, false)), false⟩,
  ⟨(some 47), .pick (.tmp 35) (.val (.pv (.bool true))) (.tmp 46), none, false⟩]
def m105r0 : List MOper := m105e0
def m105q0 : List Nat := [0, 1, 3, 7, 0, 16, 48, 112, 240, 511, 1023, 2047, 4095, 8191, 16383, 2047, 34815, 100351, 231423, 524287, 1048575, 2097151, 4194303]
theorem m105x0 {R : Type} {call : FuncId → List XV → Option Res} {bx : List Nat} {σ : St} {K : K2 R} : @X R call bx (.region m105r0 (some m105q0)) σ K = @XD R call m105e0 m105q0 σ K := X_draw (by decide +kernel)
attribute [simp ↓] m105x0
@[reducible] def m105e1 : List MOper := [⟨(some 52), .move (.tmp 0), none, false⟩,
  ⟨(some 53), .nilCheck (.tmp 52), none, false⟩,
  ⟨(some 54), .fieldAddr 0 (.tmp 53), none, false⟩,
  ⟨(some 55), .load 0 (.tmp 54), none, false⟩,
  ⟨(some 56), .move (.tmp 0), none, false⟩,
  ⟨(some 57), .nilCheck (.tmp 56), none, false⟩,
  ⟨(some 58), .fieldAddr 1 (.tmp 57), none, false⟩,
  ⟨(some 59), .load 0 (.tmp 58), none, false⟩,
  ⟨(some 60), .strIdx (.tmp 55) (.tmp 59), none, false⟩,
  ⟨(some 5), .move (.tmp 60), none, false⟩]
def m105r1 : List MOper := m105e1
def m105q1 : List Nat := [0, 1, 3, 7, 0, 16, 48, 112, 255, 511]
theorem m105x1 {R : Type} {call : FuncId → List XV → Option Res} {bx : List Nat} {σ : St} {K : K2 R} : @X R call bx (.region m105r1 (some m105q1)) σ K = @XD R call m105e1 m105q1 σ K := X_draw (by decide +kernel)
attribute [simp ↓] m105x1
@[reducible] def m105e2 : List MOper := [⟨(some 72), .move (.tmp 0), none, false⟩,
  ⟨(some 73), .nilCheck (.tmp 72), none, false⟩,
  ⟨(some 74), .fieldAddr 1 (.tmp 73), none, false⟩,
  ⟨(some 75), .load 0 (.tmp 74), none, false⟩,
  ⟨(some 76), .move (.tmp 0), none, false⟩,
  ⟨(some 77), .nilCheck (.tmp 76), none, false⟩,
  ⟨(some 78), .fieldAddr 0 (.tmp 77), none, false⟩,
  ⟨(some 79), .load 0 (.tmp 78), none, false⟩,
  ⟨(some 80), .strLen (.tmp 79), none, false⟩,
  ⟨(some 81), .bin .geq (.tmp 75) (.tmp 80), none, false⟩,
  ⟨(some 82), .move (.tmp 81), none, true⟩,
  ⟨(some 83), .move (.tmp 0), (some (82, false)), false⟩,
  ⟨(some 84), .nilCheck (.tmp 83), (some (82, false)), false⟩,
  ⟨(some 85), .fieldAddr 0 (.tmp 84), (some (82, false)), false⟩,
  ⟨(some 86), .load 0 (.tmp 85), (some (82, false)), false⟩,
  ⟨(some 87), .move (.tmp 0), (some (82, false)), false⟩,
  ⟨(some 88), .nilCheck (.tmp 87), (some (82, false)), false⟩,
  ⟨(some 89), .fieldAddr 1 (.tmp 88), (some (82, false)), false⟩,
  ⟨(some 90), .load 0 (.tmp 89), (some (82, false)), false⟩,
  ⟨(some 91), .strIdx (.tmp 86) (.tmp 90), (some (82, false)), false⟩,
  ⟨(some 92), .call 114 [(.tmp 91)], (some (82, false)), false⟩,
  ⟨(some 93), .un .not (.tmp 92), (some (82, false)), false⟩,
  ⟨(some 94), .pick (.tmp 82) (.val (.pv (.bool true))) (.tmp 93), none, false⟩,
  ⟨(some 95), .move (.tmp 94), none, true⟩,
  ⟨(some 96), .move (.tmp 0), (some (95, false)), false⟩,
  ⟨(some 97), .nilCheck (.tmp 96), (some (95, false)), false⟩,
  ⟨(some 98), .fieldAddr 0 (.tmp 97), (some (95, false)), false⟩,
  ⟨(some 99), .load 0 (.tmp 98), (some (95, false)), false⟩,
  ⟨(some 100), .move (.tmp 0), (some (95, false)), false⟩,
  ⟨(some 101), .nilCheck (.tmp 100), (some (95, false)), false⟩,
  ⟨(some 102), .fieldAddr 1 (.tmp 101), (some (95, false)), false⟩,
  ⟨(some 103), .load 0 (.tmp 102), (some (95, false)), false⟩,
  ⟨(some 104), .strIdx (.tmp 99) (.tmp 103), (some (95, false)), false⟩,
  ⟨(some 105), .move (.tmp 5), (some (95, false)), false⟩,
  ⟨(some 106), .bin .lss (.tmp 104) (.tmp 105), (some (95, false)), false⟩,
  ⟨(some 107), .pick (.tmp 95) (.val (.pv (.bool true))) (.tmp 106), none, false⟩]
def m105r2 : List MOper := m105e2
def m105q2 : List Nat := [0, 1, 3, 7, 0, 16, 48, 112, 240, 511, 1023, 2047, 4095, 8191, 16383, 2047, 34815, 100351, 231423, 524287, 1048575, 2097151, 4194303, 8388607, 16777215, 33554431, 67108863, 134217727, 16777215, 285212671, 822083583, 1895825407, 4294967295, 16777215, 17179869183, 34359738367]
theorem m105x2 {R : Type} {call : FuncId → List XV → Option Res} {bx : List Nat} {σ : St} {K : K2 R} : @X R call bx (.region m105r2 (some m105q2)) σ K = @XD R call m105e2 m105q2 σ K := X_draw (by decide +kernel)
attribute [simp ↓] m105x2
@[reducible] def m105e3 : List MOper := [⟨(some 112), .move (.tmp 0), none, false⟩,
  ⟨(some 113), .nilCheck (.tmp 112), none, false⟩,
  ⟨(some 114), .fieldAddr 0 (.tmp 113), none, false⟩,
  ⟨(some 115), .load 0 (.tmp 114), none, false⟩,
  ⟨(some 116), .move (.tmp 0), none, false⟩,
  ⟨(some 117), .nilCheck (.tmp 116), none, false⟩,
  ⟨(some 118), .fieldAddr 1 (.tmp 117), none, false⟩,
  ⟨(some 119), .load 0 (.tmp 118), none, false⟩,
  ⟨(some 120), .strIdx (.tmp 115) (.tmp 119), none, false⟩,
  ⟨(some 6), .move (.tmp 120), none, false⟩]
def m105r3 : List MOper := m105e3
def m105q3 : List Nat := [0, 1, 3, 7, 0, 16, 48, 112, 255, 511]
theorem m105x3 {R : Type} {call : FuncId → List XV → Option Res} {bx : List Nat} {σ : St} {K : K2 R} : @X R call bx (.region m105r3 (some m105q3)) σ K = @XD R call m105e3 m105q3 σ K := X_draw (by decide +kernel)
attribute [simp ↓] m105x3
@[reducible] def m105k4 : List Nat := [0, 2, 3, 4, 6, 7]
@[reducible] def m105d4 : MCode :=
  (.seq (.seq (.region [⟨(some 131), .move (.tmp 7), none, false⟩,
    ⟨(some 132), .move (.tmp 6), none, false⟩,
    ⟨(some 133), .conv .i64 (.tmp 132), none, false⟩,
    ⟨(some 134), .bin .leq (.tmp 131) (.tmp 133), none, false⟩] none)
  (.cond (.tmp 134) .skip
  (.exit 2)))
  (.seq (.block 3 (.region [⟨(some 137), .move (.tmp 3), none, false⟩,
    ⟨(some 138), .move (.tmp 7), none, false⟩,
    ⟨(some 139), .indexAddr 0 (.tmp 137) (.tmp 138), none, false⟩,
    ⟨none, .store 0 (.tmp 139) (.val (.pv (.bool true))), none, false⟩] none))
  (.region [⟨(some 135), .move (.tmp 7), none, false⟩,
    ⟨(some 136), .bin .add (.tmp 135) (.val (.pv (.int .i64 (1)))), none, false⟩,
    ⟨(some 7), .move (.tmp 136), none, false⟩] none)))
def m105b4 : MCode := m105d4
theorem m105x4 {R : Type} {call : FuncId → List XV → Option Res} {bx : List Nat} {σ : St} {K : K2 R} : @X R call bx m105b4 σ K = @X R call bx m105d4 σ K := rfl
attribute [simp ↓] m105x4
@[reducible] def m105k5 : List Nat := [0, 2, 3, 4]
@[reducible] def m105d5 : MCode :=
  (.seq (.seq (.region [⟨(some 15), .move (.tmp 0), none, false⟩,
    ⟨(some 16), .nilCheck (.tmp 15), none, false⟩,
    ⟨(some 17), .fieldAddr 2 (.tmp 16), none, false⟩,
    ⟨(some 18), .load 0 (.tmp 17), none, false⟩,
    ⟨(some 19), .un .not (.tmp 18), none, false⟩,
    ⟨(some 20), .move (.tmp 19), none, true⟩,
    ⟨(some 21), .move (.tmp 0), (some (20, true)), false⟩,
    ⟨(some 22), .call 84 [(.tmp 21), (.val (.pv (.int .u8 (93))))], (some (20, true)), false⟩,
    ⟨(some 23), .un .not (.tmp 22), (some (20, true)), false⟩,
    ⟨(some 24), .pick (.tmp 20) (.tmp 23) (.val (.pv (.bool false))), none, false⟩] none)
  (.cond (.tmp 24) .skip
  (.exit 0)))
  (.block 1 (.seq (.seq (.region m105r0 (some m105q0))
  (.cond (.tmp 47) (.seq (.region [⟨(some 48), .move (.tmp 0), none, false⟩,
     ⟨(some 49), .nilCheck (.tmp 48), none, false⟩,
     ⟨(some 50), .fieldAddr 2 (.tmp 49), none, false⟩,
     ⟨none, .store 0 (.tmp 50) (.val (.pv (.bool true))), none, false⟩] none)
   (.seq (.region [⟨(some 51), .build [(.pv (.int .i64 (0))), (.pv (.str ⟨#[]⟩)), .nils] [], none, false⟩,
     ⟨none, .store 3 (.tmp 2) (.tmp 51), none, false⟩] none)
   .ret))
  .skip))
  (.seq (.region m105r1 (some m105q1))
  (.seq (.region [⟨(some 61), .move (.tmp 5), none, false⟩,
    ⟨(some 6), .move (.tmp 61), none, false⟩] none)
  (.seq (.region [⟨(some 62), .move (.tmp 0), none, false⟩,
    ⟨(some 63), .move (.tmp 0), none, false⟩,
    ⟨(some 64), .nilCheck (.tmp 63), none, false⟩,
    ⟨(some 65), .fieldAddr 1 (.tmp 64), none, false⟩,
    ⟨(some 66), .load 0 (.tmp 65), none, false⟩,
    ⟨(some 67), .bin .add (.tmp 66) (.val (.pv (.int .i64 (1)))), none, false⟩,
    ⟨(some 68), .nilCheck (.tmp 62), none, false⟩,
    ⟨(some 69), .fieldAddr 1 (.tmp 68), none, false⟩,
    ⟨none, .store 0 (.tmp 69) (.tmp 67), none, false⟩] none)
  (.seq (.seq (.region [⟨(some 70), .move (.tmp 0), none, false⟩,
    ⟨(some 71), .call 84 [(.tmp 70), (.val (.pv (.int .u8 (126))))], none, false⟩] none)
  (.cond (.tmp 71) (.seq (.seq (.region m105r2 (some m105q2))
   (.cond (.tmp 107) (.seq (.region [⟨(some 108), .move (.tmp 0), none, false⟩,
      ⟨(some 109), .nilCheck (.tmp 108), none, false⟩,
      ⟨(some 110), .fieldAddr 2 (.tmp 109), none, false⟩,
      ⟨none, .store 0 (.tmp 110) (.val (.pv (.bool true))), none, false⟩] none)
    (.seq (.region [⟨(some 111), .build [(.pv (.int .i64 (0))), (.pv (.str ⟨#[]⟩)), .nils] [], none, false⟩,
      ⟨none, .store 3 (.tmp 2) (.tmp 111), none, false⟩] none)
    .ret))
   .skip))
   (.seq (.region m105r3 (some m105q3))
   (.region [⟨(some 121), .move (.tmp 0), none, false⟩,
     ⟨(some 122), .move (.tmp 0), none, false⟩,
     ⟨(some 123), .nilCheck (.tmp 122), none, false⟩,
     ⟨(some 124), .fieldAddr 1 (.tmp 123), none, false⟩,
     ⟨(some 125), .load 0 (.tmp 124), none, false⟩,
     ⟨(some 126), .bin .add (.tmp 125) (.val (.pv (.int .i64 (1)))), none, false⟩,
     ⟨(some 127), .nilCheck (.tmp 121), none, false⟩,
     ⟨(some 128), .fieldAddr 1 (.tmp 127), none, false⟩,
     ⟨none, .store 0 (.tmp 128) (.tmp 126), none, false⟩] none)))
  .skip))
  (.seq (.region [⟨(some 129), .move (.tmp 5), none, false⟩,
    ⟨(some 130), .conv .i64 (.tmp 129), none, false⟩,
    ⟨(some 7), .move (.tmp 130), none, false⟩] none)
  (.block 2 (.loop (.seq (.forget m105k4) m105b4)))))))))))
def m105b5 : MCode := m105d5
theorem m105x5 {R : Type} {call : FuncId → List XV → Option Res} {bx : List Nat} {σ : St} {K : K2 R} : @X R call bx m105b5 σ K = @X R call bx m105d5 σ K := rfl
attribute [simp ↓] m105x5
@[reducible] def m105k6 : List Nat := [2, 3, 8, 9]
@[reducible] def m105d6 : MCode :=
  (.seq (.seq (.region [⟨(some 151), .move (.tmp 9), none, false⟩,
    ⟨(some 152), .bin .lss (.tmp 151) (.val (.pv (.int .i64 (256)))), none, false⟩] none)
  (.cond (.tmp 152) .skip
  (.exit 4)))
  (.seq (.block 5 (.seq (.region [⟨(some 155), .move (.tmp 3), none, false⟩,
    ⟨(some 156), .move (.tmp 9), none, false⟩,
    ⟨(some 157), .indexAddr 0 (.tmp 155) (.tmp 156), none, false⟩,
    ⟨(some 158), .load 0 (.tmp 157), none, false⟩] none)
  (.cond (.tmp 158) (.region [⟨(some 159), .move (.tmp 8), none, false⟩,
     ⟨(some 160), .move (.tmp 9), none, false⟩,
     ⟨(some 161), .conv .u8 (.tmp 160), none, false⟩,
     ⟨(some 162), .buildSlice 0 [(.tmp 161)], none, false⟩,
     ⟨(some 163), .append 0 1 (.tmp 159) (.tmp 162), none, false⟩,
     ⟨(some 8), .move (.tmp 163), none, false⟩] none)
  .skip)))
  (.region [⟨(some 153), .move (.tmp 9), none, false⟩,
    ⟨(some 154), .bin .add (.tmp 153) (.val (.pv (.int .i64 (1)))), none, false⟩,
    ⟨(some 9), .move (.tmp 154), none, false⟩] none)))
def m105b6 : MCode := m105d6
theorem m105x6 {R : Type} {call : FuncId → List XV → Option Res} {bx : List Nat} {σ : St} {K : K2 R} : @X R call bx m105b6 σ K = @X R call bx m105d6 σ K := rfl
attribute [simp ↓] m105x6
@[reducible] def m105c : MCode :=
  (.seq (.region [⟨(some 2), .alloc [(.pv (.int .i64 (0))), (.pv (.str ⟨#[]⟩)), .nils], none, false⟩] none)
  (.seq (.region [⟨(some 10), .makeSlice 0 1 (.bool false) (.val (.pv (.int .i64 (256)))), none, false⟩,
    ⟨(some 3), .move (.tmp 10), none, false⟩] none)
  (.seq (.region [⟨(some 11), .move (.tmp 0), none, false⟩,
    ⟨(some 12), .nilCheck (.tmp 11), none, false⟩,
    ⟨(some 13), .fieldAddr 1 (.tmp 12), none, false⟩,
    ⟨(some 14), .load 0 (.tmp 13), none, false⟩,
    ⟨(some 4), .move (.tmp 14), none, false⟩] none)
  (.seq (.block 0 (.loop (.seq (.forget m105k5) m105b5)))
  (.seq (.seq (.region [⟨(some 140), .move (.tmp 0), none, false⟩,
    ⟨(some 141), .nilCheck (.tmp 140), none, false⟩,
    ⟨(some 142), .fieldAddr 1 (.tmp 141), none, false⟩,
    ⟨(some 143), .load 0 (.tmp 142), none, false⟩,
    ⟨(some 144), .move (.tmp 4), none, false⟩,
    ⟨(some 145), .bin .add (.tmp 144) (.val (.pv (.int .i64 (1)))), none, false⟩,
    ⟨(some 146), .bin .eql (.tmp 143) (.tmp 145), none, false⟩] none)
  (.cond (.tmp 146) (.region [⟨(some 147), .move (.tmp 0), none, false⟩,
     ⟨(some 148), .nilCheck (.tmp 147), none, false⟩,
     ⟨(some 149), .fieldAddr 2 (.tmp 148), none, false⟩,
     ⟨none, .store 0 (.tmp 149) (.val (.pv (.bool true))), none, false⟩] none)
  .skip))
  (.seq (.region [⟨(some 150), .buildSlice 0 [], none, false⟩,
    ⟨(some 8), .move (.tmp 150), none, false⟩] none)
  (.seq (.seq (.region [⟨(some 9), .move (.val (.pv (.int .i64 (0)))), none, false⟩] none)
  (.block 4 (.loop (.seq (.forget m105k6) m105b6))))
  (.seq (.region [⟨(some 164), .move (.tmp 8), none, false⟩,
    ⟨(some 165), .bytesToStr (.tmp 164), none, false⟩,
    ⟨(some 166), .build [(.pv (.int .i64 (0))), (.pv (.str ⟨#[]⟩)), .nils] [(0, 0, (.val (.pv (.int .i64 (1))))), (1, 0, (.tmp 165))], none, false⟩,
    ⟨none, .store 3 (.tmp 2) (.tmp 166), none, false⟩] none)
  .ret))))))))
def m105 : MFunc := { nparams := 1, results := [.cell 2 3], body := m105c }
attribute [simp] m105
-- loop.example/g03013/spec.l5Any
@[reducible] def m106k0 : List Nat := [1, 2]
@[reducible] def m106d0 : MCode :=
  (.seq (.seq (.region [⟨(some 4), .move (.tmp 2), none, false⟩,
    ⟨(some 5), .bin .lss (.tmp 4) (.val (.pv (.int .i64 (127)))), none, false⟩] none)
  (.cond (.tmp 5) .skip
  (.exit 0)))
  (.seq (.block 1 (.region [⟨(some 8), .move (.tmp 1), none, false⟩,
    ⟨(some 9), .move (.tmp 2), none, false⟩,
    ⟨(some 10), .conv .u8 (.tmp 9), none, false⟩,
    ⟨(some 11), .buildSlice 0 [(.tmp 10)], none, false⟩,
    ⟨(some 12), .append 0 1 (.tmp 8) (.tmp 11), none, false⟩,
    ⟨(some 1), .move (.tmp 12), none, false⟩] none))
  (.region [⟨(some 6), .move (.tmp 2), none, false⟩,
    ⟨(some 7), .bin .add (.tmp 6) (.val (.pv (.int .i64 (1)))), none, false⟩,
    ⟨(some 2), .move (.tmp 7), none, false⟩] none)))
def m106b0 : MCode := m106d0
theorem m106x0 {R : Type} {call : FuncId → List XV → Option Res} {bx : List Nat} {σ : St} {K : K2 R} : @X R call bx m106b0 σ K = @X R call bx m106d0 σ K := rfl
attribute [simp ↓] m106x0
@[reducible] def m106c : MCode :=
  (.seq (.region [⟨(some 0), .move (.val (.pv (.str ⟨#[]⟩))), none, false⟩] none)
  (.seq (.region [⟨(some 3), .buildSlice 0 [], none, false⟩,
    ⟨(some 1), .move (.tmp 3), none, false⟩] none)
  (.seq (.seq (.region [⟨(some 2), .move (.val (.pv (.int .i64 (32)))), none, false⟩] none)
  (.block 0 (.loop (.seq (.forget m106k0) m106b0))))
  (.seq (.region [⟨(some 13), .move (.tmp 1), none, false⟩,
    ⟨(some 14), .bytesToStr (.tmp 13), none, false⟩,
    ⟨(some 0), .move (.tmp 14), none, false⟩] none)
  .ret))))
def m106 : MFunc := { nparams := 0, results := [.tmp 0], body := m106c }
attribute [simp] m106
-- loop.example/g03013/spec.l3Letter
@[reducible] def m107c : MCode :=
  (.seq (.region [⟨(some 2), .move (.val (.pv (.bool false))), none, false⟩] none)
  (.seq (.region [⟨(some 3), .move (.tmp 0), none, false⟩,
    ⟨(some 4), .conv .i64 (.tmp 3), none, false⟩,
    ⟨(some 5), .call 58 [(.tmp 4), (.val (.pv (.int .i64 (97)))), (.val (.pv (.int .i64 (122))))], none, false⟩,
    ⟨(some 2), .move (.tmp 5), none, false⟩] none)
  .ret))
def m107 : MFunc := { nparams := 1, results := [.tmp 2], body := m107c }
attribute [simp] m107
-- loop.example/g03013/spec.l3Digit
@[reducible] def m108c : MCode :=
  (.seq (.region [⟨(some 2), .move (.val (.pv (.bool false))), none, false⟩] none)
  (.seq (.region [⟨(some 3), .move (.tmp 0), none, false⟩,
    ⟨(some 4), .conv .i64 (.tmp 3), none, false⟩,
    ⟨(some 5), .call 58 [(.tmp 4), (.val (.pv (.int .i64 (48)))), (.val (.pv (.int .i64 (57))))], none, false⟩,
    ⟨(some 2), .move (.tmp 5), none, false⟩] none)
  .ret))
def m108 : MFunc := { nparams := 1, results := [.tmp 2], body := m108c }
attribute [simp] m108
-- (*loop.example/g03013/impl.patReader).atom
@[reducible] def m109k0 : List Nat := [2, 3, 5]
@[reducible] def m109d0 : MCode :=
  (.seq (.seq (.region [⟨(some 27), .move (.tmp 5), none, false⟩,
    ⟨(some 28), .bin .leq (.tmp 27) (.val (.pv (.int .i64 (126)))), none, false⟩] none)
  (.cond (.tmp 28) .skip
  (.exit 1)))
  (.seq (.block 2 (.region [⟨(some 31), .move (.tmp 5), none, false⟩,
    ⟨(some 32), .indexArr 256 0 (.tmp 3) (.tmp 31), none, false⟩,
    ⟨none, .store 0 (.tmp 32) (.val (.pv (.bool true))), none, false⟩] none))
  (.region [⟨(some 29), .move (.tmp 5), none, false⟩,
    ⟨(some 30), .bin .add (.tmp 29) (.val (.pv (.int .i64 (1)))), none, false⟩,
    ⟨(some 5), .move (.tmp 30), none, false⟩] none)))
def m109b0 : MCode := m109d0
theorem m109x0 {R : Type} {call : FuncId → List XV → Option Res} {bx : List Nat} {σ : St} {K : K2 R} : @X R call bx m109b0 σ K = @X R call bx m109d0 σ K := rfl
attribute [simp ↓] m109x0
@[reducible] def m109k1 : List Nat := [0, 2, 3, 6, 8, 9]
@[reducible] def m109d1 : MCode :=
  (.seq (.seq (.region [⟨(some 69), .move (.tmp 9), none, false⟩,
    ⟨(some 70), .move (.tmp 8), none, false⟩,
    ⟨(some 71), .conv .i64 (.tmp 70), none, false⟩,
    ⟨(some 72), .bin .leq (.tmp 69) (.tmp 71), none, false⟩] none)
  (.cond (.tmp 72) .skip
  (.exit 5)))
  (.seq (.block 6 (.region [⟨(some 75), .move (.tmp 9), none, false⟩,
    ⟨(some 76), .indexArr 256 0 (.tmp 3) (.tmp 75), none, false⟩,
    ⟨none, .store 0 (.tmp 76) (.val (.pv (.bool true))), none, false⟩] none))
  (.region [⟨(some 73), .move (.tmp 9), none, false⟩,
    ⟨(some 74), .bin .add (.tmp 73) (.val (.pv (.int .i64 (1)))), none, false⟩,
    ⟨(some 9), .move (.tmp 74), none, false⟩] none)))
def m109b1 : MCode := m109d1
theorem m109x1 {R : Type} {call : FuncId → List XV → Option Res} {bx : List Nat} {σ : St} {K : K2 R} : @X R call bx m109b1 σ K = @X R call bx m109d1 σ K := rfl
attribute [simp ↓] m109x1
@[reducible] def m109k2 : List Nat := [0, 2, 3, 6]
@[reducible] def m109d2 : MCode :=
  (.seq (.seq (.region [⟨(some 38), .move (.tmp 0), none, false⟩,
    ⟨(some 39), .nilCheck (.tmp 38), none, false⟩,
    ⟨(some 40), .fieldAddr 2 (.tmp 39), none, false⟩,
    ⟨(some 41), .load 0 (.tmp 40), none, false⟩,
    ⟨(some 42), .un .not (.tmp 41), none, false⟩,
    ⟨(some 43), .move (.tmp 42), none, true⟩,
    ⟨(some 44), .move (.tmp 6), (some (43, true)), false⟩,
    ⟨(some 45), .bin .eql (.tmp 44) (.val (.pv (.int .i64 (0)))), (some (43, true)), false⟩,
    ⟨(some 46), .move (.tmp 45), (some (43, true)), true⟩,
    ⟨(some 47), .move (.tmp 0), (some (46, false)), false⟩,
    ⟨(some 48), .call 86 [(.tmp 47), (.val (.pv (.int .u8 (93))))], (some (46, false)), false⟩,
    ⟨(some 49), .un .not (.tmp 48), (some (46, false)), false⟩,
    ⟨(some 50), .pick (.tmp 46) (.val (.pv (.bool true))) (.tmp 49), (some (43, true)), false⟩,
    ⟨(some 51), .pick (.tmp 43) (.tmp 50) (.val (.pv (.bool false))), none, false⟩] none)
  (.cond (.tmp 51) .skip
  (.exit 3)))
  (.seq (.block 4 (.seq (.region [⟨(some 54), .move (.tmp 0), none, false⟩,
    ⟨(some 55), .call 116 [(.tmp 54)], none, false⟩,
    ⟨(some 7), .move (.tmp 55), none, false⟩] none)
  (.seq (.region [⟨(some 56), .move (.tmp 7), none, false⟩,
    ⟨(some 8), .move (.tmp 56), none, false⟩] none)
  (.seq (.seq (.region [⟨(some 57), .move (.tmp 0), none, false⟩,
    ⟨(some 58), .call 86 [(.tmp 57), (.val (.pv (.int .u8 (126))))], none, false⟩] none)
  (.cond (.tmp 58) (.region [⟨(some 59), .move (.tmp 0), none, false⟩,
     ⟨(some 60), .call 116 [(.tmp 59)], none, false⟩,
     ⟨(some 8), .move (.tmp 60), none, false⟩] none)
  .skip))
  (.seq (.seq (.region [⟨(some 61), .move (.tmp 8), none, false⟩,
    ⟨(some 62), .move (.tmp 7), none, false⟩,
    ⟨(some 63), .bin .lss (.tmp 61) (.tmp 62), none, false⟩] none)
  (.cond (.tmp 63) (.region [⟨(some 64), .move (.tmp 0), none, false⟩,
     ⟨(some 65), .nilCheck (.tmp 64), none, false⟩,
     ⟨(some 66), .fieldAddr 2 (.tmp 65), none, false⟩,
     ⟨none, .store 0 (.tmp 66) (.val (.pv (.bool true))), none, false⟩] none)
  .skip))
  (.seq (.region [⟨(some 67), .move (.tmp 7), none, false⟩,
    ⟨(some 68), .conv .i64 (.tmp 67), none, false⟩,
    ⟨(some 9), .move (.tmp 68), none, false⟩] none)
  (.block 5 (.loop (.seq (.forget m109k1) m109b1)))))))))
  (.region [⟨(some 52), .move (.tmp 6), none, false⟩,
    ⟨(some 53), .bin .add (.tmp 52) (.val (.pv (.int .i64 (1)))), none, false⟩,
    ⟨(some 6), .move (.tmp 53), none, false⟩] none)))
def m109b2 : MCode := m109d2
theorem m109x2 {R : Type} {call : FuncId → List XV → Option Res} {bx : List Nat} {σ : St} {K : K2 R} : @X R call bx m109b2 σ K = @X R call bx m109d2 σ K := rfl
attribute [simp ↓] m109x2
@[reducible] def m109c : MCode :=
  (.seq (.region [⟨(some 2), .alloc [(.pv (.int .i64 (0))), (.pv (.str ⟨#[]⟩)), .nils], none, false⟩] none)
  (.seq (.region [⟨(some 11), .build (uni 256 (.pv (.bool false))) [], none, false⟩,
    ⟨(some 3), .alloc (uni 256 (.pv (.bool false))), none, false⟩,
    ⟨none, .store 256 (.tmp 3) (.tmp 11), none, false⟩] none)
  (.seq (.block 0 (.seq (.region [⟨(some 13), .move (.tmp 0), none, false⟩,
    ⟨(some 14), .call 86 [(.tmp 13), (.val (.pv (.int .u8 (40))))], none, false⟩,
    ⟨(some 12), .move (.tmp 14), none, false⟩] none)
  (.cond (.tmp 12) (.seq (.region [⟨(some 15), .move (.tmp 0), none, false⟩,
     ⟨(some 16), .call 71 [(.tmp 15)], none, false⟩,
     ⟨(some 4), .alloc [(.pv (.int .i64 (0))), (.pv (.str ⟨#[]⟩)), .nils], none, false⟩,
     ⟨none, .store 3 (.tmp 4) (.tmp 16), none, false⟩] none)
   (.seq (.seq (.region [⟨(some 17), .move (.tmp 0), none, false⟩,
     ⟨(some 18), .call 86 [(.tmp 17), (.val (.pv (.int .u8 (41))))], none, false⟩,
     ⟨(some 19), .un .not (.tmp 18), none, false⟩] none)
   (.cond (.tmp 19) (.region [⟨(some 20), .move (.tmp 0), none, false⟩,
      ⟨(some 21), .nilCheck (.tmp 20), none, false⟩,
      ⟨(some 22), .fieldAddr 2 (.tmp 21), none, false⟩,
      ⟨none, .store 0 (.tmp 22) (.val (.pv (.bool true))), none, false⟩] none)
   .skip))
   (.seq (.region [⟨(some 23), .load 3 (.tmp 4), none, false⟩,
     ⟨none, .store 3 (.tmp 2) (.tmp 23), none, false⟩] none)
   .ret)))
  (.seq (.region [⟨(some 25), .move (.tmp 0), none, false⟩,
     ⟨(some 26), .call 86 [(.tmp 25), (.val (.pv (.int .u8 (46))))], none, false⟩,
     ⟨(some 24), .move (.tmp 26), none, false⟩] none)
   (.cond (.tmp 24) (.seq (.seq (.region [⟨(some 5), .move (.val (.pv (.int .i64 (32)))), none, false⟩] none)
    (.block 1 (.loop (.seq (.forget m109k0) m109b0))))
    (.seq (.region [⟨(some 33), .load 256 (.tmp 3), none, false⟩,
      ⟨(some 34), .call 115 [(.tmp 33)], none, false⟩,
      ⟨none, .store 3 (.tmp 2) (.tmp 34), none, false⟩] none)
    .ret))
   (.seq (.region [⟨(some 36), .move (.tmp 0), none, false⟩,
      ⟨(some 37), .call 86 [(.tmp 36), (.val (.pv (.int .u8 (91))))], none, false⟩,
      ⟨(some 35), .move (.tmp 37), none, false⟩] none)
    (.cond (.tmp 35) (.seq (.seq (.region [⟨(some 6), .move (.val (.pv (.int .i64 (0)))), none, false⟩] none)
     (.block 3 (.loop (.seq (.forget m109k2) m109b2))))
     (.seq (.region [⟨(some 77), .load 256 (.tmp 3), none, false⟩,
       ⟨(some 78), .call 115 [(.tmp 77)], none, false⟩,
       ⟨none, .store 3 (.tmp 2) (.tmp 78), none, false⟩] none)
     .ret))
    .skip)))))))
  (.seq (.region [⟨(some 79), .move (.tmp 0), none, false⟩,
    ⟨(some 80), .call 116 [(.tmp 79)], none, false⟩,
    ⟨(some 10), .move (.tmp 80), none, false⟩] none)
  (.seq (.seq (.region [⟨(some 81), .move (.tmp 10), none, false⟩,
    ⟨(some 82), .bin .eql (.tmp 81) (.val (.pv (.int .u8 (95)))), none, false⟩,
    ⟨(some 83), .move (.tmp 82), none, true⟩,
    ⟨(some 84), .move (.tmp 10), (some (83, false)), false⟩,
    ⟨(some 85), .bin .eql (.tmp 84) (.val (.pv (.int .u8 (46)))), (some (83, false)), false⟩,
    ⟨(some 86), .pick (.tmp 83) (.val (.pv (.bool true))) (.tmp 85), none, false⟩] none)
  (.cond (.tmp 86) (.region [⟨(some 87), .move (.tmp 0), none, false⟩,
     ⟨(some 88), .nilCheck (.tmp 87), none, false⟩,
     ⟨(some 89), .fieldAddr 2 (.tmp 88), none, false⟩,
     ⟨none, .store 0 (.tmp 89) (.val (.pv (.bool true))), none, false⟩] none)
  .skip))
  (.seq (.region [⟨(some 90), .move (.tmp 10), none, false⟩,
    ⟨(some 91), .buildSlice 0 [(.tmp 90)], none, false⟩,
    ⟨(some 92), .bytesToStr (.tmp 91), none, false⟩,
    ⟨(some 93), .build [(.pv (.int .i64 (0))), (.pv (.str ⟨#[]⟩)), .nils] [(0, 0, (.val (.pv (.int .i64 (1))))), (1, 0, (.tmp 92))], none, false⟩,
    ⟨none, .store 3 (.tmp 2) (.tmp 93), none, false⟩] none)
  .ret))))))
def m109 : MFunc := { nparams := 1, results := [.cell 2 3], body := m109c }
attribute [simp] m109
-- loop.example/g03013/impl.copyPat
@[reducible] def m110k0 : List Nat := [1, 2, 3, 8, 9, 10]
@[reducible] def m110d0 : MCode :=
  (.seq (.region [⟨(some 11), .bin .lss (.tmp 10) (.tmp 9), none, false⟩] none)
  (.seq (.cond (.tmp 11) .skip
  (.exit 0))
  (.seq (.block 1 (.seq (.region [⟨(some 12), .indexAddr 3 (.tmp 8) (.tmp 10), none, false⟩,
    ⟨(some 13), .load 3 (.tmp 12), none, false⟩,
    ⟨(some 5), .alloc [(.pv (.int .i64 (0))), (.pv (.str ⟨#[]⟩)), .nils], none, false⟩,
    ⟨none, .store 3 (.tmp 5) (.tmp 13), none, false⟩] none)
  (.region [⟨(some 14), .move (.tmp 3), none, false⟩,
    ⟨(some 15), .load 3 (.tmp 5), none, false⟩,
    ⟨(some 16), .call 110 [(.tmp 15)], none, false⟩,
    ⟨(some 17), .buildSlice 3 [(.tmp 16)], none, false⟩,
    ⟨(some 18), .append 3 48 (.tmp 14) (.tmp 17), none, false⟩,
    ⟨(some 3), .move (.tmp 18), none, false⟩] none)))
  (.region [⟨(some 19), .bin .add (.tmp 10) (.val (.pv (.int .i64 (1)))), none, false⟩,
    ⟨(some 10), .move (.tmp 19), none, false⟩] none))))
def m110b0 : MCode := m110d0
theorem m110x0 {R : Type} {call : FuncId → List XV → Option Res} {bx : List Nat} {σ : St} {K : K2 R} : @X R call bx m110b0 σ K = @X R call bx m110d0 σ K := rfl
attribute [simp ↓] m110x0
@[reducible] def m110c : MCode :=
  (.seq (.region [⟨(some 1), .box 3 (.tmp 0), none, false⟩,
    ⟨(some 2), .alloc [(.pv (.int .i64 (0))), (.pv (.str ⟨#[]⟩)), .nils], none, false⟩] none)
  (.seq (.region [⟨(some 6), .buildSlice 3 [], none, false⟩,
    ⟨(some 3), .move (.tmp 6), none, false⟩] none)
  (.seq (.seq (.region [⟨(some 7), .fieldAddr 2 (.tmp 1), none, false⟩,
    ⟨(some 8), .load 0 (.tmp 7), none, false⟩,
    ⟨(some 9), .len (.tmp 8), none, false⟩,
    ⟨(some 10), .move (.val (.pv (.int .i64 (0)))), none, false⟩] none)
  (.block 0 (.loop (.seq (.forget m110k0) m110b0))))
  (.seq (.region [⟨(some 20), .move (.tmp 3), none, false⟩,
    ⟨(some 21), .fieldAddr 2 (.tmp 1), none, false⟩,
    ⟨none, .store 0 (.tmp 21) (.tmp 20), none, false⟩] none)
  (.seq (.region [⟨(some 22), .load 3 (.tmp 1), none, false⟩,
    ⟨none, .store 3 (.tmp 2) (.tmp 22), none, false⟩] none)
  .ret)))))
def m110 : MFunc := { nparams := 1, results := [.cell 2 3], body := m110c }
attribute [simp] m110
-- loop.example/g03013/spec.l5Char
@[reducible] def m114c : MCode :=
  (.seq (.region [⟨(some 2), .move (.val (.pv (.bool false))), none, false⟩] none)
  (.seq (.region [⟨(some 3), .move (.tmp 0), none, false⟩,
    ⟨(some 4), .call 107 [(.tmp 3)], none, false⟩,
    ⟨(some 5), .move (.tmp 4), none, true⟩,
    ⟨(some 6), .move (.tmp 0), (some (5, false)), false⟩,
    ⟨(some 7), .call 108 [(.tmp 6)], (some (5, false)), false⟩,
    ⟨(some 8), .pick (.tmp 5) (.val (.pv (.bool true))) (.tmp 7), none, false⟩,
    ⟨(some 9), .move (.tmp 8), none, true⟩,
    ⟨(some 10), .move (.tmp 0), (some (9, false)), false⟩,
    ⟨(some 11), .bin .eql (.tmp 10) (.val (.pv (.int .u8 (95)))), (some (9, false)), false⟩,
    ⟨(some 12), .pick (.tmp 9) (.val (.pv (.bool true))) (.tmp 11), none, false⟩,
    ⟨(some 13), .move (.tmp 12), none, true⟩,
    ⟨(some 14), .move (.tmp 0), (some (13, false)), false⟩,
    ⟨(some 15), .bin .eql (.tmp 14) (.val (.pv (.int .u8 (45)))), (some (13, false)), false⟩,
    ⟨(some 16), .pick (.tmp 13) (.val (.pv (.bool true))) (.tmp 15), none, false⟩,
    ⟨(some 17), .move (.tmp 16), none, true⟩,
    ⟨(some 18), .move (.tmp 0), (some (17, false)), false⟩,
    ⟨(some 19), .bin .eql (.tmp 18) (.val (.pv (.int .u8 (46)))), (some (17, false)), false⟩,
    ⟨(some 20), .pick (.tmp 17) (.val (.pv (.bool true))) (.tmp 19), none, false⟩,
    ⟨(some 2), .move (.tmp 20), none, false⟩] none)
  .ret))
def m114 : MFunc := { nparams := 1, results := [.tmp 2], body := m114c }
attribute [simp] m114
-- loop.example/g03013/impl.class
@[reducible] def m115k0 : List Nat := [1, 2, 3, 6]
@[reducible] def m115d0 : MCode :=
  (.seq (.region [⟨(some 7), .bin .lss (.tmp 6) (.val (.pv (.int .i64 (256)))), none, false⟩] none)
  (.seq (.cond (.tmp 7) .skip
  (.exit 0))
  (.seq (.block 1 (.seq (.region [⟨(some 8), .move (.tmp 6), none, false⟩,
    ⟨(some 4), .move (.tmp 8), none, false⟩] none)
  (.seq (.region [⟨(some 9), .move (.tmp 4), none, false⟩,
    ⟨(some 10), .indexArr 256 0 (.tmp 1) (.tmp 9), none, false⟩,
    ⟨(some 11), .load 0 (.tmp 10), none, false⟩] none)
  (.cond (.tmp 11) (.region [⟨(some 12), .move (.tmp 3), none, false⟩,
     ⟨(some 13), .move (.tmp 4), none, false⟩,
     ⟨(some 14), .conv .u8 (.tmp 13), none, false⟩,
     ⟨(some 15), .buildSlice 0 [(.tmp 14)], none, false⟩,
     ⟨(some 16), .append 0 1 (.tmp 12) (.tmp 15), none, false⟩,
     ⟨(some 3), .move (.tmp 16), none, false⟩] none)
  .skip))))
  (.region [⟨(some 17), .bin .add (.tmp 6) (.val (.pv (.int .i64 (1)))), none, false⟩,
    ⟨(some 6), .move (.tmp 17), none, false⟩] none))))
def m115b0 : MCode := m115d0
theorem m115x0 {R : Type} {call : FuncId → List XV → Option Res} {bx : List Nat} {σ : St} {K : K2 R} : @X R call bx m115b0 σ K = @X R call bx m115d0 σ K := rfl
attribute [simp ↓] m115x0
@[reducible] def m115c : MCode :=
  (.seq (.region [⟨(some 1), .box 256 (.tmp 0), none, false⟩,
    ⟨(some 2), .alloc [(.pv (.int .i64 (0))), (.pv (.str ⟨#[]⟩)), .nils], none, false⟩] none)
  (.seq (.region [⟨(some 5), .buildSlice 0 [], none, false⟩,
    ⟨(some 3), .move (.tmp 5), none, false⟩] none)
  (.seq (.seq (.region [⟨(some 6), .move (.val (.pv (.int .i64 (0)))), none, false⟩] none)
  (.block 0 (.loop (.seq (.forget m115k0) m115b0))))
  (.seq (.region [⟨(some 18), .move (.tmp 3), none, false⟩,
    ⟨(some 19), .bytesToStr (.tmp 18), none, false⟩,
    ⟨(some 20), .build [(.pv (.int .i64 (0))), (.pv (.str ⟨#[]⟩)), .nils] [(0, 0, (.val (.pv (.int .i64 (1))))), (1, 0, (.tmp 19))], none, false⟩,
    ⟨none, .store 3 (.tmp 2) (.tmp 20), none, false⟩] none)
  .ret))))
def m115 : MFunc := { nparams := 1, results := [.cell 2 3], body := m115c }
attribute [simp] m115
-- (*loop.example/g03013/impl.patReader).char
@[reducible] def m116e0 : List MOper := [⟨(some 3), .move (.tmp 0), none, false⟩,
  ⟨(some 4), .nilCheck (.tmp 3), none, false⟩,
  ⟨(some 5), .fieldAddr 1 (.tmp 4), none, false⟩,
  ⟨(some 6), .load 0 (.tmp 5), none, false⟩,
  ⟨(some 7), .move (.tmp 0), none, false⟩,
  ⟨(some 8), .nilCheck (.tmp 7), none, false⟩,
  ⟨(some 9), .fieldAddr 0 (.tmp 8), none, false⟩,
  ⟨(some 10), .load 0 (.tmp 9), none, false⟩,
  ⟨(some 11), .strLen (.tmp 10), none, false⟩,
  ⟨(some 12), .bin .geq (.tmp 6) (.tmp 11), none, false⟩,
  ⟨(some 13), .move (.tmp 12), none, true⟩,
  ⟨(some 14), .move (.tmp 0), (some (13, false)), false⟩,
  ⟨(some 15), .nilCheck (.tmp 14), (some (13, false)), false⟩,
  ⟨(some 16), .fieldAddr 0 (.tmp 15), (some (13, false)), false⟩,
  ⟨(some 17), .load 0 (.tmp 16), (some (13, false)), false⟩,
  ⟨(some 18), .move (.tmp 0), (some (13, false)), false⟩,
  ⟨(some 19), .nilCheck (.tmp 18), (some (13, false)), false⟩,
  ⟨(some 20), .fieldAddr 1 (.tmp 19), (some (13, false)), false⟩,
  ⟨(some 21), .load 0 (.tmp 20), (some (13, false)), false⟩,
  ⟨(some 22), .strIdx (.tmp 17) (.tmp 21), (some (13, false)), false⟩,
  ⟨(some 23), .call 117 [(.tmp 22)], (some (13, false)), false⟩,
  ⟨(some 24), .un .not (.tmp 23), (some (13, false)), false⟩,
  ⟨(some 25), .pick (.tmp 13) (.val (.pv (.bool true))) (.tmp 24), none, false⟩]
def m116r0 : List MOper := m116e0
def m116q0 : List Nat := [0, 1, 3, 7, 0, 16, 48, 112, 240, 511, 1023, 2047, 4095, 8191, 16383, 2047, 34815, 100351, 231423, 524287, 1048575, 2097151, 4194303]
theorem m116x0 {R : Type} {call : FuncId → List XV → Option Res} {bx : List Nat} {σ : St} {K : K2 R} : @X R call bx (.region m116r0 (some m116q0)) σ K = @XD R call m116e0 m116q0 σ K := X_draw (by decide +kernel)
attribute [simp ↓] m116x0
@[reducible] def m116e1 : List MOper := [⟨(some 36), .move (.tmp 0), none, false⟩,
  ⟨(some 37), .nilCheck (.tmp 36), none, false⟩,
  ⟨(some 38), .fieldAddr 0 (.tmp 37), none, false⟩,
  ⟨(some 39), .load 0 (.tmp 38), none, false⟩,
  ⟨(some 40), .move (.tmp 0), none, false⟩,
  ⟨(some 41), .nilCheck (.tmp 40), none, false⟩,
  ⟨(some 42), .fieldAddr 1 (.tmp 41), none, false⟩,
  ⟨(some 43), .load 0 (.tmp 42), none, false⟩,
  ⟨(some 44), .bin .sub (.tmp 43) (.val (.pv (.int .i64 (1)))), none, false⟩,
  ⟨(some 45), .strIdx (.tmp 39) (.tmp 44), none, false⟩,
  ⟨(some 2), .move (.tmp 45), none, false⟩]
def m116r1 : List MOper := m116e1
def m116q1 : List Nat := [0, 1, 3, 7, 0, 16, 48, 112, 240, 511, 1023]
theorem m116x1 {R : Type} {call : FuncId → List XV → Option Res} {bx : List Nat} {σ : St} {K : K2 R} : @X R call bx (.region m116r1 (some m116q1)) σ K = @XD R call m116e1 m116q1 σ K := X_draw (by decide +kernel)
attribute [simp ↓] m116x1
@[reducible] def m116c : MCode :=
  (.seq (.region [⟨(some 2), .move (.val (.pv (.int .u8 (0)))), none, false⟩] none)
  (.seq (.seq (.region m116r0 (some m116q0))
  (.cond (.tmp 25) (.seq (.region [⟨(some 26), .move (.tmp 0), none, false⟩,
     ⟨(some 27), .nilCheck (.tmp 26), none, false⟩,
     ⟨(some 28), .fieldAddr 2 (.tmp 27), none, false⟩,
     ⟨none, .store 0 (.tmp 28) (.val (.pv (.bool true))), none, false⟩] none)
   (.seq (.region [⟨(some 2), .move (.val (.pv (.int .u8 (0)))), none, false⟩] none)
   .ret))
  .skip))
  (.seq (.region [⟨(some 29), .move (.tmp 0), none, false⟩,
    ⟨(some 30), .nilCheck (.tmp 29), none, false⟩,
    ⟨(some 31), .fieldAddr 1 (.tmp 30), none, false⟩,
    ⟨(some 32), .load 0 (.tmp 31), none, false⟩,
    ⟨(some 33), .bin .add (.tmp 32) (.val (.pv (.int .i64 (1)))), none, false⟩,
    ⟨(some 34), .nilCheck (.tmp 29), none, false⟩,
    ⟨(some 35), .fieldAddr 1 (.tmp 34), none, false⟩,
    ⟨none, .store 0 (.tmp 35) (.tmp 33), none, false⟩] none)
  (.seq (.region m116r1 (some m116q1))
  .ret))))
def m116 : MFunc := { nparams := 1, results := [.tmp 2], body := m116c }
attribute [simp] m116
-- loop.example/g03013/impl.isChar
@[reducible] def m117c : MCode :=
  (.seq (.region [⟨(some 2), .move (.val (.pv (.bool false))), none, false⟩] none)
  (.seq (.region [⟨(some 3), .move (.tmp 0), none, false⟩,
    ⟨(some 4), .call 81 [(.tmp 3)], none, false⟩,
    ⟨(some 5), .move (.tmp 4), none, true⟩,
    ⟨(some 6), .move (.tmp 0), (some (5, false)), false⟩,
    ⟨(some 7), .call 96 [(.tmp 6)], (some (5, false)), false⟩,
    ⟨(some 8), .pick (.tmp 5) (.val (.pv (.bool true))) (.tmp 7), none, false⟩,
    ⟨(some 9), .move (.tmp 8), none, true⟩,
    ⟨(some 10), .move (.tmp 0), (some (9, false)), false⟩,
    ⟨(some 11), .bin .eql (.tmp 10) (.val (.pv (.int .u8 (95)))), (some (9, false)), false⟩,
    ⟨(some 12), .pick (.tmp 9) (.val (.pv (.bool true))) (.tmp 11), none, false⟩,
    ⟨(some 13), .move (.tmp 12), none, true⟩,
    ⟨(some 14), .move (.tmp 0), (some (13, false)), false⟩,
    ⟨(some 15), .bin .eql (.tmp 14) (.val (.pv (.int .u8 (45)))), (some (13, false)), false⟩,
    ⟨(some 16), .pick (.tmp 13) (.val (.pv (.bool true))) (.tmp 15), none, false⟩,
    ⟨(some 17), .move (.tmp 16), none, true⟩,
    ⟨(some 18), .move (.tmp 0), (some (17, false)), false⟩,
    ⟨(some 19), .bin .eql (.tmp 18) (.val (.pv (.int .u8 (46)))), (some (17, false)), false⟩,
    ⟨(some 20), .pick (.tmp 17) (.val (.pv (.bool true))) (.tmp 19), none, false⟩,
    ⟨(some 2), .move (.tmp 20), none, false⟩] none)
  .ret))
def m117 : MFunc := { nparams := 1, results := [.tmp 2], body := m117c }
attribute [simp] m117
theorem t7 : fits Try.prog Try.f7 m7 := ⟨_, rfl, by kernel_rfl, by kernel_rfl, by decide +kernel⟩
theorem t25 : fits Try.prog Try.f25 m25 := ⟨_, rfl, by kernel_rfl, by kernel_rfl, by decide +kernel⟩
theorem t26 : fits Try.prog Try.f26 m26 := ⟨_, rfl, by kernel_rfl, by kernel_rfl, by decide +kernel⟩
theorem t48 : fits Try.prog Try.f48 m48 := ⟨_, rfl, by kernel_rfl, by kernel_rfl, by decide +kernel⟩
theorem t49 : fits Try.prog Try.f49 m49 := ⟨_, rfl, by kernel_rfl, by kernel_rfl, by decide +kernel⟩
theorem t56 : fits Try.prog Try.f56 m56 := ⟨_, rfl, by kernel_rfl, by kernel_rfl, by decide +kernel⟩
theorem t58 : fits Try.prog Try.f58 m58 := ⟨_, rfl, by kernel_rfl, by kernel_rfl, by decide +kernel⟩
theorem t59 : fits Try.prog Try.f59 m59 := ⟨_, rfl, by kernel_rfl, by kernel_rfl, by decide +kernel⟩
theorem t65 : fits Try.prog Try.f65 m65 := ⟨_, rfl, by kernel_rfl, by kernel_rfl, by decide +kernel⟩
theorem t69 : fits Try.prog Try.f69 m69 := ⟨_, rfl, by kernel_rfl, by kernel_rfl, by decide +kernel⟩
theorem t70 : fits Try.prog Try.f70 m70 := ⟨_, rfl, by kernel_rfl, by kernel_rfl, by decide +kernel⟩
theorem t71 : fits Try.prog Try.f71 m71 := ⟨_, rfl, by kernel_rfl, by kernel_rfl, by decide +kernel⟩
theorem t81 : fits Try.prog Try.f81 m81 := ⟨_, rfl, by kernel_rfl, by kernel_rfl, by decide +kernel⟩
theorem t82 : fits Try.prog Try.f82 m82 := ⟨_, rfl, by kernel_rfl, by kernel_rfl, by decide +kernel⟩
theorem t83 : fits Try.prog Try.f83 m83 := ⟨_, rfl, by kernel_rfl, by kernel_rfl, by decide +kernel⟩
theorem t84 : fits Try.prog Try.f84 m84 := ⟨_, rfl, by kernel_rfl, by kernel_rfl, by decide +kernel⟩
theorem t85 : fits Try.prog Try.f85 m85 := ⟨_, rfl, by kernel_rfl, by kernel_rfl, by decide +kernel⟩
theorem t86 : fits Try.prog Try.f86 m86 := ⟨_, rfl, by kernel_rfl, by kernel_rfl, by decide +kernel⟩
theorem t96 : fits Try.prog Try.f96 m96 := ⟨_, rfl, by kernel_rfl, by kernel_rfl, by decide +kernel⟩
theorem t97 : fits Try.prog Try.f97 m97 := ⟨_, rfl, by kernel_rfl, by kernel_rfl, by decide +kernel⟩
theorem t98 : fits Try.prog Try.f98 m98 := ⟨_, rfl, by kernel_rfl, by kernel_rfl, by decide +kernel⟩
theorem t99 : fits Try.prog Try.f99 m99 := ⟨_, rfl, by kernel_rfl, by kernel_rfl, by decide +kernel⟩
theorem t105 : fits Try.prog Try.f105 m105 := ⟨_, rfl, by kernel_rfl, by kernel_rfl, by decide +kernel⟩
theorem t106 : fits Try.prog Try.f106 m106 := ⟨_, rfl, by kernel_rfl, by kernel_rfl, by decide +kernel⟩
theorem t107 : fits Try.prog Try.f107 m107 := ⟨_, rfl, by kernel_rfl, by kernel_rfl, by decide +kernel⟩
theorem t108 : fits Try.prog Try.f108 m108 := ⟨_, rfl, by kernel_rfl, by kernel_rfl, by decide +kernel⟩
theorem t109 : fits Try.prog Try.f109 m109 := ⟨_, rfl, by kernel_rfl, by kernel_rfl, by decide +kernel⟩
theorem t110 : fits Try.prog Try.f110 m110 := ⟨_, rfl, by kernel_rfl, by kernel_rfl, by decide +kernel⟩
theorem t114 : fits Try.prog Try.f114 m114 := ⟨_, rfl, by kernel_rfl, by kernel_rfl, by decide +kernel⟩
theorem t115 : fits Try.prog Try.f115 m115 := ⟨_, rfl, by kernel_rfl, by kernel_rfl, by decide +kernel⟩
theorem t116 : fits Try.prog Try.f116 m116 := ⟨_, rfl, by kernel_rfl, by kernel_rfl, by decide +kernel⟩
theorem t117 : fits Try.prog Try.f117 m117 := ⟨_, rfl, by kernel_rfl, by kernel_rfl, by decide +kernel⟩
def codeL : List (Nat × MFunc) := [(7, m7), (25, m25), (26, m26), (48, m48), (49, m49), (56, m56), (58, m58), (59, m59), (65, m65), (69, m69), (70, m70), (71, m71), (81, m81), (82, m82), (83, m83), (84, m84), (85, m85), (86, m86), (96, m96), (97, m97), (98, m98), (99, m99), (105, m105), (106, m106), (107, m107), (108, m108), (109, m109), (110, m110), (114, m114), (115, m115), (116, m116), (117, m117)]
def code (f : FuncId) : Option MFunc := look none (codeL.map fun p => (p.1, some p.2)) f
theorem code7 : code 7 = some m7 := rfl
theorem code25 : code 25 = some m25 := rfl
theorem code26 : code 26 = some m26 := rfl
theorem code48 : code 48 = some m48 := rfl
theorem code49 : code 49 = some m49 := rfl
theorem code56 : code 56 = some m56 := rfl
theorem code58 : code 58 = some m58 := rfl
theorem code59 : code 59 = some m59 := rfl
theorem code65 : code 65 = some m65 := rfl
theorem code69 : code 69 = some m69 := rfl
theorem code70 : code 70 = some m70 := rfl
theorem code71 : code 71 = some m71 := rfl
theorem code81 : code 81 = some m81 := rfl
theorem code82 : code 82 = some m82 := rfl
theorem code83 : code 83 = some m83 := rfl
theorem code84 : code 84 = some m84 := rfl
theorem code85 : code 85 = some m85 := rfl
theorem code86 : code 86 = some m86 := rfl
theorem code96 : code 96 = some m96 := rfl
theorem code97 : code 97 = some m97 := rfl
theorem code98 : code 98 = some m98 := rfl
theorem code99 : code 99 = some m99 := rfl
theorem code105 : code 105 = some m105 := rfl
theorem code106 : code 106 = some m106 := rfl
theorem code107 : code 107 = some m107 := rfl
theorem code108 : code 108 = some m108 := rfl
theorem code109 : code 109 = some m109 := rfl
theorem code110 : code 110 = some m110 := rfl
theorem code114 : code 114 = some m114 := rfl
theorem code115 : code 115 = some m115 := rfl
theorem code116 : code 116 = some m116 := rfl
theorem code117 : code 117 = some m117 := rfl
def prim (f : FuncId) : Option (List XV → Option Res) := look none (primL.map fun p => (p.1, some p.2)) f
noncomputable def EV : FuncId → List XV → Option Res := Ev prim code
theorem run {f : FuncId} {m : MFunc} {c : MCode} (hc : code f = some m) (hb : m.body = c) {args : List XV} {ts : List (Nat × AV)} {os : List (Nat × Obj)} {bx : List Nat} (hl : lenIs args m.nparams = true) (he : enter 0 args = some (ts, os, bx)) {r : Res}
    (h : @X Res EV bx c ⟨ts, os⟩ ⟨fun e σ => match e with
      | .exit _ => none
      | _ => leave m bx σ⟩ = some r) (hp : prim f = none := by rfl) : EV f args = some r := run_of hp hc hb hl he h
theorem runG {f : FuncId} {m : MFunc} {c : MCode} (hc : code f = some m) (hb : m.body = c) {args : List XV} {ts : List (Nat × AV)} {os : List (Nat × Obj)} {bx : List Nat} (hl : lenIs args m.nparams = true) (he : enter 0 args = some (ts, os, bx)) {Q : PQ Res}
    (h : @Gets Res (@X Res EV bx c ⟨ts, os⟩ ⟨fun e σ => match e with
      | .exit _ => none
      | _ => leave m bx σ⟩) Q) (hp : prim f = none := by rfl) : @Gets Res (EV f args) Q := by
  unfold Gets at h ⊢; obtain ⟨r, h1, h2⟩ := h; exact ⟨r, run hc hb hl he h1 hp, h2⟩
theorem gets {x : Option Res} {Q : Res → Prop} (h : @Gets Res x ⟨Q⟩) : ∃ r, x = some r ∧ Q r := by unfold Gets at h; exact h
def fine (l : List (Nat × MFunc)) : Prop := ∀ p ∈ l, ∃ fn, Try.prog.funcs[p.1]? = some fn ∧ fits Try.prog fn p.2 ∧ (fn.name == "runtime.NumGoroutine") = false
theorem fine_nil : fine [] := fun p hp => (by cases hp)
theorem fine_cons {k : Nat} {m : MFunc} {fn : Func} {l : List (Nat × MFunc)} (h1 : Try.prog.funcs[k]? = some fn) (h2 : fits Try.prog fn m) (h3 : (fn.name == "runtime.NumGoroutine") = false) (h : fine l) : fine ((k, m) :: l) := fun p hp => by
  rcases List.mem_cons.1 hp with rfl | hp
  · exact ⟨fn, h1, h2, h3⟩
  · exact h p hp
theorem codeL_fine : fine codeL :=
  fine_cons Try.func7 t7 (by decide +kernel) <| fine_cons Try.func25 t25 (by decide +kernel) <| fine_cons Try.func26 t26 (by decide +kernel) <| fine_cons Try.func48 t48 (by decide +kernel) <| fine_cons Try.func49 t49 (by decide +kernel) <| fine_cons Try.func56 t56 (by decide +kernel) <| fine_cons Try.func58 t58 (by decide +kernel) <| fine_cons Try.func59 t59 (by decide +kernel) <| fine_cons Try.func65 t65 (by decide +kernel) <| fine_cons Try.func69 t69 (by decide +kernel) <| fine_cons Try.func70 t70 (by decide +kernel) <| fine_cons Try.func71 t71 (by decide +kernel) <| fine_cons Try.func81 t81 (by decide +kernel) <| fine_cons Try.func82 t82 (by decide +kernel) <| fine_cons Try.func83 t83 (by decide +kernel) <| fine_cons Try.func84 t84 (by decide +kernel) <| fine_cons Try.func85 t85 (by decide +kernel) <| fine_cons Try.func86 t86 (by decide +kernel) <| fine_cons Try.func96 t96 (by decide +kernel) <| fine_cons Try.func97 t97 (by decide +kernel) <| fine_cons Try.func98 t98 (by decide +kernel) <| fine_cons Try.func99 t99 (by decide +kernel) <| fine_cons Try.func105 t105 (by decide +kernel) <| fine_cons Try.func106 t106 (by decide +kernel) <| fine_cons Try.func107 t107 (by decide +kernel) <| fine_cons Try.func108 t108 (by decide +kernel) <| fine_cons Try.func109 t109 (by decide +kernel) <| fine_cons Try.func110 t110 (by decide +kernel) <| fine_cons Try.func114 t114 (by decide +kernel) <| fine_cons Try.func115 t115 (by decide +kernel) <| fine_cons Try.func116 t116 (by decide +kernel) <| fine_cons Try.func117 t117 (by decide +kernel) <|  fine_nil
theorem look_fine : ∀ (l : List (Nat × MFunc)) (f : Nat) (m : MFunc), look none (l.map fun p => (p.1, some p.2)) f = some m → (f, m) ∈ l
  | [], f, m, h => by cases h
  | (k, m') :: l, f, m, h => by
    simp only [List.map_cons, look] at h
    split at h
    · rename_i e; cases h; subst e; exact List.mem_cons_self ..
    · exact List.mem_cons_of_mem _ (look_fine l f m h)
theorem look_prim : ∀ (l : List (FuncId × (List XV → Option Res))) (f : Nat) (F : List XV → Option Res), look none (l.map fun p => (p.1, some p.2)) f = some F → (f, F) ∈ l
  | [], f, F, h => by cases h
  | (k, m') :: l, f, m, h => by
    simp only [List.map_cons, look] at h
    split at h
    · rename_i e; cases h; subst e; exact List.mem_cons_self ..
    · exact List.mem_cons_of_mem _ (look_prim l f m h)
theorem told : Told Try.prog prim code := ⟨by kernel_rfl, fun f F h => prim_sound (f, F) (look_prim _ f F h), fun f m h => codeL_fine (f, m) (look_fine _ f m h)⟩
end Go.Proofs.YtbgkalolmichdaaA
