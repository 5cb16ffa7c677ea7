/- The told functions of the seat, printed by tell.sh; that they fit; the table. Conditions: none. -/
import Derived.Test.YtbgkalolmichdaaPR1
import Derived.Test.YtbgkalolmichdaaProg
import Derived.KernelRfl
namespace Go.Proofs.YtbgkalolmichdaaA
open Go Go.Proofs
set_option maxRecDepth 20000
-- loop.example/g03013/laws.FnExactIsForm
@[reducible] def m6c : MCode :=
  (.seq (.region [⟨(some 2), .move (.val (.pv (.bool false))), none, false⟩] none)
  (.seq (.region [⟨(some 3), .move (.val (.pv (.int .i64 (1048576)))), none, false⟩] none)
  (.seq (.region [⟨(some 7), .move (.tmp 0), none, false⟩,
    ⟨(some 8), .move (.tmp 3), none, false⟩,
    ⟨(some 9), .call 20 [(.tmp 7), (.tmp 8)], none, false⟩,
    ⟨(some 3), .move (.tmp 9), none, false⟩] none)
  (.seq (.seq (.region [⟨(some 10), .move (.tmp 3), none, false⟩,
    ⟨(some 11), .bin .lss (.tmp 10) (.val (.pv (.int .i64 (0)))), none, false⟩] none)
  (.cond (.tmp 11) (.seq (.region [⟨(some 2), .move (.val (.pv (.bool true))), none, false⟩] none)
   .ret)
  .skip))
  (.seq (.region [⟨(some 12), .move (.tmp 0), none, false⟩,
    ⟨(some 13), .call 22 [(.tmp 12)], none, false⟩,
    ⟨(some 14), .call 21 [(.tmp 13)], none, false⟩,
    ⟨(some 4), .move (.tmp 14), none, false⟩] none)
  (.seq (.region [⟨(some 15), .move (.tmp 0), none, false⟩,
    ⟨(some 16), .call 22 [(.tmp 15)], none, false⟩,
    ⟨(some 5), .move (.tmp 16), none, false⟩] none)
  (.seq (.region [⟨(some 17), .move (.tmp 5), none, false⟩,
    ⟨(some 18), .call 23 [(.tmp 17)], none, false⟩,
    ⟨(some 6), .move (.tmp 18), none, false⟩] none)
  (.seq (.seq (.region [⟨(some 19), .move (.tmp 6), none, false⟩,
    ⟨(some 20), .move (.tmp 4), none, false⟩,
    ⟨(some 21), .binB .neq (.tmp 19) (.tmp 20), none, false⟩] none)
  (.cond (.tmp 21) (.seq (.region [⟨(some 2), .move (.val (.pv (.bool false))), none, false⟩] none)
   .ret)
  .skip))
  (.seq (.seq (.region [⟨(some 22), .move (.tmp 5), none, false⟩,
    ⟨(some 23), .move (.tmp 0), none, false⟩,
    ⟨(some 24), .call 22 [(.tmp 23)], none, false⟩,
    ⟨(some 25), .call 24 [(.tmp 22), (.tmp 24)], none, false⟩,
    ⟨(some 26), .un .not (.tmp 25), none, false⟩] none)
  (.cond (.tmp 26) (.seq (.region [⟨(some 2), .move (.val (.pv (.bool false))), none, false⟩] none)
   .ret)
  .skip))
  (.seq (.region [⟨(some 2), .move (.val (.pv (.bool true))), none, false⟩] none)
  .ret))))))))))
def m6 : MFunc := { nparams := 1, results := [.tmp 2], body := m6c }
attribute [simp] m6
-- loop.example/g03013/laws.FnExactFormatBraces
@[reducible] def m9c : MCode :=
  (.seq (.region [⟨(some 2), .move (.val (.pv (.bool false))), none, false⟩] none)
  (.seq (.region [⟨(some 3), .move (.val (.pv (.int .i64 (1048576)))), none, false⟩] none)
  (.seq (.region [⟨(some 7), .move (.tmp 0), none, false⟩,
    ⟨(some 8), .move (.tmp 3), none, false⟩,
    ⟨(some 9), .call 20 [(.tmp 7), (.tmp 8)], none, false⟩,
    ⟨(some 3), .move (.tmp 9), none, false⟩] none)
  (.seq (.seq (.region [⟨(some 10), .move (.tmp 3), none, false⟩,
    ⟨(some 11), .bin .lss (.tmp 10) (.val (.pv (.int .i64 (0)))), none, false⟩] none)
  (.cond (.tmp 11) (.seq (.region [⟨(some 2), .move (.val (.pv (.bool true))), none, false⟩] none)
   .ret)
  .skip))
  (.seq (.region [⟨(some 12), .move (.tmp 0), none, false⟩,
    ⟨(some 13), .call 22 [(.tmp 12)], none, false⟩,
    ⟨(some 14), .call 29 [(.tmp 13)], none, false⟩,
    ⟨(some 4), .move (.tmp 14), none, false⟩] none)
  (.seq (.region [⟨(some 15), .move (.tmp 0), none, false⟩,
    ⟨(some 16), .call 22 [(.tmp 15)], none, false⟩,
    ⟨(some 5), .move (.tmp 16), none, false⟩] none)
  (.seq (.region [⟨(some 17), .move (.tmp 5), none, false⟩,
    ⟨(some 18), .call 30 [(.tmp 17)], none, false⟩,
    ⟨(some 6), .move (.tmp 18), none, false⟩] none)
  (.seq (.seq (.region [⟨(some 19), .move (.tmp 6), none, false⟩,
    ⟨(some 20), .move (.tmp 4), none, false⟩,
    ⟨(some 21), .bin .neq (.tmp 19) (.tmp 20), none, false⟩] none)
  (.cond (.tmp 21) (.seq (.region [⟨(some 2), .move (.val (.pv (.bool false))), none, false⟩] none)
   .ret)
  .skip))
  (.seq (.seq (.region [⟨(some 22), .move (.tmp 5), none, false⟩,
    ⟨(some 23), .move (.tmp 0), none, false⟩,
    ⟨(some 24), .call 22 [(.tmp 23)], none, false⟩,
    ⟨(some 25), .call 24 [(.tmp 22), (.tmp 24)], none, false⟩,
    ⟨(some 26), .un .not (.tmp 25), none, false⟩] none)
  (.cond (.tmp 26) (.seq (.region [⟨(some 2), .move (.val (.pv (.bool false))), none, false⟩] none)
   .ret)
  .skip))
  (.seq (.region [⟨(some 2), .move (.val (.pv (.bool true))), none, false⟩] none)
  .ret))))))))))
def m9 : MFunc := { nparams := 1, results := [.tmp 2], body := m9c }
attribute [simp] m9
-- loop.example/g03013/laws.szNodeS
@[reducible] def m20k0 : List Nat := [0, 1, 5]
@[reducible] def m20d0 : MCode :=
  (.seq (.seq (.region [⟨(some 12), .move (.tmp 5), none, false⟩,
    ⟨(some 13), .move (.tmp 0), none, false⟩,
    ⟨(some 14), .len (.tmp 13), none, false⟩,
    ⟨(some 15), .bin .lss (.tmp 12) (.tmp 14), none, false⟩] none)
  (.cond (.tmp 15) .skip
  (.exit 0)))
  (.seq (.block 1 (.seq (.region [⟨(some 18), .move (.tmp 0), none, false⟩,
    ⟨(some 19), .move (.tmp 5), none, false⟩,
    ⟨(some 20), .indexAddr 3 (.tmp 18) (.tmp 19), none, false⟩,
    ⟨(some 21), .load 3 (.tmp 20), none, false⟩,
    ⟨(some 22), .move (.tmp 1), none, false⟩,
    ⟨(some 23), .call 40 [(.tmp 21), (.tmp 22)], none, false⟩,
    ⟨(some 1), .move (.tmp 23), none, false⟩] none)
  (.seq (.region [⟨(some 24), .move (.tmp 1), none, false⟩,
    ⟨(some 25), .bin .lss (.tmp 24) (.val (.pv (.int .i64 (0)))), none, false⟩] none)
  (.cond (.tmp 25) (.seq (.region [⟨(some 4), .move (.val (.pv (.int .i64 (-1)))), none, false⟩] none)
   .ret)
  .skip))))
  (.region [⟨(some 16), .move (.tmp 5), none, false⟩,
    ⟨(some 17), .bin .add (.tmp 16) (.val (.pv (.int .i64 (1)))), none, false⟩,
    ⟨(some 5), .move (.tmp 17), none, false⟩] none)))
def m20b0 : MCode := m20d0
theorem m20x0 {R : Type} {call : FuncId → List XV → Option Res} {bx : List Nat} {σ : St} {K : K2 R} : @X R call bx m20b0 σ K = @X R call bx m20d0 σ K := rfl
attribute [simp ↓] m20x0
@[reducible] def m20c : MCode :=
  (.seq (.region [⟨(some 4), .move (.val (.pv (.int .i64 (0)))), none, false⟩] none)
  (.seq (.region [⟨(some 6), .move (.tmp 1), none, false⟩,
    ⟨(some 7), .move (.tmp 0), none, false⟩,
    ⟨(some 8), .len (.tmp 7), none, false⟩,
    ⟨(some 9), .bin .sub (.tmp 6) (.tmp 8), none, false⟩,
    ⟨(some 1), .move (.tmp 9), none, false⟩] none)
  (.seq (.seq (.region [⟨(some 10), .move (.tmp 1), none, false⟩,
    ⟨(some 11), .bin .lss (.tmp 10) (.val (.pv (.int .i64 (0)))), none, false⟩] none)
  (.cond (.tmp 11) (.seq (.region [⟨(some 4), .move (.val (.pv (.int .i64 (-1)))), none, false⟩] none)
   .ret)
  .skip))
  (.seq (.seq (.region [⟨(some 5), .move (.val (.pv (.int .i64 (0)))), none, false⟩] none)
  (.block 0 (.loop (.seq (.forget m20k0) m20b0))))
  (.seq (.region [⟨(some 26), .move (.tmp 1), none, false⟩,
    ⟨(some 4), .move (.tmp 26), none, false⟩] none)
  .ret)))))
def m20 : MFunc := { nparams := 2, results := [.tmp 4], body := m20c }
attribute [simp] m20
-- loop.example/g03013/spec.IsForm
@[reducible] def m21c : MCode :=
  (.seq (.region [⟨(some 2), .move (.val (.pv (.bool false))), none, false⟩] none)
  (.seq (.region [⟨(some 3), .move (.tmp 0), none, false⟩,
    ⟨(some 4), .call 41 [(.tmp 3), (.val (.pv (.int .i64 (120))))], none, false⟩,
    ⟨(some 5), .bin .geq (.tmp 4) (.val (.pv (.int .i64 (0)))), none, false⟩,
    ⟨(some 6), .move (.tmp 5), none, true⟩,
    ⟨(some 7), .move (.tmp 0), (some (6, true)), false⟩,
    ⟨(some 8), .call 42 [(.tmp 7), (.val (.pv (.int .i64 (1))))], (some (6, true)), false⟩,
    ⟨(some 9), .pick (.tmp 6) (.tmp 8) (.val (.pv (.bool false))), none, false⟩,
    ⟨(some 2), .move (.tmp 9), none, false⟩] none)
  .ret))
def m21 : MFunc := { nparams := 1, results := [.tmp 2], body := m21c }
attribute [simp] m21
-- loop.example/g03013/laws.toNodeS
@[reducible] def m22k0 : List Nat := [0, 3, 4]
@[reducible] def m22d0 : MCode :=
  (.seq (.seq (.region [⟨(some 8), .move (.tmp 4), none, false⟩,
    ⟨(some 9), .move (.tmp 0), none, false⟩,
    ⟨(some 10), .len (.tmp 9), none, false⟩,
    ⟨(some 11), .bin .lss (.tmp 8) (.tmp 10), none, false⟩] none)
  (.cond (.tmp 11) .skip
  (.exit 0)))
  (.seq (.block 1 (.region [⟨(some 14), .move (.tmp 3), none, false⟩,
    ⟨(some 15), .move (.tmp 4), none, false⟩,
    ⟨(some 16), .move (.tmp 0), none, false⟩,
    ⟨(some 17), .move (.tmp 4), none, false⟩,
    ⟨(some 18), .indexAddr 3 (.tmp 16) (.tmp 17), none, false⟩,
    ⟨(some 19), .load 3 (.tmp 18), none, false⟩,
    ⟨(some 20), .call 43 [(.tmp 19)], none, false⟩,
    ⟨(some 21), .indexAddr 3 (.tmp 14) (.tmp 15), none, false⟩,
    ⟨none, .store 3 (.tmp 21) (.tmp 20), none, false⟩] none))
  (.region [⟨(some 12), .move (.tmp 4), none, false⟩,
    ⟨(some 13), .bin .add (.tmp 12) (.val (.pv (.int .i64 (1)))), none, false⟩,
    ⟨(some 4), .move (.tmp 13), none, false⟩] none)))
def m22b0 : MCode := m22d0
theorem m22x0 {R : Type} {call : FuncId → List XV → Option Res} {bx : List Nat} {σ : St} {K : K2 R} : @X R call bx m22b0 σ K = @X R call bx m22d0 σ K := rfl
attribute [simp ↓] m22x0
@[reducible] def m22c : MCode :=
  (.seq (.region [⟨(some 2), .move (.val .nils), none, false⟩] none)
  (.seq (.region [⟨(some 5), .move (.tmp 0), none, false⟩,
    ⟨(some 6), .len (.tmp 5), none, false⟩,
    ⟨(some 7), .makeSlice 3 56 (.agg [(.str ⟨#[]⟩), (.str ⟨#[]⟩), (.sl [])]) (.tmp 6), none, false⟩,
    ⟨(some 3), .move (.tmp 7), none, false⟩] none)
  (.seq (.seq (.region [⟨(some 4), .move (.val (.pv (.int .i64 (0)))), none, false⟩] none)
  (.block 0 (.loop (.seq (.forget m22k0) m22b0))))
  (.seq (.region [⟨(some 22), .move (.tmp 3), none, false⟩,
    ⟨(some 2), .move (.tmp 22), none, false⟩] none)
  .ret))))
def m22 : MFunc := { nparams := 1, results := [.tmp 2], body := m22c }
attribute [simp] m22
-- loop.example/g03013/impl.IsForm
@[reducible] def m23c : MCode :=
  (.seq (.region [⟨(some 2), .move (.val (.pv (.bool false))), none, false⟩] none)
  (.seq (.region [⟨(some 3), .move (.tmp 0), none, false⟩,
    ⟨(some 4), .call 44 [(.tmp 3)], none, false⟩,
    ⟨(some 5), .bin .leq (.tmp 4) (.val (.pv (.int .i64 (120)))), none, false⟩,
    ⟨(some 6), .move (.tmp 5), none, true⟩,
    ⟨(some 7), .move (.tmp 0), (some (6, true)), false⟩,
    ⟨(some 8), .call 45 [(.tmp 7)], (some (6, true)), false⟩,
    ⟨(some 9), .bin .leq (.tmp 8) (.val (.pv (.int .i64 (10)))), (some (6, true)), false⟩,
    ⟨(some 10), .pick (.tmp 6) (.tmp 9) (.val (.pv (.bool false))), none, false⟩,
    ⟨(some 11), .move (.tmp 10), none, true⟩,
    ⟨(some 12), .move (.tmp 0), (some (11, true)), false⟩,
    ⟨(some 13), .call 46 [(.tmp 12)], (some (11, true)), false⟩,
    ⟨(some 14), .pick (.tmp 11) (.tmp 13) (.val (.pv (.bool false))), none, false⟩,
    ⟨(some 2), .move (.tmp 14), none, false⟩] none)
  .ret))
def m23 : MFunc := { nparams := 1, results := [.tmp 2], body := m23c }
attribute [simp] m23
-- loop.example/g03013/laws.eqNodeS
@[reducible] def m24e0 : List MOper := [⟨(some 17), .move (.tmp 0), none, false⟩,
  ⟨(some 18), .move (.tmp 5), none, false⟩,
  ⟨(some 19), .indexAddr 3 (.tmp 17) (.tmp 18), none, false⟩,
  ⟨(some 20), .load 3 (.tmp 19), none, false⟩,
  ⟨(some 21), .move (.tmp 1), none, false⟩,
  ⟨(some 22), .move (.tmp 5), none, false⟩,
  ⟨(some 23), .indexAddr 3 (.tmp 21) (.tmp 22), none, false⟩,
  ⟨(some 24), .load 3 (.tmp 23), none, false⟩,
  ⟨(some 25), .call 47 [(.tmp 20), (.tmp 24)], none, false⟩,
  ⟨(some 26), .un .not (.tmp 25), none, false⟩]
def m24r0 : List MOper := m24e0
def m24q0 : List Nat := [0, 0, 3, 7, 0, 0, 48, 112, 255, 511]
theorem m24x0 {R : Type} {call : FuncId → List XV → Option Res} {bx : List Nat} {σ : St} {K : K2 R} : @X R call bx (.region m24r0 (some m24q0)) σ K = @XD R call m24e0 m24q0 σ K := X_draw (by decide +kernel)
attribute [simp ↓] m24x0
@[reducible] def m24k1 : List Nat := [0, 1, 5]
@[reducible] def m24d1 : MCode :=
  (.seq (.seq (.region [⟨(some 11), .move (.tmp 5), none, false⟩,
    ⟨(some 12), .move (.tmp 0), none, false⟩,
    ⟨(some 13), .len (.tmp 12), none, false⟩,
    ⟨(some 14), .bin .lss (.tmp 11) (.tmp 13), none, false⟩] none)
  (.cond (.tmp 14) .skip
  (.exit 0)))
  (.seq (.block 1 (.seq (.region m24r0 (some m24q0))
  (.cond (.tmp 26) (.seq (.region [⟨(some 4), .move (.val (.pv (.bool false))), none, false⟩] none)
   .ret)
  .skip)))
  (.region [⟨(some 15), .move (.tmp 5), none, false⟩,
    ⟨(some 16), .bin .add (.tmp 15) (.val (.pv (.int .i64 (1)))), none, false⟩,
    ⟨(some 5), .move (.tmp 16), none, false⟩] none)))
def m24b1 : MCode := m24d1
theorem m24x1 {R : Type} {call : FuncId → List XV → Option Res} {bx : List Nat} {σ : St} {K : K2 R} : @X R call bx m24b1 σ K = @X R call bx m24d1 σ K := rfl
attribute [simp ↓] m24x1
@[reducible] def m24c : MCode :=
  (.seq (.region [⟨(some 4), .move (.val (.pv (.bool false))), none, false⟩] none)
  (.seq (.seq (.region [⟨(some 6), .move (.tmp 0), none, false⟩,
    ⟨(some 7), .len (.tmp 6), none, false⟩,
    ⟨(some 8), .move (.tmp 1), none, false⟩,
    ⟨(some 9), .len (.tmp 8), none, false⟩,
    ⟨(some 10), .bin .neq (.tmp 7) (.tmp 9), none, false⟩] none)
  (.cond (.tmp 10) (.seq (.region [⟨(some 4), .move (.val (.pv (.bool false))), none, false⟩] none)
   .ret)
  .skip))
  (.seq (.seq (.region [⟨(some 5), .move (.val (.pv (.int .i64 (0)))), none, false⟩] none)
  (.block 0 (.loop (.seq (.forget m24k1) m24b1))))
  (.seq (.region [⟨(some 4), .move (.val (.pv (.bool true))), none, false⟩] none)
  .ret))))
def m24 : MFunc := { nparams := 2, results := [.tmp 4], body := m24c }
attribute [simp] m24
-- loop.example/g03013/spec.FormatBraces
@[reducible] def m29c : MCode :=
  (.seq (.region [⟨(some 2), .move (.val (.pv (.str ⟨#[]⟩))), none, false⟩] none)
  (.seq (.seq (.region [⟨(some 3), .move (.tmp 0), none, false⟩,
    ⟨(some 4), .call 21 [(.tmp 3)], none, false⟩,
    ⟨(some 5), .un .not (.tmp 4), none, false⟩] none)
  (.cond (.tmp 5) (.seq (.region [⟨(some 2), .move (.val (.pv (.str ⟨#[]⟩))), none, false⟩] none)
   .ret)
  .skip))
  (.seq (.region [⟨(some 6), .move (.tmp 0), none, false⟩,
    ⟨(some 7), .call 52 [(.tmp 6), (.val (.pv (.str ⟨#[]⟩)))], none, false⟩,
    ⟨(some 2), .move (.tmp 7), none, false⟩] none)
  .ret)))
def m29 : MFunc := { nparams := 1, results := [.tmp 2], body := m29c }
attribute [simp] m29
-- loop.example/g03013/impl.FormatBraces
@[reducible] def m30c : MCode :=
  (.seq (.region [⟨(some 2), .move (.val (.pv (.str ⟨#[]⟩))), none, false⟩] none)
  (.seq (.seq (.region [⟨(some 3), .move (.tmp 0), none, false⟩,
    ⟨(some 4), .call 23 [(.tmp 3)], none, false⟩,
    ⟨(some 5), .un .not (.tmp 4), none, false⟩] none)
  (.cond (.tmp 5) (.seq (.region [⟨(some 2), .move (.val (.pv (.str ⟨#[]⟩))), none, false⟩] none)
   .ret)
  .skip))
  (.seq (.region [⟨(some 6), .move (.tmp 0), none, false⟩,
    ⟨(some 7), .call 53 [(.tmp 6), (.val (.pv (.int .i64 (0))))], none, false⟩,
    ⟨(some 2), .move (.tmp 7), none, false⟩] none)
  .ret)))
def m30 : MFunc := { nparams := 1, results := [.tmp 2], body := m30c }
attribute [simp] m30
-- loop.example/g03013/laws.szNode
@[reducible] def m40c : MCode :=
  (.seq (.region [⟨(some 2), .box 3 (.tmp 0), none, false⟩,
    ⟨(some 4), .move (.val (.pv (.int .i64 (0)))), none, false⟩] none)
  (.seq (.region [⟨(some 5), .move (.tmp 1), none, false⟩,
    ⟨(some 6), .fieldAddr 0 (.tmp 2), none, false⟩,
    ⟨(some 7), .load 0 (.tmp 6), none, false⟩,
    ⟨(some 8), .strLen (.tmp 7), none, false⟩,
    ⟨(some 9), .bin .sub (.tmp 5) (.tmp 8), none, false⟩,
    ⟨(some 1), .move (.tmp 9), none, false⟩] none)
  (.seq (.seq (.region [⟨(some 10), .move (.tmp 1), none, false⟩,
    ⟨(some 11), .bin .lss (.tmp 10) (.val (.pv (.int .i64 (0)))), none, false⟩] none)
  (.cond (.tmp 11) (.seq (.region [⟨(some 4), .move (.val (.pv (.int .i64 (-1)))), none, false⟩] none)
   .ret)
  .skip))
  (.seq (.region [⟨(some 12), .move (.tmp 1), none, false⟩,
    ⟨(some 13), .fieldAddr 1 (.tmp 2), none, false⟩,
    ⟨(some 14), .load 0 (.tmp 13), none, false⟩,
    ⟨(some 15), .strLen (.tmp 14), none, false⟩,
    ⟨(some 16), .bin .sub (.tmp 12) (.tmp 15), none, false⟩,
    ⟨(some 1), .move (.tmp 16), none, false⟩] none)
  (.seq (.seq (.region [⟨(some 17), .move (.tmp 1), none, false⟩,
    ⟨(some 18), .bin .lss (.tmp 17) (.val (.pv (.int .i64 (0)))), none, false⟩] none)
  (.cond (.tmp 18) (.seq (.region [⟨(some 4), .move (.val (.pv (.int .i64 (-1)))), none, false⟩] none)
   .ret)
  .skip))
  (.seq (.region [⟨(some 19), .fieldAddr 2 (.tmp 2), none, false⟩,
    ⟨(some 20), .load 0 (.tmp 19), none, false⟩,
    ⟨(some 21), .move (.tmp 1), none, false⟩,
    ⟨(some 22), .call 20 [(.tmp 20), (.tmp 21)], none, false⟩,
    ⟨(some 1), .move (.tmp 22), none, false⟩] none)
  (.seq (.seq (.region [⟨(some 23), .move (.tmp 1), none, false⟩,
    ⟨(some 24), .bin .lss (.tmp 23) (.val (.pv (.int .i64 (0)))), none, false⟩] none)
  (.cond (.tmp 24) (.seq (.region [⟨(some 4), .move (.val (.pv (.int .i64 (-1)))), none, false⟩] none)
   .ret)
  .skip))
  (.seq (.region [⟨(some 25), .move (.tmp 1), none, false⟩,
    ⟨(some 4), .move (.tmp 25), none, false⟩] none)
  .ret))))))))
def m40 : MFunc := { nparams := 2, results := [.tmp 4], body := m40c }
attribute [simp] m40
-- loop.example/g03013/spec.l13Left
@[reducible] def m41k0 : List Nat := [0, 1, 5]
@[reducible] def m41d0 : MCode :=
  (.seq (.seq (.region [⟨(some 10), .move (.tmp 5), none, false⟩,
    ⟨(some 11), .move (.tmp 0), none, false⟩,
    ⟨(some 12), .len (.tmp 11), none, false⟩,
    ⟨(some 13), .bin .lss (.tmp 10) (.tmp 12), none, false⟩,
    ⟨(some 14), .move (.tmp 13), none, true⟩,
    ⟨(some 15), .move (.tmp 1), (some (14, true)), false⟩,
    ⟨(some 16), .bin .geq (.tmp 15) (.val (.pv (.int .i64 (0)))), (some (14, true)), false⟩,
    ⟨(some 17), .pick (.tmp 14) (.tmp 16) (.val (.pv (.bool false))), none, false⟩] none)
  (.cond (.tmp 17) .skip
  (.exit 0)))
  (.seq (.block 1 (.region [⟨(some 20), .move (.tmp 0), none, false⟩,
    ⟨(some 21), .move (.tmp 5), none, false⟩,
    ⟨(some 22), .indexAddr 3 (.tmp 20) (.tmp 21), none, false⟩,
    ⟨(some 23), .fieldAddr 2 (.tmp 22), none, false⟩,
    ⟨(some 24), .load 0 (.tmp 23), none, false⟩,
    ⟨(some 25), .move (.tmp 1), none, false⟩,
    ⟨(some 26), .call 41 [(.tmp 24), (.tmp 25)], none, false⟩,
    ⟨(some 1), .move (.tmp 26), none, false⟩] none))
  (.region [⟨(some 18), .move (.tmp 5), none, false⟩,
    ⟨(some 19), .bin .add (.tmp 18) (.val (.pv (.int .i64 (1)))), none, false⟩,
    ⟨(some 5), .move (.tmp 19), none, false⟩] none)))
def m41b0 : MCode := m41d0
theorem m41x0 {R : Type} {call : FuncId → List XV → Option Res} {bx : List Nat} {σ : St} {K : K2 R} : @X R call bx m41b0 σ K = @X R call bx m41d0 σ K := rfl
attribute [simp ↓] m41x0
@[reducible] def m41c : MCode :=
  (.seq (.region [⟨(some 4), .move (.val (.pv (.int .i64 (0)))), none, false⟩] none)
  (.seq (.region [⟨(some 6), .move (.tmp 1), none, false⟩,
    ⟨(some 7), .move (.tmp 0), none, false⟩,
    ⟨(some 8), .len (.tmp 7), none, false⟩,
    ⟨(some 9), .bin .sub (.tmp 6) (.tmp 8), none, false⟩,
    ⟨(some 1), .move (.tmp 9), none, false⟩] none)
  (.seq (.seq (.region [⟨(some 5), .move (.val (.pv (.int .i64 (0)))), none, false⟩] none)
  (.block 0 (.loop (.seq (.forget m41k0) m41b0))))
  (.seq (.region [⟨(some 27), .move (.tmp 1), none, false⟩,
    ⟨(some 4), .move (.tmp 27), none, false⟩] none)
  .ret))))
def m41 : MFunc := { nparams := 2, results := [.tmp 4], body := m41c }
attribute [simp] m41
-- loop.example/g03013/spec.l20Form
@[reducible] def m42k0 : List Nat := [0, 1, 5]
@[reducible] def m42d0 : MCode :=
  (.seq (.seq (.region [⟨(some 6), .move (.tmp 5), none, false⟩,
    ⟨(some 7), .move (.tmp 0), none, false⟩,
    ⟨(some 8), .len (.tmp 7), none, false⟩,
    ⟨(some 9), .bin .lss (.tmp 6) (.tmp 8), none, false⟩] none)
  (.cond (.tmp 9) .skip
  (.exit 0)))
  (.seq (.block 1 (.seq (.region [⟨(some 12), .move (.tmp 0), none, false⟩,
    ⟨(some 13), .move (.tmp 5), none, false⟩,
    ⟨(some 14), .indexAddr 3 (.tmp 12) (.tmp 13), none, false⟩,
    ⟨(some 15), .fieldAddr 0 (.tmp 14), none, false⟩,
    ⟨(some 16), .load 0 (.tmp 15), none, false⟩,
    ⟨(some 17), .call 56 [(.tmp 16)], none, false⟩,
    ⟨(some 18), .un .not (.tmp 17), none, false⟩,
    ⟨(some 19), .move (.tmp 18), none, true⟩,
    ⟨(some 20), .move (.tmp 0), (some (19, false)), false⟩,
    ⟨(some 21), .move (.tmp 5), (some (19, false)), false⟩,
    ⟨(some 22), .indexAddr 3 (.tmp 20) (.tmp 21), (some (19, false)), false⟩,
    ⟨(some 23), .fieldAddr 1 (.tmp 22), (some (19, false)), false⟩,
    ⟨(some 24), .load 0 (.tmp 23), (some (19, false)), false⟩,
    ⟨(some 25), .call 59 [(.tmp 24)], (some (19, false)), false⟩,
    ⟨(some 26), .un .not (.tmp 25), (some (19, false)), false⟩,
    ⟨(some 27), .pick (.tmp 19) (.val (.pv (.bool true))) (.tmp 26), none, false⟩,
    ⟨(some 28), .move (.tmp 27), none, true⟩,
    ⟨(some 29), .move (.tmp 0), (some (28, false)), false⟩,
    ⟨(some 30), .move (.tmp 5), (some (28, false)), false⟩,
    ⟨(some 31), .indexAddr 3 (.tmp 29) (.tmp 30), (some (28, false)), false⟩,
    ⟨(some 32), .fieldAddr 1 (.tmp 31), (some (28, false)), false⟩,
    ⟨(some 33), .load 0 (.tmp 32), (some (28, false)), false⟩,
    ⟨(some 34), .bin .neq (.tmp 33) (.val (.pv (.str ⟨#[]⟩))), (some (28, false)), false⟩,
    ⟨(some 35), .move (.tmp 34), (some (28, false)), true⟩,
    ⟨(some 36), .move (.tmp 0), (some (35, true)), false⟩,
    ⟨(some 37), .move (.tmp 5), (some (35, true)), false⟩,
    ⟨(some 38), .indexAddr 3 (.tmp 36) (.tmp 37), (some (35, true)), false⟩,
    ⟨(some 39), .fieldAddr 2 (.tmp 38), (some (35, true)), false⟩,
    ⟨(some 40), .load 0 (.tmp 39), (some (35, true)), false⟩,
    ⟨(some 41), .len (.tmp 40), (some (35, true)), false⟩,
    ⟨(some 42), .bin .gtr (.tmp 41) (.val (.pv (.int .i64 (0)))), (some (35, true)), false⟩,
    ⟨(some 43), .pick (.tmp 35) (.tmp 42) (.val (.pv (.bool false))), (some (28, false)), false⟩,
    ⟨(some 44), .pick (.tmp 28) (.val (.pv (.bool true))) (.tmp 43), none, false⟩,
    ⟨(some 45), .move (.tmp 44), none, true⟩,
    ⟨(some 46), .move (.tmp 0), (some (45, false)), false⟩,
    ⟨(some 47), .move (.tmp 5), (some (45, false)), false⟩,
    ⟨(some 48), .indexAddr 3 (.tmp 46) (.tmp 47), (some (45, false)), false⟩,
    ⟨(some 49), .fieldAddr 2 (.tmp 48), (some (45, false)), false⟩,
    ⟨(some 50), .load 0 (.tmp 49), (some (45, false)), false⟩,
    ⟨(some 51), .move (.tmp 1), (some (45, false)), false⟩,
    ⟨(some 52), .bin .add (.tmp 51) (.val (.pv (.int .i64 (1)))), (some (45, false)), false⟩,
    ⟨(some 53), .call 42 [(.tmp 50), (.tmp 52)], (some (45, false)), false⟩,
    ⟨(some 54), .un .not (.tmp 53), (some (45, false)), false⟩,
    ⟨(some 55), .pick (.tmp 45) (.val (.pv (.bool true))) (.tmp 54), none, false⟩] none)
  (.cond (.tmp 55) (.seq (.region [⟨(some 4), .move (.val (.pv (.bool false))), none, false⟩] none)
   .ret)
  .skip)))
  (.region [⟨(some 10), .move (.tmp 5), none, false⟩,
    ⟨(some 11), .bin .add (.tmp 10) (.val (.pv (.int .i64 (1)))), none, false⟩,
    ⟨(some 5), .move (.tmp 11), none, false⟩] none)))
def m42b0 : MCode := m42d0
theorem m42x0 {R : Type} {call : FuncId → List XV → Option Res} {bx : List Nat} {σ : St} {K : K2 R} : @X R call bx m42b0 σ K = @X R call bx m42d0 σ K := rfl
attribute [simp ↓] m42x0
@[reducible] def m42c : MCode :=
  (.seq (.region [⟨(some 4), .move (.val (.pv (.bool false))), none, false⟩] none)
  (.seq (.seq (.region [⟨(some 5), .move (.val (.pv (.int .i64 (0)))), none, false⟩] none)
  (.block 0 (.loop (.seq (.forget m42k0) m42b0))))
  (.seq (.region [⟨(some 56), .move (.tmp 0), none, false⟩,
    ⟨(some 57), .len (.tmp 56), none, false⟩,
    ⟨(some 58), .bin .eql (.tmp 57) (.val (.pv (.int .i64 (0)))), none, false⟩,
    ⟨(some 59), .move (.tmp 58), none, true⟩,
    ⟨(some 60), .move (.tmp 1), (some (59, false)), false⟩,
    ⟨(some 61), .bin .leq (.tmp 60) (.val (.pv (.int .i64 (10)))), (some (59, false)), false⟩,
    ⟨(some 62), .pick (.tmp 59) (.val (.pv (.bool true))) (.tmp 61), none, false⟩,
    ⟨(some 4), .move (.tmp 62), none, false⟩] none)
  .ret)))
def m42 : MFunc := { nparams := 2, results := [.tmp 4], body := m42c }
attribute [simp] m42
-- loop.example/g03013/laws.toNode
@[reducible] def m43c : MCode :=
  (.seq (.region [⟨(some 1), .box 3 (.tmp 0), none, false⟩,
    ⟨(some 2), .alloc [(.pv (.str ⟨#[]⟩)), (.pv (.str ⟨#[]⟩)), .nils], none, false⟩] none)
  (.seq (.region [⟨(some 3), .alloc [(.pv (.str ⟨#[]⟩)), (.pv (.str ⟨#[]⟩)), .nils], none, false⟩] none)
  (.seq (.region [⟨(some 4), .fieldAddr 0 (.tmp 1), none, false⟩,
    ⟨(some 5), .load 0 (.tmp 4), none, false⟩,
    ⟨(some 6), .fieldAddr 0 (.tmp 3), none, false⟩,
    ⟨none, .store 0 (.tmp 6) (.tmp 5), none, false⟩] none)
  (.seq (.region [⟨(some 7), .fieldAddr 1 (.tmp 1), none, false⟩,
    ⟨(some 8), .load 0 (.tmp 7), none, false⟩,
    ⟨(some 9), .fieldAddr 1 (.tmp 3), none, false⟩,
    ⟨none, .store 0 (.tmp 9) (.tmp 8), none, false⟩] none)
  (.seq (.region [⟨(some 10), .fieldAddr 2 (.tmp 1), none, false⟩,
    ⟨(some 11), .load 0 (.tmp 10), none, false⟩,
    ⟨(some 12), .call 22 [(.tmp 11)], none, false⟩,
    ⟨(some 13), .fieldAddr 2 (.tmp 3), none, false⟩,
    ⟨none, .store 0 (.tmp 13) (.tmp 12), none, false⟩] none)
  (.seq (.region [⟨(some 14), .load 3 (.tmp 3), none, false⟩,
    ⟨none, .store 3 (.tmp 2) (.tmp 14), none, false⟩] none)
  .ret))))))
def m43 : MFunc := { nparams := 1, results := [.cell 2 3], body := m43c }
attribute [simp] m43
-- loop.example/g03013/impl.CountTree
@[reducible] def m44k0 : List Nat := [3, 8, 9, 10]
@[reducible] def m44d0 : MCode :=
  (.seq (.region [⟨(some 11), .bin .lss (.tmp 10) (.tmp 9), none, false⟩] none)
  (.seq (.cond (.tmp 11) .skip
  (.exit 0))
  (.seq (.block 1 (.seq (.region [⟨(some 12), .indexAddr 3 (.tmp 8) (.tmp 10), none, false⟩,
    ⟨(some 13), .load 3 (.tmp 12), none, false⟩,
    ⟨(some 5), .alloc [(.pv (.str ⟨#[]⟩)), (.pv (.str ⟨#[]⟩)), .nils], none, false⟩,
    ⟨none, .store 3 (.tmp 5) (.tmp 13), none, false⟩] none)
  (.region [⟨(some 14), .move (.tmp 3), none, false⟩,
    ⟨(some 15), .fieldAddr 2 (.tmp 5), none, false⟩,
    ⟨(some 16), .load 0 (.tmp 15), none, false⟩,
    ⟨(some 17), .call 44 [(.tmp 16)], none, false⟩,
    ⟨(some 18), .bin .add (.tmp 14) (.tmp 17), none, false⟩,
    ⟨(some 3), .move (.tmp 18), none, false⟩] none)))
  (.region [⟨(some 19), .bin .add (.tmp 10) (.val (.pv (.int .i64 (1)))), none, false⟩,
    ⟨(some 10), .move (.tmp 19), none, false⟩] none))))
def m44b0 : MCode := m44d0
theorem m44x0 {R : Type} {call : FuncId → List XV → Option Res} {bx : List Nat} {σ : St} {K : K2 R} : @X R call bx m44b0 σ K = @X R call bx m44d0 σ K := rfl
attribute [simp ↓] m44x0
@[reducible] def m44c : MCode :=
  (.seq (.region [⟨(some 2), .move (.val (.pv (.int .i64 (0)))), none, false⟩] none)
  (.seq (.region [⟨(some 6), .move (.tmp 0), none, false⟩,
    ⟨(some 7), .len (.tmp 6), none, false⟩,
    ⟨(some 3), .move (.tmp 7), none, false⟩] none)
  (.seq (.seq (.region [⟨(some 8), .move (.tmp 0), none, false⟩,
    ⟨(some 9), .len (.tmp 8), none, false⟩,
    ⟨(some 10), .move (.val (.pv (.int .i64 (0)))), none, false⟩] none)
  (.block 0 (.loop (.seq (.forget m44k0) m44b0))))
  (.seq (.region [⟨(some 20), .move (.tmp 3), none, false⟩,
    ⟨(some 2), .move (.tmp 20), none, false⟩] none)
  .ret))))
def m44 : MFunc := { nparams := 1, results := [.tmp 2], body := m44c }
attribute [simp] m44
-- loop.example/g03013/impl.treeDepth
@[reducible] def m45k0 : List Nat := [3, 6, 7, 8]
@[reducible] def m45d0 : MCode :=
  (.seq (.region [⟨(some 9), .bin .lss (.tmp 8) (.tmp 7), none, false⟩] none)
  (.seq (.cond (.tmp 9) .skip
  (.exit 0))
  (.seq (.block 1 (.seq (.region [⟨(some 10), .indexAddr 3 (.tmp 6) (.tmp 8), none, false⟩,
    ⟨(some 11), .load 3 (.tmp 10), none, false⟩,
    ⟨(some 5), .alloc [(.pv (.str ⟨#[]⟩)), (.pv (.str ⟨#[]⟩)), .nils], none, false⟩,
    ⟨none, .store 3 (.tmp 5) (.tmp 11), none, false⟩] none)
  (.region [⟨(some 12), .move (.tmp 3), none, false⟩,
    ⟨(some 13), .fieldAddr 2 (.tmp 5), none, false⟩,
    ⟨(some 14), .load 0 (.tmp 13), none, false⟩,
    ⟨(some 15), .call 45 [(.tmp 14)], none, false⟩,
    ⟨(some 16), .bin .add (.val (.pv (.int .i64 (1)))) (.tmp 15), none, false⟩,
    ⟨(some 17), .mm true (.tmp 12) (.tmp 16), none, false⟩,
    ⟨(some 3), .move (.tmp 17), none, false⟩] none)))
  (.region [⟨(some 18), .bin .add (.tmp 8) (.val (.pv (.int .i64 (1)))), none, false⟩,
    ⟨(some 8), .move (.tmp 18), none, false⟩] none))))
def m45b0 : MCode := m45d0
theorem m45x0 {R : Type} {call : FuncId → List XV → Option Res} {bx : List Nat} {σ : St} {K : K2 R} : @X R call bx m45b0 σ K = @X R call bx m45d0 σ K := rfl
attribute [simp ↓] m45x0
@[reducible] def m45c : MCode :=
  (.seq (.region [⟨(some 2), .move (.val (.pv (.int .i64 (0)))), none, false⟩] none)
  (.seq (.region [⟨(some 3), .move (.val (.pv (.int .i64 (0)))), none, false⟩] none)
  (.seq (.seq (.region [⟨(some 6), .move (.tmp 0), none, false⟩,
    ⟨(some 7), .len (.tmp 6), none, false⟩,
    ⟨(some 8), .move (.val (.pv (.int .i64 (0)))), none, false⟩] none)
  (.block 0 (.loop (.seq (.forget m45k0) m45b0))))
  (.seq (.region [⟨(some 19), .move (.tmp 3), none, false⟩,
    ⟨(some 2), .move (.tmp 19), none, false⟩] none)
  .ret))))
def m45 : MFunc := { nparams := 1, results := [.tmp 2], body := m45c }
attribute [simp] m45
-- loop.example/g03013/impl.isForm
@[reducible] def m46k0 : List Nat := [5, 6, 7]
@[reducible] def m46d0 : MCode :=
  (.seq (.region [⟨(some 8), .bin .lss (.tmp 7) (.tmp 6), none, false⟩] none)
  (.seq (.cond (.tmp 8) .skip
  (.exit 0))
  (.seq (.block 1 (.seq (.region [⟨(some 9), .indexAddr 3 (.tmp 5) (.tmp 7), none, false⟩,
    ⟨(some 10), .load 3 (.tmp 9), none, false⟩,
    ⟨(some 4), .alloc [(.pv (.str ⟨#[]⟩)), (.pv (.str ⟨#[]⟩)), .nils], none, false⟩,
    ⟨none, .store 3 (.tmp 4) (.tmp 10), none, false⟩] none)
  (.seq (.region [⟨(some 11), .fieldAddr 0 (.tmp 4), none, false⟩,
    ⟨(some 12), .load 0 (.tmp 11), none, false⟩,
    ⟨(some 13), .call 69 [(.tmp 12)], none, false⟩,
    ⟨(some 14), .un .not (.tmp 13), none, false⟩,
    ⟨(some 15), .move (.tmp 14), none, true⟩,
    ⟨(some 16), .fieldAddr 1 (.tmp 4), (some (15, false)), false⟩,
    ⟨(some 17), .load 0 (.tmp 16), (some (15, false)), false⟩,
    ⟨(some 18), .call 65 [(.tmp 17)], (some (15, false)), false⟩,
    ⟨(some 19), .un .not (.tmp 18), (some (15, false)), false⟩,
    ⟨(some 20), .pick (.tmp 15) (.val (.pv (.bool true))) (.tmp 19), none, false⟩,
    ⟨(some 21), .move (.tmp 20), none, true⟩,
    ⟨(some 22), .fieldAddr 1 (.tmp 4), (some (21, false)), false⟩,
    ⟨(some 23), .load 0 (.tmp 22), (some (21, false)), false⟩,
    ⟨(some 24), .bin .neq (.tmp 23) (.val (.pv (.str ⟨#[]⟩))), (some (21, false)), false⟩,
    ⟨(some 25), .move (.tmp 24), (some (21, false)), true⟩,
    ⟨(some 26), .fieldAddr 2 (.tmp 4), (some (25, true)), false⟩,
    ⟨(some 27), .load 0 (.tmp 26), (some (25, true)), false⟩,
    ⟨(some 28), .len (.tmp 27), (some (25, true)), false⟩,
    ⟨(some 29), .bin .gtr (.tmp 28) (.val (.pv (.int .i64 (0)))), (some (25, true)), false⟩,
    ⟨(some 30), .pick (.tmp 25) (.tmp 29) (.val (.pv (.bool false))), (some (21, false)), false⟩,
    ⟨(some 31), .pick (.tmp 21) (.val (.pv (.bool true))) (.tmp 30), none, false⟩,
    ⟨(some 32), .move (.tmp 31), none, true⟩,
    ⟨(some 33), .fieldAddr 2 (.tmp 4), (some (32, false)), false⟩,
    ⟨(some 34), .load 0 (.tmp 33), (some (32, false)), false⟩,
    ⟨(some 35), .call 46 [(.tmp 34)], (some (32, false)), false⟩,
    ⟨(some 36), .un .not (.tmp 35), (some (32, false)), false⟩,
    ⟨(some 37), .pick (.tmp 32) (.val (.pv (.bool true))) (.tmp 36), none, false⟩] none)
  (.cond (.tmp 37) (.seq (.region [⟨(some 2), .move (.val (.pv (.bool false))), none, false⟩] none)
   .ret)
  .skip))))
  (.region [⟨(some 38), .bin .add (.tmp 7) (.val (.pv (.int .i64 (1)))), none, false⟩,
    ⟨(some 7), .move (.tmp 38), none, false⟩] none))))
def m46b0 : MCode := m46d0
theorem m46x0 {R : Type} {call : FuncId → List XV → Option Res} {bx : List Nat} {σ : St} {K : K2 R} : @X R call bx m46b0 σ K = @X R call bx m46d0 σ K := rfl
attribute [simp ↓] m46x0
@[reducible] def m46c : MCode :=
  (.seq (.region [⟨(some 2), .move (.val (.pv (.bool false))), none, false⟩] none)
  (.seq (.seq (.region [⟨(some 5), .move (.tmp 0), none, false⟩,
    ⟨(some 6), .len (.tmp 5), none, false⟩,
    ⟨(some 7), .move (.val (.pv (.int .i64 (0)))), none, false⟩] none)
  (.block 0 (.loop (.seq (.forget m46k0) m46b0))))
  (.seq (.region [⟨(some 2), .move (.val (.pv (.bool true))), none, false⟩] none)
  .ret)))
def m46 : MFunc := { nparams := 1, results := [.tmp 2], body := m46c }
attribute [simp] m46
-- loop.example/g03013/laws.eqNode
@[reducible] def m47c : MCode :=
  (.seq (.region [⟨(some 2), .box 3 (.tmp 0), none, false⟩,
    ⟨(some 3), .box 3 (.tmp 1), none, false⟩,
    ⟨(some 4), .move (.val (.pv (.bool false))), none, false⟩] none)
  (.seq (.seq (.region [⟨(some 5), .fieldAddr 0 (.tmp 2), none, false⟩,
    ⟨(some 6), .load 0 (.tmp 5), none, false⟩,
    ⟨(some 7), .fieldAddr 0 (.tmp 3), none, false⟩,
    ⟨(some 8), .load 0 (.tmp 7), none, false⟩,
    ⟨(some 9), .bin .neq (.tmp 6) (.tmp 8), none, false⟩] none)
  (.cond (.tmp 9) (.seq (.region [⟨(some 4), .move (.val (.pv (.bool false))), none, false⟩] none)
   .ret)
  .skip))
  (.seq (.seq (.region [⟨(some 10), .fieldAddr 1 (.tmp 2), none, false⟩,
    ⟨(some 11), .load 0 (.tmp 10), none, false⟩,
    ⟨(some 12), .fieldAddr 1 (.tmp 3), none, false⟩,
    ⟨(some 13), .load 0 (.tmp 12), none, false⟩,
    ⟨(some 14), .bin .neq (.tmp 11) (.tmp 13), none, false⟩] none)
  (.cond (.tmp 14) (.seq (.region [⟨(some 4), .move (.val (.pv (.bool false))), none, false⟩] none)
   .ret)
  .skip))
  (.seq (.seq (.region [⟨(some 15), .fieldAddr 2 (.tmp 2), none, false⟩,
    ⟨(some 16), .load 0 (.tmp 15), none, false⟩,
    ⟨(some 17), .fieldAddr 2 (.tmp 3), none, false⟩,
    ⟨(some 18), .load 0 (.tmp 17), none, false⟩,
    ⟨(some 19), .call 24 [(.tmp 16), (.tmp 18)], none, false⟩,
    ⟨(some 20), .un .not (.tmp 19), none, false⟩] none)
  (.cond (.tmp 20) (.seq (.region [⟨(some 4), .move (.val (.pv (.bool false))), none, false⟩] none)
   .ret)
  .skip))
  (.seq (.region [⟨(some 4), .move (.val (.pv (.bool true))), none, false⟩] none)
  .ret)))))
def m47 : MFunc := { nparams := 2, results := [.tmp 4], body := m47c }
attribute [simp] m47
-- loop.example/g03013/spec.l20Print
@[reducible] def m52k0 : List Nat := [0, 1, 5, 6]
@[reducible] def m52d0 : MCode :=
  (.seq (.seq (.region [⟨(some 7), .move (.tmp 6), none, false⟩,
    ⟨(some 8), .move (.tmp 0), none, false⟩,
    ⟨(some 9), .len (.tmp 8), none, false⟩,
    ⟨(some 10), .bin .lss (.tmp 7) (.tmp 9), none, false⟩] none)
  (.cond (.tmp 10) .skip
  (.exit 0)))
  (.seq (.block 1 (.seq (.region [⟨(some 13), .move (.tmp 5), none, false⟩,
    ⟨(some 14), .move (.tmp 1), none, false⟩,
    ⟨(some 15), .bin .add (.tmp 13) (.tmp 14), none, false⟩,
    ⟨(some 16), .move (.tmp 0), none, false⟩,
    ⟨(some 17), .move (.tmp 6), none, false⟩,
    ⟨(some 18), .indexAddr 3 (.tmp 16) (.tmp 17), none, false⟩,
    ⟨(some 19), .fieldAddr 0 (.tmp 18), none, false⟩,
    ⟨(some 20), .load 0 (.tmp 19), none, false⟩,
    ⟨(some 21), .bin .add (.tmp 15) (.tmp 20), none, false⟩,
    ⟨(some 5), .move (.tmp 21), none, false⟩] none)
  (.seq (.seq (.region [⟨(some 22), .move (.tmp 0), none, false⟩,
    ⟨(some 23), .move (.tmp 6), none, false⟩,
    ⟨(some 24), .indexAddr 3 (.tmp 22) (.tmp 23), none, false⟩,
    ⟨(some 25), .fieldAddr 1 (.tmp 24), none, false⟩,
    ⟨(some 26), .load 0 (.tmp 25), none, false⟩,
    ⟨(some 27), .bin .neq (.tmp 26) (.val (.pv (.str ⟨#[]⟩))), none, false⟩] none)
  (.cond (.tmp 27) (.region [⟨(some 28), .move (.tmp 5), none, false⟩,
     ⟨(some 29), .bin .add (.tmp 28) (.val (.pv (.str ⟨#[32]⟩))), none, false⟩,
     ⟨(some 30), .move (.tmp 0), none, false⟩,
     ⟨(some 31), .move (.tmp 6), none, false⟩,
     ⟨(some 32), .indexAddr 3 (.tmp 30) (.tmp 31), none, false⟩,
     ⟨(some 33), .fieldAddr 1 (.tmp 32), none, false⟩,
     ⟨(some 34), .load 0 (.tmp 33), none, false⟩,
     ⟨(some 35), .call 74 [(.tmp 34)], none, false⟩,
     ⟨(some 36), .bin .add (.tmp 29) (.tmp 35), none, false⟩,
     ⟨(some 5), .move (.tmp 36), none, false⟩] none)
  .skip))
  (.seq (.seq (.region [⟨(some 37), .move (.tmp 0), none, false⟩,
    ⟨(some 38), .move (.tmp 6), none, false⟩,
    ⟨(some 39), .indexAddr 3 (.tmp 37) (.tmp 38), none, false⟩,
    ⟨(some 40), .fieldAddr 2 (.tmp 39), none, false⟩,
    ⟨(some 41), .load 0 (.tmp 40), none, false⟩,
    ⟨(some 42), .len (.tmp 41), none, false⟩,
    ⟨(some 43), .bin .eql (.tmp 42) (.val (.pv (.int .i64 (0)))), none, false⟩] none)
  (.cond (.tmp 43) (.seq (.region [⟨(some 44), .move (.tmp 5), none, false⟩,
     ⟨(some 45), .bin .add (.tmp 44) (.val (.pv (.str ⟨#[59, 10]⟩))), none, false⟩,
     ⟨(some 5), .move (.tmp 45), none, false⟩] none)
   (.exit 1))
  .skip))
  (.region [⟨(some 46), .move (.tmp 5), none, false⟩,
    ⟨(some 47), .bin .add (.tmp 46) (.val (.pv (.str ⟨#[32, 123, 10]⟩))), none, false⟩,
    ⟨(some 48), .move (.tmp 0), none, false⟩,
    ⟨(some 49), .move (.tmp 6), none, false⟩,
    ⟨(some 50), .indexAddr 3 (.tmp 48) (.tmp 49), none, false⟩,
    ⟨(some 51), .fieldAddr 2 (.tmp 50), none, false⟩,
    ⟨(some 52), .load 0 (.tmp 51), none, false⟩,
    ⟨(some 53), .move (.tmp 1), none, false⟩,
    ⟨(some 54), .bin .add (.tmp 53) (.val (.pv (.str ⟨#[32, 32]⟩))), none, false⟩,
    ⟨(some 55), .call 52 [(.tmp 52), (.tmp 54)], none, false⟩,
    ⟨(some 56), .bin .add (.tmp 47) (.tmp 55), none, false⟩,
    ⟨(some 57), .move (.tmp 1), none, false⟩,
    ⟨(some 58), .bin .add (.tmp 56) (.tmp 57), none, false⟩,
    ⟨(some 59), .bin .add (.tmp 58) (.val (.pv (.str ⟨#[125, 10]⟩))), none, false⟩,
    ⟨(some 5), .move (.tmp 59), none, false⟩] none)))))
  (.region [⟨(some 11), .move (.tmp 6), none, false⟩,
    ⟨(some 12), .bin .add (.tmp 11) (.val (.pv (.int .i64 (1)))), none, false⟩,
    ⟨(some 6), .move (.tmp 12), none, false⟩] none)))
def m52b0 : MCode := m52d0
theorem m52x0 {R : Type} {call : FuncId → List XV → Option Res} {bx : List Nat} {σ : St} {K : K2 R} : @X R call bx m52b0 σ K = @X R call bx m52d0 σ K := rfl
attribute [simp ↓] m52x0
@[reducible] def m52c : MCode :=
  (.seq (.region [⟨(some 4), .move (.val (.pv (.str ⟨#[]⟩))), none, false⟩] none)
  (.seq (.region [⟨(some 5), .move (.val (.pv (.str ⟨#[]⟩))), none, false⟩] none)
  (.seq (.seq (.region [⟨(some 6), .move (.val (.pv (.int .i64 (0)))), none, false⟩] none)
  (.block 0 (.loop (.seq (.forget m52k0) m52b0))))
  (.seq (.region [⟨(some 60), .move (.tmp 5), none, false⟩,
    ⟨(some 4), .move (.tmp 60), none, false⟩] none)
  .ret))))
def m52 : MFunc := { nparams := 2, results := [.tmp 4], body := m52c }
attribute [simp] m52
-- loop.example/g03013/impl.formatBraces
@[reducible] def m53k0 : List Nat := [1, 5, 6, 11, 12, 13]
@[reducible] def m53d0 : MCode :=
  (.seq (.region [⟨(some 14), .bin .lss (.tmp 13) (.tmp 12), none, false⟩] none)
  (.seq (.cond (.tmp 14) .skip
  (.exit 0))
  (.seq (.block 1 (.seq (.region [⟨(some 15), .indexAddr 3 (.tmp 11) (.tmp 13), none, false⟩,
    ⟨(some 16), .load 3 (.tmp 15), none, false⟩,
    ⟨(some 8), .alloc [(.pv (.str ⟨#[]⟩)), (.pv (.str ⟨#[]⟩)), .nils], none, false⟩,
    ⟨none, .store 3 (.tmp 8) (.tmp 16), none, false⟩] none)
  (.seq (.region [⟨(some 17), .move (.tmp 5), none, false⟩,
    ⟨(some 18), .move (.tmp 6), none, false⟩,
    ⟨(some 19), .fieldAddr 0 (.tmp 8), none, false⟩,
    ⟨(some 20), .load 0 (.tmp 19), none, false⟩,
    ⟨(some 21), .bin .add (.tmp 18) (.tmp 20), none, false⟩,
    ⟨(some 22), .bin .add (.tmp 17) (.tmp 21), none, false⟩,
    ⟨(some 5), .move (.tmp 22), none, false⟩] none)
  (.seq (.seq (.region [⟨(some 23), .fieldAddr 1 (.tmp 8), none, false⟩,
    ⟨(some 24), .load 0 (.tmp 23), none, false⟩,
    ⟨(some 25), .bin .neq (.tmp 24) (.val (.pv (.str ⟨#[]⟩))), none, false⟩] none)
  (.cond (.tmp 25) (.region [⟨(some 26), .move (.tmp 5), none, false⟩,
     ⟨(some 27), .fieldAddr 1 (.tmp 8), none, false⟩,
     ⟨(some 28), .load 0 (.tmp 27), none, false⟩,
     ⟨(some 29), .call 76 [(.tmp 28)], none, false⟩,
     ⟨(some 30), .bin .add (.val (.pv (.str ⟨#[32]⟩))) (.tmp 29), none, false⟩,
     ⟨(some 31), .bin .add (.tmp 26) (.tmp 30), none, false⟩,
     ⟨(some 5), .move (.tmp 31), none, false⟩] none)
  .skip))
  (.seq (.region [⟨(some 32), .fieldAddr 2 (.tmp 8), none, false⟩,
    ⟨(some 33), .load 0 (.tmp 32), none, false⟩,
    ⟨(some 34), .len (.tmp 33), none, false⟩,
    ⟨(some 35), .bin .eql (.tmp 34) (.val (.pv (.int .i64 (0)))), none, false⟩] none)
  (.cond (.tmp 35) (.region [⟨(some 36), .move (.tmp 5), none, false⟩,
     ⟨(some 37), .bin .add (.tmp 36) (.val (.pv (.str ⟨#[59, 10]⟩))), none, false⟩,
     ⟨(some 5), .move (.tmp 37), none, false⟩] none)
  (.region [⟨(some 38), .move (.tmp 5), none, false⟩,
     ⟨(some 39), .fieldAddr 2 (.tmp 8), none, false⟩,
     ⟨(some 40), .load 0 (.tmp 39), none, false⟩,
     ⟨(some 41), .move (.tmp 1), none, false⟩,
     ⟨(some 42), .bin .add (.tmp 41) (.val (.pv (.int .i64 (1)))), none, false⟩,
     ⟨(some 43), .call 53 [(.tmp 40), (.tmp 42)], none, false⟩,
     ⟨(some 44), .bin .add (.val (.pv (.str ⟨#[32, 123, 10]⟩))) (.tmp 43), none, false⟩,
     ⟨(some 45), .move (.tmp 6), none, false⟩,
     ⟨(some 46), .bin .add (.tmp 44) (.tmp 45), none, false⟩,
     ⟨(some 47), .bin .add (.tmp 46) (.val (.pv (.str ⟨#[125, 10]⟩))), none, false⟩,
     ⟨(some 48), .bin .add (.tmp 38) (.tmp 47), none, false⟩,
     ⟨(some 5), .move (.tmp 48), none, false⟩] none)))))))
  (.region [⟨(some 49), .bin .add (.tmp 13) (.val (.pv (.int .i64 (1)))), none, false⟩,
    ⟨(some 13), .move (.tmp 49), none, false⟩] none))))
def m53b0 : MCode := m53d0
theorem m53x0 {R : Type} {call : FuncId → List XV → Option Res} {bx : List Nat} {σ : St} {K : K2 R} : @X R call bx m53b0 σ K = @X R call bx m53d0 σ K := rfl
attribute [simp ↓] m53x0
@[reducible] def m53c : MCode :=
  (.seq (.region [⟨(some 4), .move (.val (.pv (.str ⟨#[]⟩))), none, false⟩] none)
  (.seq (.region [⟨(some 5), .move (.val (.pv (.str ⟨#[]⟩))), none, false⟩] none)
  (.seq (.region [⟨(some 9), .move (.tmp 1), none, false⟩,
    ⟨(some 10), .call 75 [(.val (.pv (.str ⟨#[32, 32]⟩))), (.tmp 9)], none, false⟩,
    ⟨(some 6), .move (.tmp 10), none, false⟩] none)
  (.seq (.seq (.region [⟨(some 11), .move (.tmp 0), none, false⟩,
    ⟨(some 12), .len (.tmp 11), none, false⟩,
    ⟨(some 13), .move (.val (.pv (.int .i64 (0)))), none, false⟩] none)
  (.block 0 (.loop (.seq (.forget m53k0) m53b0))))
  (.seq (.region [⟨(some 50), .move (.tmp 5), none, false⟩,
    ⟨(some 4), .move (.tmp 50), none, false⟩] none)
  .ret)))))
def m53 : MFunc := { nparams := 2, results := [.tmp 4], body := m53c }
attribute [simp] m53
-- loop.example/g03013/spec.IsName
@[reducible] def m56k0 : List Nat := [0, 3]
@[reducible] def m56d0 : MCode :=
  (.seq (.seq (.region [⟨(some 5), .move (.tmp 3), none, false⟩,
    ⟨(some 6), .move (.tmp 0), none, false⟩,
    ⟨(some 7), .strLen (.tmp 6), none, false⟩,
    ⟨(some 8), .bin .lss (.tmp 5) (.tmp 7), none, false⟩] none)
  (.cond (.tmp 8) .skip
  (.exit 0)))
  (.seq (.block 1 (.seq (.region [⟨(some 11), .move (.tmp 0), none, false⟩,
    ⟨(some 12), .move (.tmp 3), none, false⟩,
    ⟨(some 13), .strIdx (.tmp 11) (.tmp 12), none, false⟩,
    ⟨(some 14), .conv .i64 (.tmp 13), none, false⟩,
    ⟨(some 15), .call 58 [(.tmp 14), (.val (.pv (.int .i64 (97)))), (.val (.pv (.int .i64 (122))))], none, false⟩,
    ⟨(some 4), .move (.tmp 15), none, false⟩] none)
  (.seq (.region [⟨(some 16), .move (.tmp 4), none, false⟩,
    ⟨(some 17), .un .not (.tmp 16), none, false⟩,
    ⟨(some 18), .move (.tmp 17), none, true⟩,
    ⟨(some 19), .move (.tmp 3), (some (18, true)), false⟩,
    ⟨(some 20), .bin .eql (.tmp 19) (.val (.pv (.int .i64 (0)))), (some (18, true)), false⟩,
    ⟨(some 21), .move (.tmp 20), (some (18, true)), true⟩,
    ⟨(some 22), .move (.tmp 0), (some (21, false)), false⟩,
    ⟨(some 23), .move (.tmp 3), (some (21, false)), false⟩,
    ⟨(some 24), .strIdx (.tmp 22) (.tmp 23), (some (21, false)), false⟩,
    ⟨(some 25), .conv .i64 (.tmp 24), (some (21, false)), false⟩,
    ⟨(some 26), .call 58 [(.tmp 25), (.val (.pv (.int .i64 (48)))), (.val (.pv (.int .i64 (57))))], (some (21, false)), false⟩,
    ⟨(some 27), .un .not (.tmp 26), (some (21, false)), false⟩,
    ⟨(some 28), .move (.tmp 27), (some (21, false)), true⟩,
    ⟨(some 29), .move (.tmp 0), (some (28, true)), false⟩,
    ⟨(some 30), .move (.tmp 3), (some (28, true)), false⟩,
    ⟨(some 31), .strIdx (.tmp 29) (.tmp 30), (some (28, true)), false⟩,
    ⟨(some 32), .bin .neq (.tmp 31) (.val (.pv (.int .u8 (45)))), (some (28, true)), false⟩,
    ⟨(some 33), .pick (.tmp 28) (.tmp 32) (.val (.pv (.bool false))), (some (21, false)), false⟩,
    ⟨(some 34), .pick (.tmp 21) (.val (.pv (.bool true))) (.tmp 33), (some (18, true)), false⟩,
    ⟨(some 35), .pick (.tmp 18) (.tmp 34) (.val (.pv (.bool false))), none, false⟩] none)
  (.cond (.tmp 35) (.seq (.region [⟨(some 2), .move (.val (.pv (.bool false))), none, false⟩] none)
   .ret)
  .skip))))
  (.region [⟨(some 9), .move (.tmp 3), none, false⟩,
    ⟨(some 10), .bin .add (.tmp 9) (.val (.pv (.int .i64 (1)))), none, false⟩,
    ⟨(some 3), .move (.tmp 10), none, false⟩] none)))
def m56b0 : MCode := m56d0
theorem m56x0 {R : Type} {call : FuncId → List XV → Option Res} {bx : List Nat} {σ : St} {K : K2 R} : @X R call bx m56b0 σ K = @X R call bx m56d0 σ K := rfl
attribute [simp ↓] m56x0
@[reducible] def m56c : MCode :=
  (.seq (.region [⟨(some 2), .move (.val (.pv (.bool false))), none, false⟩] none)
  (.seq (.seq (.region [⟨(some 3), .move (.val (.pv (.int .i64 (0)))), none, false⟩] none)
  (.block 0 (.loop (.seq (.forget m56k0) m56b0))))
  (.seq (.region [⟨(some 36), .move (.tmp 0), none, false⟩,
    ⟨(some 37), .strLen (.tmp 36), none, false⟩,
    ⟨(some 38), .call 58 [(.tmp 37), (.val (.pv (.int .i64 (1)))), (.val (.pv (.int .i64 (16))))], none, false⟩,
    ⟨(some 39), .move (.tmp 38), none, true⟩,
    ⟨(some 40), .move (.tmp 0), (some (39, true)), false⟩,
    ⟨(some 41), .move (.tmp 0), (some (39, true)), false⟩,
    ⟨(some 42), .strLen (.tmp 41), (some (39, true)), false⟩,
    ⟨(some 43), .bin .sub (.tmp 42) (.val (.pv (.int .i64 (1)))), (some (39, true)), false⟩,
    ⟨(some 44), .strIdx (.tmp 40) (.tmp 43), (some (39, true)), false⟩,
    ⟨(some 45), .bin .neq (.tmp 44) (.val (.pv (.int .u8 (45)))), (some (39, true)), false⟩,
    ⟨(some 46), .pick (.tmp 39) (.tmp 45) (.val (.pv (.bool false))), none, false⟩,
    ⟨(some 2), .move (.tmp 46), none, false⟩] none)
  .ret)))
def m56 : MFunc := { nparams := 1, results := [.tmp 2], body := m56c }
attribute [simp] m56
-- loop.example/g03013/spec.l1In
@[reducible] def m58c : MCode :=
  (.seq (.region [⟨(some 6), .move (.val (.pv (.bool false))), none, false⟩] none)
  (.seq (.region [⟨(some 7), .move (.tmp 0), none, false⟩,
    ⟨(some 8), .move (.tmp 1), none, false⟩,
    ⟨(some 9), .bin .geq (.tmp 7) (.tmp 8), none, false⟩,
    ⟨(some 10), .move (.tmp 9), none, true⟩,
    ⟨(some 11), .move (.tmp 0), (some (10, true)), false⟩,
    ⟨(some 12), .move (.tmp 2), (some (10, true)), false⟩,
    ⟨(some 13), .bin .leq (.tmp 11) (.tmp 12), (some (10, true)), false⟩,
    ⟨(some 14), .pick (.tmp 10) (.tmp 13) (.val (.pv (.bool false))), none, false⟩,
    ⟨(some 6), .move (.tmp 14), none, false⟩] none)
  .ret))
def m58 : MFunc := { nparams := 3, results := [.tmp 6], body := m58c }
attribute [simp] m58
-- loop.example/g03013/spec.IsText
@[reducible] def m59k0 : List Nat := [0, 3]
@[reducible] def m59d0 : MCode :=
  (.seq (.seq (.region [⟨(some 4), .move (.tmp 3), none, false⟩,
    ⟨(some 5), .move (.tmp 0), none, false⟩,
    ⟨(some 6), .strLen (.tmp 5), none, false⟩,
    ⟨(some 7), .bin .lss (.tmp 4) (.tmp 6), none, false⟩] none)
  (.cond (.tmp 7) .skip
  (.exit 0)))
  (.seq (.block 1 (.seq (.region [⟨(some 10), .move (.tmp 0), none, false⟩,
    ⟨(some 11), .move (.tmp 3), none, false⟩,
    ⟨(some 12), .strIdx (.tmp 10) (.tmp 11), none, false⟩,
    ⟨(some 13), .conv .i64 (.tmp 12), none, false⟩,
    ⟨(some 14), .call 58 [(.tmp 13), (.val (.pv (.int .i64 (32)))), (.val (.pv (.int .i64 (126))))], none, false⟩,
    ⟨(some 15), .un .not (.tmp 14), none, false⟩] none)
  (.cond (.tmp 15) (.seq (.region [⟨(some 2), .move (.val (.pv (.bool false))), none, false⟩] none)
   .ret)
  .skip)))
  (.region [⟨(some 8), .move (.tmp 3), none, false⟩,
    ⟨(some 9), .bin .add (.tmp 8) (.val (.pv (.int .i64 (1)))), none, false⟩,
    ⟨(some 3), .move (.tmp 9), none, false⟩] none)))
def m59b0 : MCode := m59d0
theorem m59x0 {R : Type} {call : FuncId → List XV → Option Res} {bx : List Nat} {σ : St} {K : K2 R} : @X R call bx m59b0 σ K = @X R call bx m59d0 σ K := rfl
attribute [simp ↓] m59x0
@[reducible] def m59c : MCode :=
  (.seq (.region [⟨(some 2), .move (.val (.pv (.bool false))), none, false⟩] none)
  (.seq (.seq (.region [⟨(some 3), .move (.val (.pv (.int .i64 (0)))), none, false⟩] none)
  (.block 0 (.loop (.seq (.forget m59k0) m59b0))))
  (.seq (.region [⟨(some 16), .move (.tmp 0), none, false⟩,
    ⟨(some 17), .strLen (.tmp 16), none, false⟩,
    ⟨(some 18), .bin .leq (.tmp 17) (.val (.pv (.int .i64 (40)))), none, false⟩,
    ⟨(some 2), .move (.tmp 18), none, false⟩] none)
  .ret)))
def m59 : MFunc := { nparams := 1, results := [.tmp 2], body := m59c }
attribute [simp] m59
-- loop.example/g03013/impl.IsText
@[reducible] def m65k0 : List Nat := [0, 3]
@[reducible] def m65d0 : MCode :=
  (.seq (.seq (.region [⟨(some 4), .move (.tmp 3), none, false⟩,
    ⟨(some 5), .move (.tmp 0), none, false⟩,
    ⟨(some 6), .strLen (.tmp 5), none, false⟩,
    ⟨(some 7), .bin .lss (.tmp 4) (.tmp 6), none, false⟩] none)
  (.cond (.tmp 7) .skip
  (.exit 0)))
  (.seq (.block 1 (.seq (.region [⟨(some 10), .move (.tmp 0), none, false⟩,
    ⟨(some 11), .move (.tmp 3), none, false⟩,
    ⟨(some 12), .strIdx (.tmp 10) (.tmp 11), none, false⟩,
    ⟨(some 13), .bin .lss (.tmp 12) (.val (.pv (.int .u8 (32)))), none, false⟩,
    ⟨(some 14), .move (.tmp 13), none, true⟩,
    ⟨(some 15), .move (.tmp 0), (some (14, false)), false⟩,
    ⟨(some 16), .move (.tmp 3), (some (14, false)), false⟩,
    ⟨(some 17), .strIdx (.tmp 15) (.tmp 16), (some (14, false)), false⟩,
    ⟨(some 18), .bin .gtr (.tmp 17) (.val (.pv (.int .u8 (126)))), (some (14, false)), false⟩,
    ⟨(some 19), .pick (.tmp 14) (.val (.pv (.bool true))) (.tmp 18), none, false⟩] none)
  (.cond (.tmp 19) (.seq (.region [⟨(some 2), .move (.val (.pv (.bool false))), none, false⟩] none)
   .ret)
  .skip)))
  (.region [⟨(some 8), .move (.tmp 3), none, false⟩,
    ⟨(some 9), .bin .add (.tmp 8) (.val (.pv (.int .i64 (1)))), none, false⟩,
    ⟨(some 3), .move (.tmp 9), none, false⟩] none)))
def m65b0 : MCode := m65d0
theorem m65x0 {R : Type} {call : FuncId → List XV → Option Res} {bx : List Nat} {σ : St} {K : K2 R} : @X R call bx m65b0 σ K = @X R call bx m65d0 σ K := rfl
attribute [simp ↓] m65x0
@[reducible] def m65c : MCode :=
  (.seq (.region [⟨(some 2), .move (.val (.pv (.bool false))), none, false⟩] none)
  (.seq (.seq (.region [⟨(some 3), .move (.val (.pv (.int .i64 (0)))), none, false⟩] none)
  (.block 0 (.loop (.seq (.forget m65k0) m65b0))))
  (.seq (.region [⟨(some 20), .move (.tmp 0), none, false⟩,
    ⟨(some 21), .strLen (.tmp 20), none, false⟩,
    ⟨(some 22), .bin .leq (.tmp 21) (.val (.pv (.int .i64 (40)))), none, false⟩,
    ⟨(some 2), .move (.tmp 22), none, false⟩] none)
  .ret)))
def m65 : MFunc := { nparams := 1, results := [.tmp 2], body := m65c }
attribute [simp] m65
-- loop.example/g03013/impl.IsName
@[reducible] def m69k0 : List Nat := [0, 3]
@[reducible] def m69d0 : MCode :=
  (.seq (.seq (.region [⟨(some 18), .move (.tmp 3), none, false⟩,
    ⟨(some 19), .move (.tmp 0), none, false⟩,
    ⟨(some 20), .strLen (.tmp 19), none, false⟩,
    ⟨(some 21), .bin .lss (.tmp 18) (.tmp 20), none, false⟩] none)
  (.cond (.tmp 21) .skip
  (.exit 0)))
  (.seq (.block 1 (.seq (.region [⟨(some 24), .move (.tmp 0), none, false⟩,
    ⟨(some 25), .move (.tmp 3), none, false⟩,
    ⟨(some 26), .strIdx (.tmp 24) (.tmp 25), none, false⟩,
    ⟨(some 27), .call 82 [(.tmp 26)], none, false⟩,
    ⟨(some 28), .un .not (.tmp 27), none, false⟩] none)
  (.cond (.tmp 28) (.seq (.region [⟨(some 2), .move (.val (.pv (.bool false))), none, false⟩] none)
   .ret)
  .skip)))
  (.region [⟨(some 22), .move (.tmp 3), none, false⟩,
    ⟨(some 23), .bin .add (.tmp 22) (.val (.pv (.int .i64 (1)))), none, false⟩,
    ⟨(some 3), .move (.tmp 23), none, false⟩] none)))
def m69b0 : MCode := m69d0
theorem m69x0 {R : Type} {call : FuncId → List XV → Option Res} {bx : List Nat} {σ : St} {K : K2 R} : @X R call bx m69b0 σ K = @X R call bx m69d0 σ K := rfl
attribute [simp ↓] m69x0
@[reducible] def m69c : MCode :=
  (.seq (.region [⟨(some 2), .move (.val (.pv (.bool false))), none, false⟩] none)
  (.seq (.seq (.region [⟨(some 4), .move (.tmp 0), none, false⟩,
    ⟨(some 5), .strLen (.tmp 4), none, false⟩,
    ⟨(some 6), .bin .lss (.tmp 5) (.val (.pv (.int .i64 (1)))), none, false⟩,
    ⟨(some 7), .move (.tmp 6), none, true⟩,
    ⟨(some 8), .move (.tmp 0), (some (7, false)), false⟩,
    ⟨(some 9), .strLen (.tmp 8), (some (7, false)), false⟩,
    ⟨(some 10), .bin .gtr (.tmp 9) (.val (.pv (.int .i64 (16)))), (some (7, false)), false⟩,
    ⟨(some 11), .pick (.tmp 7) (.val (.pv (.bool true))) (.tmp 10), none, false⟩,
    ⟨(some 12), .move (.tmp 11), none, true⟩,
    ⟨(some 13), .move (.tmp 0), (some (12, false)), false⟩,
    ⟨(some 14), .strIdx (.tmp 13) (.val (.pv (.int .i64 (0)))), (some (12, false)), false⟩,
    ⟨(some 15), .call 81 [(.tmp 14)], (some (12, false)), false⟩,
    ⟨(some 16), .un .not (.tmp 15), (some (12, false)), false⟩,
    ⟨(some 17), .pick (.tmp 12) (.val (.pv (.bool true))) (.tmp 16), none, false⟩] none)
  (.cond (.tmp 17) (.seq (.region [⟨(some 2), .move (.val (.pv (.bool false))), none, false⟩] none)
   .ret)
  .skip))
  (.seq (.seq (.region [⟨(some 3), .move (.val (.pv (.int .i64 (1)))), none, false⟩] none)
  (.block 0 (.loop (.seq (.forget m69k0) m69b0))))
  (.seq (.region [⟨(some 29), .move (.tmp 0), none, false⟩,
    ⟨(some 30), .move (.tmp 0), none, false⟩,
    ⟨(some 31), .strLen (.tmp 30), none, false⟩,
    ⟨(some 32), .bin .sub (.tmp 31) (.val (.pv (.int .i64 (1)))), none, false⟩,
    ⟨(some 33), .strIdx (.tmp 29) (.tmp 32), none, false⟩,
    ⟨(some 34), .bin .neq (.tmp 33) (.val (.pv (.int .u8 (45)))), none, false⟩,
    ⟨(some 2), .move (.tmp 34), none, false⟩] none)
  .ret))))
def m69 : MFunc := { nparams := 1, results := [.tmp 2], body := m69c }
attribute [simp] m69
-- loop.example/g03013/spec.QuoteText
@[reducible] def m74k0 : List Nat := [0, 3, 4]
@[reducible] def m74d0 : MCode :=
  (.seq (.seq (.region [⟨(some 6), .move (.tmp 4), none, false⟩,
    ⟨(some 7), .move (.tmp 0), none, false⟩,
    ⟨(some 8), .strLen (.tmp 7), none, false⟩,
    ⟨(some 9), .bin .lss (.tmp 6) (.tmp 8), none, false⟩] none)
  (.cond (.tmp 9) .skip
  (.exit 0)))
  (.seq (.block 1 (.seq (.seq (.region [⟨(some 12), .move (.tmp 0), none, false⟩,
    ⟨(some 13), .move (.tmp 4), none, false⟩,
    ⟨(some 14), .strIdx (.tmp 12) (.tmp 13), none, false⟩,
    ⟨(some 15), .bin .eql (.tmp 14) (.val (.pv (.int .u8 (34)))), none, false⟩,
    ⟨(some 16), .move (.tmp 15), none, true⟩,
    ⟨(some 17), .move (.tmp 0), (some (16, false)), false⟩,
    ⟨(some 18), .move (.tmp 4), (some (16, false)), false⟩,
    ⟨(some 19), .strIdx (.tmp 17) (.tmp 18), (some (16, false)), false⟩,
    ⟨(some 20), .bin .eql (.tmp 19) (.val (.pv (.int .u8 (92)))), (some (16, false)), false⟩,
    ⟨(some 21), .pick (.tmp 16) (.val (.pv (.bool true))) (.tmp 20), none, false⟩] none)
  (.cond (.tmp 21) (.region [⟨(some 22), .move (.tmp 3), none, false⟩,
     ⟨(some 23), .buildSlice 0 [(.val (.pv (.int .u8 (92))))], none, false⟩,
     ⟨(some 24), .append 0 1 (.tmp 22) (.tmp 23), none, false⟩,
     ⟨(some 3), .move (.tmp 24), none, false⟩] none)
  .skip))
  (.region [⟨(some 25), .move (.tmp 3), none, false⟩,
    ⟨(some 26), .move (.tmp 0), none, false⟩,
    ⟨(some 27), .move (.tmp 4), none, false⟩,
    ⟨(some 28), .strIdx (.tmp 26) (.tmp 27), none, false⟩,
    ⟨(some 29), .buildSlice 0 [(.tmp 28)], none, false⟩,
    ⟨(some 30), .append 0 1 (.tmp 25) (.tmp 29), none, false⟩,
    ⟨(some 3), .move (.tmp 30), none, false⟩] none)))
  (.region [⟨(some 10), .move (.tmp 4), none, false⟩,
    ⟨(some 11), .bin .add (.tmp 10) (.val (.pv (.int .i64 (1)))), none, false⟩,
    ⟨(some 4), .move (.tmp 11), none, false⟩] none)))
def m74b0 : MCode := m74d0
theorem m74x0 {R : Type} {call : FuncId → List XV → Option Res} {bx : List Nat} {σ : St} {K : K2 R} : @X R call bx m74b0 σ K = @X R call bx m74d0 σ K := rfl
attribute [simp ↓] m74x0
@[reducible] def m74c : MCode :=
  (.seq (.region [⟨(some 2), .move (.val (.pv (.str ⟨#[]⟩))), none, false⟩] none)
  (.seq (.region [⟨(some 5), .buildSlice 0 [(.val (.pv (.int .u8 (34))))], none, false⟩,
    ⟨(some 3), .move (.tmp 5), none, false⟩] none)
  (.seq (.seq (.region [⟨(some 4), .move (.val (.pv (.int .i64 (0)))), none, false⟩] none)
  (.block 0 (.loop (.seq (.forget m74k0) m74b0))))
  (.seq (.region [⟨(some 31), .move (.tmp 3), none, false⟩,
    ⟨(some 32), .buildSlice 0 [(.val (.pv (.int .u8 (34))))], none, false⟩,
    ⟨(some 33), .append 0 1 (.tmp 31) (.tmp 32), none, false⟩,
    ⟨(some 34), .bytesToStr (.tmp 33), none, false⟩,
    ⟨(some 2), .move (.tmp 34), none, false⟩] none)
  .ret))))
def m74 : MFunc := { nparams := 1, results := [.tmp 2], body := m74c }
attribute [simp] m74
-- loop.example/g03013/impl.QuoteText
@[reducible] def m76k0 : List Nat := [0, 3, 4]
@[reducible] def m76d0 : MCode :=
  (.seq (.seq (.region [⟨(some 6), .move (.tmp 4), none, false⟩,
    ⟨(some 7), .move (.tmp 0), none, false⟩,
    ⟨(some 8), .strLen (.tmp 7), none, false⟩,
    ⟨(some 9), .bin .lss (.tmp 6) (.tmp 8), none, false⟩] none)
  (.cond (.tmp 9) .skip
  (.exit 0)))
  (.seq (.block 1 (.seq (.seq (.region [⟨(some 12), .move (.tmp 0), none, false⟩,
    ⟨(some 13), .move (.tmp 4), none, false⟩,
    ⟨(some 14), .strIdx (.tmp 12) (.tmp 13), none, false⟩,
    ⟨(some 15), .bin .eql (.tmp 14) (.val (.pv (.int .u8 (34)))), none, false⟩,
    ⟨(some 16), .move (.tmp 15), none, true⟩,
    ⟨(some 17), .move (.tmp 0), (some (16, false)), false⟩,
    ⟨(some 18), .move (.tmp 4), (some (16, false)), false⟩,
    ⟨(some 19), .strIdx (.tmp 17) (.tmp 18), (some (16, false)), false⟩,
    ⟨(some 20), .bin .eql (.tmp 19) (.val (.pv (.int .u8 (92)))), (some (16, false)), false⟩,
    ⟨(some 21), .pick (.tmp 16) (.val (.pv (.bool true))) (.tmp 20), none, false⟩] none)
  (.cond (.tmp 21) (.region [⟨(some 22), .move (.tmp 3), none, false⟩,
     ⟨(some 23), .buildSlice 0 [(.val (.pv (.int .u8 (92))))], none, false⟩,
     ⟨(some 24), .append 0 1 (.tmp 22) (.tmp 23), none, false⟩,
     ⟨(some 3), .move (.tmp 24), none, false⟩] none)
  .skip))
  (.region [⟨(some 25), .move (.tmp 3), none, false⟩,
    ⟨(some 26), .move (.tmp 0), none, false⟩,
    ⟨(some 27), .move (.tmp 4), none, false⟩,
    ⟨(some 28), .strIdx (.tmp 26) (.tmp 27), none, false⟩,
    ⟨(some 29), .buildSlice 0 [(.tmp 28)], none, false⟩,
    ⟨(some 30), .append 0 1 (.tmp 25) (.tmp 29), none, false⟩,
    ⟨(some 3), .move (.tmp 30), none, false⟩] none)))
  (.region [⟨(some 10), .move (.tmp 4), none, false⟩,
    ⟨(some 11), .bin .add (.tmp 10) (.val (.pv (.int .i64 (1)))), none, false⟩,
    ⟨(some 4), .move (.tmp 11), none, false⟩] none)))
def m76b0 : MCode := m76d0
theorem m76x0 {R : Type} {call : FuncId → List XV → Option Res} {bx : List Nat} {σ : St} {K : K2 R} : @X R call bx m76b0 σ K = @X R call bx m76d0 σ K := rfl
attribute [simp ↓] m76x0
@[reducible] def m76c : MCode :=
  (.seq (.region [⟨(some 2), .move (.val (.pv (.str ⟨#[]⟩))), none, false⟩] none)
  (.seq (.region [⟨(some 5), .buildSlice 0 [(.val (.pv (.int .u8 (34))))], none, false⟩,
    ⟨(some 3), .move (.tmp 5), none, false⟩] none)
  (.seq (.seq (.region [⟨(some 4), .move (.val (.pv (.int .i64 (0)))), none, false⟩] none)
  (.block 0 (.loop (.seq (.forget m76k0) m76b0))))
  (.seq (.region [⟨(some 31), .move (.tmp 3), none, false⟩,
    ⟨(some 32), .buildSlice 0 [(.val (.pv (.int .u8 (34))))], none, false⟩,
    ⟨(some 33), .append 0 1 (.tmp 31) (.tmp 32), none, false⟩,
    ⟨(some 34), .bytesToStr (.tmp 33), none, false⟩,
    ⟨(some 2), .move (.tmp 34), none, false⟩] none)
  .ret))))
def m76 : MFunc := { nparams := 1, results := [.tmp 2], body := m76c }
attribute [simp] m76
-- loop.example/g03013/impl.isLower
@[reducible] def m81c : MCode :=
  (.seq (.region [⟨(some 2), .move (.val (.pv (.bool false))), none, false⟩] none)
  (.seq (.region [⟨(some 3), .move (.tmp 0), none, false⟩,
    ⟨(some 4), .bin .geq (.tmp 3) (.val (.pv (.int .u8 (97)))), none, false⟩,
    ⟨(some 5), .move (.tmp 4), none, true⟩,
    ⟨(some 6), .move (.tmp 0), (some (5, true)), false⟩,
    ⟨(some 7), .bin .leq (.tmp 6) (.val (.pv (.int .u8 (122)))), (some (5, true)), false⟩,
    ⟨(some 8), .pick (.tmp 5) (.tmp 7) (.val (.pv (.bool false))), none, false⟩,
    ⟨(some 2), .move (.tmp 8), none, false⟩] none)
  .ret))
def m81 : MFunc := { nparams := 1, results := [.tmp 2], body := m81c }
attribute [simp] m81
-- loop.example/g03013/impl.isNameByte
@[reducible] def m82c : MCode :=
  (.seq (.region [⟨(some 2), .move (.val (.pv (.bool false))), none, false⟩] none)
  (.seq (.region [⟨(some 3), .move (.tmp 0), none, false⟩,
    ⟨(some 4), .call 81 [(.tmp 3)], none, false⟩,
    ⟨(some 5), .move (.tmp 4), none, true⟩,
    ⟨(some 6), .move (.tmp 0), (some (5, false)), false⟩,
    ⟨(some 7), .call 96 [(.tmp 6)], (some (5, false)), false⟩,
    ⟨(some 8), .pick (.tmp 5) (.val (.pv (.bool true))) (.tmp 7), none, false⟩,
    ⟨(some 9), .move (.tmp 8), none, true⟩,
    ⟨(some 10), .move (.tmp 0), (some (9, false)), false⟩,
    ⟨(some 11), .bin .eql (.tmp 10) (.val (.pv (.int .u8 (45)))), (some (9, false)), false⟩,
    ⟨(some 12), .pick (.tmp 9) (.val (.pv (.bool true))) (.tmp 11), none, false⟩,
    ⟨(some 2), .move (.tmp 12), none, false⟩] none)
  .ret))
def m82 : MFunc := { nparams := 1, results := [.tmp 2], body := m82c }
attribute [simp] m82
-- loop.example/g03013/impl.isDigit
@[reducible] def m96c : MCode :=
  (.seq (.region [⟨(some 2), .move (.val (.pv (.bool false))), none, false⟩] none)
  (.seq (.region [⟨(some 3), .move (.tmp 0), none, false⟩,
    ⟨(some 4), .bin .geq (.tmp 3) (.val (.pv (.int .u8 (48)))), none, false⟩,
    ⟨(some 5), .move (.tmp 4), none, true⟩,
    ⟨(some 6), .move (.tmp 0), (some (5, true)), false⟩,
    ⟨(some 7), .bin .leq (.tmp 6) (.val (.pv (.int .u8 (57)))), (some (5, true)), false⟩,
    ⟨(some 8), .pick (.tmp 5) (.tmp 7) (.val (.pv (.bool false))), none, false⟩,
    ⟨(some 2), .move (.tmp 8), none, false⟩] none)
  .ret))
def m96 : MFunc := { nparams := 1, results := [.tmp 2], body := m96c }
attribute [simp] m96
theorem t6 : fits Try.prog Try.f6 m6 := ⟨_, rfl, by kernel_rfl, by kernel_rfl, by decide +kernel⟩
theorem t9 : fits Try.prog Try.f9 m9 := ⟨_, rfl, by kernel_rfl, by kernel_rfl, by decide +kernel⟩
theorem t20 : fits Try.prog Try.f20 m20 := ⟨_, rfl, by kernel_rfl, by kernel_rfl, by decide +kernel⟩
theorem t21 : fits Try.prog Try.f21 m21 := ⟨_, rfl, by kernel_rfl, by kernel_rfl, by decide +kernel⟩
theorem t22 : fits Try.prog Try.f22 m22 := ⟨_, rfl, by kernel_rfl, by kernel_rfl, by decide +kernel⟩
theorem t23 : fits Try.prog Try.f23 m23 := ⟨_, rfl, by kernel_rfl, by kernel_rfl, by decide +kernel⟩
theorem t24 : fits Try.prog Try.f24 m24 := ⟨_, rfl, by kernel_rfl, by kernel_rfl, by decide +kernel⟩
theorem t29 : fits Try.prog Try.f29 m29 := ⟨_, rfl, by kernel_rfl, by kernel_rfl, by decide +kernel⟩
theorem t30 : fits Try.prog Try.f30 m30 := ⟨_, rfl, by kernel_rfl, by kernel_rfl, by decide +kernel⟩
theorem t40 : fits Try.prog Try.f40 m40 := ⟨_, rfl, by kernel_rfl, by kernel_rfl, by decide +kernel⟩
theorem t41 : fits Try.prog Try.f41 m41 := ⟨_, rfl, by kernel_rfl, by kernel_rfl, by decide +kernel⟩
theorem t42 : fits Try.prog Try.f42 m42 := ⟨_, rfl, by kernel_rfl, by kernel_rfl, by decide +kernel⟩
theorem t43 : fits Try.prog Try.f43 m43 := ⟨_, rfl, by kernel_rfl, by kernel_rfl, by decide +kernel⟩
theorem t44 : fits Try.prog Try.f44 m44 := ⟨_, rfl, by kernel_rfl, by kernel_rfl, by decide +kernel⟩
theorem t45 : fits Try.prog Try.f45 m45 := ⟨_, rfl, by kernel_rfl, by kernel_rfl, by decide +kernel⟩
theorem t46 : fits Try.prog Try.f46 m46 := ⟨_, rfl, by kernel_rfl, by kernel_rfl, by decide +kernel⟩
theorem t47 : fits Try.prog Try.f47 m47 := ⟨_, rfl, by kernel_rfl, by kernel_rfl, by decide +kernel⟩
theorem t52 : fits Try.prog Try.f52 m52 := ⟨_, rfl, by kernel_rfl, by kernel_rfl, by decide +kernel⟩
theorem t53 : fits Try.prog Try.f53 m53 := ⟨_, rfl, by kernel_rfl, by kernel_rfl, by decide +kernel⟩
theorem t56 : fits Try.prog Try.f56 m56 := ⟨_, rfl, by kernel_rfl, by kernel_rfl, by decide +kernel⟩
theorem t58 : fits Try.prog Try.f58 m58 := ⟨_, rfl, by kernel_rfl, by kernel_rfl, by decide +kernel⟩
theorem t59 : fits Try.prog Try.f59 m59 := ⟨_, rfl, by kernel_rfl, by kernel_rfl, by decide +kernel⟩
theorem t65 : fits Try.prog Try.f65 m65 := ⟨_, rfl, by kernel_rfl, by kernel_rfl, by decide +kernel⟩
theorem t69 : fits Try.prog Try.f69 m69 := ⟨_, rfl, by kernel_rfl, by kernel_rfl, by decide +kernel⟩
theorem t74 : fits Try.prog Try.f74 m74 := ⟨_, rfl, by kernel_rfl, by kernel_rfl, by decide +kernel⟩
theorem t76 : fits Try.prog Try.f76 m76 := ⟨_, rfl, by kernel_rfl, by kernel_rfl, by decide +kernel⟩
theorem t81 : fits Try.prog Try.f81 m81 := ⟨_, rfl, by kernel_rfl, by kernel_rfl, by decide +kernel⟩
theorem t82 : fits Try.prog Try.f82 m82 := ⟨_, rfl, by kernel_rfl, by kernel_rfl, by decide +kernel⟩
theorem t96 : fits Try.prog Try.f96 m96 := ⟨_, rfl, by kernel_rfl, by kernel_rfl, by decide +kernel⟩
def codeL : List (Nat × MFunc) := [(6, m6), (9, m9), (20, m20), (21, m21), (22, m22), (23, m23), (24, m24), (29, m29), (30, m30), (40, m40), (41, m41), (42, m42), (43, m43), (44, m44), (45, m45), (46, m46), (47, m47), (52, m52), (53, m53), (56, m56), (58, m58), (59, m59), (65, m65), (69, m69), (74, m74), (76, m76), (81, m81), (82, m82), (96, m96)]
def code (f : FuncId) : Option MFunc := look none (codeL.map fun p => (p.1, some p.2)) f
theorem code6 : code 6 = some m6 := rfl
theorem code9 : code 9 = some m9 := rfl
theorem code20 : code 20 = some m20 := rfl
theorem code21 : code 21 = some m21 := rfl
theorem code22 : code 22 = some m22 := rfl
theorem code23 : code 23 = some m23 := rfl
theorem code24 : code 24 = some m24 := rfl
theorem code29 : code 29 = some m29 := rfl
theorem code30 : code 30 = some m30 := rfl
theorem code40 : code 40 = some m40 := rfl
theorem code41 : code 41 = some m41 := rfl
theorem code42 : code 42 = some m42 := rfl
theorem code43 : code 43 = some m43 := rfl
theorem code44 : code 44 = some m44 := rfl
theorem code45 : code 45 = some m45 := rfl
theorem code46 : code 46 = some m46 := rfl
theorem code47 : code 47 = some m47 := rfl
theorem code52 : code 52 = some m52 := rfl
theorem code53 : code 53 = some m53 := rfl
theorem code56 : code 56 = some m56 := rfl
theorem code58 : code 58 = some m58 := rfl
theorem code59 : code 59 = some m59 := rfl
theorem code65 : code 65 = some m65 := rfl
theorem code69 : code 69 = some m69 := rfl
theorem code74 : code 74 = some m74 := rfl
theorem code76 : code 76 = some m76 := rfl
theorem code81 : code 81 = some m81 := rfl
theorem code82 : code 82 = some m82 := rfl
theorem code96 : code 96 = some m96 := rfl
def prim (f : FuncId) : Option (List XV → Option Res) := look none (primL.map fun p => (p.1, some p.2)) f
noncomputable def EV : FuncId → List XV → Option Res := Ev prim code
theorem run {f : FuncId} {m : MFunc} {c : MCode} (hc : code f = some m) (hb : m.body = c) {args : List XV} {ts : List (Nat × AV)} {os : List (Nat × Obj)} {bx : List Nat} (hl : lenIs args m.nparams = true) (he : enter 0 args = some (ts, os, bx)) {r : Res}
    (h : @X Res EV bx c ⟨ts, os⟩ ⟨fun e σ => match e with
      | .exit _ => none
      | _ => leave m bx σ⟩ = some r) (hp : prim f = none := by rfl) : EV f args = some r := run_of hp hc hb hl he h
def fine (l : List (Nat × MFunc)) : Prop := ∀ p ∈ l, ∃ fn, Try.prog.funcs[p.1]? = some fn ∧ fits Try.prog fn p.2 ∧ (fn.name == "runtime.NumGoroutine") = false
theorem fine_nil : fine [] := fun p hp => (by cases hp)
theorem fine_cons {k : Nat} {m : MFunc} {fn : Func} {l : List (Nat × MFunc)} (h1 : Try.prog.funcs[k]? = some fn) (h2 : fits Try.prog fn m) (h3 : (fn.name == "runtime.NumGoroutine") = false) (h : fine l) : fine ((k, m) :: l) := fun p hp => by
  rcases List.mem_cons.1 hp with rfl | hp
  · exact ⟨fn, h1, h2, h3⟩
  · exact h p hp
theorem codeL_fine : fine codeL :=
  fine_cons Try.func6 t6 (by decide +kernel) <| fine_cons Try.func9 t9 (by decide +kernel) <| fine_cons Try.func20 t20 (by decide +kernel) <| fine_cons Try.func21 t21 (by decide +kernel) <| fine_cons Try.func22 t22 (by decide +kernel) <| fine_cons Try.func23 t23 (by decide +kernel) <| fine_cons Try.func24 t24 (by decide +kernel) <| fine_cons Try.func29 t29 (by decide +kernel) <| fine_cons Try.func30 t30 (by decide +kernel) <| fine_cons Try.func40 t40 (by decide +kernel) <| fine_cons Try.func41 t41 (by decide +kernel) <| fine_cons Try.func42 t42 (by decide +kernel) <| fine_cons Try.func43 t43 (by decide +kernel) <| fine_cons Try.func44 t44 (by decide +kernel) <| fine_cons Try.func45 t45 (by decide +kernel) <| fine_cons Try.func46 t46 (by decide +kernel) <| fine_cons Try.func47 t47 (by decide +kernel) <| fine_cons Try.func52 t52 (by decide +kernel) <| fine_cons Try.func53 t53 (by decide +kernel) <| fine_cons Try.func56 t56 (by decide +kernel) <| fine_cons Try.func58 t58 (by decide +kernel) <| fine_cons Try.func59 t59 (by decide +kernel) <| fine_cons Try.func65 t65 (by decide +kernel) <| fine_cons Try.func69 t69 (by decide +kernel) <| fine_cons Try.func74 t74 (by decide +kernel) <| fine_cons Try.func76 t76 (by decide +kernel) <| fine_cons Try.func81 t81 (by decide +kernel) <| fine_cons Try.func82 t82 (by decide +kernel) <| fine_cons Try.func96 t96 (by decide +kernel) <|  fine_nil
theorem look_fine : ∀ (l : List (Nat × MFunc)) (f : Nat) (m : MFunc), look none (l.map fun p => (p.1, some p.2)) f = some m → (f, m) ∈ l
  | [], f, m, h => by cases h
  | (k, m') :: l, f, m, h => by
    simp only [List.map_cons, look] at h
    split at h
    · rename_i e; cases h; subst e; exact List.mem_cons_self ..
    · exact List.mem_cons_of_mem _ (look_fine l f m h)
theorem look_prim : ∀ (l : List (FuncId × (List XV → Option Res))) (f : Nat) (F : List XV → Option Res), look none (l.map fun p => (p.1, some p.2)) f = some F → (f, F) ∈ l
  | [], f, F, h => by cases h
  | (k, m') :: l, f, m, h => by
    simp only [List.map_cons, look] at h
    split at h
    · rename_i e; cases h; subst e; exact List.mem_cons_self ..
    · exact List.mem_cons_of_mem _ (look_prim l f m h)
theorem told : Told Try.prog prim code := ⟨by kernel_rfl, fun f F h => prim_sound (f, F) (look_prim _ f F h), fun f m h => codeL_fine (f, m) (look_fine _ f m h)⟩
end Go.Proofs.YtbgkalolmichdaaA
