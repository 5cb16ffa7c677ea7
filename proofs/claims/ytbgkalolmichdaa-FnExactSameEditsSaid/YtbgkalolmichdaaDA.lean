/- The told functions of the seat, printed by tell.sh; that they fit; the table. Conditions: none. -/
import Derived.Test.YtbgkalolmichdaaEX
import Derived.Test.YtbgkalolmichdaaProg
import Derived.KernelRfl
namespace Go.Proofs.YtbgkalolmichdaaA
open Go Go.Proofs
set_option maxRecDepth 20000
-- loop.example/g03013/laws.FnExactCountEdits
@[reducible] def m4c : MCode :=
  (.seq (.region [⟨(some 2), .move (.val (.pv (.bool false))), none, false⟩] none)
  (.seq (.region [⟨(some 3), .move (.val (.pv (.int .i64 (1048576)))), none, false⟩] none)
  (.seq (.region [⟨(some 7), .move (.tmp 0), none, false⟩,
    ⟨(some 8), .move (.tmp 3), none, false⟩,
    ⟨(some 9), .call 13 [(.tmp 7), (.tmp 8)], none, false⟩,
    ⟨(some 3), .move (.tmp 9), none, false⟩] none)
  (.seq (.seq (.region [⟨(some 10), .move (.tmp 3), none, false⟩,
    ⟨(some 11), .bin .lss (.tmp 10) (.val (.pv (.int .i64 (0)))), none, false⟩] none)
  (.cond (.tmp 11) (.seq (.region [⟨(some 2), .move (.val (.pv (.bool true))), none, false⟩] none)
   .ret)
  .skip))
  (.seq (.region [⟨(some 12), .move (.tmp 0), none, false⟩,
    ⟨(some 13), .call 15 [(.tmp 12)], none, false⟩,
    ⟨(some 14), .call 14 [(.tmp 13)], none, false⟩,
    ⟨(some 4), .move (.tmp 14), none, false⟩] none)
  (.seq (.region [⟨(some 15), .move (.tmp 0), none, false⟩,
    ⟨(some 16), .call 15 [(.tmp 15)], none, false⟩,
    ⟨(some 5), .move (.tmp 16), none, false⟩] none)
  (.seq (.region [⟨(some 17), .move (.tmp 5), none, false⟩,
    ⟨(some 18), .call 16 [(.tmp 17)], none, false⟩,
    ⟨(some 6), .move (.tmp 18), none, false⟩] none)
  (.seq (.seq (.region [⟨(some 19), .move (.tmp 6), none, false⟩,
    ⟨(some 20), .move (.tmp 4), none, false⟩,
    ⟨(some 21), .bin .neq (.tmp 19) (.tmp 20), none, false⟩] none)
  (.cond (.tmp 21) (.seq (.region [⟨(some 2), .move (.val (.pv (.bool false))), none, false⟩] none)
   .ret)
  .skip))
  (.seq (.seq (.region [⟨(some 22), .move (.tmp 5), none, false⟩,
    ⟨(some 23), .move (.tmp 0), none, false⟩,
    ⟨(some 24), .call 15 [(.tmp 23)], none, false⟩,
    ⟨(some 25), .call 17 [(.tmp 22), (.tmp 24)], none, false⟩,
    ⟨(some 26), .un .not (.tmp 25), none, false⟩] none)
  (.cond (.tmp 26) (.seq (.region [⟨(some 2), .move (.val (.pv (.bool false))), none, false⟩] none)
   .ret)
  .skip))
  (.seq (.region [⟨(some 2), .move (.val (.pv (.bool true))), none, false⟩] none)
  .ret))))))))))
def m4 : MFunc := { nparams := 1, results := [.tmp 2], body := m4c }
attribute [simp] m4
-- loop.example/g03013/laws.FnExactSameEdits
@[reducible] def m5c : MCode :=
  (.seq (.region [⟨(some 4), .move (.val (.pv (.bool false))), none, false⟩] none)
  (.seq (.region [⟨(some 5), .move (.val (.pv (.int .i64 (1048576)))), none, false⟩] none)
  (.seq (.region [⟨(some 10), .move (.tmp 0), none, false⟩,
    ⟨(some 11), .move (.tmp 5), none, false⟩,
    ⟨(some 12), .call 13 [(.tmp 10), (.tmp 11)], none, false⟩,
    ⟨(some 5), .move (.tmp 12), none, false⟩] none)
  (.seq (.seq (.region [⟨(some 13), .move (.tmp 5), none, false⟩,
    ⟨(some 14), .bin .lss (.tmp 13) (.val (.pv (.int .i64 (0)))), none, false⟩] none)
  (.cond (.tmp 14) (.seq (.region [⟨(some 4), .move (.val (.pv (.bool true))), none, false⟩] none)
   .ret)
  .skip))
  (.seq (.region [⟨(some 15), .move (.tmp 1), none, false⟩,
    ⟨(some 16), .move (.tmp 5), none, false⟩,
    ⟨(some 17), .call 13 [(.tmp 15), (.tmp 16)], none, false⟩,
    ⟨(some 5), .move (.tmp 17), none, false⟩] none)
  (.seq (.seq (.region [⟨(some 18), .move (.tmp 5), none, false⟩,
    ⟨(some 19), .bin .lss (.tmp 18) (.val (.pv (.int .i64 (0)))), none, false⟩] none)
  (.cond (.tmp 19) (.seq (.region [⟨(some 4), .move (.val (.pv (.bool true))), none, false⟩] none)
   .ret)
  .skip))
  (.seq (.region [⟨(some 20), .move (.tmp 0), none, false⟩,
    ⟨(some 21), .call 15 [(.tmp 20)], none, false⟩,
    ⟨(some 22), .move (.tmp 1), none, false⟩,
    ⟨(some 23), .call 15 [(.tmp 22)], none, false⟩,
    ⟨(some 24), .call 18 [(.tmp 21), (.tmp 23)], none, false⟩,
    ⟨(some 6), .move (.tmp 24), none, false⟩] none)
  (.seq (.region [⟨(some 25), .move (.tmp 0), none, false⟩,
    ⟨(some 26), .call 15 [(.tmp 25)], none, false⟩,
    ⟨(some 7), .move (.tmp 26), none, false⟩] none)
  (.seq (.region [⟨(some 27), .move (.tmp 1), none, false⟩,
    ⟨(some 28), .call 15 [(.tmp 27)], none, false⟩,
    ⟨(some 8), .move (.tmp 28), none, false⟩] none)
  (.seq (.region [⟨(some 29), .move (.tmp 7), none, false⟩,
    ⟨(some 30), .move (.tmp 8), none, false⟩,
    ⟨(some 31), .call 19 [(.tmp 29), (.tmp 30)], none, false⟩,
    ⟨(some 9), .move (.tmp 31), none, false⟩] none)
  (.seq (.seq (.region [⟨(some 32), .move (.tmp 9), none, false⟩,
    ⟨(some 33), .move (.tmp 6), none, false⟩,
    ⟨(some 34), .binB .neq (.tmp 32) (.tmp 33), none, false⟩] none)
  (.cond (.tmp 34) (.seq (.region [⟨(some 4), .move (.val (.pv (.bool false))), none, false⟩] none)
   .ret)
  .skip))
  (.seq (.seq (.region [⟨(some 35), .move (.tmp 7), none, false⟩,
    ⟨(some 36), .move (.tmp 0), none, false⟩,
    ⟨(some 37), .call 15 [(.tmp 36)], none, false⟩,
    ⟨(some 38), .call 17 [(.tmp 35), (.tmp 37)], none, false⟩,
    ⟨(some 39), .un .not (.tmp 38), none, false⟩] none)
  (.cond (.tmp 39) (.seq (.region [⟨(some 4), .move (.val (.pv (.bool false))), none, false⟩] none)
   .ret)
  .skip))
  (.seq (.seq (.region [⟨(some 40), .move (.tmp 8), none, false⟩,
    ⟨(some 41), .move (.tmp 1), none, false⟩,
    ⟨(some 42), .call 15 [(.tmp 41)], none, false⟩,
    ⟨(some 43), .call 17 [(.tmp 40), (.tmp 42)], none, false⟩,
    ⟨(some 44), .un .not (.tmp 43), none, false⟩] none)
  (.cond (.tmp 44) (.seq (.region [⟨(some 4), .move (.val (.pv (.bool false))), none, false⟩] none)
   .ret)
  .skip))
  (.seq (.region [⟨(some 4), .move (.val (.pv (.bool true))), none, false⟩] none)
  .ret))))))))))))))
def m5 : MFunc := { nparams := 2, results := [.tmp 4], body := m5c }
attribute [simp] m5
-- loop.example/g03013/laws.szEditS
@[reducible] def m13k0 : List Nat := [0, 1, 5]
@[reducible] def m13d0 : MCode :=
  (.seq (.seq (.region [⟨(some 12), .move (.tmp 5), none, false⟩,
    ⟨(some 13), .move (.tmp 0), none, false⟩,
    ⟨(some 14), .len (.tmp 13), none, false⟩,
    ⟨(some 15), .bin .lss (.tmp 12) (.tmp 14), none, false⟩] none)
  (.cond (.tmp 15) .skip
  (.exit 0)))
  (.seq (.block 1 (.seq (.region [⟨(some 18), .move (.tmp 0), none, false⟩,
    ⟨(some 19), .move (.tmp 5), none, false⟩,
    ⟨(some 20), .indexAddr 4 (.tmp 18) (.tmp 19), none, false⟩,
    ⟨(some 21), .load 4 (.tmp 20), none, false⟩,
    ⟨(some 22), .move (.tmp 1), none, false⟩,
    ⟨(some 23), .call 37 [(.tmp 21), (.tmp 22)], none, false⟩,
    ⟨(some 1), .move (.tmp 23), none, false⟩] none)
  (.seq (.region [⟨(some 24), .move (.tmp 1), none, false⟩,
    ⟨(some 25), .bin .lss (.tmp 24) (.val (.pv (.int .i64 (0)))), none, false⟩] none)
  (.cond (.tmp 25) (.seq (.region [⟨(some 4), .move (.val (.pv (.int .i64 (-1)))), none, false⟩] none)
   .ret)
  .skip))))
  (.region [⟨(some 16), .move (.tmp 5), none, false⟩,
    ⟨(some 17), .bin .add (.tmp 16) (.val (.pv (.int .i64 (1)))), none, false⟩,
    ⟨(some 5), .move (.tmp 17), none, false⟩] none)))
def m13b0 : MCode := m13d0
theorem m13x0 {R : Type} {call : FuncId → List XV → Option Res} {bx : List Nat} {σ : St} {K : K2 R} : @X R call bx m13b0 σ K = @X R call bx m13d0 σ K := rfl
attribute [simp ↓] m13x0
@[reducible] def m13c : MCode :=
  (.seq (.region [⟨(some 4), .move (.val (.pv (.int .i64 (0)))), none, false⟩] none)
  (.seq (.region [⟨(some 6), .move (.tmp 1), none, false⟩,
    ⟨(some 7), .move (.tmp 0), none, false⟩,
    ⟨(some 8), .len (.tmp 7), none, false⟩,
    ⟨(some 9), .bin .sub (.tmp 6) (.tmp 8), none, false⟩,
    ⟨(some 1), .move (.tmp 9), none, false⟩] none)
  (.seq (.seq (.region [⟨(some 10), .move (.tmp 1), none, false⟩,
    ⟨(some 11), .bin .lss (.tmp 10) (.val (.pv (.int .i64 (0)))), none, false⟩] none)
  (.cond (.tmp 11) (.seq (.region [⟨(some 4), .move (.val (.pv (.int .i64 (-1)))), none, false⟩] none)
   .ret)
  .skip))
  (.seq (.seq (.region [⟨(some 5), .move (.val (.pv (.int .i64 (0)))), none, false⟩] none)
  (.block 0 (.loop (.seq (.forget m13k0) m13b0))))
  (.seq (.region [⟨(some 26), .move (.tmp 1), none, false⟩,
    ⟨(some 4), .move (.tmp 26), none, false⟩] none)
  .ret)))))
def m13 : MFunc := { nparams := 2, results := [.tmp 4], body := m13c }
attribute [simp] m13
-- loop.example/g03013/spec.CountEdits
@[reducible] def m14k0 : List Nat := [0, 3, 4]
@[reducible] def m14d0 : MCode :=
  (.seq (.seq (.region [⟨(some 7), .move (.tmp 4), none, false⟩,
    ⟨(some 8), .move (.tmp 0), none, false⟩,
    ⟨(some 9), .len (.tmp 8), none, false⟩,
    ⟨(some 10), .bin .lss (.tmp 7) (.tmp 9), none, false⟩] none)
  (.cond (.tmp 10) .skip
  (.exit 0)))
  (.seq (.block 1 (.region [⟨(some 13), .move (.tmp 3), none, false⟩,
    ⟨(some 14), .move (.tmp 0), none, false⟩,
    ⟨(some 15), .move (.tmp 4), none, false⟩,
    ⟨(some 16), .indexAddr 4 (.tmp 14) (.tmp 15), none, false⟩,
    ⟨(some 17), .fieldAddr 3 (.tmp 16), none, false⟩,
    ⟨(some 18), .load 0 (.tmp 17), none, false⟩,
    ⟨(some 19), .call 14 [(.tmp 18)], none, false⟩,
    ⟨(some 20), .bin .add (.tmp 13) (.tmp 19), none, false⟩,
    ⟨(some 3), .move (.tmp 20), none, false⟩] none))
  (.region [⟨(some 11), .move (.tmp 4), none, false⟩,
    ⟨(some 12), .bin .add (.tmp 11) (.val (.pv (.int .i64 (1)))), none, false⟩,
    ⟨(some 4), .move (.tmp 12), none, false⟩] none)))
def m14b0 : MCode := m14d0
theorem m14x0 {R : Type} {call : FuncId → List XV → Option Res} {bx : List Nat} {σ : St} {K : K2 R} : @X R call bx m14b0 σ K = @X R call bx m14d0 σ K := rfl
attribute [simp ↓] m14x0
@[reducible] def m14c : MCode :=
  (.seq (.region [⟨(some 2), .move (.val (.pv (.int .i64 (0)))), none, false⟩] none)
  (.seq (.region [⟨(some 5), .move (.tmp 0), none, false⟩,
    ⟨(some 6), .len (.tmp 5), none, false⟩,
    ⟨(some 3), .move (.tmp 6), none, false⟩] none)
  (.seq (.seq (.region [⟨(some 4), .move (.val (.pv (.int .i64 (0)))), none, false⟩] none)
  (.block 0 (.loop (.seq (.forget m14k0) m14b0))))
  (.seq (.region [⟨(some 21), .move (.tmp 3), none, false⟩,
    ⟨(some 2), .move (.tmp 21), none, false⟩] none)
  .ret))))
def m14 : MFunc := { nparams := 1, results := [.tmp 2], body := m14c }
attribute [simp] m14
-- loop.example/g03013/laws.toEditS
@[reducible] def m15k0 : List Nat := [0, 3, 4]
@[reducible] def m15d0 : MCode :=
  (.seq (.seq (.region [⟨(some 8), .move (.tmp 4), none, false⟩,
    ⟨(some 9), .move (.tmp 0), none, false⟩,
    ⟨(some 10), .len (.tmp 9), none, false⟩,
    ⟨(some 11), .bin .lss (.tmp 8) (.tmp 10), none, false⟩] none)
  (.cond (.tmp 11) .skip
  (.exit 0)))
  (.seq (.block 1 (.region [⟨(some 14), .move (.tmp 3), none, false⟩,
    ⟨(some 15), .move (.tmp 4), none, false⟩,
    ⟨(some 16), .move (.tmp 0), none, false⟩,
    ⟨(some 17), .move (.tmp 4), none, false⟩,
    ⟨(some 18), .indexAddr 4 (.tmp 16) (.tmp 17), none, false⟩,
    ⟨(some 19), .load 4 (.tmp 18), none, false⟩,
    ⟨(some 20), .call 38 [(.tmp 19)], none, false⟩,
    ⟨(some 21), .indexAddr 4 (.tmp 14) (.tmp 15), none, false⟩,
    ⟨none, .store 4 (.tmp 21) (.tmp 20), none, false⟩] none))
  (.region [⟨(some 12), .move (.tmp 4), none, false⟩,
    ⟨(some 13), .bin .add (.tmp 12) (.val (.pv (.int .i64 (1)))), none, false⟩,
    ⟨(some 4), .move (.tmp 13), none, false⟩] none)))
def m15b0 : MCode := m15d0
theorem m15x0 {R : Type} {call : FuncId → List XV → Option Res} {bx : List Nat} {σ : St} {K : K2 R} : @X R call bx m15b0 σ K = @X R call bx m15d0 σ K := rfl
attribute [simp ↓] m15x0
@[reducible] def m15c : MCode :=
  (.seq (.region [⟨(some 2), .move (.val .nils), none, false⟩] none)
  (.seq (.region [⟨(some 5), .move (.tmp 0), none, false⟩,
    ⟨(some 6), .len (.tmp 5), none, false⟩,
    ⟨(some 7), .makeSlice 4 64 (.agg [(.int .i64 (0)), (.str ⟨#[]⟩), (.str ⟨#[]⟩), (.sl [])]) (.tmp 6), none, false⟩,
    ⟨(some 3), .move (.tmp 7), none, false⟩] none)
  (.seq (.seq (.region [⟨(some 4), .move (.val (.pv (.int .i64 (0)))), none, false⟩] none)
  (.block 0 (.loop (.seq (.forget m15k0) m15b0))))
  (.seq (.region [⟨(some 22), .move (.tmp 3), none, false⟩,
    ⟨(some 2), .move (.tmp 22), none, false⟩] none)
  .ret))))
def m15 : MFunc := { nparams := 1, results := [.tmp 2], body := m15c }
attribute [simp] m15
-- loop.example/g03013/impl.CountEdits
@[reducible] def m16k0 : List Nat := [3, 8, 9, 10]
@[reducible] def m16d0 : MCode :=
  (.seq (.region [⟨(some 11), .bin .lss (.tmp 10) (.tmp 9), none, false⟩] none)
  (.seq (.cond (.tmp 11) .skip
  (.exit 0))
  (.seq (.block 1 (.seq (.region [⟨(some 12), .indexAddr 4 (.tmp 8) (.tmp 10), none, false⟩,
    ⟨(some 13), .load 4 (.tmp 12), none, false⟩,
    ⟨(some 5), .alloc [(.pv (.int .i64 (0))), (.pv (.str ⟨#[]⟩)), (.pv (.str ⟨#[]⟩)), .nils], none, false⟩,
    ⟨none, .store 4 (.tmp 5) (.tmp 13), none, false⟩] none)
  (.region [⟨(some 14), .move (.tmp 3), none, false⟩,
    ⟨(some 15), .fieldAddr 3 (.tmp 5), none, false⟩,
    ⟨(some 16), .load 0 (.tmp 15), none, false⟩,
    ⟨(some 17), .call 16 [(.tmp 16)], none, false⟩,
    ⟨(some 18), .bin .add (.tmp 14) (.tmp 17), none, false⟩,
    ⟨(some 3), .move (.tmp 18), none, false⟩] none)))
  (.region [⟨(some 19), .bin .add (.tmp 10) (.val (.pv (.int .i64 (1)))), none, false⟩,
    ⟨(some 10), .move (.tmp 19), none, false⟩] none))))
def m16b0 : MCode := m16d0
theorem m16x0 {R : Type} {call : FuncId → List XV → Option Res} {bx : List Nat} {σ : St} {K : K2 R} : @X R call bx m16b0 σ K = @X R call bx m16d0 σ K := rfl
attribute [simp ↓] m16x0
@[reducible] def m16c : MCode :=
  (.seq (.region [⟨(some 2), .move (.val (.pv (.int .i64 (0)))), none, false⟩] none)
  (.seq (.region [⟨(some 6), .move (.tmp 0), none, false⟩,
    ⟨(some 7), .len (.tmp 6), none, false⟩,
    ⟨(some 3), .move (.tmp 7), none, false⟩] none)
  (.seq (.seq (.region [⟨(some 8), .move (.tmp 0), none, false⟩,
    ⟨(some 9), .len (.tmp 8), none, false⟩,
    ⟨(some 10), .move (.val (.pv (.int .i64 (0)))), none, false⟩] none)
  (.block 0 (.loop (.seq (.forget m16k0) m16b0))))
  (.seq (.region [⟨(some 20), .move (.tmp 3), none, false⟩,
    ⟨(some 2), .move (.tmp 20), none, false⟩] none)
  .ret))))
def m16 : MFunc := { nparams := 1, results := [.tmp 2], body := m16c }
attribute [simp] m16
-- loop.example/g03013/laws.eqEditS
@[reducible] def m17e0 : List MOper := [⟨(some 17), .move (.tmp 0), none, false⟩,
  ⟨(some 18), .move (.tmp 5), none, false⟩,
  ⟨(some 19), .indexAddr 4 (.tmp 17) (.tmp 18), none, false⟩,
  ⟨(some 20), .load 4 (.tmp 19), none, false⟩,
  ⟨(some 21), .move (.tmp 1), none, false⟩,
  ⟨(some 22), .move (.tmp 5), none, false⟩,
  ⟨(some 23), .indexAddr 4 (.tmp 21) (.tmp 22), none, false⟩,
  ⟨(some 24), .load 4 (.tmp 23), none, false⟩,
  ⟨(some 25), .call 39 [(.tmp 20), (.tmp 24)], none, false⟩,
  ⟨(some 26), .un .not (.tmp 25), none, false⟩]
def m17r0 : List MOper := m17e0
def m17q0 : List Nat := [0, 0, 3, 7, 0, 0, 48, 112, 255, 511]
theorem m17x0 {R : Type} {call : FuncId → List XV → Option Res} {bx : List Nat} {σ : St} {K : K2 R} : @X R call bx (.region m17r0 (some m17q0)) σ K = @XD R call m17e0 m17q0 σ K := X_draw (by decide +kernel)
attribute [simp ↓] m17x0
@[reducible] def m17k1 : List Nat := [0, 1, 5]
@[reducible] def m17d1 : MCode :=
  (.seq (.seq (.region [⟨(some 11), .move (.tmp 5), none, false⟩,
    ⟨(some 12), .move (.tmp 0), none, false⟩,
    ⟨(some 13), .len (.tmp 12), none, false⟩,
    ⟨(some 14), .bin .lss (.tmp 11) (.tmp 13), none, false⟩] none)
  (.cond (.tmp 14) .skip
  (.exit 0)))
  (.seq (.block 1 (.seq (.region m17r0 (some m17q0))
  (.cond (.tmp 26) (.seq (.region [⟨(some 4), .move (.val (.pv (.bool false))), none, false⟩] none)
   .ret)
  .skip)))
  (.region [⟨(some 15), .move (.tmp 5), none, false⟩,
    ⟨(some 16), .bin .add (.tmp 15) (.val (.pv (.int .i64 (1)))), none, false⟩,
    ⟨(some 5), .move (.tmp 16), none, false⟩] none)))
def m17b1 : MCode := m17d1
theorem m17x1 {R : Type} {call : FuncId → List XV → Option Res} {bx : List Nat} {σ : St} {K : K2 R} : @X R call bx m17b1 σ K = @X R call bx m17d1 σ K := rfl
attribute [simp ↓] m17x1
@[reducible] def m17c : MCode :=
  (.seq (.region [⟨(some 4), .move (.val (.pv (.bool false))), none, false⟩] none)
  (.seq (.seq (.region [⟨(some 6), .move (.tmp 0), none, false⟩,
    ⟨(some 7), .len (.tmp 6), none, false⟩,
    ⟨(some 8), .move (.tmp 1), none, false⟩,
    ⟨(some 9), .len (.tmp 8), none, false⟩,
    ⟨(some 10), .bin .neq (.tmp 7) (.tmp 9), none, false⟩] none)
  (.cond (.tmp 10) (.seq (.region [⟨(some 4), .move (.val (.pv (.bool false))), none, false⟩] none)
   .ret)
  .skip))
  (.seq (.seq (.region [⟨(some 5), .move (.val (.pv (.int .i64 (0)))), none, false⟩] none)
  (.block 0 (.loop (.seq (.forget m17k1) m17b1))))
  (.seq (.region [⟨(some 4), .move (.val (.pv (.bool true))), none, false⟩] none)
  .ret))))
def m17 : MFunc := { nparams := 2, results := [.tmp 4], body := m17c }
attribute [simp] m17
-- loop.example/g03013/spec.SameEdits
@[reducible] def m18e0 : List MOper := [⟨(some 17), .move (.tmp 0), none, false⟩,
  ⟨(some 18), .move (.tmp 5), none, false⟩,
  ⟨(some 19), .indexAddr 4 (.tmp 17) (.tmp 18), none, false⟩,
  ⟨(some 20), .fieldAddr 0 (.tmp 19), none, false⟩,
  ⟨(some 21), .load 0 (.tmp 20), none, false⟩,
  ⟨(some 22), .move (.tmp 1), none, false⟩,
  ⟨(some 23), .move (.tmp 5), none, false⟩,
  ⟨(some 24), .indexAddr 4 (.tmp 22) (.tmp 23), none, false⟩,
  ⟨(some 25), .fieldAddr 0 (.tmp 24), none, false⟩,
  ⟨(some 26), .load 0 (.tmp 25), none, false⟩,
  ⟨(some 27), .bin .neq (.tmp 21) (.tmp 26), none, false⟩,
  ⟨(some 28), .move (.tmp 27), none, true⟩,
  ⟨(some 29), .move (.tmp 0), (some (28, false)), false⟩,
  ⟨(some 30), .move (.tmp 5), (some (28, false)), false⟩,
  ⟨(some 31), .indexAddr 4 (.tmp 29) (.tmp 30), (some (28, false)), false⟩,
  ⟨(some 32), .fieldAddr 1 (.tmp 31), (some (28, false)), false⟩,
  ⟨(some 33), .load 0 (.tmp 32), (some (28, false)), false⟩,
  ⟨(some 34), .move (.tmp 1), (some (28, false)), false⟩,
  ⟨(some 35), .move (.tmp 5), (some (28, false)), false⟩,
  ⟨(some 36), .indexAddr 4 (.tmp 34) (.tmp 35), (some (28, false)), false⟩,
  ⟨(some 37), .fieldAddr 1 (.tmp 36), (some (28, false)), false⟩,
  ⟨(some 38), .load 0 (.tmp 37), (some (28, false)), false⟩,
  ⟨(some 39), .bin .neq (.tmp 33) (.tmp 38), (some (28, false)), false⟩,
  ⟨(some 40), .pick (.tmp 28) (.val (.pv (.bool true))) (.tmp 39), none, false⟩,
  ⟨(some 41), .move (.tmp 40), none, true⟩,
  ⟨(some 42), .move (.tmp 0), (some (41, false)), false⟩,
  ⟨(some 43), .move (.tmp 5), (some (41, false)), false⟩,
  ⟨(some 44), .indexAddr 4 (.tmp 42) (.tmp 43), (some (41, false)), false⟩,
  ⟨(some 45), .fieldAddr 2 (.tmp 44), (some (41, false)), false⟩,
  ⟨(some 46), .load 0 (.tmp 45), (some (41, false)), false⟩,
  ⟨(some 47), .move (.tmp 1), (some (41, false)), false⟩,
  ⟨(some 48), .move (.tmp 5), (some (41, false)), false⟩,
  ⟨(some 49), .indexAddr 4 (.tmp 47) (.tmp 48), (some (41, false)), false⟩,
  ⟨(some 50), .fieldAddr 2 (.tmp 49), (some (41, false)), false⟩,
  ⟨(some 51), .load 0 (.tmp 50), (some (41, false)), false⟩,
  ⟨(some 52), .bin .neq (.tmp 46) (.tmp 51), (some (41, false)), false⟩,
  ⟨(some 53), .pick (.tmp 41) (.val (.pv (.bool true))) (.tmp 52), none, false⟩,
  ⟨(some 54), .move (.tmp 53), none, true⟩,
  ⟨(some 55), .move (.tmp 0), (some (54, false)), false⟩,
  ⟨(some 56), .move (.tmp 5), (some (54, false)), false⟩,
  ⟨(some 57), .indexAddr 4 (.tmp 55) (.tmp 56), (some (54, false)), false⟩,
  ⟨(some 58), .fieldAddr 3 (.tmp 57), (some (54, false)), false⟩,
  ⟨(some 59), .load 0 (.tmp 58), (some (54, false)), false⟩,
  ⟨(some 60), .move (.tmp 1), (some (54, false)), false⟩,
  ⟨(some 61), .move (.tmp 5), (some (54, false)), false⟩,
  ⟨(some 62), .indexAddr 4 (.tmp 60) (.tmp 61), (some (54, false)), false⟩,
  ⟨(some 63), .fieldAddr 3 (.tmp 62), (some (54, false)), false⟩,
  ⟨(some 64), .load 0 (.tmp 63), (some (54, false)), false⟩,
  ⟨(some 65), .call 18 [(.tmp 59), (.tmp 64)], (some (54, false)), false⟩,
  ⟨(some 66), .un .not (.tmp 65), (some (54, false)), false⟩,
  ⟨(some 67), .pick (.tmp 54) (.val (.pv (.bool true))) (.tmp 66), none, false⟩]
def m18r0 : List MOper := m18e0
def m18q0 : List Nat := [0, 0, 3, 7, 15, 0, 0, 96, 224, 480, 1023, 2047, 4095, 4095, 16383, 32767, 65535, 4095, 4095, 397311, 921599, 1970175, 4194303, 8388607, 16777215, 33554431, 33554431, 134217727, 268435455, 536870911, 33554431, 33554431, 3254779903, 7549747199, 16139681791, 34359738367, 68719476735, 137438953471, 274877906943, 274877906943, 1099511627775, 2199023255551, 4398046511103, 274877906943, 274877906943, 26663156973567, 61847529062399, 132216273240063, 281474976710655, 562949953421311, 1125899906842623]
theorem m18x0 {R : Type} {call : FuncId → List XV → Option Res} {bx : List Nat} {σ : St} {K : K2 R} : @X R call bx (.region m18r0 (some m18q0)) σ K = @XD R call m18e0 m18q0 σ K := X_draw (by decide +kernel)
attribute [simp ↓] m18x0
@[reducible] def m18k1 : List Nat := [0, 1, 5]
@[reducible] def m18d1 : MCode :=
  (.seq (.seq (.region [⟨(some 11), .move (.tmp 5), none, false⟩,
    ⟨(some 12), .move (.tmp 0), none, false⟩,
    ⟨(some 13), .len (.tmp 12), none, false⟩,
    ⟨(some 14), .bin .lss (.tmp 11) (.tmp 13), none, false⟩] none)
  (.cond (.tmp 14) .skip
  (.exit 0)))
  (.seq (.block 1 (.seq (.region m18r0 (some m18q0))
  (.cond (.tmp 67) (.seq (.region [⟨(some 4), .move (.val (.pv (.bool false))), none, false⟩] none)
   .ret)
  .skip)))
  (.region [⟨(some 15), .move (.tmp 5), none, false⟩,
    ⟨(some 16), .bin .add (.tmp 15) (.val (.pv (.int .i64 (1)))), none, false⟩,
    ⟨(some 5), .move (.tmp 16), none, false⟩] none)))
def m18b1 : MCode := m18d1
theorem m18x1 {R : Type} {call : FuncId → List XV → Option Res} {bx : List Nat} {σ : St} {K : K2 R} : @X R call bx m18b1 σ K = @X R call bx m18d1 σ K := rfl
attribute [simp ↓] m18x1
@[reducible] def m18c : MCode :=
  (.seq (.region [⟨(some 4), .move (.val (.pv (.bool false))), none, false⟩] none)
  (.seq (.seq (.region [⟨(some 6), .move (.tmp 0), none, false⟩,
    ⟨(some 7), .len (.tmp 6), none, false⟩,
    ⟨(some 8), .move (.tmp 1), none, false⟩,
    ⟨(some 9), .len (.tmp 8), none, false⟩,
    ⟨(some 10), .bin .neq (.tmp 7) (.tmp 9), none, false⟩] none)
  (.cond (.tmp 10) (.seq (.region [⟨(some 4), .move (.val (.pv (.bool false))), none, false⟩] none)
   .ret)
  .skip))
  (.seq (.seq (.region [⟨(some 5), .move (.val (.pv (.int .i64 (0)))), none, false⟩] none)
  (.block 0 (.loop (.seq (.forget m18k1) m18b1))))
  (.seq (.region [⟨(some 4), .move (.val (.pv (.bool true))), none, false⟩] none)
  .ret))))
def m18 : MFunc := { nparams := 2, results := [.tmp 4], body := m18c }
attribute [simp] m18
-- loop.example/g03013/impl.SameEdits
@[reducible] def m19e0 : List MOper := [⟨(some 16), .move (.tmp 0), none, false⟩,
  ⟨(some 17), .move (.tmp 5), none, false⟩,
  ⟨(some 18), .indexAddr 4 (.tmp 16) (.tmp 17), none, false⟩,
  ⟨(some 19), .fieldAddr 0 (.tmp 18), none, false⟩,
  ⟨(some 20), .load 0 (.tmp 19), none, false⟩,
  ⟨(some 21), .move (.tmp 1), none, false⟩,
  ⟨(some 22), .move (.tmp 5), none, false⟩,
  ⟨(some 23), .indexAddr 4 (.tmp 21) (.tmp 22), none, false⟩,
  ⟨(some 24), .fieldAddr 0 (.tmp 23), none, false⟩,
  ⟨(some 25), .load 0 (.tmp 24), none, false⟩,
  ⟨(some 26), .bin .neq (.tmp 20) (.tmp 25), none, false⟩,
  ⟨(some 27), .move (.tmp 26), none, true⟩,
  ⟨(some 28), .move (.tmp 0), (some (27, false)), false⟩,
  ⟨(some 29), .move (.tmp 5), (some (27, false)), false⟩,
  ⟨(some 30), .indexAddr 4 (.tmp 28) (.tmp 29), (some (27, false)), false⟩,
  ⟨(some 31), .fieldAddr 1 (.tmp 30), (some (27, false)), false⟩,
  ⟨(some 32), .load 0 (.tmp 31), (some (27, false)), false⟩,
  ⟨(some 33), .move (.tmp 1), (some (27, false)), false⟩,
  ⟨(some 34), .move (.tmp 5), (some (27, false)), false⟩,
  ⟨(some 35), .indexAddr 4 (.tmp 33) (.tmp 34), (some (27, false)), false⟩,
  ⟨(some 36), .fieldAddr 1 (.tmp 35), (some (27, false)), false⟩,
  ⟨(some 37), .load 0 (.tmp 36), (some (27, false)), false⟩,
  ⟨(some 38), .bin .neq (.tmp 32) (.tmp 37), (some (27, false)), false⟩,
  ⟨(some 39), .pick (.tmp 27) (.val (.pv (.bool true))) (.tmp 38), none, false⟩,
  ⟨(some 40), .move (.tmp 39), none, true⟩,
  ⟨(some 41), .move (.tmp 0), (some (40, false)), false⟩,
  ⟨(some 42), .move (.tmp 5), (some (40, false)), false⟩,
  ⟨(some 43), .indexAddr 4 (.tmp 41) (.tmp 42), (some (40, false)), false⟩,
  ⟨(some 44), .fieldAddr 2 (.tmp 43), (some (40, false)), false⟩,
  ⟨(some 45), .load 0 (.tmp 44), (some (40, false)), false⟩,
  ⟨(some 46), .move (.tmp 1), (some (40, false)), false⟩,
  ⟨(some 47), .move (.tmp 5), (some (40, false)), false⟩,
  ⟨(some 48), .indexAddr 4 (.tmp 46) (.tmp 47), (some (40, false)), false⟩,
  ⟨(some 49), .fieldAddr 2 (.tmp 48), (some (40, false)), false⟩,
  ⟨(some 50), .load 0 (.tmp 49), (some (40, false)), false⟩,
  ⟨(some 51), .bin .neq (.tmp 45) (.tmp 50), (some (40, false)), false⟩,
  ⟨(some 52), .pick (.tmp 40) (.val (.pv (.bool true))) (.tmp 51), none, false⟩,
  ⟨(some 53), .move (.tmp 52), none, true⟩,
  ⟨(some 54), .move (.tmp 0), (some (53, false)), false⟩,
  ⟨(some 55), .move (.tmp 5), (some (53, false)), false⟩,
  ⟨(some 56), .indexAddr 4 (.tmp 54) (.tmp 55), (some (53, false)), false⟩,
  ⟨(some 57), .fieldAddr 3 (.tmp 56), (some (53, false)), false⟩,
  ⟨(some 58), .load 0 (.tmp 57), (some (53, false)), false⟩,
  ⟨(some 59), .move (.tmp 1), (some (53, false)), false⟩,
  ⟨(some 60), .move (.tmp 5), (some (53, false)), false⟩,
  ⟨(some 61), .indexAddr 4 (.tmp 59) (.tmp 60), (some (53, false)), false⟩,
  ⟨(some 62), .fieldAddr 3 (.tmp 61), (some (53, false)), false⟩,
  ⟨(some 63), .load 0 (.tmp 62), (some (53, false)), false⟩,
  ⟨(some 64), .call 19 [(.tmp 58), (.tmp 63)], (some (53, false)), false⟩,
  ⟨(some 65), .un .not (.tmp 64), (some (53, false)), false⟩,
  ⟨(some 66), .pick (.tmp 53) (.val (.pv (.bool true))) (.tmp 65), none, false⟩]
def m19r0 : List MOper := m19e0
def m19q0 : List Nat := [0, 0, 3, 7, 15, 0, 0, 96, 224, 480, 1023, 2047, 4095, 4095, 16383, 32767, 65535, 4095, 4095, 397311, 921599, 1970175, 4194303, 8388607, 16777215, 33554431, 33554431, 134217727, 268435455, 536870911, 33554431, 33554431, 3254779903, 7549747199, 16139681791, 34359738367, 68719476735, 137438953471, 274877906943, 274877906943, 1099511627775, 2199023255551, 4398046511103, 274877906943, 274877906943, 26663156973567, 61847529062399, 132216273240063, 281474976710655, 562949953421311, 1125899906842623]
theorem m19x0 {R : Type} {call : FuncId → List XV → Option Res} {bx : List Nat} {σ : St} {K : K2 R} : @X R call bx (.region m19r0 (some m19q0)) σ K = @XD R call m19e0 m19q0 σ K := X_draw (by decide +kernel)
attribute [simp ↓] m19x0
@[reducible] def m19k1 : List Nat := [0, 1, 12, 13]
@[reducible] def m19d1 : MCode :=
  (.seq (.region [⟨(some 14), .bin .lss (.tmp 13) (.tmp 12), none, false⟩] none)
  (.seq (.cond (.tmp 14) .skip
  (.exit 0))
  (.seq (.block 1 (.seq (.region [⟨(some 15), .move (.tmp 13), none, false⟩,
    ⟨(some 5), .move (.tmp 15), none, false⟩] none)
  (.seq (.region m19r0 (some m19q0))
  (.cond (.tmp 66) (.seq (.region [⟨(some 4), .move (.val (.pv (.bool false))), none, false⟩] none)
   .ret)
  .skip))))
  (.region [⟨(some 67), .bin .add (.tmp 13) (.val (.pv (.int .i64 (1)))), none, false⟩,
    ⟨(some 13), .move (.tmp 67), none, false⟩] none))))
def m19b1 : MCode := m19d1
theorem m19x1 {R : Type} {call : FuncId → List XV → Option Res} {bx : List Nat} {σ : St} {K : K2 R} : @X R call bx m19b1 σ K = @X R call bx m19d1 σ K := rfl
attribute [simp ↓] m19x1
@[reducible] def m19c : MCode :=
  (.seq (.region [⟨(some 4), .move (.val (.pv (.bool false))), none, false⟩] none)
  (.seq (.seq (.region [⟨(some 6), .move (.tmp 0), none, false⟩,
    ⟨(some 7), .len (.tmp 6), none, false⟩,
    ⟨(some 8), .move (.tmp 1), none, false⟩,
    ⟨(some 9), .len (.tmp 8), none, false⟩,
    ⟨(some 10), .bin .neq (.tmp 7) (.tmp 9), none, false⟩] none)
  (.cond (.tmp 10) (.seq (.region [⟨(some 4), .move (.val (.pv (.bool false))), none, false⟩] none)
   .ret)
  .skip))
  (.seq (.seq (.region [⟨(some 11), .move (.tmp 0), none, false⟩,
    ⟨(some 12), .len (.tmp 11), none, false⟩,
    ⟨(some 13), .move (.val (.pv (.int .i64 (0)))), none, false⟩] none)
  (.block 0 (.loop (.seq (.forget m19k1) m19b1))))
  (.seq (.region [⟨(some 4), .move (.val (.pv (.bool true))), none, false⟩] none)
  .ret))))
def m19 : MFunc := { nparams := 2, results := [.tmp 4], body := m19c }
attribute [simp] m19
-- loop.example/g03013/laws.szEdit
@[reducible] def m37c : MCode :=
  (.seq (.region [⟨(some 2), .box 4 (.tmp 0), none, false⟩,
    ⟨(some 4), .move (.val (.pv (.int .i64 (0)))), none, false⟩] none)
  (.seq (.region [⟨(some 5), .move (.tmp 1), none, false⟩,
    ⟨(some 6), .fieldAddr 1 (.tmp 2), none, false⟩,
    ⟨(some 7), .load 0 (.tmp 6), none, false⟩,
    ⟨(some 8), .strLen (.tmp 7), none, false⟩,
    ⟨(some 9), .bin .sub (.tmp 5) (.tmp 8), none, false⟩,
    ⟨(some 1), .move (.tmp 9), none, false⟩] none)
  (.seq (.seq (.region [⟨(some 10), .move (.tmp 1), none, false⟩,
    ⟨(some 11), .bin .lss (.tmp 10) (.val (.pv (.int .i64 (0)))), none, false⟩] none)
  (.cond (.tmp 11) (.seq (.region [⟨(some 4), .move (.val (.pv (.int .i64 (-1)))), none, false⟩] none)
   .ret)
  .skip))
  (.seq (.region [⟨(some 12), .move (.tmp 1), none, false⟩,
    ⟨(some 13), .fieldAddr 2 (.tmp 2), none, false⟩,
    ⟨(some 14), .load 0 (.tmp 13), none, false⟩,
    ⟨(some 15), .strLen (.tmp 14), none, false⟩,
    ⟨(some 16), .bin .sub (.tmp 12) (.tmp 15), none, false⟩,
    ⟨(some 1), .move (.tmp 16), none, false⟩] none)
  (.seq (.seq (.region [⟨(some 17), .move (.tmp 1), none, false⟩,
    ⟨(some 18), .bin .lss (.tmp 17) (.val (.pv (.int .i64 (0)))), none, false⟩] none)
  (.cond (.tmp 18) (.seq (.region [⟨(some 4), .move (.val (.pv (.int .i64 (-1)))), none, false⟩] none)
   .ret)
  .skip))
  (.seq (.region [⟨(some 19), .fieldAddr 3 (.tmp 2), none, false⟩,
    ⟨(some 20), .load 0 (.tmp 19), none, false⟩,
    ⟨(some 21), .move (.tmp 1), none, false⟩,
    ⟨(some 22), .call 13 [(.tmp 20), (.tmp 21)], none, false⟩,
    ⟨(some 1), .move (.tmp 22), none, false⟩] none)
  (.seq (.seq (.region [⟨(some 23), .move (.tmp 1), none, false⟩,
    ⟨(some 24), .bin .lss (.tmp 23) (.val (.pv (.int .i64 (0)))), none, false⟩] none)
  (.cond (.tmp 24) (.seq (.region [⟨(some 4), .move (.val (.pv (.int .i64 (-1)))), none, false⟩] none)
   .ret)
  .skip))
  (.seq (.region [⟨(some 25), .move (.tmp 1), none, false⟩,
    ⟨(some 4), .move (.tmp 25), none, false⟩] none)
  .ret))))))))
def m37 : MFunc := { nparams := 2, results := [.tmp 4], body := m37c }
attribute [simp] m37
-- loop.example/g03013/laws.toEdit
@[reducible] def m38c : MCode :=
  (.seq (.region [⟨(some 1), .box 4 (.tmp 0), none, false⟩,
    ⟨(some 2), .alloc [(.pv (.int .i64 (0))), (.pv (.str ⟨#[]⟩)), (.pv (.str ⟨#[]⟩)), .nils], none, false⟩] none)
  (.seq (.region [⟨(some 3), .alloc [(.pv (.int .i64 (0))), (.pv (.str ⟨#[]⟩)), (.pv (.str ⟨#[]⟩)), .nils], none, false⟩] none)
  (.seq (.region [⟨(some 4), .fieldAddr 0 (.tmp 1), none, false⟩,
    ⟨(some 5), .load 0 (.tmp 4), none, false⟩,
    ⟨(some 6), .fieldAddr 0 (.tmp 3), none, false⟩,
    ⟨none, .store 0 (.tmp 6) (.tmp 5), none, false⟩] none)
  (.seq (.region [⟨(some 7), .fieldAddr 1 (.tmp 1), none, false⟩,
    ⟨(some 8), .load 0 (.tmp 7), none, false⟩,
    ⟨(some 9), .fieldAddr 1 (.tmp 3), none, false⟩,
    ⟨none, .store 0 (.tmp 9) (.tmp 8), none, false⟩] none)
  (.seq (.region [⟨(some 10), .fieldAddr 2 (.tmp 1), none, false⟩,
    ⟨(some 11), .load 0 (.tmp 10), none, false⟩,
    ⟨(some 12), .fieldAddr 2 (.tmp 3), none, false⟩,
    ⟨none, .store 0 (.tmp 12) (.tmp 11), none, false⟩] none)
  (.seq (.region [⟨(some 13), .fieldAddr 3 (.tmp 1), none, false⟩,
    ⟨(some 14), .load 0 (.tmp 13), none, false⟩,
    ⟨(some 15), .call 15 [(.tmp 14)], none, false⟩,
    ⟨(some 16), .fieldAddr 3 (.tmp 3), none, false⟩,
    ⟨none, .store 0 (.tmp 16) (.tmp 15), none, false⟩] none)
  (.seq (.region [⟨(some 17), .load 4 (.tmp 3), none, false⟩,
    ⟨none, .store 4 (.tmp 2) (.tmp 17), none, false⟩] none)
  .ret)))))))
def m38 : MFunc := { nparams := 1, results := [.cell 2 4], body := m38c }
attribute [simp] m38
-- loop.example/g03013/laws.eqEdit
@[reducible] def m39c : MCode :=
  (.seq (.region [⟨(some 2), .box 4 (.tmp 0), none, false⟩,
    ⟨(some 3), .box 4 (.tmp 1), none, false⟩,
    ⟨(some 4), .move (.val (.pv (.bool false))), none, false⟩] none)
  (.seq (.seq (.region [⟨(some 5), .fieldAddr 0 (.tmp 2), none, false⟩,
    ⟨(some 6), .load 0 (.tmp 5), none, false⟩,
    ⟨(some 7), .fieldAddr 0 (.tmp 3), none, false⟩,
    ⟨(some 8), .load 0 (.tmp 7), none, false⟩,
    ⟨(some 9), .bin .neq (.tmp 6) (.tmp 8), none, false⟩] none)
  (.cond (.tmp 9) (.seq (.region [⟨(some 4), .move (.val (.pv (.bool false))), none, false⟩] none)
   .ret)
  .skip))
  (.seq (.seq (.region [⟨(some 10), .fieldAddr 1 (.tmp 2), none, false⟩,
    ⟨(some 11), .load 0 (.tmp 10), none, false⟩,
    ⟨(some 12), .fieldAddr 1 (.tmp 3), none, false⟩,
    ⟨(some 13), .load 0 (.tmp 12), none, false⟩,
    ⟨(some 14), .bin .neq (.tmp 11) (.tmp 13), none, false⟩] none)
  (.cond (.tmp 14) (.seq (.region [⟨(some 4), .move (.val (.pv (.bool false))), none, false⟩] none)
   .ret)
  .skip))
  (.seq (.seq (.region [⟨(some 15), .fieldAddr 2 (.tmp 2), none, false⟩,
    ⟨(some 16), .load 0 (.tmp 15), none, false⟩,
    ⟨(some 17), .fieldAddr 2 (.tmp 3), none, false⟩,
    ⟨(some 18), .load 0 (.tmp 17), none, false⟩,
    ⟨(some 19), .bin .neq (.tmp 16) (.tmp 18), none, false⟩] none)
  (.cond (.tmp 19) (.seq (.region [⟨(some 4), .move (.val (.pv (.bool false))), none, false⟩] none)
   .ret)
  .skip))
  (.seq (.seq (.region [⟨(some 20), .fieldAddr 3 (.tmp 2), none, false⟩,
    ⟨(some 21), .load 0 (.tmp 20), none, false⟩,
    ⟨(some 22), .fieldAddr 3 (.tmp 3), none, false⟩,
    ⟨(some 23), .load 0 (.tmp 22), none, false⟩,
    ⟨(some 24), .call 17 [(.tmp 21), (.tmp 23)], none, false⟩,
    ⟨(some 25), .un .not (.tmp 24), none, false⟩] none)
  (.cond (.tmp 25) (.seq (.region [⟨(some 4), .move (.val (.pv (.bool false))), none, false⟩] none)
   .ret)
  .skip))
  (.seq (.region [⟨(some 4), .move (.val (.pv (.bool true))), none, false⟩] none)
  .ret))))))
def m39 : MFunc := { nparams := 2, results := [.tmp 4], body := m39c }
attribute [simp] m39
theorem t4 : fits Try.prog Try.f4 m4 := ⟨_, rfl, by kernel_rfl, by kernel_rfl, by decide +kernel⟩
theorem t5 : fits Try.prog Try.f5 m5 := ⟨_, rfl, by kernel_rfl, by kernel_rfl, by decide +kernel⟩
theorem t13 : fits Try.prog Try.f13 m13 := ⟨_, rfl, by kernel_rfl, by kernel_rfl, by decide +kernel⟩
theorem t14 : fits Try.prog Try.f14 m14 := ⟨_, rfl, by kernel_rfl, by kernel_rfl, by decide +kernel⟩
theorem t15 : fits Try.prog Try.f15 m15 := ⟨_, rfl, by kernel_rfl, by kernel_rfl, by decide +kernel⟩
theorem t16 : fits Try.prog Try.f16 m16 := ⟨_, rfl, by kernel_rfl, by kernel_rfl, by decide +kernel⟩
theorem t17 : fits Try.prog Try.f17 m17 := ⟨_, rfl, by kernel_rfl, by kernel_rfl, by decide +kernel⟩
theorem t18 : fits Try.prog Try.f18 m18 := ⟨_, rfl, by kernel_rfl, by kernel_rfl, by decide +kernel⟩
theorem t19 : fits Try.prog Try.f19 m19 := ⟨_, rfl, by kernel_rfl, by kernel_rfl, by decide +kernel⟩
theorem t37 : fits Try.prog Try.f37 m37 := ⟨_, rfl, by kernel_rfl, by kernel_rfl, by decide +kernel⟩
theorem t38 : fits Try.prog Try.f38 m38 := ⟨_, rfl, by kernel_rfl, by kernel_rfl, by decide +kernel⟩
theorem t39 : fits Try.prog Try.f39 m39 := ⟨_, rfl, by kernel_rfl, by kernel_rfl, by decide +kernel⟩
def codeL : List (Nat × MFunc) := [(4, m4), (5, m5), (13, m13), (14, m14), (15, m15), (16, m16), (17, m17), (18, m18), (19, m19), (37, m37), (38, m38), (39, m39)]
def code (f : FuncId) : Option MFunc := look none (codeL.map fun p => (p.1, some p.2)) f
theorem code4 : code 4 = some m4 := rfl
theorem code5 : code 5 = some m5 := rfl
theorem code13 : code 13 = some m13 := rfl
theorem code14 : code 14 = some m14 := rfl
theorem code15 : code 15 = some m15 := rfl
theorem code16 : code 16 = some m16 := rfl
theorem code17 : code 17 = some m17 := rfl
theorem code18 : code 18 = some m18 := rfl
theorem code19 : code 19 = some m19 := rfl
theorem code37 : code 37 = some m37 := rfl
theorem code38 : code 38 = some m38 := rfl
theorem code39 : code 39 = some m39 := rfl
def noPrim : FuncId → Option (List XV → Option Res) := fun _ => none
noncomputable def EV : FuncId → List XV → Option Res := Ev noPrim code
theorem run {f : FuncId} {m : MFunc} {c : MCode} (hc : code f = some m) (hb : m.body = c) {args : List XV} {ts : List (Nat × AV)} {os : List (Nat × Obj)} {bx : List Nat} (hl : lenIs args m.nparams = true) (he : enter 0 args = some (ts, os, bx)) {r : Res}
    (h : @X Res EV bx c ⟨ts, os⟩ ⟨fun e σ => match e with
      | .exit _ => none
      | _ => leave m bx σ⟩ = some r) : EV f args = some r := run_of rfl hc hb hl he h
def fine (l : List (Nat × MFunc)) : Prop := ∀ p ∈ l, ∃ fn, Try.prog.funcs[p.1]? = some fn ∧ fits Try.prog fn p.2 ∧ (fn.name == "runtime.NumGoroutine") = false
theorem fine_nil : fine [] := fun p hp => (by cases hp)
theorem fine_cons {k : Nat} {m : MFunc} {fn : Func} {l : List (Nat × MFunc)} (h1 : Try.prog.funcs[k]? = some fn) (h2 : fits Try.prog fn m) (h3 : (fn.name == "runtime.NumGoroutine") = false) (h : fine l) : fine ((k, m) :: l) := fun p hp => by
  rcases List.mem_cons.1 hp with rfl | hp
  · exact ⟨fn, h1, h2, h3⟩
  · exact h p hp
theorem codeL_fine : fine codeL :=
  fine_cons Try.func4 t4 (by decide +kernel) <| fine_cons Try.func5 t5 (by decide +kernel) <| fine_cons Try.func13 t13 (by decide +kernel) <| fine_cons Try.func14 t14 (by decide +kernel) <| fine_cons Try.func15 t15 (by decide +kernel) <| fine_cons Try.func16 t16 (by decide +kernel) <| fine_cons Try.func17 t17 (by decide +kernel) <| fine_cons Try.func18 t18 (by decide +kernel) <| fine_cons Try.func19 t19 (by decide +kernel) <| fine_cons Try.func37 t37 (by decide +kernel) <| fine_cons Try.func38 t38 (by decide +kernel) <| fine_cons Try.func39 t39 (by decide +kernel) <|  fine_nil
theorem look_fine : ∀ (l : List (Nat × MFunc)) (f : Nat) (m : MFunc), look none (l.map fun p => (p.1, some p.2)) f = some m → (f, m) ∈ l
  | [], f, m, h => by cases h
  | (k, m') :: l, f, m, h => by
    simp only [List.map_cons, look] at h
    split at h
    · rename_i e; cases h; subst e; exact List.mem_cons_self ..
    · exact List.mem_cons_of_mem _ (look_fine l f m h)
theorem told : Told Try.prog noPrim code := ⟨by kernel_rfl, fun f F h => (by cases h), fun f m h => codeL_fine (f, m) (look_fine _ f m h)⟩
end Go.Proofs.YtbgkalolmichdaaA
