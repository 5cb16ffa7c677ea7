/- The told functions of the seat, printed by tell.sh; that they fit; the table. Conditions: none. -/
import Derived.Test.YtbgkalolmichdaaEX
import Derived.Test.YtbgkalolmichdaaProg
import Derived.KernelRfl
namespace Go.Proofs.YtbgkalolmichdaaA
open Go Go.Proofs
set_option maxRecDepth 20000
-- loop.example/g03013/laws.FnExactUnescapeText
@[reducible] def m3c : MCode :=
  (.seq (.region [⟨(some 2), .move (.val (.pv (.bool false))), none, false⟩] none)
  (.seq (.seq (.region [⟨(some 7), .move (.tmp 0), none, false⟩,
    ⟨(some 8), .strLen (.tmp 7), none, false⟩,
    ⟨(some 9), .bin .gtr (.tmp 8) (.val (.pv (.int .i64 (1048576)))), none, false⟩] none)
  (.cond (.tmp 9) (.seq (.region [⟨(some 2), .move (.val (.pv (.bool true))), none, false⟩] none)
   .ret)
  .skip))
  (.seq (.region [⟨(some 11), .move (.tmp 0), none, false⟩,
    ⟨(some 12), .call 11 [(.tmp 11)], none, false⟩,
    ⟨(some 10), .move (.tmp 12), none, false⟩,
    ⟨(some 13), .extract (.tmp 10) 0, none, false⟩,
    ⟨(some 14), .extract (.tmp 10) 1, none, false⟩,
    ⟨(some 3), .move (.tmp 13), none, false⟩,
    ⟨(some 4), .move (.tmp 14), none, false⟩] none)
  (.seq (.region [⟨(some 16), .move (.tmp 0), none, false⟩,
    ⟨(some 17), .call 12 [(.tmp 16)], none, false⟩,
    ⟨(some 15), .move (.tmp 17), none, false⟩,
    ⟨(some 18), .extract (.tmp 15) 0, none, false⟩,
    ⟨(some 19), .extract (.tmp 15) 1, none, false⟩,
    ⟨(some 5), .move (.tmp 18), none, false⟩,
    ⟨(some 6), .move (.tmp 19), none, false⟩] none)
  (.seq (.seq (.region [⟨(some 20), .move (.tmp 5), none, false⟩,
    ⟨(some 21), .move (.tmp 3), none, false⟩,
    ⟨(some 22), .bin .neq (.tmp 20) (.tmp 21), none, false⟩,
    ⟨(some 23), .move (.tmp 22), none, true⟩,
    ⟨(some 24), .move (.tmp 6), (some (23, false)), false⟩,
    ⟨(some 25), .move (.tmp 4), (some (23, false)), false⟩,
    ⟨(some 26), .binB .neq (.tmp 24) (.tmp 25), (some (23, false)), false⟩,
    ⟨(some 27), .pick (.tmp 23) (.val (.pv (.bool true))) (.tmp 26), none, false⟩] none)
  (.cond (.tmp 27) (.seq (.region [⟨(some 2), .move (.val (.pv (.bool false))), none, false⟩] none)
   .ret)
  .skip))
  (.seq (.region [⟨(some 2), .move (.val (.pv (.bool true))), none, false⟩] none)
  .ret))))))
def m3 : MFunc := { nparams := 1, results := [.tmp 2], body := m3c }
attribute [simp] m3
-- loop.example/g03013/spec.UnescapeText
@[reducible] def m11k0 : List Nat := [0, 4, 5]
@[reducible] def m11d0 : MCode :=
  (.seq (.seq (.region [⟨(some 7), .move (.tmp 5), none, false⟩,
    ⟨(some 8), .move (.tmp 0), none, false⟩,
    ⟨(some 9), .strLen (.tmp 8), none, false⟩,
    ⟨(some 10), .bin .lss (.tmp 7) (.tmp 9), none, false⟩] none)
  (.cond (.tmp 10) .skip
  (.exit 0)))
  (.seq (.block 1 (.block 2 (.seq (.region [⟨(some 14), .move (.tmp 0), none, false⟩,
    ⟨(some 15), .move (.tmp 5), none, false⟩,
    ⟨(some 16), .strIdx (.tmp 14) (.tmp 15), none, false⟩,
    ⟨(some 17), .bin .eql (.tmp 16) (.val (.pv (.int .u8 (60)))), none, false⟩,
    ⟨(some 18), .move (.tmp 17), none, true⟩,
    ⟨(some 19), .move (.tmp 0), (some (18, false)), false⟩,
    ⟨(some 20), .move (.tmp 5), (some (18, false)), false⟩,
    ⟨(some 21), .strIdx (.tmp 19) (.tmp 20), (some (18, false)), false⟩,
    ⟨(some 22), .bin .eql (.tmp 21) (.val (.pv (.int .u8 (62)))), (some (18, false)), false⟩,
    ⟨(some 23), .pick (.tmp 18) (.val (.pv (.bool true))) (.tmp 22), none, false⟩,
    ⟨(some 13), .move (.tmp 23), none, false⟩] none)
  (.cond (.tmp 13) (.seq (.region [⟨(some 2), .move (.val (.pv (.str ⟨#[]⟩))), none, false⟩,
     ⟨(some 3), .move (.val (.pv (.bool false))), none, false⟩] none)
   .ret)
  (.seq (.region [⟨(some 25), .move (.tmp 0), none, false⟩,
     ⟨(some 26), .move (.tmp 5), none, false⟩,
     ⟨(some 27), .strIdx (.tmp 25) (.tmp 26), none, false⟩,
     ⟨(some 28), .bin .neq (.tmp 27) (.val (.pv (.int .u8 (38)))), none, false⟩,
     ⟨(some 24), .move (.tmp 28), none, false⟩] none)
   (.cond (.tmp 24) (.region [⟨(some 29), .move (.tmp 4), none, false⟩,
      ⟨(some 30), .move (.tmp 0), none, false⟩,
      ⟨(some 31), .move (.tmp 5), none, false⟩,
      ⟨(some 32), .strIdx (.tmp 30) (.tmp 31), none, false⟩,
      ⟨(some 33), .buildSlice 0 [(.tmp 32)], none, false⟩,
      ⟨(some 34), .append 0 1 (.tmp 29) (.tmp 33), none, false⟩,
      ⟨(some 4), .move (.tmp 34), none, false⟩] none)
   (.seq (.region [⟨(some 36), .move (.tmp 5), none, false⟩,
      ⟨(some 37), .bin .add (.tmp 36) (.val (.pv (.int .i64 (4)))), none, false⟩,
      ⟨(some 38), .move (.tmp 0), none, false⟩,
      ⟨(some 39), .strLen (.tmp 38), none, false⟩,
      ⟨(some 40), .bin .leq (.tmp 37) (.tmp 39), none, false⟩,
      ⟨(some 41), .move (.tmp 40), none, true⟩,
      ⟨(some 42), .move (.tmp 0), (some (41, true)), false⟩,
      ⟨(some 43), .move (.tmp 5), (some (41, true)), false⟩,
      ⟨(some 44), .move (.tmp 5), (some (41, true)), false⟩,
      ⟨(some 45), .bin .add (.tmp 44) (.val (.pv (.int .i64 (4)))), (some (41, true)), false⟩,
      ⟨(some 46), .strSlice (.tmp 42) (some (.tmp 43)) (some (.tmp 45)), (some (41, true)), false⟩,
      ⟨(some 47), .bin .eql (.tmp 46) (.val (.pv (.str ⟨#[38, 108, 116, 59]⟩))), (some (41, true)), false⟩,
      ⟨(some 48), .pick (.tmp 41) (.tmp 47) (.val (.pv (.bool false))), none, false⟩,
      ⟨(some 35), .move (.tmp 48), none, false⟩] none)
    (.cond (.tmp 35) (.seq (.region [⟨(some 49), .move (.tmp 4), none, false⟩,
       ⟨(some 50), .buildSlice 0 [(.val (.pv (.int .u8 (60))))], none, false⟩,
       ⟨(some 51), .append 0 1 (.tmp 49) (.tmp 50), none, false⟩,
       ⟨(some 4), .move (.tmp 51), none, false⟩] none)
     (.region [⟨(some 52), .move (.tmp 5), none, false⟩,
       ⟨(some 53), .bin .add (.tmp 52) (.val (.pv (.int .i64 (3)))), none, false⟩,
       ⟨(some 5), .move (.tmp 53), none, false⟩] none))
    (.seq (.region [⟨(some 55), .move (.tmp 5), none, false⟩,
       ⟨(some 56), .bin .add (.tmp 55) (.val (.pv (.int .i64 (4)))), none, false⟩,
       ⟨(some 57), .move (.tmp 0), none, false⟩,
       ⟨(some 58), .strLen (.tmp 57), none, false⟩,
       ⟨(some 59), .bin .leq (.tmp 56) (.tmp 58), none, false⟩,
       ⟨(some 60), .move (.tmp 59), none, true⟩,
       ⟨(some 61), .move (.tmp 0), (some (60, true)), false⟩,
       ⟨(some 62), .move (.tmp 5), (some (60, true)), false⟩,
       ⟨(some 63), .move (.tmp 5), (some (60, true)), false⟩,
       ⟨(some 64), .bin .add (.tmp 63) (.val (.pv (.int .i64 (4)))), (some (60, true)), false⟩,
       ⟨(some 65), .strSlice (.tmp 61) (some (.tmp 62)) (some (.tmp 64)), (some (60, true)), false⟩,
       ⟨(some 66), .bin .eql (.tmp 65) (.val (.pv (.str ⟨#[38, 103, 116, 59]⟩))), (some (60, true)), false⟩,
       ⟨(some 67), .pick (.tmp 60) (.tmp 66) (.val (.pv (.bool false))), none, false⟩,
       ⟨(some 54), .move (.tmp 67), none, false⟩] none)
     (.cond (.tmp 54) (.seq (.region [⟨(some 68), .move (.tmp 4), none, false⟩,
        ⟨(some 69), .buildSlice 0 [(.val (.pv (.int .u8 (62))))], none, false⟩,
        ⟨(some 70), .append 0 1 (.tmp 68) (.tmp 69), none, false⟩,
        ⟨(some 4), .move (.tmp 70), none, false⟩] none)
      (.region [⟨(some 71), .move (.tmp 5), none, false⟩,
        ⟨(some 72), .bin .add (.tmp 71) (.val (.pv (.int .i64 (3)))), none, false⟩,
        ⟨(some 5), .move (.tmp 72), none, false⟩] none))
     (.seq (.region [⟨(some 74), .move (.tmp 5), none, false⟩,
        ⟨(some 75), .bin .add (.tmp 74) (.val (.pv (.int .i64 (5)))), none, false⟩,
        ⟨(some 76), .move (.tmp 0), none, false⟩,
        ⟨(some 77), .strLen (.tmp 76), none, false⟩,
        ⟨(some 78), .bin .leq (.tmp 75) (.tmp 77), none, false⟩,
        ⟨(some 79), .move (.tmp 78), none, true⟩,
        ⟨(some 80), .move (.tmp 0), (some (79, true)), false⟩,
        ⟨(some 81), .move (.tmp 5), (some (79, true)), false⟩,
        ⟨(some 82), .move (.tmp 5), (some (79, true)), false⟩,
        ⟨(some 83), .bin .add (.tmp 82) (.val (.pv (.int .i64 (5)))), (some (79, true)), false⟩,
        ⟨(some 84), .strSlice (.tmp 80) (some (.tmp 81)) (some (.tmp 83)), (some (79, true)), false⟩,
        ⟨(some 85), .bin .eql (.tmp 84) (.val (.pv (.str ⟨#[38, 97, 109, 112, 59]⟩))), (some (79, true)), false⟩,
        ⟨(some 86), .pick (.tmp 79) (.tmp 85) (.val (.pv (.bool false))), none, false⟩,
        ⟨(some 73), .move (.tmp 86), none, false⟩] none)
      (.cond (.tmp 73) (.seq (.region [⟨(some 87), .move (.tmp 4), none, false⟩,
         ⟨(some 88), .buildSlice 0 [(.val (.pv (.int .u8 (38))))], none, false⟩,
         ⟨(some 89), .append 0 1 (.tmp 87) (.tmp 88), none, false⟩,
         ⟨(some 4), .move (.tmp 89), none, false⟩] none)
       (.region [⟨(some 90), .move (.tmp 5), none, false⟩,
         ⟨(some 91), .bin .add (.tmp 90) (.val (.pv (.int .i64 (4)))), none, false⟩,
         ⟨(some 5), .move (.tmp 91), none, false⟩] none))
      (.seq (.region [⟨(some 2), .move (.val (.pv (.str ⟨#[]⟩))), none, false⟩,
         ⟨(some 3), .move (.val (.pv (.bool false))), none, false⟩] none)
       .ret)))))))))))))
  (.region [⟨(some 11), .move (.tmp 5), none, false⟩,
    ⟨(some 12), .bin .add (.tmp 11) (.val (.pv (.int .i64 (1)))), none, false⟩,
    ⟨(some 5), .move (.tmp 12), none, false⟩] none)))
def m11b0 : MCode := m11d0
theorem m11x0 {R : Type} {call : FuncId → List XV → Option Res} {bx : List Nat} {σ : St} {K : K2 R} : @X R call bx m11b0 σ K = @X R call bx m11d0 σ K := rfl
attribute [simp ↓] m11x0
@[reducible] def m11c : MCode :=
  (.seq (.region [⟨(some 2), .move (.val (.pv (.str ⟨#[]⟩))), none, false⟩,
    ⟨(some 3), .move (.val (.pv (.bool false))), none, false⟩] none)
  (.seq (.region [⟨(some 6), .buildSlice 0 [], none, false⟩,
    ⟨(some 4), .move (.tmp 6), none, false⟩] none)
  (.seq (.seq (.region [⟨(some 5), .move (.val (.pv (.int .i64 (0)))), none, false⟩] none)
  (.block 0 (.loop (.seq (.forget m11k0) m11b0))))
  (.seq (.region [⟨(some 92), .move (.tmp 4), none, false⟩,
    ⟨(some 93), .bytesToStr (.tmp 92), none, false⟩,
    ⟨(some 2), .move (.tmp 93), none, false⟩,
    ⟨(some 3), .move (.val (.pv (.bool true))), none, false⟩] none)
  .ret))))
def m11 : MFunc := { nparams := 1, results := [.tmp 2, .tmp 3], body := m11c }
attribute [simp] m11
-- loop.example/g03013/impl.UnescapeText
@[reducible] def m12k0 : List Nat := [0, 4]
@[reducible] def m12d0 : MCode :=
  (.seq (.seq (.region [⟨(some 6), .move (.tmp 0), none, false⟩,
    ⟨(some 7), .bin .neq (.tmp 6) (.val (.pv (.str ⟨#[]⟩))), none, false⟩] none)
  (.cond (.tmp 7) .skip
  (.exit 0)))
  (.block 1 (.block 2 (.seq (.region [⟨(some 16), .move (.tmp 0), none, false⟩,
    ⟨(some 17), .call 36 [(.tmp 16), (.val (.pv (.str ⟨#[38, 108, 116, 59]⟩)))], none, false⟩,
    ⟨(some 15), .move (.tmp 17), none, false⟩] none)
  (.cond (.tmp 15) (.seq (.region [⟨(some 18), .move (.tmp 4), none, false⟩,
     ⟨(some 19), .buildSlice 0 [(.val (.pv (.int .u8 (60))))], none, false⟩,
     ⟨(some 20), .append 0 1 (.tmp 18) (.tmp 19), none, false⟩,
     ⟨(some 4), .move (.tmp 20), none, false⟩] none)
   (.region [⟨(some 21), .move (.tmp 0), none, false⟩,
     ⟨(some 22), .strSlice (.tmp 21) (some (.val (.pv (.int .i64 (4))))) none, none, false⟩,
     ⟨(some 0), .move (.tmp 22), none, false⟩] none))
  (.seq (.region [⟨(some 24), .move (.tmp 0), none, false⟩,
     ⟨(some 25), .call 36 [(.tmp 24), (.val (.pv (.str ⟨#[38, 103, 116, 59]⟩)))], none, false⟩,
     ⟨(some 23), .move (.tmp 25), none, false⟩] none)
   (.cond (.tmp 23) (.seq (.region [⟨(some 26), .move (.tmp 4), none, false⟩,
      ⟨(some 27), .buildSlice 0 [(.val (.pv (.int .u8 (62))))], none, false⟩,
      ⟨(some 28), .append 0 1 (.tmp 26) (.tmp 27), none, false⟩,
      ⟨(some 4), .move (.tmp 28), none, false⟩] none)
    (.region [⟨(some 29), .move (.tmp 0), none, false⟩,
      ⟨(some 30), .strSlice (.tmp 29) (some (.val (.pv (.int .i64 (4))))) none, none, false⟩,
      ⟨(some 0), .move (.tmp 30), none, false⟩] none))
   (.seq (.region [⟨(some 32), .move (.tmp 0), none, false⟩,
      ⟨(some 33), .call 36 [(.tmp 32), (.val (.pv (.str ⟨#[38, 97, 109, 112, 59]⟩)))], none, false⟩,
      ⟨(some 31), .move (.tmp 33), none, false⟩] none)
    (.cond (.tmp 31) (.seq (.region [⟨(some 34), .move (.tmp 4), none, false⟩,
       ⟨(some 35), .buildSlice 0 [(.val (.pv (.int .u8 (38))))], none, false⟩,
       ⟨(some 36), .append 0 1 (.tmp 34) (.tmp 35), none, false⟩,
       ⟨(some 4), .move (.tmp 36), none, false⟩] none)
     (.region [⟨(some 37), .move (.tmp 0), none, false⟩,
       ⟨(some 38), .strSlice (.tmp 37) (some (.val (.pv (.int .i64 (5))))) none, none, false⟩,
       ⟨(some 0), .move (.tmp 38), none, false⟩] none))
    (.seq (.region [⟨(some 40), .move (.tmp 0), none, false⟩,
       ⟨(some 41), .strIdx (.tmp 40) (.val (.pv (.int .i64 (0)))), none, false⟩,
       ⟨(some 42), .bin .eql (.tmp 41) (.val (.pv (.int .u8 (60)))), none, false⟩,
       ⟨(some 43), .move (.tmp 42), none, true⟩,
       ⟨(some 44), .move (.tmp 0), (some (43, false)), false⟩,
       ⟨(some 45), .strIdx (.tmp 44) (.val (.pv (.int .i64 (0)))), (some (43, false)), false⟩,
       ⟨(some 46), .bin .eql (.tmp 45) (.val (.pv (.int .u8 (62)))), (some (43, false)), false⟩,
       ⟨(some 47), .pick (.tmp 43) (.val (.pv (.bool true))) (.tmp 46), none, false⟩,
       ⟨(some 48), .move (.tmp 47), none, true⟩,
       ⟨(some 49), .move (.tmp 0), (some (48, false)), false⟩,
       ⟨(some 50), .strIdx (.tmp 49) (.val (.pv (.int .i64 (0)))), (some (48, false)), false⟩,
       ⟨(some 51), .bin .eql (.tmp 50) (.val (.pv (.int .u8 (38)))), (some (48, false)), false⟩,
       ⟨(some 52), .pick (.tmp 48) (.val (.pv (.bool true))) (.tmp 51), none, false⟩,
       ⟨(some 39), .move (.tmp 52), none, false⟩] none)
     (.cond (.tmp 39) (.seq (.region [⟨(some 2), .move (.val (.pv (.str ⟨#[]⟩))), none, false⟩,
        ⟨(some 3), .move (.val (.pv (.bool false))), none, false⟩] none)
      .ret)
     (.seq (.region [⟨(some 8), .move (.tmp 4), none, false⟩,
        ⟨(some 9), .move (.tmp 0), none, false⟩,
        ⟨(some 10), .strIdx (.tmp 9) (.val (.pv (.int .i64 (0)))), none, false⟩,
        ⟨(some 11), .buildSlice 0 [(.tmp 10)], none, false⟩,
        ⟨(some 12), .append 0 1 (.tmp 8) (.tmp 11), none, false⟩,
        ⟨(some 4), .move (.tmp 12), none, false⟩] none)
      (.region [⟨(some 13), .move (.tmp 0), none, false⟩,
        ⟨(some 14), .strSlice (.tmp 13) (some (.val (.pv (.int .i64 (1))))) none, none, false⟩,
        ⟨(some 0), .move (.tmp 14), none, false⟩] none)))))))))))))
def m12b0 : MCode := m12d0
theorem m12x0 {R : Type} {call : FuncId → List XV → Option Res} {bx : List Nat} {σ : St} {K : K2 R} : @X R call bx m12b0 σ K = @X R call bx m12d0 σ K := rfl
attribute [simp ↓] m12x0
@[reducible] def m12c : MCode :=
  (.seq (.region [⟨(some 2), .move (.val (.pv (.str ⟨#[]⟩))), none, false⟩,
    ⟨(some 3), .move (.val (.pv (.bool false))), none, false⟩] none)
  (.seq (.region [⟨(some 5), .buildSlice 0 [], none, false⟩,
    ⟨(some 4), .move (.tmp 5), none, false⟩] none)
  (.seq (.block 0 (.loop (.seq (.forget m12k0) m12b0)))
  (.seq (.region [⟨(some 53), .move (.tmp 4), none, false⟩,
    ⟨(some 54), .bytesToStr (.tmp 53), none, false⟩,
    ⟨(some 2), .move (.tmp 54), none, false⟩,
    ⟨(some 3), .move (.val (.pv (.bool true))), none, false⟩] none)
  .ret))))
def m12 : MFunc := { nparams := 1, results := [.tmp 2, .tmp 3], body := m12c }
attribute [simp] m12
-- strings.HasPrefix
@[reducible] def m36c : MCode :=
  (.seq (.region [⟨(some 4), .move (.val (.pv (.bool false))), none, false⟩] none)
  (.seq (.region [⟨(some 5), .move (.tmp 0), none, false⟩,
    ⟨(some 6), .move (.tmp 1), none, false⟩,
    ⟨(some 7), .call 68 [(.tmp 5), (.tmp 6)], none, false⟩,
    ⟨(some 4), .move (.tmp 7), none, false⟩] none)
  .ret))
def m36 : MFunc := { nparams := 2, results := [.tmp 4], body := m36c }
attribute [simp] m36
-- internal/stringslite.HasPrefix
@[reducible] def m68c : MCode :=
  (.seq (.region [⟨(some 4), .move (.val (.pv (.bool false))), none, false⟩] none)
  (.seq (.region [⟨(some 5), .move (.tmp 0), none, false⟩,
    ⟨(some 6), .strLen (.tmp 5), none, false⟩,
    ⟨(some 7), .move (.tmp 1), none, false⟩,
    ⟨(some 8), .strLen (.tmp 7), none, false⟩,
    ⟨(some 9), .bin .geq (.tmp 6) (.tmp 8), none, false⟩,
    ⟨(some 10), .move (.tmp 9), none, true⟩,
    ⟨(some 11), .move (.tmp 0), (some (10, true)), false⟩,
    ⟨(some 12), .move (.tmp 1), (some (10, true)), false⟩,
    ⟨(some 13), .strLen (.tmp 12), (some (10, true)), false⟩,
    ⟨(some 14), .strSlice (.tmp 11) none (some (.tmp 13)), (some (10, true)), false⟩,
    ⟨(some 15), .move (.tmp 1), (some (10, true)), false⟩,
    ⟨(some 16), .bin .eql (.tmp 14) (.tmp 15), (some (10, true)), false⟩,
    ⟨(some 17), .pick (.tmp 10) (.tmp 16) (.val (.pv (.bool false))), none, false⟩,
    ⟨(some 4), .move (.tmp 17), none, false⟩] none)
  .ret))
def m68 : MFunc := { nparams := 2, results := [.tmp 4], body := m68c }
attribute [simp] m68
theorem t3 : fits Try.prog Try.f3 m3 := ⟨_, rfl, by kernel_rfl, by kernel_rfl, by decide +kernel⟩
theorem t11 : fits Try.prog Try.f11 m11 := ⟨_, rfl, by kernel_rfl, by kernel_rfl, by decide +kernel⟩
theorem t12 : fits Try.prog Try.f12 m12 := ⟨_, rfl, by kernel_rfl, by kernel_rfl, by decide +kernel⟩
theorem t36 : fits Try.prog Try.f36 m36 := ⟨_, rfl, by kernel_rfl, by kernel_rfl, by decide +kernel⟩
theorem t68 : fits Try.prog Try.f68 m68 := ⟨_, rfl, by kernel_rfl, by kernel_rfl, by decide +kernel⟩
def codeL : List (Nat × MFunc) := [(3, m3), (11, m11), (12, m12), (36, m36), (68, m68)]
def code (f : FuncId) : Option MFunc := look none (codeL.map fun p => (p.1, some p.2)) f
theorem code3 : code 3 = some m3 := rfl
theorem code11 : code 11 = some m11 := rfl
theorem code12 : code 12 = some m12 := rfl
theorem code36 : code 36 = some m36 := rfl
theorem code68 : code 68 = some m68 := rfl
def noPrim : FuncId → Option (List XV → Option Res) := fun _ => none
noncomputable def EV : FuncId → List XV → Option Res := Ev noPrim code
theorem run {f : FuncId} {m : MFunc} {c : MCode} (hc : code f = some m) (hb : m.body = c) {args : List XV} {ts : List (Nat × AV)} {os : List (Nat × Obj)} {bx : List Nat} (hl : lenIs args m.nparams = true) (he : enter 0 args = some (ts, os, bx)) {r : Res}
    (h : @X Res EV bx c ⟨ts, os⟩ ⟨fun e σ => match e with
      | .exit _ => none
      | _ => leave m bx σ⟩ = some r) : EV f args = some r := run_of rfl hc hb hl he h
def fine (l : List (Nat × MFunc)) : Prop := ∀ p ∈ l, ∃ fn, Try.prog.funcs[p.1]? = some fn ∧ fits Try.prog fn p.2 ∧ (fn.name == "runtime.NumGoroutine") = false
theorem fine_nil : fine [] := fun p hp => (by cases hp)
theorem fine_cons {k : Nat} {m : MFunc} {fn : Func} {l : List (Nat × MFunc)} (h1 : Try.prog.funcs[k]? = some fn) (h2 : fits Try.prog fn m) (h3 : (fn.name == "runtime.NumGoroutine") = false) (h : fine l) : fine ((k, m) :: l) := fun p hp => by
  rcases List.mem_cons.1 hp with rfl | hp
  · exact ⟨fn, h1, h2, h3⟩
  · exact h p hp
theorem codeL_fine : fine codeL :=
  fine_cons Try.func3 t3 (by decide +kernel) <| fine_cons Try.func11 t11 (by decide +kernel) <| fine_cons Try.func12 t12 (by decide +kernel) <| fine_cons Try.func36 t36 (by decide +kernel) <| fine_cons Try.func68 t68 (by decide +kernel) <|  fine_nil
theorem look_fine : ∀ (l : List (Nat × MFunc)) (f : Nat) (m : MFunc), look none (l.map fun p => (p.1, some p.2)) f = some m → (f, m) ∈ l
  | [], f, m, h => by cases h
  | (k, m') :: l, f, m, h => by
    simp only [List.map_cons, look] at h
    split at h
    · rename_i e; cases h; subst e; exact List.mem_cons_self ..
    · exact List.mem_cons_of_mem _ (look_fine l f m h)
theorem told : Told Try.prog noPrim code := ⟨by kernel_rfl, fun f F h => (by cases h), fun f m h => codeL_fine (f, m) (look_fine _ f m h)⟩
end Go.Proofs.YtbgkalolmichdaaA
