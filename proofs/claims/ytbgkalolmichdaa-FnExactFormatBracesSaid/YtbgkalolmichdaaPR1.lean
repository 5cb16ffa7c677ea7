/- Functions of the library by their contracts: strings.Repeat, strings.IndexByte. Conditions: none. -/
import Derived.Test.YtbgkalolmichdaaEX
import Derived.Test.YtbgkalolmichdaaSH
import Derived.KernelRfl
namespace Go.Proofs.YtbgkalolmichdaaA
open Go Go.Proofs Go.RowKit
def repeatF : List XV → Option Res
  | [.pv (.str s), .pv (.int .i64 c)] => if 0 ≤ c ∧ c ≤ 1048576 ∧ s.size ≤ 1048576 then some ([], .pv (.str (mkS (Lib.repeatL (bs s) c.toNat)))) else none
  | _ => none
def indexByteF : List XV → Option Res
  | [.pv (.str s), .pv (.int .u8 c)] => some ([], .pv (.int .i64 (Lib.indexByte (bs s) c.toNat.toUInt8)))
  | _ => none
theorem repeat_sound : Sound Try.prog 75 repeatF := by
  refine sound_of fun args outs r he => ?_
  unfold repeatF at he
  split at he
  · rename_i s c
    split at he
    · rename_i hc
      cases he
      refine ⟨rfl, _, rfl, fun vals bs' w I hA => ?_⟩
      obtain ⟨vs, rfl, hA1⟩ := AR_str hA
      obtain ⟨us, rfl, hA2⟩ := AR_int hA1
      obtain ⟨rfl, rfl⟩ := AR_nil hA2
      refine ⟨rfl, ?_⟩
      have e : c = ((c.toNat : Nat) : Int) := by omega
      have := Try.strings_Repeat s c.toNat w (by omega) (Nat.le_trans (Nat.mul_le_mul (show s.size ≤ 1048576 by omega) (show c.toNat ≤ 1048576 by omega)) (by omega))
      rw [← e] at this
      refine this.mono fun e w' ⟨h1, h2⟩ => ⟨_, h1, h2, rfl⟩
    · cases he
  · cases he
theorem indexByte_sound : Sound Try.prog 88 indexByteF := by
  refine sound_of fun args outs r he => ?_
  unfold indexByteF at he
  split at he
  · rename_i s c
    cases he
    refine ⟨rfl, _, rfl, fun vals bs' w I hA => ?_⟩
    obtain ⟨vs, rfl, hA1⟩ := AR_str hA
    obtain ⟨us, rfl, hA2⟩ := AR_int hA1
    obtain ⟨rfl, rfl⟩ := AR_nil hA2
    refine ⟨rfl, ?_⟩
    refine (Try.strings_IndexByte s c w).mono fun e w' ⟨h1, h2⟩ => ⟨_, h1, by rw [h2]; exact Below.refl _ _, rfl⟩
  · cases he
def primL : List (FuncId × (List XV → Option Res)) := [(75, repeatF), (88, indexByteF)]
theorem prim_sound : ∀ p ∈ primL, Enters Try.prog p.1 ∧ Sound Try.prog p.1 p.2 := by
  intro p h
  simp only [primL, List.mem_cons, List.not_mem_nil, or_false] at h
  rcases h with rfl | rfl
  · exact ⟨⟨Try.f75, Try.func75, by kernel_rfl, by decide +kernel⟩, repeat_sound⟩
  · exact ⟨⟨Try.f88, Try.func88, by kernel_rfl, by decide +kernel⟩, indexByte_sound⟩
end Go.Proofs.YtbgkalolmichdaaA
