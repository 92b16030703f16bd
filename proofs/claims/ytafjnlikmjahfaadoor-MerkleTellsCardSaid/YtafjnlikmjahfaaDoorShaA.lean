/- Contracts of the turns of a word (sha.right, math/bits.RotateLeft32, pursuivantref02.turn), of the first state and of a round's constant. -/
import Derived.Test.YtafjnlikmjahfaaDoorProg
import Derived.Test.YtafjnlikmjahfaaDoorWords
import Derived.WalkSpells
import Derived.WalkLawsBesides
namespace Go.Proofs.YtafjnlikmjahfaaDoor
open Go.RowKit

theorem and31 (n : Nat) (h1 : 1 ≤ n) (h2 : n ≤ 31) : bits .and .u64 (IntKind.u64.wrap (-(n : Int))) 31 = ((32 - n : Nat) : Int) := by
  have : ∀ m : Fin 32, 1 ≤ m.val → bits .and .u64 (IntKind.u64.wrap (-(m.val : Int))) 31 = ((32 - m.val : Nat) : Int) := by decide +kernel
  exact this ⟨n, by omega⟩ h1

set_option maxHeartbeats 400000 in
theorem rotl_any (x : Int) (n : Nat) (h1 : 1 ≤ n) (h2 : n ≤ 31) (w : World) :
    Calls Tryd.prog 55 #[.int .u32 x, .int .i64 (-(n : Int))] w fun e w' => e = .returned (.int .u32 (rotr x n)) ∧ w = w' := by
  have h := and31 n h1 h2
  go_enter Tryd.func55, Tryd.ntmps55
  go_wp2
  go_ret
  refine ⟨?_, rfl⟩
  have e : 32 - (32 - n) = n := by omega
  simp [rotr, or32, shl32, shr32, e]

set_option maxHeartbeats 400000 in
theorem right_any (x : Int) (n : Nat) (h1 : 1 ≤ n) (h2 : n ≤ 31) (w : World) :
    Calls Tryd.prog 52 #[.int .u32 x, .int .i64 (n : Int)] w fun e w' => e = .returned (.int .u32 (rotr x n)) ∧ w = w' := by
  go_enter Tryd.func52, Tryd.ntmps52
  go_wp2_with (go_at_call 55; refine (rotl_any x n h1 h2 _).mono ?_; rintro e w' ⟨rfl, rfl⟩)
  go_ret
  exact ⟨rfl, rfl⟩

set_option maxHeartbeats 400000 in
theorem turn_any (x : Int) (n : Nat) (h1 : 1 ≤ n) (h2 : n ≤ 31) (w : World) :
    Calls Tryd.prog 53 #[.int .u32 x, .int .u64 (n : Int)] w fun e w' => e = .returned (.int .u32 (rotr x n)) ∧ w = w' := by
  go_enter Tryd.func53, Tryd.ntmps53
  go_wp2
  go_ret
  refine ⟨?_, rfl⟩
  rw [rotr, or32_comm]
  simp [or32, shl32, shr32]
end Go.Proofs.YtafjnlikmjahfaaDoor
