/- math/bits.OnesCount of small numbers; whether there may be so many leaves, by both. -/
import Derived.Test.YtafjnlikmjahfaaDoorGen
namespace Go.Proofs.YtafjnlikmjahfaaDoor
open Go.RowKit

/-- the steps of the count, as the text has them -/
def po1 (x : Int) : Int := IntKind.u64.wrap (bits .and .u64 (x / 2) 6148914691236517205 + bits .and .u64 x 6148914691236517205)
def po2 (x : Int) : Int := IntKind.u64.wrap (bits .and .u64 (x / 4) 3689348814741910323 + bits .and .u64 x 3689348814741910323)
def po3 (x : Int) : Int := bits .and .u64 (IntKind.u64.wrap (x / 16 + x)) 1085102592571150095
def po4 (x : Int) : Int := IntKind.u64.wrap (x + x / 256)
def po5 (x : Int) : Int := IntKind.u64.wrap (x + x / 65536)
def po6 (x : Int) : Int := IntKind.u64.wrap (x + x / 4294967296)
def popI (x : Int) : Int := bits .and .i64 (wrap64 (po6 (po5 (po4 (po3 (po2 (po1 x))))))) 127
def powB (n : Nat) : Bool := n == 1 || n == 2 || n == 4 || n == 8 || n == 16 || n == 32 || n == 64
theorem pop_all : ∀ n : Fin 65, (popI (n.1 : Int) == 1) = powB n.1 := by decide +kernel

set_option maxRecDepth 100000 in
set_option maxHeartbeats 1000000 in
theorem ones64_any (n : Nat) (w : World) : Calls Tryd.prog 38 #[.int .u64 (n : Int)] w fun e w' => e = .returned (.int .i64 (popI (n : Int))) ∧ w = w' := by
  go_enter Tryd.func38, Tryd.ntmps38
  go_wp2
  go_ret
  exact ⟨rfl, rfl⟩

set_option maxRecDepth 100000 in
set_option maxHeartbeats 1000000 in
theorem ones_any (n : Nat) (w : World) : Calls Tryd.prog 28 #[.int .u64 (n : Int)] w fun e w' => e = .returned (.int .i64 (popI (n : Int))) ∧ w = w' := by
  go_enter Tryd.func28, Tryd.ntmps28
  go_wp2_with fail
  with_reducible refine (ones64_any n w).mono ?_
  rintro e w' ⟨rfl, rfl⟩
  go_wp2
  go_ret
  exact ⟨rfl, rfl⟩

set_option maxRecDepth 100000 in
set_option maxHeartbeats 1000000 in
theorem r8may_any (n : Nat) (w : World) : Calls Tryd.prog 23 #[.int .i64 (n : Int)] w fun e w' => e = .returned (.bool (powB n)) ∧ w = w' := by
  go_enter Tryd.func23, Tryd.ntmps23
  go_wp2
  all_goals go_ret
  all_goals refine ⟨congrArg (fun b => Ending.returned (.bool b)) ?_, rfl⟩
  all_goals first
    | (symm; simp only [powB, Bool.or_eq_true, beq_iff_eq]; omega)
    | (rw [Bool.eq_iff_iff]; simp only [powB, Bool.or_eq_true, beq_iff_eq]; omega)

theorem powB_iff (n : Nat) : powB n = true ↔ n = 1 ∨ n = 2 ∨ n = 4 ∨ n = 8 ∨ n = 16 ∨ n = 32 ∨ n = 64 := by
  simp only [powB, Bool.or_eq_true, beq_iff_eq]
  omega
theorem powB_le {n : Nat} (h : powB n = true) : 1 ≤ n ∧ n ≤ 64 := by have := (powB_iff n).1 h; omega

set_option maxRecDepth 100000 in
set_option maxHeartbeats 1000000 in
theorem mmay_any (n : Nat) (w : World) : Calls Tryd.prog 20 #[.int .i64 (n : Int)] w fun e w' => e = .returned (.bool (powB n)) ∧ w = w' := by
  by_cases h1 : 1 ≤ n
  · by_cases h2 : n ≤ 64
    · have hp := pop_all ⟨n, by omega⟩
      obtain ⟨q, hq⟩ : ∃ q, q = powB n := ⟨_, rfl⟩
      rw [← hq] at hp ⊢
      have H := Lib.hid (ones_any n)
      obtain ⟨z, hz⟩ : ∃ z, z = popI (n : Int) := ⟨_, rfl⟩
      dsimp only at hp
      rw [← hz] at H hp
      clear hq hz
      go_enter Tryd.func20, Tryd.ntmps20
      go_wp2_with fail
      with_reducible refine (H.out _).mono ?_
      rintro e w' ⟨rfl, rfl⟩
      go_wp2
      go_ret
      exact ⟨rfl, rfl⟩
    · have hm : powB n = false := by rw [Bool.eq_false_iff]; intro e; have := powB_le e; omega
      rw [hm]
      clear hm
      go_enter Tryd.func20, Tryd.ntmps20
      go_wp2
      go_ret
      exact ⟨rfl, rfl⟩
  · have hm : powB n = false := by rw [Bool.eq_false_iff]; intro e; have := powB_le e; omega
    rw [hm]
    clear hm
    go_enter Tryd.func20, Tryd.ntmps20
    go_wp2
    go_ret
    exact ⟨rfl, rfl⟩
end Go.Proofs.YtafjnlikmjahfaaDoor
