/- The walk of the law ShaNobody. -/
import Derived.Test.YtokfhcnnhbgdjaaDoorLivesA
import Derived.Test.YtokfhcnnhbgdjaaDoorGuard
namespace Go.Proofs.YtokfhcnnhbgdjaaDoor
open Go.RowKit

theorem equal_zb32 (w : World) : (Op.equalIn 10000 28 (.agg zb32) (.agg zb32)).run Tryd.prog w = .ok true w := by
  have h := equal_dg (List.replicate 32 0) (List.replicate 32 0) (by simp) (by simp) w
  rw [show (l : List UInt8) → (l == l) = true from fun l => by simp] at h
  exact h

set_option maxRecDepth 100000 in
set_option maxHeartbeats 1000000 in
theorem shaNobody_any (v : Value) (b : List UInt8) (w : World) (hK : Kst w) (_ : Sl w v b) :
    Calls Tryd.prog 6 #[v] w fun e w' => e = .returned (.bool true) ∧ Ext w w' := by
  have heq := fun w => equal_zb32 w
  go_enter Tryd.func6, Tryd.ntmps6
  go_wp2_with fail
  refine (write_nil v w).mono ?_
  rintro e w' ⟨rfl, rfl⟩
  go_wp2_with fail
  refine (reset_nil _).mono ?_
  rintro e w' ⟨rfl, rfl⟩
  go_wp2_with fail
  refine (lives2_any _ hK).mono ?_
  rintro e w1 ⟨rfl, E1⟩
  go_wp2_with fail
  refine (sum_nil _).mono ?_
  rintro e w2 ⟨rfl, E2⟩
  go_wp2_with (refine wpList_unguard rfl ?_; refine wpList_build_to rfl 28 _ rfl zb32 (by kernel_rfl) ?_)
  refine (len_nil _).mono ?_
  rintro e w' ⟨rfl, rfl⟩
  go_wp2_with fail
  refine (fork_nil _).mono ?_
  rintro e w' ⟨rfl, rfl⟩
  go_wp2
  go_ret
  exact ⟨rfl, E1.trans E2⟩
end Go.Proofs.YtokfhcnnhbgdjaaDoor
