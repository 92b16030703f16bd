/- Contracts of pursuivantref02.round, first and sha.start. -/
import Derived.Test.YtafjnlikmjahfaaDoorShaC
namespace Go.Proofs.YtafjnlikmjahfaaDoor
open Go.RowKit

theorem kvals_size : kvals.toArray.size = 64 := by rw [List.size_toArray, kvals_length]
theorem kvals_one : kvals.toArray.all (·.oneCell') = true := cells32_one ks

set_option maxRecDepth 100000 in
set_option maxHeartbeats 400000 in
theorem round_any (t : Nat) (h : t < 64) (w : World) :
    Calls Tryd.prog 54 #[.int .i64 (t : Int)] w fun e w' => e = .returned (.int .u32 (ks[t]?.getD 0)) ∧ Ext w w' := by
  go_enter Tryd.func54, Tryd.ntmps54
  go_wp2_with (first | (refine wpList_build_to rfl 86 _ rfl kvals.toArray (by kernel_rfl) ?_) | (refine wpList_alloc_blk rfl 86 rfl (.agg (zeros 64)) zero_a64 ?_; intro w2 hs2 hb2 he2) | (refine wpList_store_blk rfl 86 _ _ rfl w.heap.size kvals.toArray rfl rfl 86 (zeros 64) hb2 (by rw [kvals_size]; exact info_a64) (by rw [kvals_size]; simp [zeros]) kvals_one ?_; intro w3 hs3 hb3 hg3; have c1 : w3.cell? ⟨w.heap.size, t, none⟩ = some (.int .u32 (ks[t]?.getD 0)) := by rw [hb3.cell]; exact kvals_get t h))
  go_ret
  exact ⟨rfl, he2.grown hg3 (by simp)⟩

set_option maxRecDepth 100000 in
set_option maxHeartbeats 400000 in
theorem start_any (w : World) :
    Calls Tryd.prog 40 #[] w fun e w' => e = .returned (.agg start.vals) ∧ Ext w w' := by
  go_enter Tryd.func40, Tryd.ntmps40
  go_wp2
  refine bodyPost_ret (v := .agg start.vals) (by simp [results, Tryd.results40, go_sem, start, St.vals]) rfl ?_
  exact ⟨rfl, (Ext.refl w).alloc _⟩

set_option maxRecDepth 100000 in
set_option maxHeartbeats 400000 in
theorem first_any (w : World) :
    Calls Tryd.prog 48 #[] w fun e w' => e = .returned (.agg start.vals) ∧ Ext w w' := by
  go_enter Tryd.func48, Tryd.ntmps48
  go_wp2
  refine bodyPost_ret (v := .agg start.vals) (by simp [results, Tryd.results48, go_sem, start, St.vals]) rfl ?_
  exact ⟨rfl, (Ext.refl w).alloc _⟩
end Go.Proofs.YtafjnlikmjahfaaDoor
