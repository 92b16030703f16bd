/- A slice of four digests, written out; the tree of them. -/
import Derived.Test.YtafjnlikmjahfaaDoorMerG
namespace Go.Proofs.YtafjnlikmjahfaaDoor
open Go.RowKit

theorem run_build_dg4 (d0 d1 d2 d3 : List UInt8) (h0 : d0.length = 32) (h1 : d1.length = 32) (h2 : d2.length = 32) (h3 : d3.length = 32) (w : World) :
    (Instr.buildSlice 22 4 #[(0, dgV d0), (1, dgV d1), (2, dgV d2), (3, dgV d3)]).run Tryd.prog w = .ok (.slice (some ⟨w.heap.size, 0, none⟩) 4 4) (w.alloc (.cells (bytesV ([d0, d1, d2, d3].flatten)).toArray 30)) := by
  obtain ⟨i0, hi, hz0, hz1, hz2⟩ := info_parts info_a32x
  refine run_buildSlice (P := Tryd.prog) w 22 30 4 _ _ i0 (.agg zb32) Tryd.underlying22 hi hz0 (by rw [hz1]; decide) (by rw [hz1]; decide) ?_
  rw [hz1]
  have := Great.fill_whole (s := 32) (by omega) [dgV d0, dgV d1, dgV d2, dgV d3] ((Array.range (4 * 32)).map ((Value.agg zb32).cells[· % (Value.agg zb32).cells.size]!)) (by simp [Value.cells, bytesV_length, h0, h1, h2, h3]) (by simp)
  rw [show (bytesV ([d0, d1, d2, d3].flatten)).toArray = ([dgV d0, dgV d1, dgV d2, dgV d3].flatMap fun v => v.cells.toList).toArray from by simp [Value.cells, bytesV]]
  exact this
theorem wpList_build_dg4 {ops : Array Oper} {rest : List Oper} {o : Oper} {a : Act} {Q : Exit → Act → World → Prop} {w : World} (d0 d1 d2 d3 : List UInt8) (h0 : d0.length = 32) (h1 : d1.length = 32) (h2 : d2.length = 32) (h3 : d3.length = 32) (hgd : o.guard = none)
    (x0 x1 x2 x3 : Operand) (ho : o.op = .buildSlice 22 4 #[(0, x0), (1, x1), (2, x2), (3, x3)]) (e0 : a.eval x0 = dgV d0) (e1 : a.eval x1 = dgV d1) (e2 : a.eval x2 = dgV d2) (e3 : a.eval x3 = dgV d3)
    (h : ∀ w1, Ext w w1 → SlD w1 (.slice (some ⟨w.heap.size, 0, none⟩) 4 4) [d0, d1, d2, d3] → wpList Tryd.prog ops Q rest (a.put o.dst (.slice (some ⟨w.heap.size, 0, none⟩) 4 4)) w1) : wpList Tryd.prog ops Q (o :: rest) a w := by
  refine wpList_plain hgd fun K hK => ?_
  have hr := run_build_dg4 d0 d1 d2 d3 h0 h1 h2 h3 w
  unfold Oper.wp execOp
  simp only [ho, List.map_toArray, List.map_cons, List.map_nil, e0, e1, e2, e3, Sem.run_bind, hr, Result.andThen_ok, Sem.run_pure]
  refine hK _ _ (h _ ((Ext.refl w).alloc _) ⟨SlR.of_cells (by simp [bytesV_length, h0, h1, h2, h3]) (Nat.le_refl _) (cells_blk (Blk.new w 30 _)), ?_⟩)
  intro d hd
  simp only [List.mem_cons, List.not_mem_nil, or_false] at hd
  rcases hd with rfl | rfl | rfl | rfl <;> assumption

def dk (k : UInt8) : List UInt8 := k :: List.replicate 31 0
theorem dk_length (k : UInt8) : (dk k).length = 32 := by simp [dk]
def ds4 : List (List UInt8) := [dk 1, dk 2, dk 3, dk 4]
theorem root4 : rootB ds4 2 = nodeB (nodeB (dk 1) (dk 2)) (nodeB (dk 3) (dk 4)) := by
  simp [rootB, lev, upB, upT, nodeAt, dAt, ds4, List.range_succ]
theorem way4_0 : dAt (wayT ds4 2 2) 0 = dk 4 := by
  simp [wayT, dAt, ds4, List.range_succ, bes, lev]
theorem climb4 : climbB (dk 3) 2 (wayT ds4 2 2) = rootB ds4 2 := climb_way (ds := ds4) (H := 2) (i := 2) rfl (by decide)
end Go.Proofs.YtafjnlikmjahfaaDoor
