/- What slices.Chunk's iterator asks a round to keep; the k-th chunk. No program. -/
import Derived.Test.YtafjnlikmjahfaaDoorRangeA
namespace Go.Proofs.YtafjnlikmjahfaaDoor
open Go.RowKit Go.Shelf

/-- the two boxes are as they were -/
def Kept2 (Bs Bn : Nat) (W W' : World) : Prop := W'.heap[Bs]? = W.heap[Bs]? ∧ W'.heap[Bn]? = W.heap[Bn]?
section
variable {Bs Bn : Nat} {A B C : World}
theorem Kept2.refl (Bs Bn : Nat) (A : World) : Kept2 Bs Bn A A := ⟨rfl, rfl⟩
theorem Kept2.trans (h : Kept2 Bs Bn A B) (k : Kept2 Bs Bn B C) : Kept2 Bs Bn A C := ⟨k.1.trans h.1, k.2.trans h.2⟩
theorem Kept2.cell_s (h : Kept2 Bs Bn A B) {v : Value} (hc : A.cell? ⟨Bs, 0, none⟩ = some v) : B.cell? ⟨Bs, 0, none⟩ = some v := (World.cell?_of_block (a := ⟨Bs, 0, none⟩) h.1).trans hc
theorem Kept2.cell_n (h : Kept2 Bs Bn A B) {v : Value} (hc : A.cell? ⟨Bn, 0, none⟩ = some v) : B.cell? ⟨Bn, 0, none⟩ = some v := (World.cell?_of_block (a := ⟨Bn, 0, none⟩) h.2).trans hc
theorem kept2_b {w : World} (h1 : Bs < w.heap.size) (h2 : Bn < w.heap.size) (W : World) (l : Nat) (o o' : Obj) (hl : w.heap.size ≤ l) (_ : W.heap[l]? = some o) (_ : o.isCells = false) (_ : o.isWalk = false) : Kept2 Bs Bn W (W.putObj l o') :=
  ⟨World.putObj_heap_other (by omega), World.putObj_heap_other (by omega)⟩
end
theorem take_fin {N k : Nat} (h : k < N) : (List.finRange N).take (k + 1) = (List.finRange N).take k ++ [⟨k, h⟩] := by
  rw [List.take_add_one]
  congr 1
  simp [h]
/-- the k-th chunk -/
def chunkV (sz : Nat) (A : Option Addr) (c k : Nat) : Value := .slice (A.map fun a => { a with off := a.off + k * c * sz }) c c
end Go.Proofs.YtafjnlikmjahfaaDoor
