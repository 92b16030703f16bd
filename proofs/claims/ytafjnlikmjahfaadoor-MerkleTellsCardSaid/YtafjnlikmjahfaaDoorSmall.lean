/- Small laws that many walks use: == of digests, constants as bytes, slices of slices just built, a whole array loaded in a region that draws its order. -/
import Derived.Test.YtafjnlikmjahfaaDoorOfB
import Derived.Test.YtafjnlikmjahfaaDoorGuard
import Derived.Stop.BytesEq
import Derived.ChangeKeysEq
import Derived.Lib.SlBytesConst
namespace Go.Proofs.YtafjnlikmjahfaaDoor
open Go.RowKit
attribute [local go_sem] Later.cell?
theorem info_u32 : (Tryd.prog.info? 70).map (fun i => (i.zero, i.size, i.bytes)) = some (some (.int .u32 0), 1, 4) := by kernel_rfl
theorem size_u8 (w : World) : (sizeOf 5).run Tryd.prog w = .ok 1 w := by kernel_rfl
/-- == of digests -/
theorem equal_dg (l m : List UInt8) (hl : l.length = 32) (hm : m.length = 32) (w : World) : (Op.equalIn 10000 30 (.agg (bytesV l).toArray) (.agg (bytesV m).toArray)).run Tryd.prog w = .ok (l == m) w :=
  run_equalIn_bytes (P := Tryd.prog) w 9998 30 5 32 Tryd.underlying30 Tryd.underlying5 size_u8 l m hl hm
/-- == of a state and itself -/
theorem equal_a8 (z : St) (w : World) : (Op.equalIn 10000 73 (.agg z.vals) (.agg z.vals)).run Tryd.prog w = .ok true w := by
  have hi := info_parts info_u32
  obtain ⟨i0, hi, hz0, hz1, hz2⟩ := hi
  rw [run_equalIn_array (P := Tryd.prog) w 9999 z.vals z.vals Tryd.underlying73 hi]
  have hc : Tryd.prog.cellsOf 70 = 1 := by kernel_rfl
  simp [List.range_succ, Op.eqItems, part, isAgg, run_underlying Tryd.underlying70, St.vals, hc, run_equalIn_int _ 9998 70 .u32 .u32 _ _ Tryd.underlying70]
theorem feed_one (s : St) (l : List UInt8) (h : l.length = 64) : feed s l = (blk s l, []) := by
  rw [feed_more s l (by omega), List.take_of_length_le (by omega), List.drop_of_length_le (by omega), feed_less _ _ (by simp)]
/-- []byte("constant"): the block is marked behind its end -/
theorem conv_const (w : World) (C : Array Value) (n c H : Nat) (h : w.heap.size = H) : (convert 51 51 (.slice (some ⟨H, 0, none⟩) n c)).run Tryd.prog (w.alloc (.cells C 5)) = .ok (.slice (some ⟨H, 0, none⟩) n c) (w.alloc (.cells C 5 (C.size, C.size + 1))) := by
  subst h
  exact Lib.run_convert_bytes_const (P := Tryd.prog) w 51 5 C n c Tryd.underlying51 Tryd.underlying5
theorem sl_mark (w : World) (t : TypeId) (fr : Nat × Nat) (l : List UInt8) (H : Nat) (h : w.heap.size = H) : Sl (w.alloc (.cells (bytesV l).toArray t fr)) (.slice (some ⟨H, 0, none⟩) l.length l.length) l := by
  subst h
  refine SlR.of_cells (by rw [bytesV_length]; omega) (Nat.le_refl _) (fun j v hv => ?_)
  rw [Nat.zero_add, cell_of_row _ w.heap.size j (bytesV l).toArray t fr (heap_alloc_new w _)]
  simpa using hv
theorem slAll_at (w : World) (t : TypeId) (vs : List Value) (bss : List (List UInt8)) (H : Nat) (hH : w.heap.size = H) (hl : vs.length = bss.length) (h : ∀ (i : Nat) (bs : List UInt8), bss[i]? = some bs → ∃ v, vs[i]? = some v ∧ Sl w v bs) :
    SlAll (w.alloc (.cells vs.toArray t)) (.slice (some ⟨H, 0, none⟩) bss.length bss.length) bss := by
  subst hH
  exact slAll_new w t vs bss hl h
theorem slAll_three {w : World} {v0 v1 v2 : Value} {b0 b1 b2 : List UInt8} (t : TypeId) (H : Nat) (hH : w.heap.size = H) (h0 : Sl w v0 b0) (h1 : Sl w v1 b1) (h2 : Sl w v2 b2) : SlAll (w.alloc (.cells #[v0, v1, v2] t)) (.slice (some ⟨H, 0, none⟩) 3 3) [b0, b1, b2] :=
  slAll_at w t [v0, v1, v2] [b0, b1, b2] H hH rfl (by
    intro i bs hi
    rcases i with _ | _ | _ | i
    · simp at hi; subst hi; exact ⟨_, rfl, h0⟩
    · simp at hi; subst hi; exact ⟨_, rfl, h1⟩
    · simp at hi; subst hi; exact ⟨_, rfl, h2⟩
    · simp at hi)
theorem slAll_two {w : World} {v0 v1 : Value} {b0 b1 : List UInt8} (t : TypeId) (H : Nat) (hH : w.heap.size = H) (h0 : Sl w v0 b0) (h1 : Sl w v1 b1) : SlAll (w.alloc (.cells #[v0, v1] t)) (.slice (some ⟨H, 0, none⟩) 2 2) [b0, b1] :=
  slAll_at w t [v0, v1] [b0, b1] H hH rfl (by
    intro i bs hi
    rcases i with _ | _ | i
    · simp at hi; subst hi; exact ⟨_, rfl, h0⟩
    · simp at hi; subst hi; exact ⟨_, rfl, h1⟩
    · simp at hi)
theorem slAll_one {w : World} {v0 : Value} {b0 : List UInt8} (t : TypeId) (H : Nat) (hH : w.heap.size = H) (h0 : Sl w v0 b0) : SlAll (w.alloc (.cells #[v0] t)) (.slice (some ⟨H, 0, none⟩) 1 1) [b0] :=
  slAll_at w t [v0] [b0] H hH rfl (by
    intro i bs hi
    rcases i with _ | i
    · simp at hi; subst hi; exact ⟨_, rfl, h0⟩
    · simp at hi)
/-- a load of many cells in a region that draws its order -/
theorem quiet_load {P : Program} {ops : Array Oper} {C : World → Prop} {Q : Act → Prop} {a : Act} {o : Oper} {rest : List Oper} (hw : Region.wanted o (yielded ops a.tmps) = true) (ty : TypeId) (x : Operand) (ho : o.op = .load ty x) (v : Value)
    (h : ∀ w, C w → (Instr.loadAt ty (a.eval x)).run P w = .ok v w) (hk : wpQuiet P ops C Q rest (a.put o.dst v)) : wpQuiet P ops C Q (o :: rest) a := by
  refine wpQuiet_step fun K hK => ?_
  rw [if_pos hw]
  refine ⟨v, fun w hC => ?_, hK _ hk⟩
  unfold Oper.quietAt execOp
  simp only [ho, Sem.run_bind, h w hC, Result.andThen_ok, Sem.run_pure]
  exact ⟨rfl, rfl⟩
theorem loadVar_dg {w : World} {g : Nat} {t : TypeId} {l : List UInt8} (h : Blk w g t (bytesV l).toArray) (hl : l.length = 32) : (loadVar 30 ⟨g, 0, none⟩).run Tryd.prog w = .ok (.agg (bytesV l).toArray) w :=
  run_loadVar_mid w g 0 30 (bytesV l) _ (fun j v hv => by rw [Nat.zero_add, h.cell]; simpa using hv) Tryd.underlying30 rfl (by rw [bytesV_length, hl]; exact info_a32)
theorem load_dg {w : World} {g : Nat} {t : TypeId} {l : List UInt8} (h : Blk w g t (bytesV l).toArray) (hl : l.length = 32) : (Instr.loadAt 30 (.pointer (some ⟨g, 0, none⟩))).run Tryd.prog w = .ok (.agg (bytesV l).toArray) w :=
  run_loadAt_mid w g 0 30 (bytesV l) _ (fun j v hv => by rw [Nat.zero_add, h.cell]; simpa using hv) Tryd.underlying30 rfl (by rw [bytesV_length, hl]; exact info_a32)
theorem eq_dg (z : List UInt8) (hl : z.length = 32) (w : World) : (Op.equalIn 10000 30 (.agg (bytesV z).toArray) (.agg (bytesV z).toArray)).run Tryd.prog w = .ok true w := by rw [equal_dg z z hl hl w]; simp
end Go.Proofs.YtafjnlikmjahfaaDoor
