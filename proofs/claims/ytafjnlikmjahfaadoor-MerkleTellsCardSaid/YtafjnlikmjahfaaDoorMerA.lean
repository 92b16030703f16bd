/- merkle: what its functions compute, in plain words; the contracts of Node of both. -/
import Derived.Test.YtafjnlikmjahfaaDoorMerO
namespace Go.Proofs.YtafjnlikmjahfaaDoor
open Go.RowKit

abbrev nodA : ByteArray := ⟨#[109, 101, 114, 107, 108, 101, 32, 110, 111, 100, 101]⟩
/-- the node of two -/
def nodeB (l r : List UInt8) : List UInt8 := tagB nodA.data.toList [l, r]
theorem nodeB_length (l r : List UInt8) : (nodeB l r).length = 32 := tagB_length _ _

set_option maxRecDepth 100000 in
set_option maxHeartbeats 1000000 in
theorem mNode_any (l r : List UInt8) (hl : l.length = 32) (hr : r.length = 32) (w : World) (hK : Kst w) :
    Calls Tryd.prog 11 #[dgV l, dgV r] w fun e w' => e = .returned (dgV (nodeB l r)) ∧ Ext w w' := by
  have hn := nodeB_length l r
  obtain ⟨z, hz⟩ : ∃ z, z = nodeB l r := ⟨_, rfl⟩
  rw [← hz] at hn ⊢
  have Hn := Lib.hid hn
  have Hz := Lib.hid hz
  have Hl := Lib.hid hl
  have Hr := Lib.hid hr
  clear hz hn hl hr
  have hz32 : Hid (zb32.size = (bytesV z).toArray.size) := zb32_size _ Hn.out
  have hi32 : Hid ((Tryd.prog.info? 30).map (·.size) = some (bytesV z).toArray.size) := dg_i z Hn.out
  have B0 := Blk.new w 30 (bytesV l).toArray
  have B1 := Blk.new (w.alloc (.cells (bytesV l).toArray 30)) 30 (bytesV r).toArray
  rw [World.size_alloc] at B1
  replace B0 := B0.alloc (.cells (bytesV r).toArray 30)
  have E0 : Ext w ((w.alloc (.cells (bytesV l).toArray 30)).alloc (.cells (bytesV r).toArray 30)) := ((Ext.refl w).alloc _).alloc _
  go_enter Tryd.func11, Tryd.ntmps11
  go_wp2_with (first | (refine wpList_alloc_blk rfl 30 rfl (.agg zb32) zero_a32 ?_; intro w1 hs1 hb1 he1; clear hs1))
  simp only [World.size_alloc] at hb1
  have E1 := E0.trans he1
  have S0 : Sl w1 (.slice (some ⟨w.heap.size, 0, none⟩) 32 32) l := sl_blk32 (B0.ext he1) Hl.out
  have S1 : Sl w1 (.slice (some ⟨w.heap.size + 1, 0, none⟩) 32 32) r := sl_blk32 (B1.ext he1) Hr.out
  have Hc : Hid (Calls Tryd.prog 24 #[.string nodA, .slice (some ⟨w1.heap.size, 0, none⟩) 2 2] (w1.drew.alloc (.cells #[.slice (some ⟨w.heap.size, 0, none⟩) 32 32, .slice (some ⟨w.heap.size + 1, 0, none⟩) 32 32] 51)) fun e w' => e = .returned (dgV z) ∧ Ext (w1.drew.alloc (.cells #[.slice (some ⟨w.heap.size, 0, none⟩) 32 32, .slice (some ⟨w.heap.size + 1, 0, none⟩) 32 32] 51)) w') := by
    have := tagged_any nodA _ _ _ (hK.ext (E1.trans ((Ext.refl w1).drew.alloc _))) (slAll_two (w := w1.drew) 51 w1.heap.size rfl (S0.ext (Ext.refl w1).drew) (S1.ext (Ext.refl w1).drew)) (by decide) (by simp [Hl.out, Hr.out]) (by simp)
    rw [Hz.out]
    exact this
  have hwd : Ext w1 (w1.drew.alloc (.cells #[.slice (some ⟨w.heap.size, 0, none⟩) 32 32, .slice (some ⟨w.heap.size + 1, 0, none⟩) 32 32] 51)) := (Ext.refl w1).drew.alloc _
  clear B0 B1 E0 he1 S0 S1
  go_wp2_with fail
  refine wp_region_chain 4 [(true, 0), (true, 1), (false, 2), (false, 3)] (fun _ => True) (by kernel_rfl) (by kernel_rfl) trivial ?_
  iterate 2
    refine wpTake_read _ _ ?_ rfl rfl ?_ ?_
    rotate_left 1
    focus
      intro wS hS
      clear hS
      go_simp
      first | done | with_reducible rfl
    simp only [Act.put, List.setIfInBounds_toArray, List.set_cons_zero, List.set_cons_succ]
  refine wpTake_do _ _ rfl rfl (fun K hK' => ?_)
  go_simp
  refine hK' _ _ trivial ?_
  clear hK' K
  refine wpTake_do _ _ rfl rfl (fun K hK' => ?_)
  go_simp
  refine Hc.out.mono ?_
  rintro e w3 ⟨rfl, E3⟩
  refine hK' _ _ trivial ?_
  clear hK' K
  refine wpTake_nil ?_
  simp only [List.drop_succ_cons, List.drop_zero]
  have E13 := hwd.trans E3
  have B3 := hb1.ext E13
  go_wp2_with (first | (refine wpList_store_blk rfl 30 _ _ rfl (w.heap.size + 1 + 1) (bytesV z).toArray rfl rfl 30 zb32 B3 hi32.out hz32.out (bytes_one _) ?_; intro w7 hs7 hb7 hg7))
  refine NoPanic.normal ?_
  go_wp2
  refine bodyPost_ret (v := dgV z) (ret_blk hb7 rfl rfl Tryd.underlying30 rfl hi32.out) rfl ?_
  exact ⟨rfl, (E1.trans E13).grown hg7 (by simp; omega)⟩

set_option maxRecDepth 100000 in
set_option maxHeartbeats 1000000 in
theorem r8Node_any (l r : List UInt8) (hl : l.length = 32) (hr : r.length = 32) (w : World) :
    Calls Tryd.prog 12 #[dgV l, dgV r] w fun e w' => e = .returned (dgV (nodeB l r)) ∧ Ext w w' := by
  have hn := nodeB_length l r
  obtain ⟨z, hz⟩ : ∃ z, z = nodeB l r := ⟨_, rfl⟩
  rw [← hz] at hn ⊢
  have Hn := Lib.hid hn
  have Hz := Lib.hid hz
  have Hl := Lib.hid hl
  have Hr := Lib.hid hr
  clear hz hn hl hr
  have hz32 : Hid (zb32.size = (bytesV z).toArray.size) := zb32_size _ Hn.out
  have hi32 : Hid ((Tryd.prog.info? 30).map (·.size) = some (bytesV z).toArray.size) := dg_i z Hn.out
  have B0 := Blk.new w 30 (bytesV l).toArray
  have B1 := Blk.new (w.alloc (.cells (bytesV l).toArray 30)) 30 (bytesV r).toArray
  rw [World.size_alloc] at B1
  replace B0 := B0.alloc (.cells (bytesV r).toArray 30)
  have E0 : Ext w ((w.alloc (.cells (bytesV l).toArray 30)).alloc (.cells (bytesV r).toArray 30)) := ((Ext.refl w).alloc _).alloc _
  go_enter Tryd.func12, Tryd.ntmps12
  go_wp2_with (first | (refine wpList_alloc_blk rfl 30 rfl (.agg zb32) zero_a32 ?_; intro w1 hs1 hb1 he1; clear hs1))
  simp only [World.size_alloc] at hb1
  have E1 := E0.trans he1
  have S0 : Sl w1 (.slice (some ⟨w.heap.size, 0, none⟩) 32 32) l := sl_blk32 (B0.ext he1) Hl.out
  have S1 : Sl w1 (.slice (some ⟨w.heap.size + 1, 0, none⟩) 32 32) r := sl_blk32 (B1.ext he1) Hr.out
  have Hc : Hid (Calls Tryd.prog 25 #[.string nodA, .slice (some ⟨w1.heap.size, 0, none⟩) 2 2] (w1.drew.alloc (.cells #[.slice (some ⟨w.heap.size, 0, none⟩) 32 32, .slice (some ⟨w.heap.size + 1, 0, none⟩) 32 32] 51)) fun e w' => e = .returned (dgV z) ∧ Ext (w1.drew.alloc (.cells #[.slice (some ⟨w.heap.size, 0, none⟩) 32 32, .slice (some ⟨w.heap.size + 1, 0, none⟩) 32 32] 51)) w') := by
    have := rTagged_any nodA _ _ _ (slAll_two (w := w1.drew) 51 w1.heap.size rfl (S0.ext (Ext.refl w1).drew) (S1.ext (Ext.refl w1).drew)) (by decide) (by simp [Hl.out, Hr.out]) (by simp)
    rw [Hz.out]
    exact this
  have hwd : Ext w1 (w1.drew.alloc (.cells #[.slice (some ⟨w.heap.size, 0, none⟩) 32 32, .slice (some ⟨w.heap.size + 1, 0, none⟩) 32 32] 51)) := (Ext.refl w1).drew.alloc _
  clear B0 B1 E0 he1 S0 S1
  go_wp2_with fail
  refine wp_region_chain 4 [(true, 0), (true, 1), (false, 2), (false, 3)] (fun _ => True) (by kernel_rfl) (by kernel_rfl) trivial ?_
  iterate 2
    refine wpTake_read _ _ ?_ rfl rfl ?_ ?_
    rotate_left 1
    focus
      intro wS hS
      clear hS
      go_simp
      first | done | with_reducible rfl
    simp only [Act.put, List.setIfInBounds_toArray, List.set_cons_zero, List.set_cons_succ]
  refine wpTake_do _ _ rfl rfl (fun K hK' => ?_)
  go_simp
  refine hK' _ _ trivial ?_
  clear hK' K
  refine wpTake_do _ _ rfl rfl (fun K hK' => ?_)
  go_simp
  refine Hc.out.mono ?_
  rintro e w3 ⟨rfl, E3⟩
  refine hK' _ _ trivial ?_
  clear hK' K
  refine wpTake_nil ?_
  simp only [List.drop_succ_cons, List.drop_zero]
  have E13 := hwd.trans E3
  have B3 := hb1.ext E13
  go_wp2_with (first | (refine wpList_store_blk rfl 30 _ _ rfl (w.heap.size + 1 + 1) (bytesV z).toArray rfl rfl 30 zb32 B3 hi32.out hz32.out (bytes_one _) ?_; intro w7 hs7 hb7 hg7))
  refine NoPanic.normal ?_
  go_wp2
  refine bodyPost_ret (v := dgV z) (ret_blk hb7 rfl rfl Tryd.underlying30 rfl hi32.out) rfl ?_
  exact ⟨rfl, (E1.trans E13).grown hg7 (by simp; omega)⟩
end Go.Proofs.YtafjnlikmjahfaaDoor
