/- lamport: the sums that are gathered: contracts of add, digest; pursuivantref07.digest. -/
import Derived.Test.YtgbdmelnmmopaaaDoorLamB
namespace Go.Proofs.YtgbdmelnmmopaaaDoor
open Go.RowKit

/-- append(s, x...) of bytes, as one operation -/
theorem wp_appB {o : Oper} {a : Act} {K : Act → World → Prop} {Q : Exit → Act → World → Prop} {w : World} {base : Nat} {v xv : Value} {xs bs : List UInt8} (hown : Own w base v xs) (hr : Sl w xv bs) (s x : Operand)
    (ho : o.op = .call { callee := .builtin .append, args := #[s, x], argTypes := #[22, 22] }) (hs : a.eval s = v) (hx : a.eval x = xv) (hlen : xs.length + bs.length ≤ 1099511627776) (hbase : base ≤ w.heap.size)
    (h : ∀ v' w', Own w' base v' (xs ++ bs) → w.grownBy w' v.ownBlock → (v'.ownBlock = v.ownBlock ∨ v'.ownBlock = some w.heap.size) → K (a.put o.dst v') w') : o.wp Tryd.prog a w K Q := by
  obtain ⟨i0, hi, hz0, hz1, hz2⟩ := info_parts info_u8
  obtain ⟨A, c, rfl, hc⟩ := SlR.form hr
  obtain ⟨v', w', hrun, h2, h3, h4⟩ := run_append_sl (P := Tryd.prog) w base 22 o.type 5 i0 (.int .u8 0) 1 1 Tryd.underlying22 hi hz0 hz1 hz2 rfl (by omega) v xs.length (bytesV xs) hown A bs.length c (bytesV bs) hr (bytesV_one bs) (by unfold maxLen; omega) (by omega) hbase
  unfold Oper.wp execOp
  simp only [ho, resolve, invoke, builtin, Sem.run_bind, Sem.run_pure, Result.andThen_ok, List.map_toArray, List.map_cons, List.map_nil, hs, hx, hrun]
  exact h v' w' (own_mk h2 (by simp) (by rw [bytesV_append])) h3 h4

set_option maxRecDepth 100000 in
set_option maxHeartbeats 1000000 in
theorem ladd_any (g base : Nat) (v : Value) (bs d1 d2 : List UInt8) (w : World) (hB : Blk w g 56 #[v]) (hO : Own w base v bs) (hb : base ≤ g) (h1 : d1.length = 32) (h2 : d2.length = 32) (hlen : bs.length ≤ 1073741824) :
    Calls Tryd.prog 33 #[.pointer (some ⟨g, 0, none⟩), dgV d1, dgV d2] w fun e w' => e = .returned (.tuple #[]) ∧ ∃ v', Blk w' g 56 #[v'] ∧ Own w' base v' (bs ++ (d1 ++ d2)) ∧ Below base w w' := by
  obtain ⟨A, c, rfl, hc⟩ := hO.form
  have HO := Lib.hid hO
  have hgl : g < w.heap.size := hB.lt
  have H1 := Lib.hid h1
  have H2 := Lib.hid h2
  have HB := Lib.hid hB
  clear hO h1 h2 hB
  go_enter Tryd.func33, Tryd.ntmps33
  go_wp2
  have D1 := Blk.new w 30 (bytesV d1).toArray
  have D2 := Blk.new (w.alloc (.cells (bytesV d1).toArray 30)) 30 (bytesV d2).toArray
  rw [World.size_alloc] at D2
  have E1 : Ext w ((w.alloc (.cells (bytesV d1).toArray 30)).alloc (.cells (bytesV d2).toArray 30)) := ((Ext.refl w).alloc _).alloc _
  have D1' := D1.alloc (.cells (bytesV d2).toArray 30)
  revert D1' D2 E1
  generalize (w.alloc (.cells (bytesV d1).toArray 30)).alloc (.cells (bytesV d2).toArray 30) = w1
  intro D2 E1 D1'
  clear D1
  have hc0 : w1.drew.cell? ⟨g, 0, none⟩ = some (.slice A bs.length c) := (HB.out.ext E1).cell 0
  have S1 : Sl w1.drew (.slice (some ⟨w.heap.size, 0, none⟩) 32 32) d1 := by have := sl_of_blk D1'; rw [H1.out] at this; exact this.ext (Ext.refl w1).drew
  have S2 : Sl w1.drew (.slice (some ⟨w.heap.size + 1, 0, none⟩) 32 32) d2 := by have := sl_of_blk D2; rw [H2.out] at this; exact this.ext (Ext.refl w1).drew
  have HO1 := Lib.hid ((HO.out.ext E1).ext (Ext.refl w1).drew)
  refine wp_region_chain 9 [(true, 0), (true, 1), (true, 2), (true, 3), (true, 4), (true, 5), (true, 7), (false, 6), (false, 8)] (fun w' => w'.cell? ⟨g, 0, none⟩ = some (.slice A bs.length c)) (by kernel_rfl) (by kernel_rfl) hc0 ?_
  iterate 7
    refine wpTake_read _ _ ?_ rfl rfl ?_ ?_
    rotate_left 1
    focus
      intro wS hS
      try dsimp only at hS
      go_simp
      first | done | with_reducible rfl
    simp only [Act.put, List.setIfInBounds_toArray, List.set_cons_zero, List.set_cons_succ]
  have hB0 : Blk w1.drew g 56 #[.slice A bs.length c] := (HB.out.ext E1).drew
  have hne0 := HO1.out.ne hB0 (by decide)
  have hw1 : w.heap.size < w1.heap.size := D1'.lt
  have Hv1 := Lib.hid D1'
  have Hv2 := Lib.hid D2
  clear D1' D2
  have Hne0 := Lib.hid hne0
  have HS1 := Lib.hid S1
  have HS2 := Lib.hid S2
  have HB0 := Lib.hid hB0
  clear hne0 S1 S2 hB0
  refine wpTake_do _ _ rfl rfl (fun K hK => ?_)
  refine wp_appB HO1.out HS1.out _ _ rfl rfl rfl (by rw [H1.out]; omega) (by show base ≤ w1.heap.size; omega) ?_
  intro v2 w2 ho2 hg2 hq2
  refine hK _ _ (hg2.cell hc0 (Ne.symm Hne0.out)) ?_
  clear hK K
  simp only [Act.put, List.setIfInBounds_toArray, List.set_cons_zero, List.set_cons_succ]
  have hB2 := HB0.out.grown hg2 (Ne.symm Hne0.out)
  have S2' : Sl w2 (.slice (some ⟨w.heap.size + 1, 0, none⟩) 32 32) d2 := by
    have h5 := Hv2.out.grown (w := w1.drew) hg2 (fun e => HO1.out.ne (Hv2.out.drew) (by decide) e.symm)
    have := sl_of_blk h5
    rw [H2.out] at this
    exact this
  have hz2 : w1.heap.size ≤ w2.heap.size := hg2.size
  have hc2 : w2.cell? ⟨g, 0, none⟩ = some (.slice A bs.length c) := hg2.cell hc0 (Ne.symm Hne0.out)
  have hne2 := ho2.ne hB2 (by decide)
  refine wpTake_do _ _ rfl rfl (fun K hK => ?_)
  refine wp_appB ho2 S2' _ _ rfl rfl rfl (by rw [List.length_append, H1.out, H2.out]; omega) (by omega) ?_
  intro v3 w3 ho3 hg3 hq3
  refine hK _ _ (hg3.cell hc2 (Ne.symm hne2)) ?_
  clear hK K
  simp only [Act.put, List.setIfInBounds_toArray, List.set_cons_zero, List.set_cons_succ]
  refine wpTake_nil ?_
  simp only [List.drop_succ_cons, List.drop_zero]
  have hB3 := hB2.grown hg3 (Ne.symm hne2)
  have hc3 : w3.cell? ⟨g, 0, none⟩ = some (.slice A bs.length c) := hg3.cell hc2 (Ne.symm hne2)
  have hf3 := hB3.frozen 0
  have b01 : Below base w w1 := Below.mono E1 (by omega)
  have b12 : Below base w w2 := Below.grown (Below.drew b01) hg2 (by show base ≤ w1.heap.size; omega) HO1.out.from
  have b3 : Below base w w3 := Below.grown b12 hg3 (by omega) ho2.from
  have hne3 := ho3.ne hB3 (by decide)
  obtain ⟨A3, c3, rfl, hc3'⟩ := ho3.form
  have HO3 := Lib.hid ho3
  have HB3 := Lib.hid hB3
  have Hne3 := Lib.hid hne3
  clear hg3 hq3 ho3 hB3 hne3 hc2 S2' hB2 hg2 hq2 ho2 hne2 hc0
  go_wp2
  refine NoPanic.normal ?_
  go_wp2
  go_end0
  refine ⟨rfl, .slice A3 (bs.length + (d1.length + d2.length)) c3, HB3.out.set 0 _, ?_, Below.setCell b3 hb _⟩
  have hN : (bs ++ d1 ++ d2).length = bs.length + (d1.length + d2.length) := by simp
  have hg4 : w3.grownBy (w3.setCell ⟨g, 0, none⟩ (.slice A3 (bs.length + (d1.length + d2.length)) c3)) (some g) := ⟨rfl, rfl, rfl, by simp [World.setCell], fun k _ hk => heap_setCell_other w3 _ k _ (fun e => hk (by rw [e]))⟩
  have h9 := World.ownsRow.kept HO3.out hg4 (Or.inr Hne3.out)
  rw [hN, List.append_assoc] at h9
  exact own_mk h9 (by simp) rfl

theorem slAll_own {w : World} {v : Value} {bs : List UInt8} (t : TypeId) (h : Sl w v bs) : SlAll (w.alloc (.cells #[v] t)) (.slice (some ⟨w.heap.size, 0, none⟩) 1 1) [bs] := slAll_one t _ rfl h

set_option maxRecDepth 100000 in
set_option maxHeartbeats 400000 in
theorem ldigest_any (g : Nat) (v : Value) (bs : List UInt8) (w : World) (hK : Kst w) (hB : Blk w g 56 #[v]) (hS : Sl w v bs) (hlen : bs.length ≤ 1048576) :
    Calls Tryd.prog 34 #[.pointer (some ⟨g, 0, none⟩)] w fun e w' => e = .returned (dgV (digB bs)) ∧ Ext w w' := by
  obtain ⟨A, c, rfl, hc⟩ := hS.form
  have HV := Lib.hid hS
  have HB := Lib.hid hB
  clear hS hB
  have hl := digB_length bs
  obtain ⟨z, hz⟩ : ∃ z, z = digB bs := ⟨_, rfl⟩
  rw [← hz] at hl ⊢
  have Hl := Lib.hid hl
  have Hz := Lib.hid hz
  clear hl hz
  have hz32 : Hid (zb32.size = (bytesV z).toArray.size) := zb32_size _ Hl.out
  have hi32 : Hid ((Tryd.prog.info? 30).map (·.size) = some (bytesV z).toArray.size) := by rw [List.size_toArray, bytesV_length, Hl.out]; exact info_a32
  go_enter Tryd.func34, Tryd.ntmps34
  go_wp2_with (first | (refine wpList_alloc_blk rfl 30 rfl (.agg zb32) zero_a32 ?_; intro w1 hs1 hb1 he1; clear hs1; have hc0 : w1.cell? ⟨g, 0, none⟩ = some (.slice A bs.length c) := (HB.out.ext he1).cell 0))
  have Hc : Hid (Calls Tryd.prog 40 #[.string keyA, .slice (some ⟨w1.heap.size, 0, none⟩) 1 1] (w1.alloc (.cells #[.slice A bs.length c] 22)) fun e w' => e = .returned (dgV z) ∧ Ext (w1.alloc (.cells #[.slice A bs.length c] 22)) w') := by
    have := tagged_any keyA _ _ _ (hK.ext (he1.alloc _)) (slAll_own 22 (HV.out.ext he1)) (by decide) (by simpa using hlen) (by simp)
    rw [Hz.out]
    exact this
  refine Hc.out.mono ?_
  rintro e w3 ⟨rfl, E3⟩
  have B3 := (hb1.alloc (.cells #[.slice A bs.length c] 22)).ext E3
  go_wp2_with (first | (refine wpList_store_blk rfl 30 _ _ rfl w.heap.size (bytesV z).toArray rfl rfl 30 zb32 B3 hi32.out hz32.out (bytes_one _) ?_; intro w7 hs7 hb7 hg7))
  refine bodyPost_ret (v := dgV z) (ret_blk hb7 rfl rfl Tryd.underlying30 rfl hi32.out) rfl ?_
  exact ⟨rfl, ((he1.alloc _).trans E3).grown hg7 (by simp)⟩

set_option maxRecDepth 100000 in
set_option maxHeartbeats 400000 in
theorem r7digest_any (v : Value) (bs : List UInt8) (w : World) (hS : Sl w v bs) (hlen : bs.length ≤ 1048576) :
    Calls Tryd.prog 35 #[v] w fun e w' => e = .returned (dgV (digB bs)) ∧ Ext w w' := by
  obtain ⟨A, c, rfl, hc⟩ := hS.form
  have HV := Lib.hid hS
  clear hS
  have hl := digB_length bs
  obtain ⟨z, hz⟩ : ∃ z, z = digB bs := ⟨_, rfl⟩
  rw [← hz] at hl ⊢
  have Hl := Lib.hid hl
  have Hz := Lib.hid hz
  clear hl hz
  have hz32 : Hid (zb32.size = (bytesV z).toArray.size) := zb32_size _ Hl.out
  have hi32 : Hid ((Tryd.prog.info? 30).map (·.size) = some (bytesV z).toArray.size) := by rw [List.size_toArray, bytesV_length, Hl.out]; exact info_a32
  go_enter Tryd.func35, Tryd.ntmps35
  go_wp2_with (first | (refine wpList_alloc_blk rfl 30 rfl (.agg zb32) zero_a32 ?_; intro w1 hs1 hb1 he1; clear hs1))
  have Hc : Hid (Calls Tryd.prog 39 #[.string keyA, .slice (some ⟨w1.heap.size, 0, none⟩) 1 1] (w1.alloc (.cells #[.slice A bs.length c] 22)) fun e w' => e = .returned (dgV z) ∧ Ext (w1.alloc (.cells #[.slice A bs.length c] 22)) w') := by
    have := rTagged_any keyA _ _ _ (slAll_own 22 (HV.out.ext he1)) (by decide) (by simpa using hlen) (by simp)
    rw [Hz.out]
    exact this
  refine Hc.out.mono ?_
  rintro e w3 ⟨rfl, E3⟩
  have B3 := (hb1.alloc (.cells #[.slice A bs.length c] 22)).ext E3
  go_wp2_with (first | (refine wpList_store_blk rfl 30 _ _ rfl w.heap.size (bytesV z).toArray rfl rfl 30 zb32 B3 hi32.out hz32.out (bytes_one _) ?_; intro w7 hs7 hb7 hg7))
  refine bodyPost_ret (v := dgV z) (ret_blk hb7 rfl rfl Tryd.underlying30 rfl hi32.out) rfl ?_
  exact ⟨rfl, ((he1.alloc _).trans E3).grown hg7 (by simp)⟩
end Go.Proofs.YtgbdmelnmmopaaaDoor
