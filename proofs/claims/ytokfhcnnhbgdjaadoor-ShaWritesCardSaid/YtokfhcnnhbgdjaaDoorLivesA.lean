/- The contract of pursuivantlaw02.lives: it answers true. -/
import Derived.Test.YtokfhcnnhbgdjaaDoorOfB
import Derived.Stop.BytesEq
import Derived.ChangeKeysEq
import Derived.Lib.SlBytesConst
namespace Go.Proofs.YtokfhcnnhbgdjaaDoor
open Go.RowKit
attribute [local go_sem] Later.cell?

theorem info_u32 : (Tryd.prog.info? 22).map (fun i => (i.zero, i.size, i.bytes)) = some (some (.int .u32 0), 1, 4) := by kernel_rfl
theorem size_u8 (w : World) : (sizeOf 5).run Tryd.prog w = .ok 1 w := by kernel_rfl
/-- == of digests -/
theorem equal_dg (l m : List UInt8) (hl : l.length = 32) (hm : m.length = 32) (w : World) : (Op.equalIn 10000 28 (.agg (bytesV l).toArray) (.agg (bytesV m).toArray)).run Tryd.prog w = .ok (l == m) w :=
  run_equalIn_bytes (P := Tryd.prog) w 9998 28 5 32 Tryd.underlying28 Tryd.underlying5 size_u8 l m hl hm
/-- == of a state and itself -/
theorem equal_a8 (z : St) (w : World) : (Op.equalIn 10000 23 (.agg z.vals) (.agg z.vals)).run Tryd.prog w = .ok true w := by
  have hi := info_parts info_u32
  obtain ⟨i0, hi, hz0, hz1, hz2⟩ := hi
  rw [run_equalIn_array (P := Tryd.prog) w 9999 z.vals z.vals Tryd.underlying23 hi]
  have hc : Tryd.prog.cellsOf 22 = 1 := by kernel_rfl
  simp [List.range_succ, Op.eqItems, part, isAgg, run_underlying Tryd.underlying22, St.vals, hc, run_equalIn_int _ 9998 22 .u32 .u32 _ _ Tryd.underlying22]

theorem feed_one (s : St) (l : List UInt8) (h : l.length = 64) : feed s l = (blk s l, []) := by
  rw [feed_more s l (by omega), List.take_of_length_le (by omega), List.drop_of_length_le (by omega), feed_less _ _ (by simp)]
/-- []byte("constant"): the block is marked behind its end -/
theorem conv_const (w : World) (C : Array Value) (n c H : Nat) (h : w.heap.size = H) : (convert 24 24 (.slice (some ⟨H, 0, none⟩) n c)).run Tryd.prog (w.alloc (.cells C 5)) = .ok (.slice (some ⟨H, 0, none⟩) n c) (w.alloc (.cells C 5 (C.size, C.size + 1))) := by
  subst h
  exact Lib.run_convert_bytes_const (P := Tryd.prog) w 24 5 C n c Tryd.underlying24 Tryd.underlying5
theorem sl_mark (w : World) (t : TypeId) (fr : Nat × Nat) (l : List UInt8) (H : Nat) (h : w.heap.size = H) : Sl (w.alloc (.cells (bytesV l).toArray t fr)) (.slice (some ⟨H, 0, none⟩) l.length l.length) l := by
  subst h
  refine SlR.of_cells (by rw [bytesV_length]; omega) (Nat.le_refl _) (fun j v hv => ?_)
  rw [Nat.zero_add, cell_of_row _ w.heap.size j (bytesV l).toArray t fr (heap_alloc_new w _)]
  simpa using hv
theorem slAll_at (w : World) (t : TypeId) (vs : List Value) (bss : List (List UInt8)) (H : Nat) (hH : w.heap.size = H) (hl : vs.length = bss.length) (h : ∀ (i : Nat) (bs : List UInt8), bss[i]? = some bs → ∃ v, vs[i]? = some v ∧ Sl w v bs) :
    SlAll (w.alloc (.cells vs.toArray t)) (.slice (some ⟨H, 0, none⟩) bss.length bss.length) bss := by
  subst hH
  exact slAll_new w t vs bss hl h
theorem slAll_three {w : World} {v0 v1 v2 : Value} {b0 b1 b2 : List UInt8} (t : TypeId) (H : Nat) (hH : w.heap.size = H) (h0 : Sl w v0 b0) (h1 : Sl w v1 b1) (h2 : Sl w v2 b2) : SlAll (w.alloc (.cells #[v0, v1, v2] t)) (.slice (some ⟨H, 0, none⟩) 3 3) [b0, b1, b2] :=
  slAll_at w t [v0, v1, v2] [b0, b1, b2] H hH rfl (by
    intro i bs hi
    rcases i with _ | _ | _ | i
    · simp at hi; subst hi; exact ⟨_, rfl, h0⟩
    · simp at hi; subst hi; exact ⟨_, rfl, h1⟩
    · simp at hi; subst hi; exact ⟨_, rfl, h2⟩
    · simp at hi)
theorem slAll_two {w : World} {v0 v1 : Value} {b0 b1 : List UInt8} (t : TypeId) (H : Nat) (hH : w.heap.size = H) (h0 : Sl w v0 b0) (h1 : Sl w v1 b1) : SlAll (w.alloc (.cells #[v0, v1] t)) (.slice (some ⟨H, 0, none⟩) 2 2) [b0, b1] :=
  slAll_at w t [v0, v1] [b0, b1] H hH rfl (by
    intro i bs hi
    rcases i with _ | _ | i
    · simp at hi; subst hi; exact ⟨_, rfl, h0⟩
    · simp at hi; subst hi; exact ⟨_, rfl, h1⟩
    · simp at hi)
theorem slAll_one {w : World} {v0 : Value} {b0 : List UInt8} (t : TypeId) (H : Nat) (hH : w.heap.size = H) (h0 : Sl w v0 b0) : SlAll (w.alloc (.cells #[v0] t)) (.slice (some ⟨H, 0, none⟩) 1 1) [b0] :=
  slAll_at w t [v0] [b0] H hH rfl (by
    intro i bs hi
    rcases i with _ | i
    · simp at hi; subst hi; exact ⟨_, rfl, h0⟩
    · simp at hi)
def abc : List UInt8 := [97, 98, 99]
theorem sum_nothing : (sumB []).take 4 = [227, 176, 196, 66] := by
  have h : sumB [] = outB (blk start (padB 0)) := by rw [sumB, List.length_nil, List.nil_append, feed_one start _ (by decide +kernel)]
  rw [h]
  decide +kernel
theorem sum_abc : (sumB abc).take 4 = [186, 120, 22, 191] := by
  have h : sumB abc = outB (blk start (abc ++ padB 3)) := by rw [sumB, show abc.length = 3 from rfl, feed_one start _ (by decide +kernel)]
  rw [h]
  decide +kernel
theorem take4 {l : List UInt8} {a b c d : UInt8} (h : l.take 4 = [a, b, c, d]) : l[0]? = some a ∧ l[1]? = some b ∧ l[2]? = some c ∧ l[3]? = some d := by
  have hg : ∀ i, i < 4 → l[i]? = [a, b, c, d][i]? := fun i hi => by rw [← h, List.getElem?_take, if_pos hi]
  exact ⟨hg 0 (by omega), hg 1 (by omega), hg 2 (by omega), hg 3 (by omega)⟩
theorem cell_dg {w : World} {g : Nat} {t : TypeId} {l : List UInt8} (h : Blk w g t (bytesV l).toArray) {i : Nat} {b : UInt8} (hi : l[i]? = some b) : w.cell? ⟨g, i, none⟩ = some (.int .u8 (b.toNat : Int)) := by
  rw [h.cell]; simp [bytesV, byteV, hi]

theorem conv_four {w : World} {g : Nat} {a b c d : Int} (h0 : w.cell? ⟨g, 0, none⟩ = some (.int .u8 a)) (h1 : w.cell? ⟨g, 1, none⟩ = some (.int .u8 b)) (h2 : w.cell? ⟨g, 2, none⟩ = some (.int .u8 c)) (h3 : w.cell? ⟨g, 3, none⟩ = some (.int .u8 d)) (cap : Nat) :
    (convert 24 9 (.slice (some ⟨g, 0, none⟩) 4 cap)).run Tryd.prog w = .ok (.string ⟨#[UInt8.ofNat a.toNat, UInt8.ofNat b.toNat, UInt8.ofNat c.toNat, UInt8.ofNat d.toNat]⟩) w :=
  run_convert_bytes_arg (P := Tryd.prog) w 24 5 Tryd.underlying24 Tryd.underlying5 g 0 4 cap [a, b, c, d] rfl (by
    intro i hi
    rcases i with _ | _ | _ | _ | i
    · exact h0
    · exact h1
    · exact h2
    · exact h3
    · omega) 9 Tryd.underlying9
/-- a load of many cells in a region that draws its order -/
theorem quiet_load {P : Program} {ops : Array Oper} {C : World → Prop} {Q : Act → Prop} {a : Act} {o : Oper} {rest : List Oper} (hw : Region.wanted o (yielded ops a.tmps) = true) (ty : TypeId) (x : Operand) (ho : o.op = .load ty x) (v : Value)
    (h : ∀ w, C w → (Instr.loadAt ty (a.eval x)).run P w = .ok v w) (hk : wpQuiet P ops C Q rest (a.put o.dst v)) : wpQuiet P ops C Q (o :: rest) a := by
  refine wpQuiet_step fun K hK => ?_
  rw [if_pos hw]
  refine ⟨v, fun w hC => ?_, hK _ hk⟩
  unfold Oper.quietAt execOp
  simp only [ho, Sem.run_bind, h w hC, Result.andThen_ok, Sem.run_pure]
  exact ⟨rfl, rfl⟩
theorem loadVar_dg {w : World} {g : Nat} {t : TypeId} {l : List UInt8} (h : Blk w g t (bytesV l).toArray) (hl : l.length = 32) : (loadVar 28 ⟨g, 0, none⟩).run Tryd.prog w = .ok (.agg (bytesV l).toArray) w :=
  run_loadVar_mid w g 0 28 (bytesV l) _ (fun j v hv => by rw [Nat.zero_add, h.cell]; simpa using hv) Tryd.underlying28 rfl (by rw [bytesV_length, hl]; exact info_a32)
theorem load_dg {w : World} {g : Nat} {t : TypeId} {l : List UInt8} (h : Blk w g t (bytesV l).toArray) (hl : l.length = 32) : (Instr.loadAt 28 (.pointer (some ⟨g, 0, none⟩))).run Tryd.prog w = .ok (.agg (bytesV l).toArray) w :=
  run_loadAt_mid w g 0 28 (bytesV l) _ (fun j v hv => by rw [Nat.zero_add, h.cell]; simpa using hv) Tryd.underlying28 rfl (by rw [bytesV_length, hl]; exact info_a32)

set_option maxRecDepth 100000 in
set_option maxHeartbeats 1000000 in
theorem lives2_any (w : World) (hK : Kst w) : Calls Tryd.prog 8 #[] w fun e w' => e = .returned (.bool true) ∧ Ext w w' := by
  have Hof1 := Lib.hid (of_any (.slice none 0 0) [] w hK ⟨[], SlR.none_ _ _ _ _, by intro i bs h; simp at h⟩ (by simp) (by simp [total]))
  have kc := conv_const
  go_enter Tryd.func8, Tryd.ntmps8
  go_wp2_with fail
  refine Hof1.out.mono ?_
  rintro e w1 ⟨rfl, E1⟩
  clear Hof1
  have K1 := hK.ext E1
  have hall : SlAll (((w1.alloc (.cells #[.int .u8 97, .int .u8 98] 5 (2, 3))).alloc (.cells #[.int .u8 99] 5 (1, 2))).alloc (.cells #[.slice (some ⟨w1.heap.size, 0, none⟩) 2 2, .slice none 0 0, .slice (some ⟨w1.heap.size + 1, 0, none⟩) 1 1] 24)) (.slice (some ⟨w1.heap.size + 1 + 1, 0, none⟩) 3 3) [[97, 98], [], [99]] :=
    slAll_three 24 _ (by simp) ((sl_mark w1 5 (2, 3) [97, 98] _ rfl).ext ((Ext.refl _).alloc _)) (SlR.none_ _ _ _ _) (sl_mark _ 5 (1, 2) [99] _ (by simp))
  have Hof2 := Lib.hid (of_any _ _ _ (K1.ext ((((Ext.refl w1).alloc _).alloc _).alloc _)) hall (by simp) (by simp [total]))
  have h33 : ([[97, 98], [], [99]] : List (List UInt8)).flatten = abc := rfl
  rw [h33] at Hof2
  clear hall h33
  go_wp2_with fail
  refine Hof2.out.mono ?_
  rintro e w2 ⟨rfl, E2⟩
  clear Hof2
  have E12 : Ext w1 w2 := ((((Ext.refl w1).alloc _).alloc _).alloc _).trans E2
  clear E2
  obtain ⟨z0, hz0⟩ : ∃ z0, z0 = sumB [] := ⟨_, rfl⟩
  obtain ⟨z1, hz1⟩ : ∃ z1, z1 = sumB abc := ⟨_, rfl⟩
  have t0 := sum_nothing
  have t1 := sum_abc
  have l0 := sumB_length []
  have l1 := sumB_length abc
  rw [← hz0] at t0 l0 ⊢
  rw [← hz1] at t1 l1 ⊢
  have T0 := Lib.hid (take4 t0)
  have T1 := Lib.hid (take4 t1)
  have L0 := Lib.hid l0
  have L1 := Lib.hid l1
  have Hz1 := Lib.hid hz1
  clear hz0 hz1 t0 t1 l0 l1
  have s0 : Hid (zb32.size = (bytesV z0).toArray.size) := zb32_size _ L0.out
  have s1 : Hid (zb32.size = (bytesV z1).toArray.size) := zb32_size _ L1.out
  have i0 : Hid ((Tryd.prog.info? 28).map (·.size) = some (bytesV z0).toArray.size) := by rw [List.size_toArray, bytesV_length, L0.out]; exact info_a32
  have i1 : Hid ((Tryd.prog.info? 28).map (·.size) = some (bytesV z1).toArray.size) := by rw [List.size_toArray, bytesV_length, L1.out]; exact info_a32
  go_wp2_with (first | (have _ := hb3; refine wpList_alloc_blk rfl 28 rfl (.agg zb32) zero_a32 ?_; intro w4 hs4 hb4 he4; clear hs4) | (refine wpList_alloc_blk rfl 28 rfl (.agg zb32) zero_a32 ?_; intro w3 hs3 hb3 he3; clear hs3) | (have _ := hb5; refine wpList_store_blk rfl 28 _ _ rfl w3.heap.size (bytesV z1).toArray rfl rfl 28 zb32 b5 i1.out s1.out (bytes_one _) ?_; intro w6 hs6 hb6 hg6) | (refine wpList_store_blk rfl 28 _ _ rfl w2.heap.size (bytesV z0).toArray rfl rfl 28 zb32 (hb3.ext he4) i0.out s0.out (bytes_one _) ?_; intro w5 hs5 hb5 hg5; have b5 : Blk w5 w3.heap.size 28 zb32 := hb4.grown hg5 (by simp; have := hb3.lt; omega)))
  have h23 : w2.heap.size < w3.heap.size := hb3.lt
  have C0 : Blk w6 w2.heap.size 28 (bytesV z0).toArray := hb5.grown hg6 (by simp; omega)
  have C1 : Blk w6 w3.heap.size 28 (bytesV z1).toArray := hb6
  have h2 : w.heap.size ≤ w2.heap.size := (E1.trans E12).size
  have E6 : Ext w w6 := (((((E1.trans E12).trans he3).trans he4).grown hg5 (by simp; omega))).grown hg6 (by simp; omega)
  clear hs5 hb5 hg5 b5 hs6 hb6 hg6 hb3 he3 hb4 he4 s0 s1 i0 i1 E12 E1 K1
  refine (new_any _).mono ?_
  rintro e w7 ⟨g, rfl, hg, H7, E7⟩
  have hw := write_any g start [] [97, 98, 99] 0 (.slice (some ⟨w7.heap.size, 0, none⟩) 3 3) (w7.alloc (.cells #[.int .u8 97, .int .u8 98, .int .u8 99] 5 (3, 4))) (hK.ext ((E6.trans E7).alloc _)) (H7.ext ((Ext.refl w7).alloc _)) (sl_mark w7 5 (3, 4) [97, 98, 99] _ rfl) (by simp) (by simp)
  have hfd : feed start ([] ++ [97, 98, 99]) = (start, abc) := feed_less _ _ (by simp)
  rw [hfd] at hw
  have Hw := Lib.hid hw
  clear hw hfd
  go_wp2_with fail
  refine Hw.out.mono ?_
  rintro e w8 ⟨rfl, H8, G8⟩
  clear Hw
  have hlg : w3.heap.size < w6.heap.size := C1.lt
  have D0 := ((C0.ext E7).alloc (.cells #[.int .u8 97, .int .u8 98, .int .u8 99] 5 (3, 4))).grown G8 (by simp; omega)
  have D1 := ((C1.ext E7).alloc (.cells #[.int .u8 97, .int .u8 98, .int .u8 99] 5 (3, 4))).grown G8 (by simp; omega)
  have E8 : Ext w w8 := ((E6.trans E7).alloc _).grown G8 (by simp; have := E6.size; omega)
  have K8 := hK.ext E8
  clear C0 C1 E6 E7 G8 H7 hK kc
  obtain ⟨⟨t00, t01, t02, t03⟩, ⟨t10, t11, t12, t13⟩⟩ := And.intro T0.out T1.out
  have d00 : w8.cell? ⟨w2.heap.size, 0, none⟩ = some (.int .u8 227) := cell_dg D0 t00
  have d01 : w8.cell? ⟨w2.heap.size, 1, none⟩ = some (.int .u8 176) := cell_dg D0 t01
  have d02 : w8.cell? ⟨w2.heap.size, 2, none⟩ = some (.int .u8 196) := cell_dg D0 t02
  have d03 : w8.cell? ⟨w2.heap.size, 3, none⟩ = some (.int .u8 66) := cell_dg D0 t03
  have d10 : w8.cell? ⟨w3.heap.size, 0, none⟩ = some (.int .u8 186) := cell_dg D1 t10
  have d11 : w8.cell? ⟨w3.heap.size, 1, none⟩ = some (.int .u8 120) := cell_dg D1 t11
  have d12 : w8.cell? ⟨w3.heap.size, 2, none⟩ = some (.int .u8 22) := cell_dg D1 t12
  have d13 : w8.cell? ⟨w3.heap.size, 3, none⟩ = some (.int .u8 191) := cell_dg D1 t13
  clear t00 t01 t02 t03 t10 t11 t12 t13 T0 T1
  have g0 : w2.heap.size < w8.heap.size := D0.lt
  have g1 : w3.heap.size < w8.heap.size := D1.lt
  have hload : ∀ w, (∃ x : Later w8, w = x.w) → (Instr.loadAt 28 (.pointer (some ⟨w3.heap.size, 0, none⟩))).run Tryd.prog w = .ok (.agg (bytesV z1).toArray) w := by rintro w ⟨x, rfl⟩; exact load_dg (D1.ext x.ext) L1.out
  have Hload := Lib.hid hload
  clear hload
  have heq : ∀ w, (Op.equalIn 10000 28 (.agg (bytesV z1).toArray) (.agg (bytesV z1).toArray)).run Tryd.prog w = .ok true w := fun w => by rw [equal_dg z1 z1 L1.out L1.out w]; simp
  have hsum : ∀ x : Later w8, Calls Tryd.prog 16 #[.pointer (some ⟨g, 0, none⟩)] x.w fun e w' => e = .returned (.agg (bytesV z1).toArray) ∧ Ext x.w w' := fun x => by
    have := sum_any g start abc 3 x.w (K8.ext x.ext) (H8.ext x.ext) (by decide) (by decide) (by omega)
    rw [show outB (feed start (abc ++ padB 3)).1 = z1 from by rw [Hz1.out]; rfl] at this
    exact this
  have hlen : ∀ x : Later w8, Calls Tryd.prog 17 #[.pointer (some ⟨g, 0, none⟩)] x.w fun e w' => e = .returned (.int .i64 3) ∧ x.w = w' := fun x => len_any g start abc 3 x.w (H8.ext x.ext)
  have cv0 : ∀ x : Later w8, (convert 24 9 (.slice (some ⟨w2.heap.size, 0, none⟩) 4 32)).run Tryd.prog x.w = .ok (.string ⟨#[227, 176, 196, 66]⟩) x.w := fun x =>
    conv_four (x.ext.cell d00) (x.ext.cell d01) (x.ext.cell d02) (x.ext.cell d03) 32
  have cv1 : ∀ x : Later w8, (convert 24 9 (.slice (some ⟨w3.heap.size, 0, none⟩) 4 32)).run Tryd.prog x.w = .ok (.string ⟨#[186, 120, 22, 191]⟩) x.w := fun x =>
    conv_four (x.ext.cell d10) (x.ext.cell d11) (x.ext.cell d12) (x.ext.cell d13) 32
  clear d00 d01 d02 d03 d10 d11 d12 d13
  have Hsum := Lib.hid hsum
  have Hlen := Lib.hid hlen
  clear hsum hlen
  go_wp2
  refine wp_region_lat_tail 24 (by kernel_rfl) (by kernel_rfl) ?_
  simp only [List.take_succ_cons, List.take_zero, List.drop_succ_cons, List.drop_zero]
  repeat (first | (refine quiet_load rfl 28 _ rfl (.agg (bytesV z1).toArray) Hload.out ?_; simp only [Act.put, List.setIfInBounds_toArray, List.set_cons_succ, List.set_cons_zero]) | go_big_quiet_step (first | (go_at_call 16; exact lat_call (Hsum.out _)) | (go_at_call 17; exact lat_same (Hlen.out _))))
  refine wpQuiet_nil ?_
  intro w9 E9
  have H9 := H8.ext E9
  clear Hsum Hlen Hload cv0 cv1 heq D0 D1 H8 K8 g0 g1
  go_wp2_with fail
  refine (fork_any g start abc 3 w9 (by simpa using H9) (by decide)).mono ?_
  rintro e w10 ⟨g', rfl, _, _, E10⟩
  go_wp2
  go_ret
  exact ⟨rfl, E8.trans (E9.trans E10)⟩
end Go.Proofs.YtokfhcnnhbgdjaaDoor
