/- lamport: contracts of Encode, of pursuivantref07.Same at equal signatures, and of Decode where a code may not be. -/
import Derived.Test.YtgbdmelnmmopaaaDoorLamH
namespace Go.Proofs.YtgbdmelnmmopaaaDoor
open Go.RowKit

/-- 'x := f()' of an array or a struct: its block -/
theorem wpList_var {P : Program} {ops : Array Oper} {rest : List Oper} {o1 o2 : Oper} {a : Act} {w : World} {Q : Exit → Act → World → Prop} (hg1 : o1.guard = none) (hg2 : o2.guard = none) (T : TypeId) (ho1 : o1.op = .alloc T) (x y : Operand) (ho2 : o2.op = .store T x y)
    (z : Value) (hz : ∀ w, (zeroValue T).run P w = .ok z w) (cs : Array Value) (hx : (a.put o1.dst (.pointer (some ⟨w.heap.size, 0, none⟩))).eval x = .pointer (some ⟨w.heap.size, 0, none⟩)) (hy : (a.put o1.dst (.pointer (some ⟨w.heap.size, 0, none⟩))).eval y = .agg cs)
    (hi : (P.info? T).map (·.size) = some cs.size) (hzs : z.cells.size = cs.size) (h1 : cs.all (·.oneCell') = true)
    (h : ∀ w1, Blk w1 w.heap.size T cs → Ext w w1 → wpList P ops Q rest ((a.put o1.dst (.pointer (some ⟨w.heap.size, 0, none⟩))).put o2.dst undef) w1) : wpList P ops Q (o1 :: o2 :: rest) a w := by
  refine wpList_alloc_blk hg1 T ho1 z hz ?_
  intro w1 _ hb1 he1
  refine wpList_store_blk hg2 T x y ho2 w.heap.size cs hx hy T z.cells hb1 hi hzs h1 ?_
  intro w2 _ hb2 hg2
  exact h w2 hb2 (he1.grown hg2 (by simp))

set_option maxRecDepth 100000 in
set_option maxHeartbeats 400000 in
theorem lEncode_no (Ar Ao : Option Addr) (nr no cr co : Nat) (w : World) (hno : wholeB nr no = false) :
    Calls Tryd.prog 15 #[.agg #[.slice Ar nr cr, .slice Ao no co]] w fun e w' => e = .returned (.tuple #[.slice none 0 0, .int .i64 1]) ∧ Ext w w' := by
  have Hw := fun w => Lib.hid (lwhole_any Ar Ao nr no cr co w)
  rw [hno] at Hw
  clear hno
  have hB0 := Blk.new w 26 #[.slice Ar nr cr, .slice Ao no co]
  go_enter Tryd.func15, Tryd.ntmps15
  go_wp2_with (first | (refine wpList_load_blk hB0 rfl 26 _ rfl rfl Tryd.underlying26 rfl info_one ?_))
  refine (Hw _).out.mono ?_
  rintro e w2 ⟨rfl, E2⟩
  go_wp2
  go_ret2
  exact ⟨rfl, ((Ext.refl w).alloc _).trans E2⟩

set_option maxRecDepth 100000 in
set_option maxHeartbeats 1000000 in
theorem lEncode_yes (rv ov : Value) (rev oth : List (List UInt8)) (w : World) (hr : SlD w rv rev) (ho : SlD w ov oth) (hw : wholeB rev.length oth.length = true) :
    Calls Tryd.prog 15 #[.agg #[rv, ov]] w fun e w' => ∃ v, e = .returned (.tuple #[v, .int .i64 0]) ∧ Sl w' v (encS rev oth rev.length) ∧ Ext w w' := by
  obtain ⟨Ar, cr, rfl, hcr⟩ := hr.form
  obtain ⟨Ao, co, rfl, hco⟩ := ho.form
  have HR := Lib.hid hr
  have HO := Lib.hid ho
  have Hw := fun w => Lib.hid (lwhole_any Ar Ao rev.length oth.length cr co w)
  rw [hw] at Hw
  obtain ⟨hwe, hwm⟩ := (wholeB_iff _ _).1 hw
  obtain ⟨hm1, hm2, _⟩ := (mayB_iff _).1 hwm
  have Hwe := Lib.hid hwe
  have hle : oth.length ≤ 256 := by omega
  clear hr ho hw hwm hwe
  have hB0 := Blk.new w 26 #[.slice Ar rev.length cr, .slice Ao oth.length co]
  go_enter Tryd.func15, Tryd.ntmps15
  go_wp2_with (first | (refine wpList_load_blk hB0 rfl 26 _ rfl rfl Tryd.underlying26 rfl info_one ?_))
  refine (Hw _).out.mono ?_
  rintro e w3 ⟨rfl, E3⟩
  have hB3 := hB0.ext E3
  have Ew3 : Ext w w3 := ((Ext.refl w).alloc _).trans E3
  have HB3 := Lib.hid hB3
  have hlw : w.heap.size < w3.heap.size := hB3.lt
  have hr3 := (one_cells hB3).1
  have hr3' := ((Ext.refl w3).alloc (.cells #[.slice none 0 0] 56)).cell hr3
  clear hB0 hB3 E3 Hw
  go_wp2
  have hg0 : Blk (w3.alloc (.cells #[.slice none 0 0] 56)) w3.heap.size 56 #[.slice none 0 0] := Blk.new w3 _ _
  have E0 : Ext w3 (w3.alloc (.cells #[.slice none 0 0] 56)) := (Ext.refl w3).alloc _
  clear hr3 hr3'
  go_loopw [15] (fun i wr => ∃ k : Nat, k ≤ rev.length ∧ i = .int .i64 k ∧ (∃ v, Blk wr w3.heap.size 56 #[v] ∧ Own wr w3.heap.size v (encS rev oth k)) ∧ Ext w3 wr) (fun i _ => rev.length - (intOf i).toNat)
  case atStart => exact ⟨0, by omega, rfl, ⟨_, hg0, Own.none_ _ _⟩, E0⟩
  case round =>
    clear hg0 E0
    obtain ⟨k, hkb, rfl, ⟨v, hB, hO⟩, E⟩ := hrel
    have hlen := encS_length rev oth k HR.out.2 HO.out.2 hkb (by rw [← Hwe.out]; omega)
    have HB := Lib.hid hB
    have HOw := Lib.hid hO
    have Hlen := Lib.hid hlen
    clear hB hO hlen
    have Ew := Ew3.trans E
    by_cases hlt : k < rev.length
    · obtain ⟨br, or, rfl, hcr'⟩ := (HR.out.ext Ew).at_ hlt
      obtain ⟨bo, oo, rfl, hco'⟩ := (HO.out.ext Ew).at_ (show k < oth.length by have := Hwe.out; omega)
      have hlr := HR.out.len hlt
      have hlo := HO.out.len (show k < oth.length by have := Hwe.out; omega)
      have hdr := dAt_eq hlt
      have hdo := dAt_eq (show k < oth.length by have := Hwe.out; omega)
      rw [← hdr] at hcr' hlr
      rw [← hdo] at hco' hlo
      obtain ⟨x, hx⟩ : ∃ x, x = dAt rev k := ⟨_, rfl⟩
      obtain ⟨t, ht⟩ : ∃ t, t = dAt oth k := ⟨_, rfl⟩
      rw [← hx] at hcr' hlr
      rw [← ht] at hco' hlo
      have Hx := Lib.hid hx
      have Ht := Lib.hid ht
      have Hlr := Lib.hid hlr
      have Hlo := Lib.hid hlo
      have Hcr := Lib.hid hcr'
      have Hco := Lib.hid hco'
      clear hx ht hlr hlo hcr' hco' hdr hdo
      have ix : Hid ((Tryd.prog.info? 30).map (·.size) = some (bytesV x).toArray.size) := by rw [List.size_toArray, bytesV_length, Hlr.out]; exact info_a32
      have qx : Hid (zb32.size = (bytesV x).toArray.size) := zb32_size _ Hlr.out
      have hkl : k < oth.length := by have := Hwe.out; omega
      go_wp2_with (first | (refine wpList_load_dg Hcr.out Hlr.out rfl _ rfl rfl ?_) | (refine wpList_alloc_blk rfl 30 rfl (.agg zb32) zero_a32 ?_; intro w4 hs4 hb4 he4; clear hs4) | (refine wpList_store_blk rfl 30 _ _ rfl wr.heap.size (bytesV x).toArray rfl rfl 30 zb32 hb4 ix.out qx.out (bytes_one _) ?_; intro w6 hs6 D6 hg6))
      have Er6 : Ext wr w6 := he4.grown hg6 (by simp)
      clear hb4 he4 hs6 hg6
      have E36 := E.trans Er6
      have hov := (one_cells (HB3.out.ext E36)).2
      have hco6 := Hco.out.ext Er6
      refine wp_region_chain 7 [(true, 0), (true, 1), (true, 2), (true, 3), (true, 4), (true, 5), (true, 6)] (fun w' => Ext w6 w') (by kernel_rfl) (by kernel_rfl) (Ext.refl w6).drew ?_
      iterate 1
        refine wpTake_read _ _ ?_ rfl rfl ?_ ?_
        rotate_left 1
        focus
          intro wS hS
          try dsimp only at hS
          go_simp
          first | done | with_reducible rfl
        simp only [Act.put, List.setIfInBounds_toArray, List.set_cons_zero, List.set_cons_succ]
      refine wpTake_load _ _ rfl rfl 30 _ rfl (.agg (bytesV x).toArray) (fun wS hS => load_dg (D6.ext hS) Hlr.out) ?_
      simp only [Act.put, List.setIfInBounds_toArray, List.set_cons_zero, List.set_cons_succ]
      iterate 4
        refine wpTake_read _ _ ?_ rfl rfl ?_ ?_
        rotate_left 1
        focus
          intro wS hS
          try dsimp only at hS
          have hov' := Ext.cell hS hov
          go_simp
          first | done | with_reducible rfl
        simp only [Act.put, List.setIfInBounds_toArray, List.set_cons_zero, List.set_cons_succ]
      refine wpTake_load _ _ rfl rfl 30 _ rfl (.agg (bytesV t).toArray) (fun wS hS => run_load_dg (hco6.ext hS) Hlo.out) ?_
      simp only [Act.put, List.setIfInBounds_toArray, List.set_cons_zero, List.set_cons_succ]
      refine wpTake_nil ?_
      simp only [List.drop_succ_cons, List.drop_zero]
      have Hadd := Lib.hid (ladd_any w3.heap.size w3.heap.size v (encS rev oth k) x t w6.drew ((HB.out.ext Er6).ext (Ext.refl w6).drew) ((HOw.out.ext Er6).ext (Ext.refl w6).drew) (Nat.le_refl _) Hlr.out Hlo.out (by rw [Hlen.out]; omega))
      have hstep : Hid (encS rev oth (k + 1) = encS rev oth k ++ (x ++ t)) := by show _ = _; rw [encS_succ, ← Hx.out, ← Ht.out]
      have E37 := E36.drew
      clear hco6 hov D6 Er6
      go_wp2_with fail
      with_reducible refine Hadd.out.mono ?_
      rintro e w8 ⟨rfl, v', hB8, hO8, hb8⟩
      have E8 : Ext w3 w8 := E37.below hb8
      rw [← hstep.out] at hO8
      have HB8 := Lib.hid hB8
      have HO8 := Lib.hid hO8
      clear hB8 hO8 hb8 Hadd hstep
      go_wp2
      refine NoPanic.normal ?_
      go_wp2
      go_roundw
      case rel => exact ⟨k + 1, by omega, by go_num, ⟨v', HB8.out, HO8.out⟩, E8⟩
      case measure => simp [intOf]; omega
    · obtain rfl : k = rev.length := by omega
      have hc0 : wr.cell? ⟨w3.heap.size, 0, none⟩ = some v := HB.out.cell 0
      go_wp2
      go_ret2
      exact ⟨v, rfl, HOw.out.sl, Ew⟩

set_option maxRecDepth 100000 in
set_option maxHeartbeats 400000 in
theorem r7Encode_no (Ar Ao : Option Addr) (nr no cr co : Nat) (w : World) (hno : wholeB nr no = false) :
    Calls Tryd.prog 16 #[.agg #[.slice Ar nr cr, .slice Ao no co]] w fun e w' => e = .returned (.tuple #[.slice none 0 0, .int .i64 1]) ∧ Ext w w' := by
  by_cases h : nr = no
  · have hm : mayB nr = false := by simpa [wholeB, h] using hno
    have hb : ((nr : Int) != (no : Int)) = false := by simp [h]
    have Hm := fun w => Lib.hid (r7May_any (nr : Int) w)
    rw [hm] at Hm
    clear h hm hno
    go_enter Tryd.func16, Tryd.ntmps16
    go_wp2_with fail
    refine (Hm _).out.mono ?_
    rintro e w2 ⟨rfl, rfl⟩
    go_wp2
    go_ret2
    exact ⟨rfl, (Ext.refl w).alloc _⟩
  · have hb : ((nr : Int) != (no : Int)) = true := by simp; omega
    clear h hno
    go_enter Tryd.func16, Tryd.ntmps16
    go_wp2
    go_ret2
    exact ⟨rfl, (Ext.refl w).alloc _⟩

set_option maxRecDepth 100000 in
set_option maxHeartbeats 1000000 in
theorem r7Encode_yes (rv ov : Value) (rev oth : List (List UInt8)) (w : World) (hr : SlD w rv rev) (ho : SlD w ov oth) (hw : wholeB rev.length oth.length = true) :
    Calls Tryd.prog 16 #[.agg #[rv, ov]] w fun e w' => ∃ v, e = .returned (.tuple #[v, .int .i64 0]) ∧ Sl w' v (encS rev oth rev.length) ∧ Ext w w' := by
  obtain ⟨Ar, cr, rfl, hcr⟩ := hr.form
  obtain ⟨Ao, co, rfl, hco⟩ := ho.form
  have HR := Lib.hid hr
  have HO := Lib.hid ho
  obtain ⟨hwe, hwm⟩ := (wholeB_iff _ _).1 hw
  obtain ⟨hm1, hm2, _⟩ := (mayB_iff _).1 hwm
  have Hm := fun w => Lib.hid (r7May_any (rev.length : Int) w)
  rw [hwm] at Hm
  have Hwe := Lib.hid hwe
  have hle : oth.length ≤ 256 := by omega
  have hb : ((rev.length : Int) != (oth.length : Int)) = false := by simp [hwe]
  clear hr ho hw hwm hwe
  go_enter Tryd.func16, Tryd.ntmps16
  go_wp2_with fail
  refine (Hm _).out.mono ?_
  rintro e w2 ⟨rfl, rfl⟩
  clear Hm
  have hB3 := Blk.new w 26 #[.slice Ar rev.length cr, .slice Ao oth.length co]
  have Ew3 : Ext w (w.alloc (.cells #[.slice Ar rev.length cr, .slice Ao oth.length co] 26)) := (Ext.refl w).alloc _
  go_wp2
  revert hB3 Ew3
  generalize w.alloc (.cells #[.slice Ar rev.length cr, .slice Ao oth.length co] 26) = w3
  intro hB3 Ew3
  have HB3 := Lib.hid hB3
  have hlw : w.heap.size < w3.heap.size := hB3.lt
  clear hB3 hb
  go_loopw [5, 4] (fun i v wr => ∃ k : Nat, k ≤ rev.length ∧ i = .int .i64 k ∧ Own wr w3.heap.size v (encS rev oth k) ∧ Ext w3 wr) (fun i _ _ => rev.length - (intOf i).toNat)
  case atStart => exact ⟨0, by omega, rfl, Own.none_ _ _, Ext.refl _⟩
  case round =>
    obtain ⟨k, hkb, rfl, hO, E⟩ := hrel
    obtain ⟨A6, c6, rfl, hc6⟩ := hO.form
    have hlen := encS_length rev oth k HR.out.2 HO.out.2 hkb (by rw [← Hwe.out]; omega)
    have HOw := Lib.hid hO
    have Hlen := Lib.hid hlen
    clear hO hlen
    have Ew := Ew3.trans E
    have hrv := (one_cells (HB3.out.ext E)).1
    have hov := (one_cells (HB3.out.ext E)).2
    by_cases hlt : k < rev.length
    · obtain ⟨br, or, rfl, hcr0⟩ := HR.out.at_ hlt
      obtain ⟨bo, oo, rfl, hco0⟩ := HO.out.at_ (show k < oth.length by have := Hwe.out; omega)
      have hlr := HR.out.len hlt
      have hlo := HO.out.len (show k < oth.length by have := Hwe.out; omega)
      have hbo : bo < w.heap.size := by
        have := World.block_lt_of_cell? w _ (hco0 0 _ (bytesV_get _ 0 (by omega)))
        simpa using this
      have hcr' := hcr0.ext Ew
      have hco' := hco0.ext Ew
      have hdr := dAt_eq hlt
      have hdo := dAt_eq (show k < oth.length by have := Hwe.out; omega)
      rw [← hdr] at hcr' hlr
      rw [← hdo] at hco' hlo
      obtain ⟨x, hx⟩ : ∃ x, x = dAt rev k := ⟨_, rfl⟩
      obtain ⟨t, ht⟩ : ∃ t, t = dAt oth k := ⟨_, rfl⟩
      rw [← hx] at hcr' hlr
      rw [← ht] at hco' hlo
      have Hx := Lib.hid hx
      have Ht := Lib.hid ht
      have Hlr := Lib.hid hlr
      have Hlo := Lib.hid hlo
      have Hcr := Lib.hid hcr'
      have Hco := Lib.hid hco'
      clear hx ht hlr hlo hcr' hco' hdr hdo hcr0 hco0
      have hkl : k < oth.length := by have := Hwe.out; omega
      have HO6 := Lib.hid (HOw.out.ext (Ext.refl wr).drew)
      have hne6 : (Value.slice A6 (encS rev oth k).length c6).ownBlock ≠ some w.heap.size := HO6.out.ne ((HB3.out.ext E).ext (Ext.refl wr).drew) (by decide)
      have hs36 := E.size
      go_wp2
      refine wp_region_chain 12 [(true, 0), (true, 1), (true, 2), (true, 3), (true, 4), (true, 5), (true, 7), (true, 8), (true, 9), (true, 10), (true, 11), (false, 6)] (fun w' => w'.cell? ⟨w.heap.size, 0, none⟩ = some (.slice (some ⟨br, or, none⟩) rev.length cr) ∧ w'.cell? ⟨w.heap.size, 1, none⟩ = some (.slice (some ⟨bo, oo, none⟩) oth.length co)) (by kernel_rfl) (by kernel_rfl) ⟨hrv, hov⟩ ?_
      iterate 11
        refine wpTake_read _ _ ?_ rfl rfl ?_ ?_
        rotate_left 1
        focus
          intro wS hS
          try dsimp only at hS
          go_simp
          first | done | with_reducible rfl
        simp only [Act.put, List.setIfInBounds_toArray, List.set_cons_zero, List.set_cons_succ]
      refine wpTake_do _ _ rfl rfl (fun K hK' => ?_)
      refine wp_appB HO6.out ((sl_cells Hcr.out Hlr.out).ext (Ext.refl wr).drew) _ _ rfl rfl rfl (by rw [Hlen.out, Hlr.out]; omega) (by show w3.heap.size ≤ wr.heap.size; omega) ?_
      intro v7 w7 ho7 hg7 hq7
      refine hK' _ _ ⟨hg7.cell (w := wr.drew) hrv (Ne.symm hne6), hg7.cell (w := wr.drew) hov (Ne.symm hne6)⟩ ?_
      clear hK' K
      simp only [Act.put, List.setIfInBounds_toArray, List.set_cons_zero, List.set_cons_succ]
      refine wpTake_nil ?_
      simp only [List.drop_succ_cons, List.drop_zero]
      have S7 : Sl w7 (.slice (some ⟨bo, oo + k * 32, none⟩) 32 32) t := Sl.far ((sl_cells Hco.out Hlo.out).ext (Ext.refl wr).drew) hg7 (fun b o e e' => by cases e; have := HO6.out.from _ e'; omega)
      have E7 : Ext w3 w7 := (E.drew).grown hg7 HO6.out.from
      have hs7 := hg7.size
      have HS7 := Lib.hid S7
      have HO7 := Lib.hid ho7
      have hl7 : (encS rev oth k ++ x).length = 64 * k + 32 := by rw [List.length_append, Hlen.out, Hlr.out]
      have Hl7 := Lib.hid hl7
      clear S7 ho7 hg7 hq7 hl7
      go_wp2_with (at_builtin; refine wpList_appB HO7.out HS7.out rfl _ _ rfl rfl rfl (by rw [Hl7.out, Hlo.out]; omega) (by have := E7.size; exact this) ?_; intro v8 w8 ho8 hg8 _)
      have O8 : Own w8 w3.heap.size v8 (encS rev oth (k + 1)) := by
        rw [encS_succ, ← Hx.out, ← Ht.out, ← List.append_assoc]; exact ho8
      have E8 := E7.grown hg8 HO7.out.from
      refine NoPanic.normal ?_
      clear ho8 hg8 HO6 hov hrv hne6
      go_wp2
      go_roundw
      case rel => exact ⟨k + 1, by omega, by go_num, O8, E8⟩
      case measure => simp [intOf]; omega
    · obtain rfl : k = rev.length := by omega
      go_wp2
      go_ret2
      exact ⟨_, rfl, HOw.out.sl, Ew⟩

set_option maxRecDepth 100000 in
set_option maxHeartbeats 1000000 in
theorem r7Same_eq (va vb ua ub : Value) (rs os : List (List UInt8)) (w : World) (ha : SlD w va rs) (hb : SlD w vb os) (hua : SlD w ua rs) (hub : SlD w ub os) (hl1 : rs.length ≤ 1073741824) (hl2 : os.length ≤ 1073741824) :
    Calls Tryd.prog 12 #[.agg #[va, vb], .agg #[ua, ub]] w fun e w' => e = .returned (.bool true) ∧ Ext w w' := by
  obtain ⟨Aa, ca, rfl, hca⟩ := ha.form
  obtain ⟨Ab, cb, rfl, hcb⟩ := hb.form
  obtain ⟨Au, cu, rfl, hcu⟩ := hua.form
  obtain ⟨Av, cv, rfl, hcv⟩ := hub.form
  have Ha := Lib.hid ha
  have Hb := Lib.hid hb
  have Hu := Lib.hid hua
  have Hv := Lib.hid hub
  clear ha hb hua hub
  have hB0 := Blk.new w 26 #[.slice Aa rs.length ca, .slice Ab os.length cb]
  have hB1 := Blk.new (w.alloc (.cells #[.slice Aa rs.length ca, .slice Ab os.length cb] 26)) 26 #[.slice Au rs.length cu, .slice Av os.length cv]
  have hB0' := hB0.alloc (.cells #[.slice Au rs.length cu, .slice Av os.length cv] 26)
  rw [World.size_alloc] at hB1
  have Ew3 : Ext w ((w.alloc (.cells #[.slice Aa rs.length ca, .slice Ab os.length cb] 26)).alloc (.cells #[.slice Au rs.length cu, .slice Av os.length cv] 26)) := ((Ext.refl w).alloc _).alloc _
  go_enter Tryd.func12, Tryd.ntmps12
  go_wp2
  revert hB0' hB1 Ew3
  generalize (w.alloc (.cells #[.slice Aa rs.length ca, .slice Ab os.length cb] 26)).alloc (.cells #[.slice Au rs.length cu, .slice Av os.length cv] 26) = w3
  intro hB1 hB0' Ew3
  clear hB0
  have c0 := (one_cells hB0').1
  have c1 := (one_cells hB0').2
  have c2 := (one_cells hB1).1
  have c3 := (one_cells hB1).2
  go_loopw [5] (fun i wr => ∃ k : Nat, k ≤ rs.length ∧ i = .int .i64 k ∧ Ext w3 wr) (fun i _ => rs.length - (intOf i).toNat)
  case atStart => exact ⟨0, by omega, rfl, Ext.refl _⟩
  case round =>
    obtain ⟨k, hkb, rfl, E⟩ := hrel
    have d0 := E.cell c0
    have d1 := E.cell c1
    have d2 := E.cell c2
    have d3 := E.cell c3
    by_cases hlt : k < rs.length
    · obtain ⟨b0, o0, rfl, hc0⟩ := (Ha.out.ext (Ew3.trans E)).at_ hlt
      obtain ⟨b2, o2, rfl, hc2⟩ := (Hu.out.ext (Ew3.trans E)).at_ hlt
      have hlx := Ha.out.len hlt
      obtain ⟨x, hx⟩ : ∃ x, x = rs[k] := ⟨_, rfl⟩
      rw [← hx] at hc0 hc2 hlx
      have Hlx := Lib.hid hlx
      have heq := eq_dg x hlx
      clear hx hlx
      go_wp2
      refine wp_region_chain 10 [(true, 0), (true, 1), (true, 2), (true, 3), (true, 4), (true, 5), (true, 6), (true, 7), (true, 8), (true, 9)] (fun w' => Ext wr w') (by kernel_rfl) (by kernel_rfl) (Ext.refl wr).drew ?_
      iterate 4
        refine wpTake_read _ _ ?_ rfl rfl ?_ ?_
        rotate_left 1
        focus
          intro wS hS
          try dsimp only at hS
          have e0 := Ext.cell hS d0
          go_simp
          first | done | with_reducible rfl
        simp only [Act.put, List.setIfInBounds_toArray, List.set_cons_zero, List.set_cons_succ]
      refine wpTake_load _ _ rfl rfl 30 _ rfl (.agg (bytesV x).toArray) (fun wS hS => run_load_dg (hc0.ext hS) Hlx.out) ?_
      simp only [Act.put, List.setIfInBounds_toArray, List.set_cons_zero, List.set_cons_succ]
      iterate 4
        refine wpTake_read _ _ ?_ rfl rfl ?_ ?_
        rotate_left 1
        focus
          intro wS hS
          try dsimp only at hS
          have e2 := Ext.cell hS d2
          go_simp
          first | done | with_reducible rfl
        simp only [Act.put, List.setIfInBounds_toArray, List.set_cons_zero, List.set_cons_succ]
      refine wpTake_load _ _ rfl rfl 30 _ rfl (.agg (bytesV x).toArray) (fun wS hS => run_load_dg (hc2.ext hS) Hlx.out) ?_
      simp only [Act.put, List.setIfInBounds_toArray, List.set_cons_zero, List.set_cons_succ]
      refine wpTake_nil ?_
      simp only [List.drop_succ_cons, List.drop_zero]
      clear hc0 hc2
      go_wp2
      refine NoPanic.normal ?_
      go_wp2
      go_roundw
      case rel => exact ⟨k + 1, by omega, by go_num, E.drew⟩
      case measure => simp [intOf]; omega
    · obtain rfl : k = rs.length := by omega
      obtain ⟨w4, rfl⟩ : ∃ w4 : World, w4 = wr := ⟨_, rfl⟩
      go_wp2
      go_loopw [6] (fun i wr => ∃ k : Nat, k ≤ os.length ∧ i = .int .i64 k ∧ Ext w3 wr) (fun i _ => os.length - (intOf i).toNat)
      case atStart => exact ⟨0, by omega, rfl, E⟩
      case round =>
        clear d0 d1 d2 d3 E
        obtain ⟨k, hkb, rfl, E⟩ := hrel
        have d0 := E.cell c0
        have d1 := E.cell c1
        have d2 := E.cell c2
        have d3 := E.cell c3
        by_cases hlt : k < os.length
        · obtain ⟨b0, o0, rfl, hc0⟩ := (Hb.out.ext (Ew3.trans E)).at_ hlt
          obtain ⟨b2, o2, rfl, hc2⟩ := (Hv.out.ext (Ew3.trans E)).at_ hlt
          have hlx := Hb.out.len hlt
          obtain ⟨x, hx⟩ : ∃ x, x = os[k] := ⟨_, rfl⟩
          rw [← hx] at hc0 hc2 hlx
          have Hlx := Lib.hid hlx
          have heq := eq_dg x hlx
          clear hx hlx
          go_wp2
          refine wp_region_chain 10 [(true, 0), (true, 1), (true, 2), (true, 3), (true, 4), (true, 5), (true, 6), (true, 7), (true, 8), (true, 9)] (fun w' => Ext wr w') (by kernel_rfl) (by kernel_rfl) (Ext.refl wr).drew ?_
          iterate 4
            refine wpTake_read _ _ ?_ rfl rfl ?_ ?_
            rotate_left 1
            focus
              intro wS hS
              try dsimp only at hS
              have e1 := Ext.cell hS d1
              go_simp
              first | done | with_reducible rfl
            simp only [Act.put, List.setIfInBounds_toArray, List.set_cons_zero, List.set_cons_succ]
          refine wpTake_load _ _ rfl rfl 30 _ rfl (.agg (bytesV x).toArray) (fun wS hS => run_load_dg (hc0.ext hS) Hlx.out) ?_
          simp only [Act.put, List.setIfInBounds_toArray, List.set_cons_zero, List.set_cons_succ]
          iterate 4
            refine wpTake_read _ _ ?_ rfl rfl ?_ ?_
            rotate_left 1
            focus
              intro wS hS
              try dsimp only at hS
              have e3 := Ext.cell hS d3
              go_simp
              first | done | with_reducible rfl
            simp only [Act.put, List.setIfInBounds_toArray, List.set_cons_zero, List.set_cons_succ]
          refine wpTake_load _ _ rfl rfl 30 _ rfl (.agg (bytesV x).toArray) (fun wS hS => run_load_dg (hc2.ext hS) Hlx.out) ?_
          simp only [Act.put, List.setIfInBounds_toArray, List.set_cons_zero, List.set_cons_succ]
          refine wpTake_nil ?_
          simp only [List.drop_succ_cons, List.drop_zero]
          clear hc0 hc2
          go_wp2
          refine NoPanic.normal ?_
          go_wp2
          go_roundw
          case rel => exact ⟨k + 1, by omega, by go_num, E.drew⟩
          case measure => simp [intOf]; omega
        · obtain rfl : k = os.length := by omega
          go_wp2
          go_ret
          exact ⟨rfl, Ew3.trans E⟩

set_option maxRecDepth 100000 in
set_option maxHeartbeats 400000 in
theorem lDecode_no (A : Option Addr) (n c : Nat) (w : World) (hn : n ≤ 1073741824) (hno : n % 64 ≠ 0 ∨ (n % 64 = 0 ∧ mayB (n / 64 : Nat) = false)) :
    Calls Tryd.prog 17 #[.slice A n c] w fun e w' => e = .returned (.tuple #[.agg noOne, .int .i64 11]) ∧ Ext w w' := by
  rcases hno with h | ⟨h, hm⟩
  · have hb : (((n : Int) % 64) != 0) = true := by rw [bne_iff_ne]; omega
    clear h
    go_enter Tryd.func17, Tryd.ntmps17
    go_wp2_with (first | (refine wpList_alloc_blk rfl 26 rfl (.agg noOne) zero_one ?_; intro w1 hs1 hb1 he1; clear hs1) | (refine wpList_build_to rfl 26 _ rfl noOne (by kernel_rfl) ?_) | (refine wpList_store_blk rfl 26 _ _ rfl w.heap.size noOne rfl rfl 26 noOne hb1 info_one rfl noOne_one ?_; intro w7 hs7 hb7 hg7))
    refine bodyPost_ret (v := .tuple #[.agg noOne, .int .i64 11]) (ret2_blk hb7 rfl rfl Tryd.underlying26 rfl info_one rfl) rfl ?_
    exact ⟨rfl, he1.grown hg7 (by simp)⟩
  · have hb : (((n : Int) % 64) != 0) = false := by rw [bne_eq_false_iff_eq]; omega
    have Hm := fun w => Lib.hid (lMay_any ((n : Int) / 64) w)
    rw [show ((n : Int) / 64) = ((n / 64 : Nat) : Int) by omega, hm] at Hm
    rw [show ((n / 64 : Nat) : Int) = (n : Int) / 64 by omega] at Hm
    clear h hm
    go_enter Tryd.func17, Tryd.ntmps17
    go_wp2_with (first | (refine wpList_alloc_blk rfl 26 rfl (.agg noOne) zero_one ?_; intro w1 hs1 hb1 he1; clear hs1))
    with_reducible refine (Hm _).out.mono ?_
    rintro e w2 ⟨rfl, rfl⟩
    go_wp2_with (first | (refine wpList_build_to rfl 26 _ rfl noOne (by kernel_rfl) ?_) | (refine wpList_store_blk rfl 26 _ _ rfl w.heap.size noOne rfl rfl 26 noOne hb1 info_one rfl noOne_one ?_; intro w7 hs7 hb7 hg7))
    refine bodyPost_ret (v := .tuple #[.agg noOne, .int .i64 11]) (ret2_blk hb7 rfl rfl Tryd.underlying26 rfl info_one rfl) rfl ?_
    exact ⟨rfl, he1.grown hg7 (by simp)⟩
end Go.Proofs.YtgbdmelnmmopaaaDoor
