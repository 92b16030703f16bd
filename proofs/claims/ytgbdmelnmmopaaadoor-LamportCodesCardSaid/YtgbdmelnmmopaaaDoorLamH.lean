/- lamport: contracts of pursuivantref07.Implied, of Encode of both, of pursuivantref07.Same at equal signatures, and of Decode where it may not be. -/
import Derived.Test.YtgbdmelnmmopaaaDoorLamG
namespace Go.Proofs.YtgbdmelnmmopaaaDoor
open Go.RowKit

theorem sl_cells {w : World} {b o : Nat} {d : List UInt8} (h : Cells w b o (bytesV d)) (hd : d.length = 32) : Sl w (.slice (some ⟨b, o, none⟩) 32 32) d := by
  have := SlR.of_cells (size := 1) (n := 32) (c := 32) (by rw [bytesV_length, hd]) (Nat.le_refl _) h
  rw [Sl, hd]
  exact this
theorem sl_blk32 {w : World} {g : Nat} {t : TypeId} {d : List UInt8} (h : Blk w g t (bytesV d).toArray) (hd : d.length = 32) : Sl w (.slice (some ⟨g, 0, none⟩) 32 32) d := by
  have := sl_of_blk h
  rw [hd] at this
  exact this
theorem Sl.far {w w' : World} {A : Option Addr} {n c : Nat} {d : List UInt8} {q : Option Nat} (h : Sl w (.slice A n c) d) (hg : w.grownBy w' q) (hq : ∀ b o, A = some ⟨b, o, none⟩ → q ≠ some b) : Sl w' (.slice A n c) d := by
  have hn := h.bytes
  subst hn
  exact SlR.far h hg hq

set_option maxRecDepth 100000 in
set_option maxHeartbeats 400000 in
theorem r7Implied_no (mv : Value) (Ar Ao : Option Addr) (nr no cr co : Nat) (w : World) (hno : wholeB nr no = false) :
    Calls Tryd.prog 14 #[mv, .agg #[.slice Ar nr cr, .slice Ao no co]] w fun e w' => e = .returned (.tuple #[.agg zb32, .int .i64 1]) ∧ Ext w w' := by
  have hB0 := Blk.new w 26 #[.slice Ar nr cr, .slice Ao no co]
  by_cases h : nr = no
  · have hm : mayB nr = false := by simpa [wholeB, h] using hno
    have hb : ((nr : Int) != (no : Int)) = false := by simp [h]
    have Hm := fun w => Lib.hid (r7May_any (nr : Int) w)
    rw [hm] at Hm
    clear h hm hno
    go_enter Tryd.func14, Tryd.ntmps14
    go_wp2_with (first | (refine wpList_alloc_blk rfl 30 rfl (.agg zb32) zero_a32 ?_; intro w1 hs1 hb1 he1; clear hs1; have h0 := (one_cells (hB0.ext he1)).1; have h1 := (one_cells (hB0.ext he1)).2))
    refine (Hm _).out.mono ?_
    rintro e w2 ⟨rfl, rfl⟩
    simp only [World.size_alloc] at hb1
    go_wp2_with (first | (refine wpList_build_to rfl 30 _ rfl zb32 (by kernel_rfl) ?_) | (refine wpList_store_blk rfl 30 _ _ rfl (w.heap.size + 1) zb32 rfl rfl 30 zb32 hb1 info_a32 rfl zb32_one ?_; intro w7 hs7 hb7 hg7))
    refine bodyPost_ret (v := .tuple #[.agg zb32, .int .i64 1]) (ret2_blk hb7 rfl rfl Tryd.underlying30 rfl info_a32 rfl) rfl ?_
    exact ⟨rfl, (((Ext.refl w).alloc _).trans he1).grown hg7 (by simp)⟩
  · have hb : ((nr : Int) != (no : Int)) = true := by simp; omega
    clear h hno
    go_enter Tryd.func14, Tryd.ntmps14
    go_wp2_with (first | (refine wpList_alloc_blk rfl 30 rfl (.agg zb32) zero_a32 ?_; intro w1 hs1 hb1 he1; clear hs1; have h0 := (one_cells (hB0.ext he1)).1; have h1 := (one_cells (hB0.ext he1)).2; simp only [World.size_alloc] at hb1) | (refine wpList_build_to rfl 30 _ rfl zb32 (by kernel_rfl) ?_) | (refine wpList_store_blk rfl 30 _ _ rfl (w.heap.size + 1) zb32 rfl rfl 30 zb32 hb1 info_a32 rfl zb32_one ?_; intro w7 hs7 hb7 hg7))
    refine bodyPost_ret (v := .tuple #[.agg zb32, .int .i64 1]) (ret2_blk hb7 rfl rfl Tryd.underlying30 rfl info_a32 rfl) rfl ?_
    exact ⟨rfl, (((Ext.refl w).alloc _).trans he1).grown hg7 (by simp)⟩

set_option maxRecDepth 100000 in
set_option maxHeartbeats 1000000 in
theorem r7Implied_yes (mv rv ov : Value) (m : List UInt8) (rev oth : List (List UInt8)) (w : World) (hmv : Sl w mv m) (hr : SlD w rv rev) (ho : SlD w ov oth) (hw : wholeB rev.length oth.length = true) (hlm : m.length ≤ 1048576) :
    Calls Tryd.prog 14 #[mv, .agg #[rv, ov]] w fun e w' => e = .returned (.tuple #[dgV (impB m rev oth), .int .i64 0]) ∧ Ext w w' := by
  obtain ⟨Am, cm, rfl, hcm⟩ := hmv.form
  obtain ⟨Ar, cr, rfl, hcr⟩ := hr.form
  obtain ⟨Ao, co, rfl, hco⟩ := ho.form
  have HM := Lib.hid hmv
  have HR := Lib.hid hr
  have HO := Lib.hid ho
  obtain ⟨hwe, hwm⟩ := (wholeB_iff _ _).1 hw
  obtain ⟨hm1, hm2, _⟩ := (mayB_iff _).1 hwm
  have Hm := fun w => Lib.hid (r7May_any (rev.length : Int) w)
  rw [hwm] at Hm
  have Hwe := Lib.hid hwe
  have hle : oth.length ≤ 256 := by omega
  have hb : ((rev.length : Int) != (oth.length : Int)) = false := by simp [hwe]
  clear hmv hr ho hw hwm hwe
  have hl := impB_length m rev oth
  obtain ⟨y, hy⟩ : ∃ y, y = impB m rev oth := ⟨_, rfl⟩
  rw [← hy] at hl ⊢
  have Hl := Lib.hid hl
  have Hy := Lib.hid hy
  clear hl hy
  have hz32 : Hid (zb32.size = (bytesV y).toArray.size) := zb32_size _ Hl.out
  have hi32 : Hid ((Tryd.prog.info? 30).map (·.size) = some (bytesV y).toArray.size) := by rw [List.size_toArray, bytesV_length, Hl.out]; exact info_a32
  have hB0 := Blk.new w 26 #[.slice Ar rev.length cr, .slice Ao oth.length co]
  go_enter Tryd.func14, Tryd.ntmps14
  go_wp2_with (first | (refine wpList_alloc_blk rfl 30 rfl (.agg zb32) zero_a32 ?_; intro w1 hs1 hb1 he1; clear hs1; have h0 := (one_cells (hB0.ext he1)).1; have h1 := (one_cells (hB0.ext he1)).2))
  refine (Hm _).out.mono ?_
  rintro e w2 ⟨rfl, rfl⟩
  simp only [World.size_alloc] at hb1
  have HB1 := Lib.hid (hB0.ext he1)
  have Ew1 : Ext w w1 := ((Ext.refl w).alloc _).trans he1
  have hlw : w.heap.size + 1 < w1.heap.size := hb1.lt
  have Hs := Lib.hid (r7Sides_any _ m rev.length w1 (HM.out.ext Ew1) hlm (by omega))
  obtain ⟨z, hzz⟩ : ∃ z, z = msgB m := ⟨_, rfl⟩
  rw [← hzz] at Hs
  have Hz := Lib.hid hzz
  clear hzz hB0 Hm
  go_wp2_with fail
  with_reducible refine Hs.out.mono ?_
  rintro e w3 ⟨v3, rfl, hO3, E3⟩
  obtain ⟨A3, c3, rfl, hc3⟩ := own_form hO3
  have HS := Lib.hid (SlR.of_own hO3)
  clear hO3 Hs h0 h1 hb
  have hb3 := hb1.ext E3
  have HB3 := Lib.hid (HB1.out.ext E3)
  have Ew3 := Ew1.trans E3
  have h3s := E3.size
  go_wp2
  go_loopw [8, 6] (fun i v wr => ∃ k : Nat, k ≤ rev.length ∧ i = .int .i64 k ∧ Own wr w3.heap.size v (impS m rev oth k) ∧ Ext w3 wr) (fun i _ _ => rev.length - (intOf i).toNat)
  case atStart => exact ⟨0, by omega, rfl, Own.none_ _ _, Ext.refl _⟩
  case round =>
    obtain ⟨k, hkb, rfl, hO, E⟩ := hrel
    obtain ⟨A6, c6, rfl, hc6⟩ := hO.form
    have hlen := impS_length m rev oth k HO.out.2 (by rw [← Hwe.out]; omega)
    have HOw := Lib.hid hO
    have Hlen := Lib.hid hlen
    clear hO hlen
    have Ew := Ew3.trans E
    have hrv := (one_cells (HB3.out.ext E)).1
    by_cases hlt : k < rev.length
    · obtain ⟨br, or, rfl, hcr'⟩ := (HR.out.ext Ew).at_ hlt
      obtain ⟨bo, oo, rfl, hco0⟩ := HO.out.at_ (show k < oth.length by have := Hwe.out; omega)
      have hlr := HR.out.len hlt
      have hlo := HO.out.len (show k < oth.length by have := Hwe.out; omega)
      have hbo : bo < w.heap.size := by
        have := World.block_lt_of_cell? w _ (hco0 0 _ (bytesV_get _ 0 (by omega)))
        simpa using this
      have hco' := hco0.ext Ew
      have hdr := dAt_eq hlt
      have hdo := dAt_eq (show k < oth.length by have := Hwe.out; omega)
      rw [← hdr] at hcr' hlr
      rw [← hdo] at hco' hlo
      obtain ⟨x, hx⟩ : ∃ x, x = dAt rev k := ⟨_, rfl⟩
      obtain ⟨t, ht⟩ : ∃ t, t = dAt oth k := ⟨_, rfl⟩
      rw [← hx] at hcr' hlr
      rw [← ht] at hco' hlo
      obtain ⟨y0, hy0⟩ : ∃ y, y = sumB x := ⟨_, rfl⟩
      have Hr := Lib.hid (rOf_any _ x wr (sl_cells hcr' hlr) (by omega))
      rw [← hy0] at Hr
      have Hx := Lib.hid hx
      have Ht := Lib.hid ht
      have Hy0 := Lib.hid hy0
      have L0 : Hid (y0.length = 32) := by show _ = _; rw [hy0]; exact sumB_length _
      have Hlo := Lib.hid hlo
      have Hco := Lib.hid hco'
      clear hx ht hlr hlo hcr' hco' hdr hdo hy0 hco0
      have i1 : Hid ((Tryd.prog.info? 30).map (·.size) = some (bytesV y0).toArray.size) := by rw [List.size_toArray, bytesV_length, L0.out]; exact info_a32
      have s1 : Hid (zb32.size = (bytesV y0).toArray.size) := zb32_size _ L0.out
      have hkl : k < oth.length := by have := Hwe.out; omega
      have hsd := sideB_lt z k
      obtain ⟨b3, o3, rfl, hx3⟩ := (HS.out.ext E).here (by omega)
      have hcs := hx3 k _ (sidesV_get z rev.length k hlt)
      obtain ⟨sd, hsdz⟩ : ∃ sd, sd = sideB z k := ⟨_, rfl⟩
      rw [← hsdz] at hsd hcs
      have Hsd := Lib.hid hsdz
      clear hsdz hx3
      go_wp2_with fail
      with_reducible refine Hr.out.mono ?_
      rintro e w4 ⟨rfl, E4⟩
      clear Hr
      have hcases : sd = 0 ∨ sd = 1 := by omega
      rcases hcases with h0 | h0
      focus
        subst h0
        go_wp2_with (first | (refine wpList_alloc_blk rfl 30 rfl (.agg zb32) zero_a32 ?_; intro w5 hs5 hb5 he5; clear hs5) | (refine wpList_store_blk rfl 30 _ _ rfl w4.heap.size (bytesV y0).toArray rfl rfl 30 zb32 hb5 i1.out s1.out (bytes_one _) ?_; intro w6 hs6 hb6 hg6; have E46 : Ext w4 w6 := he5.grown hg6 (by simp); have Er6 := E4.trans E46; have hcs6 := Er6.cell hcs))
        have E36 := E.trans Er6
        have hov := (one_cells (HB3.out.ext E36)).2
        have hov' : w6.drew.cell? ⟨w.heap.size, 1, none⟩ = some (.slice (some ⟨bo, oo, none⟩) oth.length co) := hov
        have HO6 := Lib.hid ((HOw.out.ext Er6).ext (Ext.refl w6).drew)
        have hne6 : (Value.slice A6 (impS m rev oth k).length c6).ownBlock ≠ some w.heap.size := HO6.out.ne ((HB3.out.ext E36).ext (Ext.refl w6).drew) (by decide)
        have hs36 := E36.size
        refine wp_region_chain 8 [(true, 0), (true, 1), (true, 3), (true, 4), (true, 5), (true, 6), (true, 7), (false, 2)] (fun w' => w'.cell? ⟨w.heap.size, 1, none⟩ = some (.slice (some ⟨bo, oo, none⟩) oth.length co)) (by kernel_rfl) (by kernel_rfl) hov' ?_
        iterate 7
          refine wpTake_read _ _ ?_ rfl rfl ?_ ?_
          rotate_left 1
          focus
            intro wS hS
            try dsimp only at hS
            go_simp
            first | done | with_reducible rfl
          simp only [Act.put, List.setIfInBounds_toArray, List.set_cons_zero, List.set_cons_succ]
        refine wpTake_do _ _ rfl rfl (fun K hK' => ?_)
        refine wp_appB HO6.out ((sl_blk32 hb6 L0.out).ext (Ext.refl w6).drew) _ _ rfl rfl rfl (by rw [Hlen.out, L0.out]; omega) (by show w3.heap.size ≤ w6.heap.size; omega) ?_
        intro v7 w7 ho7 hg7 hq7
        refine hK' _ _ (hg7.cell hov' (Ne.symm hne6)) ?_
        clear hK' K
        simp only [Act.put, List.setIfInBounds_toArray, List.set_cons_zero, List.set_cons_succ]
        refine wpTake_nil ?_
        simp only [List.drop_succ_cons, List.drop_zero]
        have S7 : Sl w7 (.slice (some ⟨bo, oo + k * 32, none⟩) 32 32) t := Sl.far ((sl_cells (Hco.out.ext Er6) Hlo.out).ext (Ext.refl w6).drew) hg7 (fun b o e e' => by cases e; have := HO6.out.from _ e'; omega)
        have E7 : Ext w3 w7 := (E36.drew).grown hg7 HO6.out.from
        have hs7 := hg7.size
        have HS7 := Lib.hid S7
        have HO7 := Lib.hid ho7
        have hl7 : (impS m rev oth k ++ y0).length = 64 * k + 32 := by rw [List.length_append, Hlen.out, L0.out]
        have Hl7 := Lib.hid hl7
        clear S7 ho7 hg7 hq7 hl7
        go_wp2_with (at_builtin; refine wpList_appB HO7.out HS7.out rfl _ _ rfl rfl rfl (by rw [Hl7.out, Hlo.out]; omega) (by have := E7.size; exact this) ?_; intro v8 w8 ho8 hg8 _)
        have O8 : Own w8 w3.heap.size v8 (impS m rev oth (k + 1)) := by
          rw [impS_succ, ← Hz.out, if_pos Hsd.out.symm, ← Hx.out, ← Ht.out, ← Hy0.out, ← List.append_assoc]; exact ho8
        have E8 := E7.grown hg8 HO7.out.from
        refine NoPanic.normal ?_
        clear ho8 hg8 hb5 he5 hs6 hb6 hg6 HO6 hov hov' hne6
        go_wp2
        go_roundw
        case rel => exact ⟨k + 1, by omega, by go_num, O8, E8⟩
        case measure => simp [intOf]; omega
      focus
        subst h0
        go_wp2_with (first | (refine wpList_alloc_blk rfl 30 rfl (.agg zb32) zero_a32 ?_; intro w5 hs5 hb5 he5; clear hs5) | (refine wpList_store_blk rfl 30 _ _ rfl w4.heap.size (bytesV y0).toArray rfl rfl 30 zb32 hb5 i1.out s1.out (bytes_one _) ?_; intro w6 hs6 hb6 hg6; have E46 : Ext w4 w6 := he5.grown hg6 (by simp); have Er6 := E4.trans E46; have hcs6 := Er6.cell hcs))
        have E36 := E.trans Er6
        have hov := (one_cells (HB3.out.ext E36)).2
        have hov' : w6.drew.cell? ⟨w.heap.size, 1, none⟩ = some (.slice (some ⟨bo, oo, none⟩) oth.length co) := hov
        have HO6 := Lib.hid ((HOw.out.ext Er6).ext (Ext.refl w6).drew)
        have hne6 : (Value.slice A6 (impS m rev oth k).length c6).ownBlock ≠ some w.heap.size := HO6.out.ne ((HB3.out.ext E36).ext (Ext.refl w6).drew) (by decide)
        have hs36 := E36.size
        refine wp_region_chain 8 [(true, 0), (true, 1), (true, 2), (true, 3), (true, 4), (true, 5), (true, 7), (false, 6)] (fun w' => w'.cell? ⟨w.heap.size, 1, none⟩ = some (.slice (some ⟨bo, oo, none⟩) oth.length co)) (by kernel_rfl) (by kernel_rfl) hov' ?_
        iterate 7
          refine wpTake_read _ _ ?_ rfl rfl ?_ ?_
          rotate_left 1
          focus
            intro wS hS
            try dsimp only at hS
            go_simp
            first | done | with_reducible rfl
          simp only [Act.put, List.setIfInBounds_toArray, List.set_cons_zero, List.set_cons_succ]
        refine wpTake_do _ _ rfl rfl (fun K hK' => ?_)
        refine wp_appB HO6.out ((sl_cells (Hco.out.ext Er6) Hlo.out).ext (Ext.refl w6).drew) _ _ rfl rfl rfl (by rw [Hlen.out, Hlo.out]; omega) (by show w3.heap.size ≤ w6.heap.size; omega) ?_
        intro v7 w7 ho7 hg7 hq7
        refine hK' _ _ (hg7.cell hov' (Ne.symm hne6)) ?_
        clear hK' K
        simp only [Act.put, List.setIfInBounds_toArray, List.set_cons_zero, List.set_cons_succ]
        refine wpTake_nil ?_
        simp only [List.drop_succ_cons, List.drop_zero]
        have S7 : Sl w7 (.slice (some ⟨w4.heap.size, 0, none⟩) 32 32) y0 := sl_blk32 (Blk.grown (w := w6.drew) hb6 hg7 (fun e => HO6.out.ne (w := w6.drew) hb6 (by decide) e.symm)) L0.out
        have E7 : Ext w3 w7 := (E36.drew).grown hg7 HO6.out.from
        have hs7 := hg7.size
        have HS7 := Lib.hid S7
        have HO7 := Lib.hid ho7
        have hl7 : (impS m rev oth k ++ t).length = 64 * k + 32 := by rw [List.length_append, Hlen.out, Hlo.out]
        have Hl7 := Lib.hid hl7
        clear S7 ho7 hg7 hq7 hl7
        go_wp2_with (at_builtin; refine wpList_appB HO7.out HS7.out rfl _ _ rfl rfl rfl (by rw [Hl7.out, L0.out]; omega) (by have := E7.size; exact this) ?_; intro v8 w8 ho8 hg8 _)
        have O8 : Own w8 w3.heap.size v8 (impS m rev oth (k + 1)) := by
          rw [impS_succ, ← Hz.out, if_neg (by rw [← Hsd.out]; omega), ← Hx.out, ← Ht.out, ← Hy0.out, ← List.append_assoc]; exact ho8
        have E8 := E7.grown hg8 HO7.out.from
        refine NoPanic.normal ?_
        clear ho8 hg8 hb5 he5 hs6 hb6 hg6 HO6 hov hov' hne6
        go_wp2
        go_roundw
        case rel => exact ⟨k + 1, by omega, by go_num, O8, E8⟩
        case measure => simp [intOf]; omega
    · obtain rfl : k = rev.length := by omega
      have Hc := Lib.hid (r7digest_any _ (impS m rev oth rev.length) wr HOw.out.sl (by rw [Hlen.out]; omega))
      rw [show digB (impS m rev oth rev.length) = y from Hy.out.symm] at Hc
      go_wp2_with fail
      refine Hc.out.mono ?_
      rintro e w4 ⟨rfl, E4⟩
      have B4 := hb3.ext (E.trans E4)
      go_wp2_with (first | (refine wpList_store_blk rfl 30 _ _ rfl (w.heap.size + 1) (bytesV y).toArray rfl rfl 30 zb32 B4 hi32.out hz32.out (bytes_one _) ?_; intro w7 hs7 hb7 hg7))
      refine bodyPost_ret (v := .tuple #[dgV y, .int .i64 0]) (ret2_blk hb7 rfl rfl Tryd.underlying30 rfl hi32.out rfl) rfl ?_
      exact ⟨rfl, (Ew.trans E4).grown hg7 (by simp)⟩
end Go.Proofs.YtgbdmelnmmopaaaDoor
