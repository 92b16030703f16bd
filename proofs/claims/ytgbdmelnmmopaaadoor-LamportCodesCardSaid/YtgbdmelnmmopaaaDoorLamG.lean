/- lamport: what a signature implies: contracts of whole, Implied and Encode. -/
import Derived.Test.YtgbdmelnmmopaaaDoorLamF
namespace Go.Proofs.YtgbdmelnmmopaaaDoor
open Go.RowKit

def wholeB (nr no : Nat) : Bool := decide (nr = no) && mayB nr
theorem wholeB_iff (nr no : Nat) : wholeB nr no = true ↔ nr = no ∧ mayB nr = true := by simp [wholeB]
/-- a digest of a list -/
def dAt (l : List (List UInt8)) (b : Nat) : List UInt8 := l[b]?.getD []
theorem dAt_eq {l : List (List UInt8)} {b : Nat} (h : b < l.length) : dAt l b = l[b] := by simp [dAt, h]
def impS (m : List UInt8) (rev oth : List (List UInt8)) (k : Nat) : List UInt8 := ((List.range k).map fun b => if sideB (msgB m) b = 0 then sumB (dAt rev b) ++ dAt oth b else dAt oth b ++ sumB (dAt rev b)).flatten
def impB (m : List UInt8) (rev oth : List (List UInt8)) : List UInt8 := digB (impS m rev oth rev.length)
theorem impB_length (m : List UInt8) (rev oth : List (List UInt8)) : (impB m rev oth).length = 32 := digB_length _
theorem impS_succ (m : List UInt8) (rev oth : List (List UInt8)) (k : Nat) : impS m rev oth (k + 1) = impS m rev oth k ++ (if sideB (msgB m) k = 0 then sumB (dAt rev k) ++ dAt oth k else dAt oth k ++ sumB (dAt rev k)) := by simp [impS, List.range_succ]
theorem impS_length (m : List UInt8) (rev oth : List (List UInt8)) (k : Nat) (ho : dsOk oth) (hk : k ≤ oth.length) : (impS m rev oth k).length = 64 * k := by
  induction k with
  | zero => rfl
  | succ k ih =>
    have h1 : (dAt oth k).length = 32 := by rw [dAt_eq (by omega)]; exact ho _ (List.getElem_mem _)
    rw [impS_succ, List.length_append, ih (by omega)]
    split <;> simp [sumB_length, h1] <;> omega
def encS (rev oth : List (List UInt8)) (k : Nat) : List UInt8 := ((List.range k).map fun b => dAt rev b ++ dAt oth b).flatten
theorem encS_succ (rev oth : List (List UInt8)) (k : Nat) : encS rev oth (k + 1) = encS rev oth k ++ (dAt rev k ++ dAt oth k) := by simp [encS, List.range_succ]
theorem encS_length (rev oth : List (List UInt8)) (k : Nat) (hr : dsOk rev) (ho : dsOk oth) (hkr : k ≤ rev.length) (hk : k ≤ oth.length) : (encS rev oth k).length = 64 * k := by
  induction k with
  | zero => rfl
  | succ k ih =>
    have h1 : (dAt oth k).length = 32 := by rw [dAt_eq (by omega)]; exact ho _ (List.getElem_mem _)
    have h2 : (dAt rev k).length = 32 := by rw [dAt_eq (by omega)]; exact hr _ (List.getElem_mem _)
    rw [encS_succ, List.length_append, ih (by omega) (by omega)]
    simp [h1, h2]
    omega
/-- what is signed implies the leaf's key -/
theorem impS_sign (seed m : List UInt8) (leaf bits k : Nat) (hk : k ≤ bits) : impS m (signR seed leaf m bits) (signO seed leaf m bits) k = leafS seed leaf k := by
  induction k with
  | zero => simp [impS, leafS]
  | succ k ih =>
    rw [impS_succ, leafS_succ, ih (by omega)]
    have hr : dAt (signR seed leaf m bits) k = secB seed leaf k (sideB (msgB m) k) := by simp [dAt, signR, show k < bits by omega]
    have ho : dAt (signO seed leaf m bits) k = sumB (secB seed leaf k (1 - sideB (msgB m) k)) := by simp [dAt, signO, show k < bits by omega]
    rw [hr, ho]
    have hs := sideB_lt (msgB m) k
    by_cases h0 : sideB (msgB m) k = 0
    · rw [if_pos h0, h0]
    · rw [if_neg h0, show sideB (msgB m) k = 1 by omega]
theorem impB_sign (seed m : List UInt8) (leaf bits : Nat) : impB m (signR seed leaf m bits) (signO seed leaf m bits) = leafB seed leaf bits := by
  rw [impB, signR_length, impS_sign _ _ _ _ _ (Nat.le_refl _)]
  rfl

set_option maxRecDepth 100000 in
set_option maxHeartbeats 400000 in
theorem lwhole_any (Ar Ao : Option Addr) (nr no cr co : Nat) (w : World) :
    Calls Tryd.prog 36 #[.agg #[.slice Ar nr cr, .slice Ao no co]] w fun e w' => e = .returned (.bool (wholeB nr no)) ∧ Ext w w' := by
  by_cases h : nr = no
  · have hm : wholeB nr no = mayB nr := by simp [wholeB, h]
    have hb : ((nr : Int) == (no : Int)) = true := by simp [h]
    rw [hm]
    have Hm := fun w => Lib.hid (lMay_any (nr : Int) w)
    clear h hm
    go_enter Tryd.func36, Tryd.ntmps36
    go_wp2_with fail
    refine (Hm _).out.mono ?_
    rintro e w1 ⟨rfl, rfl⟩
    go_wp2
    go_ret
    exact ⟨rfl, (Ext.refl w).alloc _⟩
  · have hm : wholeB nr no = false := by simp [wholeB, h]
    have hb : ((nr : Int) == (no : Int)) = false := by simp; omega
    rw [hm]
    clear h hm
    go_enter Tryd.func36, Tryd.ntmps36
    go_wp2
    go_ret
    exact ⟨rfl, (Ext.refl w).alloc _⟩

/-- a block of two slices -/
theorem one_cells {w : World} {g : Nat} {a b : Value} (h : Blk w g 26 #[a, b]) : w.cell? ⟨g, 0, none⟩ = some a ∧ w.cell? ⟨g, 1, none⟩ = some b := ⟨h.cell 0, h.cell 1⟩

set_option maxRecDepth 100000 in
set_option maxHeartbeats 400000 in
theorem lImplied_no (mv : Value) (Ar Ao : Option Addr) (nr no cr co : Nat) (w : World) (hno : wholeB nr no = false) :
    Calls Tryd.prog 13 #[mv, .agg #[.slice Ar nr cr, .slice Ao no co]] w fun e w' => e = .returned (.tuple #[.agg zb32, .int .i64 1]) ∧ Ext w w' := by
  have Hw := fun w => Lib.hid (lwhole_any Ar Ao nr no cr co w)
  rw [hno] at Hw
  clear hno
  go_enter Tryd.func13, Tryd.ntmps13
  have hB0 := Blk.new w 26 #[.slice Ar nr cr, .slice Ao no co]
  go_wp2_with (first | (refine wpList_alloc_blk rfl 30 rfl (.agg zb32) zero_a32 ?_; intro w1 hs1 hb1 he1; clear hs1) | (refine wpList_load_blk (hB0.ext he1) rfl 26 _ rfl rfl Tryd.underlying26 rfl info_one ?_))
  refine (Hw _).out.mono ?_
  rintro e w2 ⟨rfl, E2⟩
  have hb2 := hb1.ext E2
  simp only [World.size_alloc] at hb2
  go_wp2_with (first | (refine wpList_build_to rfl 30 _ rfl zb32 (by kernel_rfl) ?_) | (refine wpList_store_blk rfl 30 _ _ rfl (w.heap.size + 1) zb32 rfl rfl 30 zb32 hb2 info_a32 rfl zb32_one ?_; intro w7 hs7 hb7 hg7))
  refine bodyPost_ret (v := .tuple #[.agg zb32, .int .i64 1]) (ret2_blk hb7 rfl rfl Tryd.underlying30 rfl info_a32 rfl) rfl ?_
  exact ⟨rfl, ((((Ext.refl w).alloc _).trans he1).trans E2).grown hg7 (by simp)⟩

set_option maxRecDepth 100000 in
set_option maxHeartbeats 1000000 in
theorem lImplied_yes (mv rv ov : Value) (m : List UInt8) (rev oth : List (List UInt8)) (w : World) (hK : Kst w) (hmv : Sl w mv m) (hr : SlD w rv rev) (ho : SlD w ov oth) (hw : wholeB rev.length oth.length = true) (hlm : m.length ≤ 1048576) :
    Calls Tryd.prog 13 #[mv, .agg #[rv, ov]] w fun e w' => e = .returned (.tuple #[dgV (impB m rev oth), .int .i64 0]) ∧ Ext w w' := by
  obtain ⟨Am, cm, rfl, hcm⟩ := hmv.form
  obtain ⟨Ar, cr, rfl, hcr⟩ := hr.form
  obtain ⟨Ao, co, rfl, hco⟩ := ho.form
  have HM := Lib.hid hmv
  have HR := Lib.hid hr
  have HO := Lib.hid ho
  have Hw := fun w => Lib.hid (lwhole_any Ar Ao rev.length oth.length cr co w)
  rw [hw] at Hw
  obtain ⟨hwe, hwm⟩ := (wholeB_iff _ _).1 hw
  obtain ⟨hm1, hm2, _⟩ := (mayB_iff _).1 hwm
  have Hwe := Lib.hid hwe
  have hle : oth.length ≤ 256 := by omega
  clear hmv hr ho hw hwm hwe
  have hz := msgB_length m
  obtain ⟨z, hzz⟩ : ∃ z, z = msgB m := ⟨_, rfl⟩
  rw [← hzz] at hz
  have Hz := Lib.hid hzz
  have HL := Lib.hid hz
  clear hz hzz
  have hl := impB_length m rev oth
  obtain ⟨y, hy⟩ : ∃ y, y = impB m rev oth := ⟨_, rfl⟩
  rw [← hy] at hl ⊢
  have Hl := Lib.hid hl
  have Hy := Lib.hid hy
  clear hl hy
  have hz32 : Hid (zb32.size = (bytesV y).toArray.size) := zb32_size _ Hl.out
  have hi32 : Hid ((Tryd.prog.info? 30).map (·.size) = some (bytesV y).toArray.size) := by rw [List.size_toArray, bytesV_length, Hl.out]; exact info_a32
  go_enter Tryd.func13, Tryd.ntmps13
  have hB0 := Blk.new w 26 #[.slice Ar rev.length cr, .slice Ao oth.length co]
  go_wp2_with (first | (refine wpList_alloc_blk rfl 30 rfl (.agg zb32) zero_a32 ?_; intro w1 hs1 hb1 he1; clear hs1) | (refine wpList_load_blk (hB0.ext he1) rfl 26 _ rfl rfl Tryd.underlying26 rfl info_one ?_))
  refine (Hw _).out.mono ?_
  rintro e w2 ⟨rfl, E2⟩
  simp only [World.size_alloc] at hb1
  have hb2 := hb1.ext E2
  have E12 := he1.trans E2
  have hB2 := hB0.ext E12
  have Ew2 : Ext w w2 := ((Ext.refl w).alloc _).trans E12
  clear hb1 hB0 he1 E2 E12 Hw
  have Hof := Lib.hid (lof_any _ m w2 (hK.ext Ew2) (HM.out.ext Ew2) hlm)
  rw [← Hz.out] at Hof
  go_wp2_with fail
  refine Hof.out.mono ?_
  rintro e w3 ⟨rfl, E3⟩
  clear Hof
  have hb3 := hb2.ext E3
  have hB3 := hB2.ext E3
  have Ew3 := Ew2.trans E3
  have HB3 := Lib.hid hB3
  have hr3 := (one_cells hB3).1
  have hlw : w.heap.size + 1 < w3.heap.size := hb3.lt
  have hr3' := ((Ext.refl w3).alloc (.cells #[.slice none 0 0] 56)).cell hr3
  clear hb2 hB2 E3 Ew2 hB3
  go_wp2
  have hg0 : Blk (w3.alloc (.cells #[.slice none 0 0] 56)) w3.heap.size 56 #[.slice none 0 0] := Blk.new w3 _ _
  have E0 : Ext w3 (w3.alloc (.cells #[.slice none 0 0] 56)) := (Ext.refl w3).alloc _
  clear hr3 hr3'
  go_loopw [28] (fun i wr => ∃ k : Nat, k ≤ rev.length ∧ i = .int .i64 k ∧ (∃ v, Blk wr w3.heap.size 56 #[v] ∧ Own wr w3.heap.size v (impS m rev oth k)) ∧ Ext w3 wr) (fun i _ => rev.length - (intOf i).toNat)
  case atStart => exact ⟨0, by omega, rfl, ⟨_, hg0, Own.none_ _ _⟩, E0⟩
  case round =>
    clear hg0 E0
    obtain ⟨k, hkb, rfl, ⟨v, hB, hO⟩, E⟩ := hrel
    have hlen := impS_length m rev oth k HO.out.2 (by rw [← Hwe.out]; omega)
    have HB := Lib.hid hB
    have HOw := Lib.hid hO
    have Hlen := Lib.hid hlen
    clear hB hO hlen
    have Ew := Ew3.trans E
    by_cases hlt : k < rev.length
    · obtain ⟨br, or, rfl, hcr'⟩ := (HR.out.ext Ew).at_ hlt
      obtain ⟨bo, oo, rfl, hco'⟩ := (HO.out.ext Ew).at_ (show k < oth.length by have := Hwe.out; omega)
      have hlr := HR.out.len hlt
      have hlo := HO.out.len (show k < oth.length by have := Hwe.out; omega)
      have hdr := dAt_eq hlt
      have hdo := dAt_eq (show k < oth.length by have := Hwe.out; omega)
      rw [← hdr] at hcr' hlr
      rw [← hdo] at hco' hlo
      obtain ⟨x, hx⟩ : ∃ x, x = dAt rev k := ⟨_, rfl⟩
      obtain ⟨t, ht⟩ : ∃ t, t = dAt oth k := ⟨_, rfl⟩
      rw [← hx] at hcr' hlr
      rw [← ht] at hco' hlo
      have Hx := Lib.hid hx
      have Ht := Lib.hid ht
      have Hlr := Lib.hid hlr
      have Hlo := Lib.hid hlo
      have Hcr := Lib.hid hcr'
      have Hco := Lib.hid hco'
      clear hx ht hlr hlo hcr' hco' hdr hdo
      have ix : Hid ((Tryd.prog.info? 30).map (·.size) = some (bytesV x).toArray.size) := by rw [List.size_toArray, bytesV_length, Hlr.out]; exact info_a32
      have qx : Hid (zb32.size = (bytesV x).toArray.size) := zb32_size _ Hlr.out
      have hkl : k < oth.length := by have := Hwe.out; omega
      have hsd := sideB_lt z k
      obtain ⟨sd, hsdz⟩ : ∃ sd, sd = sideB z k := ⟨_, rfl⟩
      rw [← hsdz] at hsd
      have Hsd := Lib.hid hsdz
      clear hsdz
      have Hside := Lib.hid (fun w' => lside_any z HL.out k (by omega) w')
      rw [← Hsd.out] at Hside
      go_wp2_with (first | (refine wpList_load_dg Hcr.out Hlr.out rfl _ rfl rfl ?_) | (refine wpList_alloc_blk rfl 30 rfl (.agg zb32) zero_a32 ?_; intro w4 hs4 hb4 he4; clear hs4) | (refine wpList_store_blk rfl 30 _ _ rfl wr.heap.size (bytesV x).toArray rfl rfl 30 zb32 hb4 ix.out qx.out (bytes_one _) ?_; intro w5 hs5 hb5 hg5))
      have E5 : Ext wr w5 := he4.grown hg5 (by simp)
      clear hb4 he4 hs5 hg5
      with_reducible refine (Hside.out _).mono ?_
      rintro e w6 ⟨rfl, E6⟩
      have D6 := hb5.ext E6
      have E36 := (E.trans E5).trans E6
      have Er6 := E5.trans E6
      have hov := (one_cells (HB3.out.ext E36)).2
      have HB6 := Lib.hid (HB.out.ext Er6)
      have HO6 := Lib.hid (HOw.out.ext Er6)
      have hco6 := Hco.out.ext Er6
      clear hb5 E5 E6
      have hcases : sd = 0 ∨ sd = 1 := by omega
      rcases hcases with h0 | h0
      focus
        subst h0
        go_wp2
        have Hsum := Lib.hid (fun w' (E' : Ext w6 w') => lsum_any x Hlr.out w' (hK.ext ((Ew3.trans E36).trans E')))
        refine wp_region_chain 8 [(true, 0), (true, 1), (true, 3), (true, 4), (true, 5), (true, 6), (true, 7), (false, 2)] (fun w' => Ext w6 w') (by kernel_rfl) (by kernel_rfl) (Ext.refl w6).drew ?_
        iterate 1
          refine wpTake_read _ _ ?_ rfl rfl ?_ ?_
          rotate_left 1
          focus
            intro wS hS
            try dsimp only at hS
            go_simp
            first | done | with_reducible rfl
          simp only [Act.put, List.setIfInBounds_toArray, List.set_cons_zero, List.set_cons_succ]
        refine wpTake_load _ _ rfl rfl 30 _ rfl (.agg (bytesV x).toArray) (fun wS hS => load_dg (D6.ext hS) Hlr.out) ?_
        simp only [Act.put, List.setIfInBounds_toArray, List.set_cons_zero, List.set_cons_succ]
        iterate 4
          refine wpTake_read _ _ ?_ rfl rfl ?_ ?_
          rotate_left 1
          focus
            intro wS hS
            try dsimp only at hS
            have hov' := Ext.cell hS hov
            go_simp
            first | done | with_reducible rfl
          simp only [Act.put, List.setIfInBounds_toArray, List.set_cons_zero, List.set_cons_succ]
        refine wpTake_load _ _ rfl rfl 30 _ rfl (.agg (bytesV t).toArray) (fun wS hS => run_load_dg (hco6.ext hS) Hlo.out) ?_
        simp only [Act.put, List.setIfInBounds_toArray, List.set_cons_zero, List.set_cons_succ]
        refine wpTake_do _ _ rfl rfl (fun K hK' => ?_)
        go_simp
        with_reducible refine (Hsum.out _ (Ext.refl w6).drew).mono ?_
        rintro e w7 ⟨rfl, E7⟩
        have E67 : Ext w6 w7 := (Ext.refl w6).drew.trans E7
        refine hK' _ _ E67 ?_
        clear hK' K
        refine wpTake_nil ?_
        simp only [List.drop_succ_cons, List.drop_zero]
        have Hadd := Lib.hid (ladd_any w3.heap.size w3.heap.size v (impS m rev oth k) (sumB x) t w7 (HB6.out.ext E67) (HO6.out.ext E67) (Nat.le_refl _) (sumB_length _) Hlo.out (by rw [Hlen.out]; omega))
        have hstep : Hid (impS m rev oth (k + 1) = impS m rev oth k ++ (sumB x ++ t)) := by show _ = _; rw [impS_succ, ← Hz.out, if_pos Hsd.out.symm, ← Hx.out, ← Ht.out]
      rotate_left
      focus
        subst h0
        go_wp2
        have Hsum := Lib.hid (fun w' (E' : Ext w6 w') => lsum_any x Hlr.out w' (hK.ext ((Ew3.trans E36).trans E')))
        refine wp_region_chain 8 [(true, 0), (true, 1), (true, 2), (true, 3), (true, 4), (true, 5), (true, 6), (false, 7)] (fun w' => Ext w6 w') (by kernel_rfl) (by kernel_rfl) (Ext.refl w6).drew ?_
        iterate 5
          refine wpTake_read _ _ ?_ rfl rfl ?_ ?_
          rotate_left 1
          focus
            intro wS hS
            try dsimp only at hS
            have hov' := Ext.cell hS hov
            go_simp
            first | done | with_reducible rfl
          simp only [Act.put, List.setIfInBounds_toArray, List.set_cons_zero, List.set_cons_succ]
        refine wpTake_load _ _ rfl rfl 30 _ rfl (.agg (bytesV t).toArray) (fun wS hS => run_load_dg (hco6.ext hS) Hlo.out) ?_
        simp only [Act.put, List.setIfInBounds_toArray, List.set_cons_zero, List.set_cons_succ]
        refine wpTake_load _ _ rfl rfl 30 _ rfl (.agg (bytesV x).toArray) (fun wS hS => load_dg (D6.ext hS) Hlr.out) ?_
        simp only [Act.put, List.setIfInBounds_toArray, List.set_cons_zero, List.set_cons_succ]
        refine wpTake_do _ _ rfl rfl (fun K hK' => ?_)
        go_simp
        with_reducible refine (Hsum.out _ (Ext.refl w6).drew).mono ?_
        rintro e w7 ⟨rfl, E7⟩
        have E67 : Ext w6 w7 := (Ext.refl w6).drew.trans E7
        refine hK' _ _ E67 ?_
        clear hK' K
        refine wpTake_nil ?_
        simp only [List.drop_succ_cons, List.drop_zero]
        have Hadd := Lib.hid (ladd_any w3.heap.size w3.heap.size v (impS m rev oth k) t (sumB x) w7 (HB6.out.ext E67) (HO6.out.ext E67) (Nat.le_refl _) Hlo.out (sumB_length _) (by rw [Hlen.out]; omega))
        have hstep : Hid (impS m rev oth (k + 1) = impS m rev oth k ++ (t ++ sumB x)) := by show _ = _; rw [impS_succ, ← Hz.out, if_neg (by rw [← Hsd.out]; omega), ← Hx.out, ← Ht.out]
      all_goals
        have E37 := E36.trans E67
        clear E7 Hsum HB6 HO6 hco6 hov D6 Er6
        go_wp2_with fail
        with_reducible refine Hadd.out.mono ?_
        rintro e w8 ⟨rfl, v', hB8, hO8, hb8⟩
        have E8 : Ext w3 w8 := E37.below hb8
        rw [← hstep.out] at hO8
        have HB8 := Lib.hid hB8
        have HO8 := Lib.hid hO8
        clear hB8 hO8 hb8 Hadd hstep
        go_wp2
        refine NoPanic.normal ?_
        go_wp2
        go_roundw
        case rel => exact ⟨k + 1, by omega, by go_num, ⟨v', HB8.out, HO8.out⟩, E8⟩
        case measure => simp [intOf]; omega
    · obtain rfl : k = rev.length := by omega
      have Hc := Lib.hid (ldigest_any w3.heap.size v (impS m rev oth rev.length) wr (hK.ext Ew) HB.out HOw.out.sl (by rw [Hlen.out]; omega))
      rw [show digB (impS m rev oth rev.length) = y from Hy.out.symm] at Hc
      go_wp2_with fail
      refine Hc.out.mono ?_
      rintro e w4 ⟨rfl, E4⟩
      have B4 := hb3.ext (E.trans E4)
      go_wp2_with (first | (refine wpList_store_blk rfl 30 _ _ rfl (w.heap.size + 1) (bytesV y).toArray rfl rfl 30 zb32 B4 hi32.out hz32.out (bytes_one _) ?_; intro w7 hs7 hb7 hg7))
      refine bodyPost_ret (v := .tuple #[dgV y, .int .i64 0]) (ret2_blk hb7 rfl rfl Tryd.underlying30 rfl hi32.out rfl) rfl ?_
      exact ⟨rfl, (Ew.trans E4).grown hg7 (by simp)⟩
end Go.Proofs.YtgbdmelnmmopaaaDoor
