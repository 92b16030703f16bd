/- Part 4 of the texts: LamI SigB Fork SigC SigD SigE SigF Row SigG SigH SigI SigJ SigM SigN SigK SigL. -/
import Derived.Test.YtddbmddblhjkkaaGreatDoorMgA3
import Derived.Test.YtddbmddblhjkkaaGreatDoorMgA2
import Derived.BigQuiet
/- lamport: contracts of Encode, of pursuivantref07.Same at equal signatures, and of Decode where a code may not be. -/
namespace Go.Proofs.YtddbmddblhjkkaaGreatDoor
open Go.RowKit


set_option maxRecDepth 100000 in
set_option maxHeartbeats 400000 in
theorem lEncode_no (Ar Ao : Option Addr) (nr no cr co : Nat) (w : World) (hno : wholeB nr no = false) :
    Calls Tryz.prog 40 #[.agg #[.slice Ar nr cr, .slice Ao no co]] w fun e w' => e = .returned (.tuple #[.slice none 0 0, .int .i64 1]) ∧ Ext w w' := by
  have Hw := fun w => Lib.hid (lwhole_any Ar Ao nr no cr co w)
  rw [hno] at Hw
  clear hno
  have hB0 := Blk.new w 42 #[.slice Ar nr cr, .slice Ao no co]
  go_enter Tryz.func40, Tryz.ntmps40
  go_wp2_with (first | (refine wpList_load_blk hB0 rfl 42 _ rfl rfl Tryz.underlying42 rfl info_one ?_))
  refine (Hw _).out.mono ?_
  rintro e w2 ⟨rfl, E2⟩
  go_wp2
  go_ret2
  exact ⟨rfl, ((Ext.refl w).alloc _).trans E2⟩

set_option maxRecDepth 100000 in
set_option maxHeartbeats 1000000 in
theorem lEncode_yes (rv ov : Value) (rev oth : List (List UInt8)) (w : World) (hr : SlD w rv rev) (ho : SlD w ov oth) (hw : wholeB rev.length oth.length = true) :
    Calls Tryz.prog 40 #[.agg #[rv, ov]] w fun e w' => ∃ v, e = .returned (.tuple #[v, .int .i64 0]) ∧ Sl w' v (encS rev oth rev.length) ∧ Ext w w' := by
  obtain ⟨Ar, cr, rfl, hcr⟩ := hr.form
  obtain ⟨Ao, co, rfl, hco⟩ := ho.form
  have HR := Lib.hid hr
  have HO := Lib.hid ho
  have Hw := fun w => Lib.hid (lwhole_any Ar Ao rev.length oth.length cr co w)
  rw [hw] at Hw
  obtain ⟨hwe, hwm⟩ := (wholeB_iff _ _).1 hw
  obtain ⟨hm1, hm2, _⟩ := (mayB_iff _).1 hwm
  have Hwe := Lib.hid hwe
  have hle : oth.length ≤ 256 := by omega
  clear hr ho hw hwm hwe
  have hB0 := Blk.new w 42 #[.slice Ar rev.length cr, .slice Ao oth.length co]
  go_enter Tryz.func40, Tryz.ntmps40
  go_wp2_with (first | (refine wpList_load_blk hB0 rfl 42 _ rfl rfl Tryz.underlying42 rfl info_one ?_))
  refine (Hw _).out.mono ?_
  rintro e w3 ⟨rfl, E3⟩
  have hB3 := hB0.ext E3
  have Ew3 : Ext w w3 := ((Ext.refl w).alloc _).trans E3
  have HB3 := Lib.hid hB3
  have hlw : w.heap.size < w3.heap.size := hB3.lt
  have hr3 := (one_cells hB3).1
  have hr3' := ((Ext.refl w3).alloc (.cells #[.slice none 0 0] 100)).cell hr3
  clear hB0 hB3 E3 Hw
  go_wp2
  have hg0 : Blk (w3.alloc (.cells #[.slice none 0 0] 100)) w3.heap.size 100 #[.slice none 0 0] := Blk.new w3 _ _
  have E0 : Ext w3 (w3.alloc (.cells #[.slice none 0 0] 100)) := (Ext.refl w3).alloc _
  clear hr3 hr3'
  go_loopw [15] (fun i wr => ∃ k : Nat, k ≤ rev.length ∧ i = .int .i64 k ∧ (∃ v, Blk wr w3.heap.size 100 #[v] ∧ Own wr w3.heap.size v (encS rev oth k)) ∧ Ext w3 wr) (fun i _ => rev.length - (intOf i).toNat)
  case atStart => exact ⟨0, by omega, rfl, ⟨_, hg0, Own.none_ _ _⟩, E0⟩
  case round =>
    clear hg0 E0
    obtain ⟨k, hkb, rfl, ⟨v, hB, hO⟩, E⟩ := hrel
    have hlen := encS_length rev oth k HR.out.2 HO.out.2 hkb (by rw [← Hwe.out]; omega)
    have HB := Lib.hid hB
    have HOw := Lib.hid hO
    have Hlen := Lib.hid hlen
    clear hB hO hlen
    have Ew := Ew3.trans E
    by_cases hlt : k < rev.length
    · obtain ⟨br, or, rfl, hcr'⟩ := (HR.out.ext Ew).at_ hlt
      obtain ⟨bo, oo, rfl, hco'⟩ := (HO.out.ext Ew).at_ (show k < oth.length by have := Hwe.out; omega)
      have hlr := HR.out.len hlt
      have hlo := HO.out.len (show k < oth.length by have := Hwe.out; omega)
      have hdr := dAt_eq hlt
      have hdo := dAt_eq (show k < oth.length by have := Hwe.out; omega)
      rw [← hdr] at hcr' hlr
      rw [← hdo] at hco' hlo
      obtain ⟨x, hx⟩ : ∃ x, x = dAt rev k := ⟨_, rfl⟩
      obtain ⟨t, ht⟩ : ∃ t, t = dAt oth k := ⟨_, rfl⟩
      rw [← hx] at hcr' hlr
      rw [← ht] at hco' hlo
      have Hx := Lib.hid hx
      have Ht := Lib.hid ht
      have Hlr := Lib.hid hlr
      have Hlo := Lib.hid hlo
      have Hcr := Lib.hid hcr'
      have Hco := Lib.hid hco'
      clear hx ht hlr hlo hcr' hco' hdr hdo
      have ix : Hid ((Tryz.prog.info? 33).map (·.size) = some (bytesV x).toArray.size) := by rw [List.size_toArray, bytesV_length, Hlr.out]; exact info_a32
      have qx : Hid (zb32.size = (bytesV x).toArray.size) := zb32_size _ Hlr.out
      have hkl : k < oth.length := by have := Hwe.out; omega
      go_wp2_with (first | (refine wpList_load_dg Hcr.out Hlr.out rfl _ rfl rfl ?_) | (refine wpList_alloc_blk rfl 33 rfl (.agg zb32) zero_a32 ?_; intro w4 hs4 hb4 he4; clear hs4) | (refine wpList_store_blk rfl 33 _ _ rfl wr.heap.size (bytesV x).toArray rfl rfl 33 zb32 hb4 ix.out qx.out (bytes_one _) ?_; intro w6 hs6 D6 hg6))
      have Er6 : Ext wr w6 := he4.grown hg6 (by simp)
      clear hb4 he4 hs6 hg6
      have E36 := E.trans Er6
      have hov := (one_cells (HB3.out.ext E36)).2
      have hco6 := Hco.out.ext Er6
      refine wp_region_chain 7 [(true, 0), (true, 1), (true, 2), (true, 3), (true, 4), (true, 5), (true, 6)] (fun w' => Ext w6 w') (by kernel_rfl) (by kernel_rfl) (Ext.refl w6).drew ?_
      iterate 1
        refine wpTake_read _ _ ?_ rfl rfl ?_ ?_
        rotate_left 1
        focus
          intro wS hS
          try dsimp only at hS
          go_simp
          first | done | with_reducible rfl
        simp only [Act.put, List.setIfInBounds_toArray, List.set_cons_zero, List.set_cons_succ]
      refine wpTake_load _ _ rfl rfl 33 _ rfl (.agg (bytesV x).toArray) (fun wS hS => load_dg (D6.ext hS) Hlr.out) ?_
      simp only [Act.put, List.setIfInBounds_toArray, List.set_cons_zero, List.set_cons_succ]
      iterate 4
        refine wpTake_read _ _ ?_ rfl rfl ?_ ?_
        rotate_left 1
        focus
          intro wS hS
          try dsimp only at hS
          have hov' := Ext.cell hS hov
          go_simp
          first | done | with_reducible rfl
        simp only [Act.put, List.setIfInBounds_toArray, List.set_cons_zero, List.set_cons_succ]
      refine wpTake_load _ _ rfl rfl 33 _ rfl (.agg (bytesV t).toArray) (fun wS hS => run_load_dg (hco6.ext hS) Hlo.out) ?_
      simp only [Act.put, List.setIfInBounds_toArray, List.set_cons_zero, List.set_cons_succ]
      refine wpTake_nil ?_
      simp only [List.drop_succ_cons, List.drop_zero]
      have Hadd := Lib.hid (ladd_any w3.heap.size w3.heap.size v (encS rev oth k) x t w6.drew ((HB.out.ext Er6).ext (Ext.refl w6).drew) ((HOw.out.ext Er6).ext (Ext.refl w6).drew) (Nat.le_refl _) Hlr.out Hlo.out (by rw [Hlen.out]; omega))
      have hstep : Hid (encS rev oth (k + 1) = encS rev oth k ++ (x ++ t)) := by show _ = _; rw [encS_succ, ← Hx.out, ← Ht.out]
      have E37 := E36.drew
      clear hco6 hov D6 Er6
      go_wp2_with fail
      with_reducible refine Hadd.out.mono ?_
      rintro e w8 ⟨rfl, v', hB8, hO8, hb8⟩
      have E8 : Ext w3 w8 := E37.below hb8
      rw [← hstep.out] at hO8
      have HB8 := Lib.hid hB8
      have HO8 := Lib.hid hO8
      clear hB8 hO8 hb8 Hadd hstep
      go_wp2
      refine NoPanic.normal ?_
      go_wp2
      go_roundw
      case rel => exact ⟨k + 1, by omega, by go_num, ⟨v', HB8.out, HO8.out⟩, E8⟩
      case measure => simp [intOf]; omega
    · obtain rfl : k = rev.length := by omega
      have hc0 : wr.cell? ⟨w3.heap.size, 0, none⟩ = some v := HB.out.cell 0
      go_wp2
      go_ret2
      exact ⟨v, rfl, HOw.out.sl, Ew⟩

set_option maxRecDepth 100000 in
set_option maxHeartbeats 1000000 in
theorem r7Same_eq (va vb ua ub : Value) (rs os : List (List UInt8)) (w : World) (ha : SlD w va rs) (hb : SlD w vb os) (hua : SlD w ua rs) (hub : SlD w ub os) (hl1 : rs.length ≤ 1073741824) (hl2 : os.length ≤ 1073741824) :
    Calls Tryz.prog 35 #[.agg #[va, vb], .agg #[ua, ub]] w fun e w' => e = .returned (.bool true) ∧ Ext w w' := by
  obtain ⟨Aa, ca, rfl, hca⟩ := ha.form
  obtain ⟨Ab, cb, rfl, hcb⟩ := hb.form
  obtain ⟨Au, cu, rfl, hcu⟩ := hua.form
  obtain ⟨Av, cv, rfl, hcv⟩ := hub.form
  have Ha := Lib.hid ha
  have Hb := Lib.hid hb
  have Hu := Lib.hid hua
  have Hv := Lib.hid hub
  clear ha hb hua hub
  have hB0 := Blk.new w 42 #[.slice Aa rs.length ca, .slice Ab os.length cb]
  have hB1 := Blk.new (w.alloc (.cells #[.slice Aa rs.length ca, .slice Ab os.length cb] 42)) 42 #[.slice Au rs.length cu, .slice Av os.length cv]
  have hB0' := hB0.alloc (.cells #[.slice Au rs.length cu, .slice Av os.length cv] 42)
  rw [World.size_alloc] at hB1
  have Ew3 : Ext w ((w.alloc (.cells #[.slice Aa rs.length ca, .slice Ab os.length cb] 42)).alloc (.cells #[.slice Au rs.length cu, .slice Av os.length cv] 42)) := ((Ext.refl w).alloc _).alloc _
  go_enter Tryz.func35, Tryz.ntmps35
  go_wp2
  revert hB0' hB1 Ew3
  generalize (w.alloc (.cells #[.slice Aa rs.length ca, .slice Ab os.length cb] 42)).alloc (.cells #[.slice Au rs.length cu, .slice Av os.length cv] 42) = w3
  intro hB1 hB0' Ew3
  clear hB0
  have c0 := (one_cells hB0').1
  have c1 := (one_cells hB0').2
  have c2 := (one_cells hB1).1
  have c3 := (one_cells hB1).2
  go_loopw [5] (fun i wr => ∃ k : Nat, k ≤ rs.length ∧ i = .int .i64 k ∧ Ext w3 wr) (fun i _ => rs.length - (intOf i).toNat)
  case atStart => exact ⟨0, by omega, rfl, Ext.refl _⟩
  case round =>
    obtain ⟨k, hkb, rfl, E⟩ := hrel
    have d0 := E.cell c0
    have d1 := E.cell c1
    have d2 := E.cell c2
    have d3 := E.cell c3
    by_cases hlt : k < rs.length
    · obtain ⟨b0, o0, rfl, hc0⟩ := (Ha.out.ext (Ew3.trans E)).at_ hlt
      obtain ⟨b2, o2, rfl, hc2⟩ := (Hu.out.ext (Ew3.trans E)).at_ hlt
      have hlx := Ha.out.len hlt
      obtain ⟨x, hx⟩ : ∃ x, x = rs[k] := ⟨_, rfl⟩
      rw [← hx] at hc0 hc2 hlx
      have Hlx := Lib.hid hlx
      have heq := eq_dg x hlx
      clear hx hlx
      go_wp2
      refine wp_region_chain 10 [(true, 0), (true, 1), (true, 2), (true, 3), (true, 4), (true, 5), (true, 6), (true, 7), (true, 8), (true, 9)] (fun w' => Ext wr w') (by kernel_rfl) (by kernel_rfl) (Ext.refl wr).drew ?_
      iterate 4
        refine wpTake_read _ _ ?_ rfl rfl ?_ ?_
        rotate_left 1
        focus
          intro wS hS
          try dsimp only at hS
          have e0 := Ext.cell hS d0
          go_simp
          first | done | with_reducible rfl
        simp only [Act.put, List.setIfInBounds_toArray, List.set_cons_zero, List.set_cons_succ]
      refine wpTake_load _ _ rfl rfl 33 _ rfl (.agg (bytesV x).toArray) (fun wS hS => run_load_dg (hc0.ext hS) Hlx.out) ?_
      simp only [Act.put, List.setIfInBounds_toArray, List.set_cons_zero, List.set_cons_succ]
      iterate 4
        refine wpTake_read _ _ ?_ rfl rfl ?_ ?_
        rotate_left 1
        focus
          intro wS hS
          try dsimp only at hS
          have e2 := Ext.cell hS d2
          go_simp
          first | done | with_reducible rfl
        simp only [Act.put, List.setIfInBounds_toArray, List.set_cons_zero, List.set_cons_succ]
      refine wpTake_load _ _ rfl rfl 33 _ rfl (.agg (bytesV x).toArray) (fun wS hS => run_load_dg (hc2.ext hS) Hlx.out) ?_
      simp only [Act.put, List.setIfInBounds_toArray, List.set_cons_zero, List.set_cons_succ]
      refine wpTake_nil ?_
      simp only [List.drop_succ_cons, List.drop_zero]
      clear hc0 hc2
      go_wp2
      refine NoPanic.normal ?_
      go_wp2
      go_roundw
      case rel => exact ⟨k + 1, by omega, by go_num, E.drew⟩
      case measure => simp [intOf]; omega
    · obtain rfl : k = rs.length := by omega
      obtain ⟨w4, rfl⟩ : ∃ w4 : World, w4 = wr := ⟨_, rfl⟩
      go_wp2
      go_loopw [6] (fun i wr => ∃ k : Nat, k ≤ os.length ∧ i = .int .i64 k ∧ Ext w3 wr) (fun i _ => os.length - (intOf i).toNat)
      case atStart => exact ⟨0, by omega, rfl, E⟩
      case round =>
        clear d0 d1 d2 d3 E
        obtain ⟨k, hkb, rfl, E⟩ := hrel
        have d0 := E.cell c0
        have d1 := E.cell c1
        have d2 := E.cell c2
        have d3 := E.cell c3
        by_cases hlt : k < os.length
        · obtain ⟨b0, o0, rfl, hc0⟩ := (Hb.out.ext (Ew3.trans E)).at_ hlt
          obtain ⟨b2, o2, rfl, hc2⟩ := (Hv.out.ext (Ew3.trans E)).at_ hlt
          have hlx := Hb.out.len hlt
          obtain ⟨x, hx⟩ : ∃ x, x = os[k] := ⟨_, rfl⟩
          rw [← hx] at hc0 hc2 hlx
          have Hlx := Lib.hid hlx
          have heq := eq_dg x hlx
          clear hx hlx
          go_wp2
          refine wp_region_chain 10 [(true, 0), (true, 1), (true, 2), (true, 3), (true, 4), (true, 5), (true, 6), (true, 7), (true, 8), (true, 9)] (fun w' => Ext wr w') (by kernel_rfl) (by kernel_rfl) (Ext.refl wr).drew ?_
          iterate 4
            refine wpTake_read _ _ ?_ rfl rfl ?_ ?_
            rotate_left 1
            focus
              intro wS hS
              try dsimp only at hS
              have e1 := Ext.cell hS d1
              go_simp
              first | done | with_reducible rfl
            simp only [Act.put, List.setIfInBounds_toArray, List.set_cons_zero, List.set_cons_succ]
          refine wpTake_load _ _ rfl rfl 33 _ rfl (.agg (bytesV x).toArray) (fun wS hS => run_load_dg (hc0.ext hS) Hlx.out) ?_
          simp only [Act.put, List.setIfInBounds_toArray, List.set_cons_zero, List.set_cons_succ]
          iterate 4
            refine wpTake_read _ _ ?_ rfl rfl ?_ ?_
            rotate_left 1
            focus
              intro wS hS
              try dsimp only at hS
              have e3 := Ext.cell hS d3
              go_simp
              first | done | with_reducible rfl
            simp only [Act.put, List.setIfInBounds_toArray, List.set_cons_zero, List.set_cons_succ]
          refine wpTake_load _ _ rfl rfl 33 _ rfl (.agg (bytesV x).toArray) (fun wS hS => run_load_dg (hc2.ext hS) Hlx.out) ?_
          simp only [Act.put, List.setIfInBounds_toArray, List.set_cons_zero, List.set_cons_succ]
          refine wpTake_nil ?_
          simp only [List.drop_succ_cons, List.drop_zero]
          clear hc0 hc2
          go_wp2
          refine NoPanic.normal ?_
          go_wp2
          go_roundw
          case rel => exact ⟨k + 1, by omega, by go_num, E.drew⟩
          case measure => simp [intOf]; omega
        · obtain rfl : k = os.length := by omega
          go_wp2
          go_ret
          exact ⟨rfl, Ew3.trans E⟩

set_option maxRecDepth 100000 in
set_option maxHeartbeats 400000 in
theorem lDecode_no (A : Option Addr) (n c : Nat) (w : World) (hn : n ≤ 1073741824) (hno : n % 64 ≠ 0 ∨ (n % 64 = 0 ∧ mayB (n / 64 : Nat) = false)) :
    Calls Tryz.prog 47 #[.slice A n c] w fun e w' => e = .returned (.tuple #[.agg noOne, .int .i64 11]) ∧ Ext w w' := by
  rcases hno with h | ⟨h, hm⟩
  · have hb : (((n : Int) % 64) != 0) = true := by rw [bne_iff_ne]; omega
    clear h
    go_enter Tryz.func47, Tryz.ntmps47
    go_wp2_with (first | (refine wpList_alloc_blk rfl 42 rfl (.agg noOne) zero_one ?_; intro w1 hs1 hb1 he1; clear hs1) | (refine wpList_build_to rfl 42 _ rfl noOne (by kernel_rfl) ?_) | (refine wpList_store_blk rfl 42 _ _ rfl w.heap.size noOne rfl rfl 42 noOne hb1 info_one rfl noOne_one ?_; intro w7 hs7 hb7 hg7))
    refine bodyPost_ret (v := .tuple #[.agg noOne, .int .i64 11]) (ret2_blk hb7 rfl rfl Tryz.underlying42 rfl info_one rfl) rfl ?_
    exact ⟨rfl, he1.grown hg7 (by simp)⟩
  · have hb : (((n : Int) % 64) != 0) = false := by rw [bne_eq_false_iff_eq]; omega
    have Hm := fun w => Lib.hid (lMay_any ((n : Int) / 64) w)
    rw [show ((n : Int) / 64) = ((n / 64 : Nat) : Int) by omega, hm] at Hm
    rw [show ((n / 64 : Nat) : Int) = (n : Int) / 64 by omega] at Hm
    clear h hm
    go_enter Tryz.func47, Tryz.ntmps47
    go_wp2_with (first | (refine wpList_alloc_blk rfl 42 rfl (.agg noOne) zero_one ?_; intro w1 hs1 hb1 he1; clear hs1))
    with_reducible refine (Hm _).out.mono ?_
    rintro e w2 ⟨rfl, rfl⟩
    go_wp2_with (first | (refine wpList_build_to rfl 42 _ rfl noOne (by kernel_rfl) ?_) | (refine wpList_store_blk rfl 42 _ _ rfl w.heap.size noOne rfl rfl 42 noOne hb1 info_one rfl noOne_one ?_; intro w7 hs7 hb7 hg7))
    refine bodyPost_ret (v := .tuple #[.agg noOne, .int .i64 11]) (ret2_blk hb7 rfl rfl Tryz.underlying42 rfl info_one rfl) rfl ?_
    exact ⟨rfl, he1.grown hg7 (by simp)⟩
end Go.Proofs.YtddbmddblhjkkaaGreatDoor
/- signer: public parts, signatures and signers in memory; May, Public, Used, Left, may of a signer. -/
namespace Go.Proofs.YtddbmddblhjkkaaGreatDoor
open Go.RowKit Go.Maps

def pkC (b h : Int) (r : List UInt8) : Array Value := (.int .i64 b :: .int .i64 h :: bytesV r).toArray
theorem pkC_0 (b h : Int) (r : List UInt8) : (pkC b h r)[0]? = some (.int .i64 b) := rfl
theorem pkC_1 (b h : Int) (r : List UInt8) : (pkC b h r)[1]? = some (.int .i64 h) := rfl
theorem pkC_size (b h : Int) (r : List UInt8) (hr : r.length = 32) : (pkC b h r).size = 34 := by simp [pkC, bytesV_length, hr]
theorem pkC_one (b h : Int) (r : List UInt8) : (pkC b h r).all (·.oneCell') = true := by
  simp only [pkC, List.all_toArray, List.all_cons]
  have := bytesV_one r
  simp [Value.oneCell', List.all_eq_true]
  intro x hx
  exact this x hx
def zeroPk : Array Value := pkC 0 0 (List.replicate 32 0)
theorem zero_pk (w : World) : (zeroValue 35).run Tryz.prog w = .ok (.agg zeroPk) w := by kernel_rfl
theorem info_pk : (Tryz.prog.info? 35).map (·.size) = some 34 := by kernel_rfl
theorem info_pkC (b h : Int) (r : List UInt8) (hr : r.length = 32) : (Tryz.prog.info? 35).map (·.size) = some (pkC b h r).size := by rw [pkC_size _ _ _ hr]; exact info_pk
theorem zeroPk_size (b h : Int) (r : List UInt8) (hr : r.length = 32) : zeroPk.size = (pkC b h r).size := by rw [pkC_size _ _ _ hr, zeroPk, pkC_size _ _ _ (by simp)]
/-- may a key of so many bits and this height be -/
def mayK (b h : Int) : Bool := mayB b && (decide (0 ≤ h) && decide (h ≤ 6))
theorem mayK_iff (b h : Int) : mayK b h = true ↔ mayB b = true ∧ 0 ≤ h ∧ h ≤ 6 := by simp [mayK]

set_option maxRecDepth 100000 in
set_option maxHeartbeats 400000 in
theorem sMay_any (b h : Int) (r : List UInt8) (w : World) : Calls Tryz.prog 23 #[.agg (pkC b h r)] w fun e w' => e = .returned (.bool (mayK b h)) ∧ Ext w w' := by
  have E0 : Ext w (w.alloc (.cells (pkC b h r) 35)) := (Ext.refl w).alloc _
  have hB := Blk.new w 35 (pkC b h r)
  have c0 : (w.alloc (.cells (pkC b h r) 35)).cell? ⟨w.heap.size, 0, none⟩ = some (.int .i64 b) := hB.cell 0
  have c1 : (w.alloc (.cells (pkC b h r) 35)).cell? ⟨w.heap.size, 1, none⟩ = some (.int .i64 h) := hB.cell 1
  have Hm := fun w => Lib.hid (lMay_any b w)
  have p0 := pkC_0 b h r
  have p1 := pkC_1 b h r
  clear hB
  have Hk : Hid (mayK b h = (mayB b && (decide (0 ≤ h) && decide (h ≤ 6)))) := Lib.hid rfl
  cases hm : mayB b with
  | false =>
    rw [hm] at Hm Hk
    go_enter Tryz.func23, Tryz.ntmps23
    go_wp2_with fail
    with_reducible refine (Hm _).out.mono ?_
    rintro e w2 ⟨rfl, rfl⟩
    go_wp2
    go_ret
    exact ⟨by rw [Hk.out]; rfl, E0⟩
  | true =>
    rw [hm] at Hm Hk
    by_cases h0 : 0 ≤ h
    · by_cases h6 : h ≤ 6
      all_goals
        go_enter Tryz.func23, Tryz.ntmps23
        go_wp2_with fail
        with_reducible refine (Hm _).out.mono ?_
        rintro e w2 ⟨rfl, rfl⟩
        go_wp2
        go_ret
        exact ⟨by rw [Hk.out]; simp [h0, h6], E0⟩
    · go_enter Tryz.func23, Tryz.ntmps23
      go_wp2_with fail
      with_reducible refine (Hm _).out.mono ?_
      rintro e w2 ⟨rfl, rfl⟩
      go_wp2
      go_ret
      exact ⟨by rw [Hk.out]; simp; omega, E0⟩

/-- a whole struct out of the middle of a block -/
theorem wpList_load_mid {P : Program} {ops : Array Oper} {rest : List Oper} {op : Oper} {a : Act} {Q : Exit → Act → World → Prop} {w : World} {b o : Nat} {cs : List Value} (hc : Cells w b o cs) (hgd : op.guard = none) (ty : TypeId) (x : Operand) (ho : op.op = .load ty x)
    (hx : a.eval x = .pointer (some ⟨b, o, none⟩)) {d : TypeDesc} (hu : P.underlying ty = some d) (hd : d.isRow = true) (hi : (P.info? ty).map (·.size) = some cs.length)
    (h : wpList P ops Q rest (a.put op.dst (.agg cs.toArray)) w) : wpList P ops Q (op :: rest) a w := by
  refine wpList_plain hgd fun K hK => ?_
  have hr := run_loadAt_mid (P := P) w b o ty cs d (fun j v hv => hc j v hv) hu hd hi
  unfold Oper.wp execOp
  simp only [ho, hx, Sem.run_bind, hr, Result.andThen_ok, Sem.run_pure]
  exact hK _ _ h

/-- a signer's cells -/
def sgC (sv lv : Value) (b h : Int) (r : List UInt8) (M : Nat) : Array Value := (sv :: lv :: .int .i64 b :: .int .i64 h :: (bytesV r ++ [.map (some M)])).toArray
theorem sgC_map (sv lv : Value) (b h : Int) (r : List UInt8) (M : Nat) (hr : r.length = 32) : (sgC sv lv b h r M)[36]? = some (.map (some M)) := by
  simp only [sgC, List.getElem?_toArray]
  show (bytesV r ++ [Value.map (some M)])[32]? = _
  rw [List.getElem?_append_right (by rw [bytesV_length, hr]; exact Nat.le_refl _), bytesV_length, hr]
  rfl
theorem sgC_pk {w : World} {S : Nat} {sv lv : Value} {b h : Int} {r : List UInt8} {M : Nat} (hB : Blk w S 61 (sgC sv lv b h r M)) : Cells w S 2 (pkC b h r).toList := by
  intro j v hv
  rw [hB.cell, sgC]
  simp only [List.getElem?_toArray]
  rw [Nat.add_comm]
  show (Value.int .i64 b :: Value.int .i64 h :: (bytesV r ++ [Value.map (some M)]))[j]? = _
  have e : (Value.int .i64 b :: Value.int .i64 h :: (bytesV r ++ [Value.map (some M)])) = (pkC b h r).toList ++ [Value.map (some M)] := by simp [pkC]
  rw [e, List.getElem?_append_left (List.getElem?_eq_some_iff.1 hv).1]
  exact hv
/-- the digests of a key's leaves -/
def lvsB (seed : List UInt8) (b h : Nat) : List (List UInt8) := (List.range (2 ^ h)).map fun i => leafB seed i b
theorem lvsB_length (seed : List UInt8) (b h : Nat) : (lvsB seed b h).length = 2 ^ h := by simp [lvsB]
theorem lvsB_ok (seed : List UInt8) (b h : Nat) : dsOk (lvsB seed b h) := by
  intro d hd
  simp only [lvsB, List.mem_map] at hd
  obtain ⟨i, _, rfl⟩ := hd
  exact leafB_length _ _ _
theorem lvsB_at (seed : List UInt8) (b h i : Nat) (hi : i < 2 ^ h) : dAt (lvsB seed b h) i = leafB seed i b := by simp [dAt, lvsB, hi]
def pubB (seed : List UInt8) (b h : Nat) : List UInt8 := rootB (lvsB seed b h) h
theorem pubB_length (seed : List UInt8) (b h : Nat) : (pubB seed b h).length = 32 := rootB_length (lvsB_ok _ _ _) (lvsB_length _ _ _)
/-- block S is a signer whose map is block M -/
structure Sgn (w : World) (S M : Nat) (seed : List UInt8) (b h : Nat) (u : Int → Option (List UInt8)) (n : Nat) : Prop where
  ex : ∃ sv lv, Blk w S 61 (sgC sv lv b h (pubB seed b h) M) ∧ Sl w sv seed ∧ SlD w lv (lvsB seed b h)
  um : UMap w M u n
  may : mayK b h = true
  len : seed.length ≤ 64
theorem Sgn.ext {w w' : World} {S M : Nat} {seed : List UInt8} {b h : Nat} {u : Int → Option (List UInt8)} {n : Nat} (s : Sgn w S M seed b h u n) (E : Ext w w') : Sgn w' S M seed b h u n := by
  obtain ⟨sv, lv, h1, h2, h3⟩ := s.ex
  exact ⟨⟨sv, lv, h1.ext E, h2.ext E, h3.ext E⟩, s.um.ext E, s.may, s.len⟩

set_option maxRecDepth 100000 in
set_option maxHeartbeats 400000 in
theorem sPublic_nil (w : World) : Calls Tryz.prog 18 #[.pointer none] w fun e w' => e = .returned (.agg zeroPk) ∧ Ext w w' := by
  have hi := info_pkC 0 0 (List.replicate 32 0) (by simp)
  go_enter Tryz.func18, Tryz.ntmps18
  go_wp2_with (first | (refine wpList_alloc_blk rfl 35 rfl (.agg zeroPk) zero_pk ?_; intro w1 hs1 hb1 he1; clear hs1) | (refine wpList_build_to rfl 35 _ rfl zeroPk (by kernel_rfl) ?_) | (refine wpList_store_blk rfl 35 _ _ rfl w.heap.size zeroPk rfl rfl 35 zeroPk hb1 hi rfl (pkC_one _ _ _) ?_; intro w7 hs7 hb7 hg7))
  refine bodyPost_ret (v := .agg zeroPk) (ret_blk hb7 rfl rfl Tryz.underlying35 rfl hi) rfl ?_
  exact ⟨rfl, he1.grown hg7 (by simp)⟩

set_option maxRecDepth 100000 in
set_option maxHeartbeats 400000 in
theorem sPublic_any (S M : Nat) (seed : List UInt8) (b h : Nat) (u : Int → Option (List UInt8)) (n : Nat) (w : World) (s : Sgn w S M seed b h u n) :
    Calls Tryz.prog 18 #[.pointer (some ⟨S, 0, none⟩)] w fun e w' => e = .returned (.agg (pkC b h (pubB seed b h))) ∧ Ext w w' := by
  obtain ⟨sv, lv, hB, _, _⟩ := s.ex
  have hpl := pubB_length seed b h
  obtain ⟨r, hr⟩ : ∃ r, r = pubB seed b h := ⟨_, rfl⟩
  rw [← hr] at hB hpl ⊢
  have hi := info_pkC b h r hpl
  have hz := zeroPk_size b h r hpl
  have hil : (Tryz.prog.info? 35).map (·.size) = some (pkC b h r).toList.length := by rw [hi]; simp
  have HP := Lib.hid (sgC_pk hB)
  clear s hB hr
  go_enter Tryz.func18, Tryz.ntmps18
  go_wp2_with (first | (refine wpList_alloc_blk rfl 35 rfl (.agg zeroPk) zero_pk ?_; intro w1 hs1 hb1 he1; clear hs1) | (refine wpList_load_mid (HP.out.ext he1) rfl 35 _ rfl rfl Tryz.underlying35 rfl hil ?_) | (refine wpList_store_blk rfl 35 _ _ rfl w.heap.size (pkC b h r) rfl rfl 35 zeroPk hb1 hi hz (pkC_one _ _ _) ?_; intro w7 hs7 hb7 hg7))
  refine bodyPost_ret (v := .agg (pkC b h r)) (ret_blk hb7 rfl rfl Tryz.underlying35 rfl hi) rfl ?_
  exact ⟨rfl, he1.grown hg7 (by simp)⟩

set_option maxRecDepth 100000 in
set_option maxHeartbeats 400000 in
theorem sUsed_nil (i : Int) (w : World) : Calls Tryz.prog 17 #[.pointer none, .int .i64 i] w fun e w' => e = .returned (.bool false) ∧ w = w' := by
  go_enter Tryz.func17, Tryz.ntmps17
  go_wp2
  go_ret
  exact ⟨rfl, rfl⟩

set_option maxRecDepth 100000 in
set_option maxHeartbeats 400000 in
theorem sUsed_any (S M : Nat) (seed : List UInt8) (b h : Nat) (u : Int → Option (List UInt8)) (n : Nat) (i : Int) (w : World) (s : Sgn w S M seed b h u n) (hi : -9223372036854775808 ≤ i ∧ i ≤ 9223372036854775807) :
    Calls Tryz.prog 17 #[.pointer (some ⟨S, 0, none⟩), .int .i64 i] w fun e w' => e = .returned (.bool (u i).isSome) ∧ w = w' := by
  obtain ⟨sv, lv, hB, _, _⟩ := s.ex
  have hlook := s.um.look (wf_i64 hi)
  have c36 : w.cell? ⟨S, 36, none⟩ = some (.map (some M)) := (hB.cell 36).trans (sgC_map _ _ _ _ _ _ (pubB_length _ _ _))
  obtain ⟨o, ho⟩ : ∃ o, o = u i := ⟨_, rfl⟩
  rw [← ho] at hlook ⊢
  obtain ⟨t, ht⟩ : ∃ t, t = strB' (o.getD []) := ⟨_, rfl⟩
  rw [← ht] at hlook
  clear s hB ho ht hi
  go_enter Tryz.func17, Tryz.ntmps17
  go_wp2
  go_ret
  exact ⟨rfl, rfl⟩

set_option maxRecDepth 100000 in
set_option maxHeartbeats 400000 in
theorem sLeft_nil (w : World) : Calls Tryz.prog 14 #[.pointer none] w fun e w' => e = .returned (.int .i64 0) ∧ w = w' := by
  go_enter Tryz.func14, Tryz.ntmps14
  go_wp2
  go_ret
  exact ⟨rfl, rfl⟩

set_option maxRecDepth 100000 in
set_option maxHeartbeats 1000000 in
theorem sLeft_any (S M : Nat) (seed : List UInt8) (b h : Nat) (u : Int → Option (List UInt8)) (n : Nat) (w : World) (s : Sgn w S M seed b h u n) (hn : n ≤ 2 ^ h) :
    Calls Tryz.prog 14 #[.pointer (some ⟨S, 0, none⟩)] w fun e w' => e = .returned (.int .i64 ((2 ^ h : Nat) - n : Int)) ∧ Ext w w' := by
  obtain ⟨sv, lv, hB, _, hl⟩ := s.ex
  obtain ⟨A, c, rfl, hc⟩ := hl.form
  rw [lvsB_length] at hB hc
  have h6 := (mayK_iff _ _).1 s.may
  have hle := pow_le (show h ≤ 6 by omega)
  have c36 : w.cell? ⟨S, 36, none⟩ = some (.map (some M)) := (hB.cell 36).trans (sgC_map _ _ _ _ _ _ (pubB_length _ _ _))
  have c1 : w.cell? ⟨S, 1, none⟩ = some (.slice A (2 ^ h) c) := hB.cell 1
  have HU := Lib.hid s.um
  obtain ⟨N, hN⟩ : ∃ N, N = 2 ^ h := ⟨_, rfl⟩
  rw [← hN] at hn hle c1 ⊢
  have e1 : IntKind.i64.wrap ((N : Int) - (n : Int)) = (N : Int) - (n : Int) := IntWalk.i64_in _ (by omega)
  clear s hB hl h6 hN hc
  go_enter Tryz.func14, Tryz.ntmps14
  go_wp2
  refine wp_region_chain 11 [(true, 0), (true, 1), (true, 2), (true, 3), (true, 4), (true, 5), (true, 6), (true, 7), (true, 8), (true, 9), (true, 10)] (fun w' => Ext w w') (by kernel_rfl) (by kernel_rfl) (Ext.refl w).drew ?_
  iterate 11
    refine wpTake_read _ _ ?_ rfl rfl ?_ ?_
    rotate_left 1
    focus
      intro wS hS
      try dsimp only at hS
      have d1 := Ext.cell hS c1
      have d36 := Ext.cell hS c36
      have hlen := fun ty => (HU.out.ext hS).len ty
      go_simp
      first | done | with_reducible rfl
    simp only [Act.put, List.setIfInBounds_toArray, List.set_cons_zero, List.set_cons_succ]
  refine wpTake_nil ?_
  simp only [List.drop_succ_cons, List.drop_zero]
  go_wp2
  refine NoPanic.normal ?_
  go_wp2
  go_ret
  exact ⟨rfl, (Ext.refl w).drew⟩

set_option maxRecDepth 100000 in
set_option maxHeartbeats 400000 in
theorem smay_nil (v : Value) (w : World) : Calls Tryz.prog 30 #[.pointer none, v] w fun e w' => e = .returned (.int .i64 6) ∧ w = w' := by
  go_enter Tryz.func30, Tryz.ntmps30
  go_wp2
  go_ret
  exact ⟨rfl, rfl⟩

set_option maxRecDepth 100000 in
set_option maxHeartbeats 400000 in
theorem smay_any (p : Addr) (A : Option Addr) (n c : Nat) (w : World) : Calls Tryz.prog 30 #[.pointer (some p), .slice A n c] w fun e w' => e = .returned (.int .i64 (if n ≤ 1048576 then 0 else 3)) ∧ w = w' := by
  by_cases h : n ≤ 1048576
  · rw [if_pos h]
    have h1 : ¬ ((n : Int) > 1048576) := by omega
    go_enter Tryz.func30, Tryz.ntmps30
    go_wp2
    go_ret
    exact ⟨rfl, rfl⟩
  · rw [if_neg h]
    have h1 : (n : Int) > 1048576 := by omega
    go_enter Tryz.func30, Tryz.ntmps30
    go_wp2
    go_ret
    exact ⟨rfl, rfl⟩
end Go.Proofs.YtddbmddblhjkkaaGreatDoor
/- The chain law of a region that draws its order, with forks: two operations of which either may come first. No program. -/
namespace Go.Proofs.YtddbmddblhjkkaaGreatDoor
open Go.RowKit

inductive Plan where
  | done
  | read (i : Nat) (r : Plan)
  | act (i : Nat) (r : Plan)
  | fork (i j : Nat) (ri rj : Plan)
def Plan.len : Plan → Nat
  | .done => 0
  | .read _ r => r.len + 1
  | .act _ r => r.len + 1
  | .fork _ _ ri _ => ri.len + 1
section
variable {P : Program} {ops : Array Oper} {Q : Exit → Act → World → Prop} {md : Region.Mode} {S : World → Prop}
/-- what is to be shown along a plan -/
def wpPlan (P : Program) (ops : Array Oper) (Q : Exit → Act → World → Prop) (S : World → Prop) (L : Act → World → Prop) : Plan → Act → World → Prop
  | .done, a, w => L a w
  | .read i r, a, w => ∃ o v, ops[i]? = some o ∧ YieldsIf P ops S o v a ∧ wpPlan P ops Q S L r (a.put o.dst v) w
  | .act i r, a, w => ∃ o, ops[i]? = some o ∧ Region.wanted o (yielded ops a.tmps) = true ∧ o.wp P a w (fun a' w' => S w' ∧ wpPlan P ops Q S L r a' w') Q
  | .fork i j ri rj, a, w => (∃ o, ops[i]? = some o ∧ Region.wanted o (yielded ops a.tmps) = true ∧ o.wp P a w (fun a' w' => S w' ∧ wpPlan P ops Q S L ri a' w') Q) ∧
      (∃ o, ops[j]? = some o ∧ Region.wanted o (yielded ops a.tmps) = true ∧ o.wp P a w (fun a' w' => S w' ∧ wpPlan P ops Q S L rj a' w') Q)
/-- that plan stands for all orders -/
def chkP (md : Region.Mode) (ops : Array Oper) (n : Nat) : Plan → Array Bool → Bool
  | .done, listed => Region.seqB md ops (ops.size - n) n listed
  | .read i r, listed => decide (i < n) && (Region.ready md ops listed).contains i && Region.free md ops listed i && chkP md ops n r (listed.setIfInBounds i true)
  | .act i r, listed => decide (i < n) && decide (Region.ready md ops listed = [i]) && chkP md ops n r (listed.setIfInBounds i true)
  | .fork i j ri rj, listed => decide (i < n) && decide (j < n) && decide (Region.ready md ops listed = [i, j]) && decide (ri.len = rj.len) && chkP md ops n ri (listed.setIfInBounds i true) && chkP md ops n rj (listed.setIfInBounds j true)

theorem headS_of_plan {n : Nat} {Lq : Act → World → Prop} (hsel : Region.noSelect ops = true) (hs : Region.sinkB md ops n = true) (hc : Region.chainB md ops n = true) (hn : n < ops.size)
    (hQ : ∀ c a a' w, Q (.panic c) a w → Q (.panic c) a' w) :
    ∀ (p : Plan) (listed : Array Bool) (a : Act) (w : World), HeadInv md ops n listed → S w → chkP md ops n p listed = true → wpPlan P ops Q S Lq p a w →
    headS P md ops Q S n (fun listed' a' w' => Region.seqB md ops (ops.size - n) n listed' = true ∧ Lq a' w') p.len listed a w
  | .done, listed, a, w, _, _, hB, h => ⟨hB, h⟩
  | .read i r, listed, a, w, inv, hS, hB, h => by
    simp only [chkP, Bool.and_eq_true, decide_eq_true_eq] at hB
    obtain ⟨⟨⟨hin, hr⟩, hf⟩, hB'⟩ := hB
    obtain ⟨o, v, ho, hy, hk⟩ := h
    have hr' : i ∈ Region.ready md ops listed := by simpa using hr
    exact headS_first ho (Region.noSelect_spec hsel) hs hc hn hin (fun listed' a' w' hL => seqB_ready hL.1) (fun c a w => hQ c _ _ w) r.len listed a w inv (Region.free_spec ho hf) hr' hy hS
      (headS_of_plan hsel hs hc hn hQ r _ _ _ (inv.set hr' hin) hS hB' hk)
  | .act i r, listed, a, w, inv, hS, hB, h => by
    simp only [chkP, Bool.and_eq_true, decide_eq_true_eq] at hB
    obtain ⟨⟨hin, hr⟩, hB'⟩ := hB
    obtain ⟨o, ho, hw, hk⟩ := h
    have hr' : i ∈ Region.ready md ops listed := by rw [hr]; simp
    refine ⟨by rw [hr]; simp, fun j hj => ?_⟩
    rw [hr] at hj
    obtain rfl : j = i := by simpa using hj
    refine ⟨hin, ?_⟩
    unfold wpOp
    simp only [ho, hw, if_true]
    exact .inl (Oper.wp_mono (fun a' w' h' => ⟨h'.1, headS_of_plan hsel hs hc hn hQ r _ a' w' (inv.set hr' hin) h'.1 hB' h'.2⟩) hk)
  | .fork i j ri rj, listed, a, w, inv, hS, hB, h => by
    simp only [chkP, Bool.and_eq_true, decide_eq_true_eq] at hB
    obtain ⟨⟨⟨⟨⟨hin, hjn⟩, hr⟩, hlen⟩, hBi⟩, hBj⟩ := hB
    obtain ⟨⟨oi, hoi, hwi, hki⟩, ⟨oj, hoj, hwj, hkj⟩⟩ := h
    have hri : i ∈ Region.ready md ops listed := by rw [hr]; simp
    have hrj : j ∈ Region.ready md ops listed := by rw [hr]; simp
    refine ⟨by rw [hr]; simp, fun k hk => ?_⟩
    rw [hr] at hk
    have hk' : k = i ∨ k = j := by simpa using hk
    rcases hk' with rfl | rfl
    · refine ⟨hin, ?_⟩
      unfold wpOp
      simp only [hoi, hwi, if_true]
      exact .inl (Oper.wp_mono (fun a' w' h' => ⟨h'.1, headS_of_plan hsel hs hc hn hQ ri _ a' w' (inv.set hri hin) h'.1 hBi h'.2⟩) hki)
    · refine ⟨hjn, ?_⟩
      unfold wpOp
      simp only [hoj, hwj, if_true]
      refine .inl (Oper.wp_mono (fun a' w' h' => ⟨h'.1, ?_⟩) hkj)
      have := headS_of_plan hsel hs hc hn hQ rj _ a' w' (inv.set hrj hjn) h'.1 hBj h'.2
      rwa [← hlen] at this

/-- THE LAW -/
theorem wp_region_plan {id : Nat} {a : Act} {w : World} {l : List Oper} (n : Nat) (p : Plan) (S : World → Prop) (hm : P.follows .mixedOrders = true)
    (hB : (Region.noSelect l.toArray && decide (n < l.toArray.size) && decide (p.len = n) && Region.sinkB .any l.toArray n && Region.chainB .any l.toArray n && chkP .any l.toArray n p (Array.replicate l.toArray.size false)) = true)
    (hS : S w.drew) (h : wpPlan P l.toArray (NoPanic Q) S (fun a' w' => wpList P l.toArray (NoPanic Q) (l.drop n) a' w') p a w.drew) : (Code.region id l.toArray true).wp P Q a w := by
  refine wp_region_noPanic ?_
  simp only [Bool.and_eq_true, decide_eq_true_eq] at hB
  obtain ⟨⟨⟨⟨⟨hsel, hn⟩, hlen⟩, hs⟩, hc⟩, hchk⟩ := hB
  have hdl : (l.drop n).length = l.toArray.size - n := by simp
  have inv0 : HeadInv .any l.toArray n (Array.replicate l.toArray.size false) :=
    ⟨by simp, fun j oj _ hl => (by rw [getD_replicate_false] at hl; cases hl), fun t _ ht => getD_in (by simpa using ht) (getD_replicate_false _ _)⟩
  have H := headS_of_plan (md := .any) (Q := NoPanic Q) hsel hs hc hn (fun _ _ _ _ h => h) p _ a _ inv0 hS hchk h
  refine wp_region_any hm ?_
  have := wpAny_of_headS (Q := NoPanic Q) (g := l.toArray.size - n) (fun listed a' w' hL => by
    have := wpAny_of_seq (md := .any) (Q' := NoPanic Q) (l.drop n) n listed a' w' (fun j => by simp [List.getElem?_drop]) (by rw [hdl]; exact hL.1) hL.2
    rwa [hdl] at this) _ _ _ _ H
  rw [hlen, show n + (l.toArray.size - n) = l.toArray.size by omega] at this
  exact this
variable {L : Act → World → Prop}
theorem wpPlan_done {a : Act} {w : World} (h : L a w) : wpPlan P ops Q S L .done a w := h
theorem wpPlan_read {i : Nat} {p : Plan} {a : Act} {w : World} (o : Oper) (r : List Oper) (v : Value) (ho : ops.toList.drop i = o :: r) (hw : Region.wanted o (yielded ops a.tmps) = true) (hy : ∀ w, S w → (execOp a.eval o).run P w = .ok (.value v) w)
    (h : wpPlan P ops Q S L p (a.put o.dst v) w) : wpPlan P ops Q S L (.read i p) a w := ⟨o, v, at_of_drop ho, .inl ⟨hw, hy⟩, h⟩
theorem wpPlan_act {i : Nat} {p : Plan} {a : Act} {w : World} (o : Oper) (r : List Oper) (ho : ops.toList.drop i = o :: r) (hw : Region.wanted o (yielded ops a.tmps) = true)
    (h : ∀ K : Act → World → Prop, (∀ a' w', S w' → wpPlan P ops Q S L p a' w' → K a' w') → o.wp P a w K Q) : wpPlan P ops Q S L (.act i p) a w :=
  ⟨o, at_of_drop ho, hw, h _ (fun _ _ hs hk => ⟨hs, hk⟩)⟩
theorem wpPlan_fork {i j : Nat} {pi pj : Plan} {a : Act} {w : World} (hi : wpPlan P ops Q S L (.act i pi) a w) (hj : wpPlan P ops Q S L (.act j pj) a w) : wpPlan P ops Q S L (.fork i j pi pj) a w := ⟨hi, hj⟩
end
end Go.Proofs.YtddbmddblhjkkaaGreatDoor
/- signer.SignAt. -/
namespace Go.Proofs.YtddbmddblhjkkaaGreatDoor
open Go.RowKit Go.Maps

def noSig : Array Value := #[.int .i64 0, .slice none 0 0, .slice none 0 0, .slice none 0 0]
theorem zero_sig (w : World) : (zeroValue 44).run Tryz.prog w = .ok (.agg noSig) w := by kernel_rfl
theorem info_sig : (Tryz.prog.info? 44).map (·.size) = some 4 := by kernel_rfl
theorem noSig_one : noSig.all (·.oneCell') = true := by decide +kernel
theorem sig_one (l : Int) (A B C : Option Addr) (n m k c d e : Nat) : (#[.int .i64 l, .slice A n c, .slice B m d, .slice C k e] : Array Value).all (·.oneCell') = true := by simp [Value.oneCell']

set_option maxRecDepth 100000 in
set_option maxHeartbeats 400000 in
theorem sSignAt_nil (i : Int) (v : Value) (w : World) : Calls Tryz.prog 11 #[.pointer none, .int .i64 i, v] w fun e w' => e = .returned (.tuple #[.agg noSig, .int .i64 6]) ∧ Ext w w' := by
  have Hm := fun w => Lib.hid (smay_nil v w)
  go_enter Tryz.func11, Tryz.ntmps11
  go_wp2_with (first | (refine wpList_alloc_blk rfl 44 rfl (.agg noSig) zero_sig ?_; intro w1 hs1 hb1 he1; clear hs1))
  with_reducible refine (Hm _).out.mono ?_
  rintro e w2 ⟨rfl, rfl⟩
  go_wp2_with (first | (refine wpList_build_to rfl 44 _ rfl noSig (by kernel_rfl) ?_) | (refine wpList_store_blk rfl 44 _ _ rfl w.heap.size noSig rfl rfl 44 noSig hb1 info_sig rfl noSig_one ?_; intro w7 hs7 hb7 hg7))
  refine bodyPost_ret (v := .tuple #[.agg noSig, .int .i64 6]) (ret2_blk hb7 rfl rfl Tryz.underlying44 rfl info_sig rfl) rfl ?_
  exact ⟨rfl, he1.grown hg7 (by simp)⟩

set_option maxRecDepth 100000 in
set_option maxHeartbeats 400000 in
theorem sSignAt_long (p : Addr) (i : Int) (A : Option Addr) (n c : Nat) (w : World) (hn : 1048576 < n) : Calls Tryz.prog 11 #[.pointer (some p), .int .i64 i, .slice A n c] w fun e w' => e = .returned (.tuple #[.agg noSig, .int .i64 3]) ∧ Ext w w' := by
  have Hm := fun w => Lib.hid (smay_any p A n c w)
  rw [if_neg (by omega)] at Hm
  go_enter Tryz.func11, Tryz.ntmps11
  go_wp2_with (first | (refine wpList_alloc_blk rfl 44 rfl (.agg noSig) zero_sig ?_; intro w1 hs1 hb1 he1; clear hs1))
  with_reducible refine (Hm _).out.mono ?_
  rintro e w2 ⟨rfl, rfl⟩
  go_wp2_with (first | (refine wpList_build_to rfl 44 _ rfl noSig (by kernel_rfl) ?_) | (refine wpList_store_blk rfl 44 _ _ rfl w.heap.size noSig rfl rfl 44 noSig hb1 info_sig rfl noSig_one ?_; intro w7 hs7 hb7 hg7))
  refine bodyPost_ret (v := .tuple #[.agg noSig, .int .i64 3]) (ret2_blk hb7 rfl rfl Tryz.underlying44 rfl info_sig rfl) rfl ?_
  exact ⟨rfl, he1.grown hg7 (by simp)⟩

set_option maxRecDepth 100000 in
set_option maxHeartbeats 400000 in
theorem sSignAt_none (S M : Nat) (seed : List UInt8) (b h : Nat) (u : Int → Option (List UInt8)) (n : Nat) (w : World) (hK : Kst w) (s : Sgn w S M seed b h u n) (i : Int) (mv : Value) (m : List UInt8) (hm : Sl w mv m) (hl : m.length ≤ 1048576) (hi : i < 0 ∨ (0 ≤ i ∧ ((2 ^ h : Nat) : Int) ≤ i)) :
    Calls Tryz.prog 11 #[.pointer (some ⟨S, 0, none⟩), .int .i64 i, mv] w fun e w' => e = .returned (.tuple #[.agg noSig, .int .i64 4]) ∧ Ext w w' := by
  obtain ⟨sv, lv, hB, _, hlv⟩ := s.ex
  obtain ⟨A, c, rfl, hc⟩ := hlv.form
  have h6 := (mayK_iff _ _).1 s.may
  obtain ⟨Am, cm, rfl, hcm⟩ := SlR.form hm
  have Hm := fun w => Lib.hid (smay_any ⟨S, 0, none⟩ Am m.length cm w)
  rw [if_pos hl] at Hm
  have Hw := Lib.hid (fun w' (E : Ext w w') => mWay_none _ _ h i w' (hK.ext E) (hlv.ext E) (lvsB_length seed b h) (by omega) (by rw [lvsB_length]; exact hi))
  have c1 : w.cell? ⟨S, 1, none⟩ = some (.slice A (lvsB seed b h).length c) := hB.cell 1
  clear s hB hlv hm hi
  go_enter Tryz.func11, Tryz.ntmps11
  go_wp2_with (first | (refine wpList_alloc_blk rfl 44 rfl (.agg noSig) zero_sig ?_; intro w1 hs1 hb1 he1; clear hs1))
  with_reducible refine (Hm _).out.mono ?_
  rintro e w2 ⟨rfl, rfl⟩
  have d1 := he1.cell c1
  go_wp2_with fail
  with_reducible refine (Hw.out _ he1).mono ?_
  rintro e w3 ⟨rfl, E3⟩
  have hb3 := hb1.ext E3
  go_wp2_with (first | (refine wpList_build_to rfl 44 _ rfl noSig (by kernel_rfl) ?_) | (refine wpList_store_blk rfl 44 _ _ rfl w.heap.size noSig rfl rfl 44 noSig hb3 info_sig rfl noSig_one ?_; intro w7 hs7 hb7 hg7))
  refine bodyPost_ret (v := .tuple #[.agg noSig, .int .i64 4]) (ret2_blk hb7 rfl rfl Tryz.underlying44 rfl info_sig rfl) rfl ?_
  exact ⟨rfl, (he1.trans E3).grown hg7 (by simp)⟩

theorem str_ne {t m : List UInt8} (h : t ≠ m) : ((strB' t).toList == (strB m).toList) = false := by
  rw [← beq_toListBytes, Bool.eq_false_iff]
  intro e
  have e2 := congrArg (fun s : ByteArray => s.data.toList) ((MapKept.bytes_beq _ _).1 e)
  exact h (by simpa [strB] using e2)
/-- what stands where a message is signed by leaf i -/
def sigWay (seed : List UInt8) (b h i : Nat) : List (List UInt8) := wayT (lvsB seed b h) i h

set_option maxRecDepth 100000 in
set_option maxHeartbeats 1000000 in
theorem sSignAt_used (S M : Nat) (seed : List UInt8) (b h : Nat) (u : Int → Option (List UInt8)) (n : Nat) (w : World) (hK : Kst w) (s : Sgn w S M seed b h u n) (i : Nat) (mv : Value) (m t : List UInt8) (hm : Sl w mv m) (hl : m.length ≤ 1048576) (hi : i < 2 ^ h) (hu : u i = some t) (hne : t ≠ m) :
    Calls Tryz.prog 11 #[.pointer (some ⟨S, 0, none⟩), .int .i64 (i : Int), mv] w fun e w' => e = .returned (.tuple #[.agg noSig, .int .i64 90]) ∧ Ext w w' := by
  obtain ⟨sv, lv, hB, _, hlv⟩ := s.ex
  obtain ⟨A, c, rfl, hc⟩ := hlv.form
  have h6 := (mayK_iff _ _).1 s.may
  have hle := pow_le (show h ≤ 6 by omega)
  obtain ⟨Am, cm, rfl, hcm⟩ := SlR.form hm
  have Hm := fun w => Lib.hid (smay_any ⟨S, 0, none⟩ Am m.length cm w)
  rw [if_pos hl] at Hm
  have Hw := Lib.hid (fun w' (E : Ext w w') => mWay_yes _ _ h i w' (hK.ext E) (hlv.ext E) (lvsB_length seed b h) (by omega) (by rw [lvsB_length]; exact hi))
  have c1 : w.cell? ⟨S, 1, none⟩ = some (.slice A (lvsB seed b h).length c) := hB.cell 1
  have c36 : w.cell? ⟨S, 36, none⟩ = some (.map (some M)) := (hB.cell 36).trans (sgC_map _ _ _ _ _ _ (pubB_length _ _ _))
  have HU := Lib.hid (fun w' (E : Ext w w') => (s.um.ext E).look (wf_i64 (i := (i : Int)) (by omega)))
  rw [hu] at HU
  have HM := Lib.hid hm
  clear s hB hlv hm hi
  go_enter Tryz.func11, Tryz.ntmps11
  go_wp2_with (first | (refine wpList_alloc_blk rfl 44 rfl (.agg noSig) zero_sig ?_; intro w1 hs1 hb1 he1; clear hs1))
  with_reducible refine (Hm _).out.mono ?_
  rintro e w2 ⟨rfl, rfl⟩
  have d1 := he1.cell c1
  go_wp2_with fail
  with_reducible refine (Hw.out _ he1).mono ?_
  rintro e w3 ⟨vo, rfl, S3, E3⟩
  have hb3 := hb1.ext E3
  have F3 := he1.trans E3
  have d36 := F3.cell c36
  have hlook : (Instr.lookup 59 (.map (some M)) (.int .i64 (i : Int)) true).run Tryz.prog w3 = .ok (.tuple #[.string (strB' t), .bool true]) w3 := HU.out _ F3
  have hconv := run_conv_str (HM.out.ext F3)
  obtain ⟨Ao, co, rfl, hco⟩ := S3.form
  have hn := str_ne hne
  revert hlook hconv hn
  generalize strB' t = s1
  generalize strB m = s2
  intro hlook hconv hn
  clear S3 HU Hw HM hne hco
  go_wp2_with (first | (refine wpList_build_to rfl 44 _ rfl noSig (by kernel_rfl) ?_) | (refine wpList_store_blk rfl 44 _ _ rfl w.heap.size noSig rfl rfl 44 noSig hb3 info_sig rfl noSig_one ?_; intro w7 hs7 hb7 hg7))
  refine bodyPost_ret (v := .tuple #[.agg noSig, .int .i64 90]) (ret2_blk hb7 rfl rfl Tryz.underlying44 rfl info_sig rfl) rfl ?_
  exact ⟨rfl, F3.grown hg7 (by simp)⟩
end Go.Proofs.YtddbmddblhjkkaaGreatDoor
/- signer.SignAt where it signs. -/
namespace Go.Proofs.YtddbmddblhjkkaaGreatDoor
open Go.RowKit Go.Maps

theorem wp_alloc_blk {P : Program} {o : Oper} {a : Act} {w : World} {K : Act → World → Prop} {Q : Exit → Act → World → Prop} (T : TypeId) (ho : o.op = .alloc T) (z : Value) (hz : ∀ w, (zeroValue T).run P w = .ok z w)
    (h : ∀ w1, Blk w1 w.heap.size T z.cells → Ext w w1 → K (a.put o.dst (.pointer (some ⟨w.heap.size, 0, none⟩))) w1) : o.wp P a w K Q := by
  have hr : (Instr.alloc T true (.tuple #[])).run P w = .ok (.pointer (some ⟨w.heap.size, 0, none⟩)) (w.alloc (.cells z.cells T)) := by
    simp only [Instr.alloc, Sem.run_bind, hz, Result.andThen_ok, newVar, newRow, newObj]
    rfl
  unfold Oper.wp execOp
  simp only [ho, Sem.run_bind, hr, Result.andThen_ok, Sem.run_pure]
  exact h (w.alloc (.cells z.cells T)) (Blk.new w T z.cells) ((Ext.refl w).alloc _)
theorem wp_store_blk {P : Program} {o : Oper} {a : Act} {w : World} {K : Act → World → Prop} {Q : Exit → Act → World → Prop} (ty : TypeId) (x y : Operand) (ho : o.op = .store ty x y) (g : Nat) (cells : Array Value) (hx : a.eval x = .pointer (some ⟨g, 0, none⟩)) (hy : a.eval y = .agg cells) (t : TypeId) (old : Array Value) (hg : Blk w g t old)
    (hi : (P.info? ty).map (·.size) = some cells.size) (ho2 : old.size = cells.size) (h1 : cells.all (·.oneCell') = true) (h : ∀ w1, Blk w1 g t cells → w.grownBy w1 (some g) → K (a.put o.dst undef) w1) : o.wp P a w K Q :=
  wp_store_row ty x y ho g cells hx hy t old hg hi ho2 h1 (h (w.setRow g cells) (setRow_heap w g old cells t (0, 0) hg) ⟨rfl, rfl, rfl, by simp, fun k _ hk => setRow_other w g k cells (fun e => hk (by rw [e]))⟩)
/-- digests stay where a block turns that holds no byte -/
theorem slD_noByte {w w' : World} {v : Value} {ds : List (List UInt8)} {g : Nat} {t : TypeId} {cs : Array Value} (h : SlD w v ds) (hb : Blk w g t cs) (hcs : ∀ (i : Nat) (k : Int), cs[i]? ≠ some (.int .u8 k)) (hg : w.grownBy w' (some g)) : SlD w' v ds := by
  refine ⟨SlR.kept h.1 (fun b o u hu hm => ?_), h.2⟩
  obtain ⟨k, rfl⟩ := bytesV_kind _ u hm
  by_cases hbg : b = g
  · subst hbg
    rw [hb.cell] at hu
    exact absurd hu (hcs o k)
  · exact hg.cell hu (by simpa using hbg)
theorem noByte_of {cs : Array Value} (h : cs.toList.all (fun x => match x with | .int .u8 _ => false | _ => true) = true) (i : Nat) (k : Int) : cs[i]? ≠ some (.int .u8 k) := by
  intro e
  have := List.all_eq_true.1 h (.int .u8 k) (by rw [← Array.getElem?_toList] at e; exact List.mem_of_getElem? e)
  cases this
theorem noOne_noByte (i : Nat) (k : Int) : noOne[i]? ≠ some (.int .u8 k) := noByte_of (by decide +kernel) i k
theorem noSig_noByte (i : Nat) (k : Int) : noSig[i]? ≠ some (.int .u8 k) := noByte_of (by decide +kernel) i k
theorem Mv.newer {M g : Nat} {a b c : World} (h : Mv M a b) (hg : b.grownBy c (some g)) (hge : a.heap.size ≤ g) : Mv M a c :=
  ⟨⟨hg.os.trans h.1.os, hg.tape.trans h.1.tape, hg.output.trans h.1.output, Nat.le_trans h.1.size hg.size, fun j hj hne => (hg.block j (Nat.lt_of_lt_of_le hj h.1.size) (fun e => by injection e with e; omega)).trans (h.1.block j hj hne)⟩, h.2⟩
theorem UMap.grownB {w w' : World} {B g : Nat} {u : Int → Option (List UInt8)} {n : Nat} (h : UMap w B u n) (hg : w.grownBy w' (some g)) (hne : B ≠ g) : UMap w' B u n := by
  obtain ⟨D, h1, h2⟩ := h
  exact ⟨D, h1.kept hg (by simpa using hne), h2⟩
theorem UMap.lt {w : World} {B : Nat} {u : Int → Option (List UInt8)} {n : Nat} (h : UMap w B u n) : B < w.heap.size := by
  obtain ⟨es, cl, h⟩ := h.isMap
  exact (Array.getElem?_eq_some_iff.1 h).1
theorem wpList_put {ops : Array Oper} {rest : List Oper} {o : Oper} {a : Act} {Q : Exit → Act → World → Prop} {w : World} {B : Nat} {u : Int → Option (List UInt8)} {n : Nat} (hU : UMap w B u n) {i : Int} (hi : (iL i).wf = true) {s : List UInt8} (hs : s.length ≤ maxLen) (hn : n < maxLen)
    (hg : o.guard = none) (m x v : Operand) (hop : o.op = Op.mapUpdate 59 m x v) (hm : a.eval m = .map (some B)) (hx : a.eval x = .int .i64 i) (hv : a.eval v = .string (strB' s))
    (hK : ∀ w', UMap w' B (fun j => if j = i then some s else u j) (if (u i).isSome then n else n + 1) → Mv B w w' → wpList Tryz.prog ops Q rest (a.put o.dst undef) w') : wpList Tryz.prog ops Q (o :: rest) a w := by
  refine wpList_plain hg fun K' hK' => ?_
  obtain ⟨w', hrun, r1, r2⟩ := hU.put hi hs hn
  unfold Oper.wp
  simp [execOp, hop, hm, hx, hv, hrun, Result.andThen]
  exact hK' _ _ (hK w' r1 r2)

set_option maxRecDepth 100000 in
set_option maxHeartbeats 4000000 in
theorem sSignAt_yes (S M : Nat) (seed : List UInt8) (b h : Nat) (u : Int → Option (List UInt8)) (n : Nat) (w : World) (hK : Kst w) (s : Sgn w S M seed b h u n) (i : Nat) (mv : Value) (m : List UInt8) (hm : Sl w mv m) (hl : m.length ≤ 1048576) (hi : i < 2 ^ h) (hn : n ≤ 1000) (hu : u i = none ∨ u i = some m) :
    Calls Tryz.prog 11 #[.pointer (some ⟨S, 0, none⟩), .int .i64 (i : Int), mv] w fun e w' => ∃ rv ov pv, e = .returned (.tuple #[.agg #[.int .i64 (i : Int), rv, ov, pv], .int .i64 0]) ∧ SlD w' rv (signR seed i m b) ∧ SlD w' ov (signO seed i m b) ∧ SlD w' pv (sigWay seed b h i) ∧
      Sgn w' S M seed b h (fun j => if j = (i : Int) then some m else u j) (if (u i).isSome then n else n + 1) ∧ Mv M w w' := by
  obtain ⟨sv, lv, hB, hsv, hlv⟩ := s.ex
  obtain ⟨A, c, rfl, hc⟩ := hlv.form
  have h6 := (mayK_iff _ _).1 s.may
  have hle := pow_le (show h ≤ 6 by omega)
  have hmb := (mayB_iff _).1 h6.1
  obtain ⟨Am, cm, rfl, hcm⟩ := SlR.form hm
  obtain ⟨As, cs, rfl, hcs⟩ := SlR.form hsv
  have Hm := fun w => Lib.hid (smay_any ⟨S, 0, none⟩ Am m.length cm w)
  rw [if_pos hl] at Hm
  have Hw := Lib.hid (fun w' (E : Ext w w') => mWay_yes _ _ h i w' (hK.ext E) (hlv.ext E) (lvsB_length seed b h) (by omega) (by rw [lvsB_length]; exact hi))
  have Hs := Lib.hid (fun w' (E : Ext w w') => lSign_yes (.slice As seed.length cs) (.slice Am m.length cm) seed m (i : Int) (b : Int) w' (hK.ext E) (hsv.ext E) (hm.ext E) h6.1 ((keyB_iff _ _).2 ⟨s.len, by omega, by omega⟩) hl)
  simp only [Int.toNat_natCast] at Hs
  have c0 : w.cell? ⟨S, 0, none⟩ = some (.slice As seed.length cs) := hB.cell 0
  have c1 : w.cell? ⟨S, 1, none⟩ = some (.slice A (lvsB seed b h).length c) := hB.cell 1
  have c2 : w.cell? ⟨S, 2, none⟩ = some (.int .i64 (b : Int)) := hB.cell 2
  have c36 : w.cell? ⟨S, 36, none⟩ = some (.map (some M)) := (hB.cell 36).trans (sgC_map _ _ _ _ _ _ (pubB_length _ _ _))
  have hiw : (iL (i : Int)).wf = true := wf_i64 (by omega)
  have HU := Lib.hid (fun w' (E : Ext w w') => (s.um.ext E).look hiw)
  have HM := Lib.hid hm
  have HUm := Lib.hid s.um
  have hmay := s.may
  have hMw : M ≠ w.heap.size := by have := s.um.lt; omega
  have hsl := s.len
  have HBS := Lib.hid hB
  have HSV := Lib.hid hsv
  have HLV := Lib.hid hlv
  obtain ⟨N, hN⟩ : ∃ N, N = (lvsB seed b h).length := ⟨_, rfl⟩
  clear s hB hlv hm hi hsv h6
  obtain ⟨n2, hn2⟩ : ∃ n2, n2 = (if (u i).isSome then n else n + 1) := ⟨_, rfl⟩
  rw [← hn2]
  have Hn2 := Lib.hid hn2
  clear hn2
  rcases hu with hu | hu
  all_goals
    rw [hu] at HU
    clear hu
    go_enter Tryz.func11, Tryz.ntmps11
    go_wp2_with (first | (refine wpList_alloc_blk rfl 44 rfl (.agg noSig) zero_sig ?_; intro w1 hs1 hb1 he1; clear hs1))
    with_reducible refine (Hm _).out.mono ?_
    rintro e w2 ⟨rfl, rfl⟩
    have d1 := he1.cell c1
    go_wp2_with fail
    with_reducible refine (Hw.out _ he1).mono ?_
    rintro e w3 ⟨vo, rfl, S3, E3⟩
    have hb3 := hb1.ext E3
    have F3 := he1.trans E3
    have d36 := F3.cell c36
    have d0 := F3.cell c0
    have d2 := F3.cell c2
    have hlook := HU.out _ F3
    simp only [Option.getD_none, Option.getD_some, Option.isSome_none, Option.isSome_some] at hlook
    have hconv : (convert 22 9 (.slice Am m.length cm)).run Tryz.prog w3 = .ok (.string (strB' m)) w3 := run_conv_str (HM.out.ext F3)
    have hsame : ((strB' m).toList == (strB' m).toList) = true := by simp
    revert hlook hconv hsame
    generalize strB' m = s2
    intro hlook hconv hsame
    obtain ⟨Ao, co, rfl, hco⟩ := S3.form
    have HP3 := Lib.hid S3
    clear S3 HU Hw hco Hm d1
    go_wp2
    refine wp_region_plan 17 (.read 0 (.read 1 (.read 2 (.read 3 (.read 4 (.read 5 (.read 6 (.read 7 (.read 8 (.read 9 (.read 10 (.fork 11 15 (.read 12 (.read 13 (.read 14 (.act 15 (.act 16 .done))))) (.act 11 (.read 12 (.read 13 (.read 14 (.act 16 .done))))))))))))))))) (fun w' => Ext w3 w') (by kernel_rfl) (by kernel_rfl) (Ext.refl w3).drew ?_
    clear hlook hconv hsame
    iterate 11
      refine wpPlan_read _ _ ?_ rfl rfl ?_ ?_
      rotate_left 1
      focus
        intro wS hS
        try dsimp only at hS
        have e0 := Ext.cell hS d0
        have e2 := Ext.cell hS d2
        go_simp
        first | done | with_reducible rfl
      simp only [Act.put, List.setIfInBounds_toArray, List.set_cons_zero, List.set_cons_succ]
    refine wpPlan_fork ?_ ?_
    · skip
      refine wpPlan_act _ _ rfl rfl (fun K hK' => ?_)
      go_simp
      refine (Hs.out _ (F3.trans (Ext.refl w3).drew)).mono ?_
      rintro e w5 ⟨rv, ov, rfl, R5, O5, E5⟩
      have G5 : Ext w3 w5 := (Ext.refl w3).drew.trans E5
      refine hK' _ _ G5 ?_
      clear hK' K
      iterate 3
        refine wpPlan_read _ _ ?_ rfl rfl ?_ ?_
        rotate_left 1
        focus
          intro wS hS
          clear hS
          go_simp
          first | done | with_reducible rfl
        simp only [Act.put, List.setIfInBounds_toArray, List.set_cons_zero, List.set_cons_succ]
      refine wpPlan_act _ _ rfl rfl (fun K hK' => ?_)
      refine wp_alloc_blk 42 rfl (.agg noOne) zero_one ?_
      intro w6 hb6 he6
      have G6 : Ext w3 w6 := G5.trans he6
      refine hK' _ _ G6 ?_
      clear hK' K
      simp only [Act.put, List.setIfInBounds_toArray, List.set_cons_zero, List.set_cons_succ]
      have HR := Lib.hid (R5.ext he6)
      have HO := Lib.hid (O5.ext he6)
      have hgs : w.heap.size < w5.heap.size := Nat.lt_of_lt_of_le hb1.lt (E3.trans G5).size
      have hg3 : w3.heap.size ≤ w5.heap.size := G5.size
      have HB6 := Lib.hid hb6
      obtain ⟨g, hg⟩ : ∃ g, g = w5.heap.size := ⟨_, rfl⟩
      rw [← hg] at HB6 hgs hg3
      simp only [← hg]
      clear R5 O5 E5 G5 hb6 he6 hg
      obtain ⟨Ar, cr, rfl, hcr⟩ := HR.out.form
      obtain ⟨Ax, cx, rfl, hcx⟩ := HO.out.form
      refine wpPlan_act _ _ rfl rfl (fun K hK' => ?_)
      refine wp_store_blk 42 _ _ rfl g #[.slice Ar _ cr, .slice Ax _ cx] rfl rfl 42 noOne HB6.out info_one rfl (two_one _ _ _ _ _ _) ?_
      intro w7 hb7 hg7
      refine hK' _ _ (G6.grown hg7 (fun k e => by cases e; exact hg3)) ?_
      clear hK' K
      refine wpPlan_done ?_
      simp only [Act.put, List.drop_succ_cons, List.drop_zero]
      have F7 : Ext w w7 := (F3.trans G6).grown hg7 (fun k e => by cases e; omega)
      go_wp2
      refine NoPanic.normal ?_
      have HR7 := Lib.hid (slD_noByte HR.out HB6.out noOne_noByte hg7)
      have HO7 := Lib.hid (slD_noByte HO.out HB6.out noOne_noByte hg7)
      have HP7 := Lib.hid (slD_noByte (HP3.out.ext G6) HB6.out noOne_noByte hg7)
      have HB7 := Lib.hid hb7
      have HZ7 := Lib.hid ((hb3.ext G6).grown hg7 (by simp; omega))
      have c7 := F7.cell c36
      have HM7 := Lib.hid (HM.out.ext F7)
      have HU7 := Lib.hid (HUm.out.ext (F7.trans (Ext.refl w7).drew))
      clear HR HO HB6 hb7 hg7 G6 hgs hg3
      go_wp2
      refine wp_region_chain 7 [(true, 0), (true, 1), (true, 2), (true, 3), (true, 4), (true, 5), (true, 6)] (fun w' => w' = w7.drew) (by kernel_rfl) (by kernel_rfl) rfl ?_
      iterate 7
        refine wpTake_read _ _ ?_ rfl rfl ?_ ?_
        rotate_left 1
        focus
          rintro wS rfl
          have e36 := Ext.cell (Ext.refl w7).drew c7
          have hcv : (convert 22 9 (.slice Am m.length cm)).run Tryz.prog w7.drew = .ok (.string (strB' m)) w7.drew := run_conv_str (HM7.out.ext (Ext.refl w7).drew)
          go_simp
          first | done | with_reducible rfl
        simp only [Act.put, List.setIfInBounds_toArray, List.set_cons_zero, List.set_cons_succ]
      refine wpTake_nil ?_
      simp only [List.drop_succ_cons, List.drop_zero]
      go_wp2_with (at_mapUpdate; refine wpList_put HU7.out hiw (s := m) (by unfold maxLen; omega) (by unfold maxLen; omega) rfl _ _ _ rfl rfl rfl rfl ?_; intro w9 hu9 hm9)
      refine NoPanic.normal ?_
      have V9 : Mv M w7 w9 := (Mv.of_ext (Ext.refl w7).drew (HUm.out.ext F7).isMap).trans hm9
      have V09 : Mv M w w9 := (Mv.of_ext F7 HUm.out.isMap).trans V9
      have HB9 := Lib.hid (V9.blk HB7.out)
      have HZ9 := Lib.hid (V9.blk HZ7.out)
      have HR9 := Lib.hid (V9.slD HR7.out)
      have HO9 := Lib.hid (V9.slD HO7.out)
      have HP9 := Lib.hid (V9.slD HP7.out)
      have HU9 := Lib.hid hu9
      clear HB7 HZ7 HR7 HO7 HP7 hu9 hm9 V9 HU7 HM7 c7 F7
      go_wp2_with (first | (refine wpList_load_blk HB9.out rfl 42 _ rfl rfl Tryz.underlying42 rfl info_one ?_) | (refine wpList_build_to rfl 44 _ rfl #[.int .i64 (i : Int), .slice Ar _ cr, .slice Ax _ cx, .slice Ao _ co] (by rfl) ?_) | (refine wpList_store_blk rfl 44 _ _ rfl w.heap.size #[.int .i64 (i : Int), .slice Ar _ cr, .slice Ax _ cx, .slice Ao _ co] rfl rfl 44 noSig HZ9.out info_sig rfl (sig_one _ _ _ _ _ _ _ _ _ _) ?_; intro w10 hs10 hb10 hg10))
      refine bodyPost_ret (ret2_blk hb10 rfl rfl Tryz.underlying44 rfl info_sig rfl) rfl ?_
      have V10 := V09.newer hg10 (Nat.le_refl _)
      refine ⟨_, _, _, rfl, slD_noByte HR9.out HZ9.out noSig_noByte hg10, slD_noByte HO9.out HZ9.out noSig_noByte hg10, slD_noByte HP9.out HZ9.out noSig_noByte hg10, ⟨⟨_, _, V10.blk HBS.out, V10.sl HSV.out, V10.slD HLV.out⟩, (by rw [Hn2.out]; exact HU9.out.grownB hg10 hMw), hmay, hsl⟩, V10⟩
    · skip
      refine wpPlan_act _ _ rfl rfl (fun K hK' => ?_)
      refine wp_alloc_blk 42 rfl (.agg noOne) zero_one ?_
      intro w4 hb6 he6
      have G4 : Ext w3 w4 := (Ext.refl w3).drew.trans he6
      refine hK' _ _ G4 ?_
      clear hK' K
      refine wpPlan_act _ _ rfl rfl (fun K hK' => ?_)
      go_simp
      refine (Hs.out _ (F3.trans G4)).mono ?_
      rintro e w5 ⟨rv, ov, rfl, R5, O5, E5⟩
      have G5 : Ext w3 w5 := G4.trans E5
      refine hK' _ _ G5 ?_
      clear hK' K
      iterate 3
        refine wpPlan_read _ _ ?_ rfl rfl ?_ ?_
        rotate_left 1
        focus
          intro wS hS
          clear hS
          go_simp
          first | done | with_reducible rfl
        simp only [Act.put, List.setIfInBounds_toArray, List.set_cons_zero, List.set_cons_succ]
      obtain ⟨w6, rfl⟩ : ∃ w6 : World, w6 = w5 := ⟨_, rfl⟩
      have HR := Lib.hid R5
      have HO := Lib.hid O5
      have G6 := G5
      have hgs : w.heap.size < w3.drew.heap.size := Nat.lt_of_lt_of_le hb1.lt E3.size
      have HB6 := Lib.hid (hb6.ext E5)
      rw [show w3.drew.heap.size = w3.heap.size from rfl] at HB6 hgs
      have hg3 : w3.heap.size ≤ w3.heap.size := Nat.le_refl _
      obtain ⟨g, hg⟩ : ∃ g, g = w3.heap.size := ⟨_, rfl⟩
      rw [← hg] at HB6 hgs
      replace hg3 : w3.heap.size ≤ g := by omega
      simp only [← hg]
      clear R5 O5 E5 G5 hb6 he6 hg G4
      obtain ⟨Ar, cr, rfl, hcr⟩ := HR.out.form
      obtain ⟨Ax, cx, rfl, hcx⟩ := HO.out.form
      refine wpPlan_act _ _ rfl rfl (fun K hK' => ?_)
      refine wp_store_blk 42 _ _ rfl g #[.slice Ar _ cr, .slice Ax _ cx] rfl rfl 42 noOne HB6.out info_one rfl (two_one _ _ _ _ _ _) ?_
      intro w7 hb7 hg7
      refine hK' _ _ (G6.grown hg7 (fun k e => by cases e; exact hg3)) ?_
      clear hK' K
      refine wpPlan_done ?_
      simp only [Act.put, List.drop_succ_cons, List.drop_zero]
      have F7 : Ext w w7 := (F3.trans G6).grown hg7 (fun k e => by cases e; omega)
      go_wp2
      refine NoPanic.normal ?_
      have HR7 := Lib.hid (slD_noByte HR.out HB6.out noOne_noByte hg7)
      have HO7 := Lib.hid (slD_noByte HO.out HB6.out noOne_noByte hg7)
      have HP7 := Lib.hid (slD_noByte (HP3.out.ext G6) HB6.out noOne_noByte hg7)
      have HB7 := Lib.hid hb7
      have HZ7 := Lib.hid ((hb3.ext G6).grown hg7 (by simp; omega))
      have c7 := F7.cell c36
      have HM7 := Lib.hid (HM.out.ext F7)
      have HU7 := Lib.hid (HUm.out.ext (F7.trans (Ext.refl w7).drew))
      clear HR HO HB6 hb7 hg7 G6 hgs hg3
      go_wp2
      refine wp_region_chain 7 [(true, 0), (true, 1), (true, 2), (true, 3), (true, 4), (true, 5), (true, 6)] (fun w' => w' = w7.drew) (by kernel_rfl) (by kernel_rfl) rfl ?_
      iterate 7
        refine wpTake_read _ _ ?_ rfl rfl ?_ ?_
        rotate_left 1
        focus
          rintro wS rfl
          have e36 := Ext.cell (Ext.refl w7).drew c7
          have hcv : (convert 22 9 (.slice Am m.length cm)).run Tryz.prog w7.drew = .ok (.string (strB' m)) w7.drew := run_conv_str (HM7.out.ext (Ext.refl w7).drew)
          go_simp
          first | done | with_reducible rfl
        simp only [Act.put, List.setIfInBounds_toArray, List.set_cons_zero, List.set_cons_succ]
      refine wpTake_nil ?_
      simp only [List.drop_succ_cons, List.drop_zero]
      go_wp2_with (at_mapUpdate; refine wpList_put HU7.out hiw (s := m) (by unfold maxLen; omega) (by unfold maxLen; omega) rfl _ _ _ rfl rfl rfl rfl ?_; intro w9 hu9 hm9)
      refine NoPanic.normal ?_
      have V9 : Mv M w7 w9 := (Mv.of_ext (Ext.refl w7).drew (HUm.out.ext F7).isMap).trans hm9
      have V09 : Mv M w w9 := (Mv.of_ext F7 HUm.out.isMap).trans V9
      have HB9 := Lib.hid (V9.blk HB7.out)
      have HZ9 := Lib.hid (V9.blk HZ7.out)
      have HR9 := Lib.hid (V9.slD HR7.out)
      have HO9 := Lib.hid (V9.slD HO7.out)
      have HP9 := Lib.hid (V9.slD HP7.out)
      have HU9 := Lib.hid hu9
      clear HB7 HZ7 HR7 HO7 HP7 hu9 hm9 V9 HU7 HM7 c7 F7
      go_wp2_with (first | (refine wpList_load_blk HB9.out rfl 42 _ rfl rfl Tryz.underlying42 rfl info_one ?_) | (refine wpList_build_to rfl 44 _ rfl #[.int .i64 (i : Int), .slice Ar _ cr, .slice Ax _ cx, .slice Ao _ co] (by rfl) ?_) | (refine wpList_store_blk rfl 44 _ _ rfl w.heap.size #[.int .i64 (i : Int), .slice Ar _ cr, .slice Ax _ cx, .slice Ao _ co] rfl rfl 44 noSig HZ9.out info_sig rfl (sig_one _ _ _ _ _ _ _ _ _ _) ?_; intro w10 hs10 hb10 hg10))
      refine bodyPost_ret (ret2_blk hb10 rfl rfl Tryz.underlying44 rfl info_sig rfl) rfl ?_
      have V10 := V09.newer hg10 (Nat.le_refl _)
      refine ⟨_, _, _, rfl, slD_noByte HR9.out HZ9.out noSig_noByte hg10, slD_noByte HO9.out HZ9.out noSig_noByte hg10, slD_noByte HP9.out HZ9.out noSig_noByte hg10, ⟨⟨_, _, V10.blk HBS.out, V10.sl HSV.out, V10.slD HLV.out⟩, (by rw [Hn2.out]; exact HU9.out.grownB hg10 hMw), hmay, hsl⟩, V10⟩
end Go.Proofs.YtddbmddblhjkkaaGreatDoor
/- signer.Sign: by the least leaf that was not used. -/
namespace Go.Proofs.YtddbmddblhjkkaaGreatDoor
open Go.RowKit Go.Maps

set_option maxRecDepth 100000 in
set_option maxHeartbeats 400000 in
theorem sSign_nil (v : Value) (w : World) : Calls Tryz.prog 9 #[.pointer none, v] w fun e w' => e = .returned (.tuple #[.agg noSig, .int .i64 6]) ∧ Ext w w' := by
  have Hm := fun w => Lib.hid (smay_nil v w)
  go_enter Tryz.func9, Tryz.ntmps9
  go_wp2_with (first | (refine wpList_alloc_blk rfl 44 rfl (.agg noSig) zero_sig ?_; intro w1 hs1 hb1 he1; clear hs1))
  with_reducible refine (Hm _).out.mono ?_
  rintro e w2 ⟨rfl, rfl⟩
  go_wp2_with (first | (refine wpList_build_to rfl 44 _ rfl noSig (by kernel_rfl) ?_) | (refine wpList_store_blk rfl 44 _ _ rfl w.heap.size noSig rfl rfl 44 noSig hb1 info_sig rfl noSig_one ?_; intro w7 hs7 hb7 hg7))
  refine bodyPost_ret (v := .tuple #[.agg noSig, .int .i64 6]) (ret2_blk hb7 rfl rfl Tryz.underlying44 rfl info_sig rfl) rfl ?_
  exact ⟨rfl, he1.grown hg7 (by simp)⟩

set_option maxRecDepth 100000 in
set_option maxHeartbeats 400000 in
theorem sSign_long (p : Addr) (A : Option Addr) (n c : Nat) (w : World) (hn : 1048576 < n) : Calls Tryz.prog 9 #[.pointer (some p), .slice A n c] w fun e w' => e = .returned (.tuple #[.agg noSig, .int .i64 3]) ∧ Ext w w' := by
  have Hm := fun w => Lib.hid (smay_any p A n c w)
  rw [if_neg (by omega)] at Hm
  go_enter Tryz.func9, Tryz.ntmps9
  go_wp2_with (first | (refine wpList_alloc_blk rfl 44 rfl (.agg noSig) zero_sig ?_; intro w1 hs1 hb1 he1; clear hs1))
  with_reducible refine (Hm _).out.mono ?_
  rintro e w2 ⟨rfl, rfl⟩
  go_wp2_with (first | (refine wpList_build_to rfl 44 _ rfl noSig (by kernel_rfl) ?_) | (refine wpList_store_blk rfl 44 _ _ rfl w.heap.size noSig rfl rfl 44 noSig hb1 info_sig rfl noSig_one ?_; intro w7 hs7 hb7 hg7))
  refine bodyPost_ret (v := .tuple #[.agg noSig, .int .i64 3]) (ret2_blk hb7 rfl rfl Tryz.underlying44 rfl info_sig rfl) rfl ?_
  exact ⟨rfl, he1.grown hg7 (by simp)⟩

set_option maxRecDepth 100000 in
set_option maxHeartbeats 1000000 in
theorem sSign_spent (S M : Nat) (seed : List UInt8) (b h : Nat) (u : Int → Option (List UInt8)) (n : Nat) (w : World) (s : Sgn w S M seed b h u n) (mv : Value) (m : List UInt8) (hm : Sl w mv m) (hl : m.length ≤ 1048576) (hall : ∀ j : Nat, j < 2 ^ h → (u j).isSome = true) :
    Calls Tryz.prog 9 #[.pointer (some ⟨S, 0, none⟩), mv] w fun e w' => e = .returned (.tuple #[.agg noSig, .int .i64 91]) ∧ Ext w w' := by
  obtain ⟨sv, lv, hB, _, hlv⟩ := s.ex
  obtain ⟨A, c, rfl, hc⟩ := hlv.form
  have h6 := (mayK_iff _ _).1 s.may
  have hle := pow_le (show h ≤ 6 by omega)
  obtain ⟨Am, cm, rfl, hcm⟩ := SlR.form hm
  have Hm := fun w => Lib.hid (smay_any ⟨S, 0, none⟩ Am m.length cm w)
  rw [if_pos hl] at Hm
  have c1 : w.cell? ⟨S, 1, none⟩ = some (.slice A (lvsB seed b h).length c) := hB.cell 1
  rw [lvsB_length] at c1 hc
  have HS := Lib.hid s
  have Hall := Lib.hid hall
  obtain ⟨N, hN⟩ : ∃ N, N = 2 ^ h := ⟨_, rfl⟩
  rw [← hN] at c1 hc hle Hall
  clear s hB hlv hm hall hN h6
  go_enter Tryz.func9, Tryz.ntmps9
  go_wp2_with (first | (refine wpList_alloc_blk rfl 44 rfl (.agg noSig) zero_sig ?_; intro w1 hs1 hb1 he1; clear hs1))
  with_reducible refine (Hm _).out.mono ?_
  rintro e w2 ⟨rfl, rfl⟩
  have d1 := he1.cell c1
  go_wp2
  go_loopw [20] (fun i wr => ∃ k : Nat, k ≤ N ∧ i = .int .i64 (k : Int) ∧ wr = w1) (fun i _ => N - (intOf i).toNat)
  case atStart => exact ⟨0, by omega, rfl, rfl⟩
  case round =>
    obtain ⟨k, hk, rfl, rfl⟩ := hrel
    by_cases hlt : k < N
    · have Hu := Lib.hid (sUsed_any S M seed b h u n (k : Int) wr (HS.out.ext he1) (by omega))
      rw [Hall.out k hlt] at Hu
      have hlt' : (k : Int) < (N : Int) := by omega
      go_wp2_with fail
      with_reducible refine Hu.out.mono ?_
      rintro e w3 ⟨rfl, rfl⟩
      go_wp2
      go_roundw
      case rel => exact ⟨k + 1, hlt, by go_num, trivial⟩
      case measure => simp [intOf]; omega
    · obtain rfl : k = N := by omega
      go_wp2_with (first | (refine wpList_build_to rfl 44 _ rfl noSig (by kernel_rfl) ?_) | (refine wpList_store_blk rfl 44 _ _ rfl w.heap.size noSig rfl rfl 44 noSig hb1 info_sig rfl noSig_one ?_; intro w7 hs7 hb7 hg7))
      refine bodyPost_ret (v := .tuple #[.agg noSig, .int .i64 91]) (ret2_blk hb7 rfl rfl Tryz.underlying44 rfl info_sig rfl) rfl ?_
      exact ⟨rfl, he1.grown hg7 (by simp)⟩

set_option maxRecDepth 100000 in
set_option maxHeartbeats 1000000 in
theorem sSign_yes (S M : Nat) (seed : List UInt8) (b h : Nat) (u : Int → Option (List UInt8)) (n : Nat) (w : World) (hK : Kst w) (s : Sgn w S M seed b h u n) (mv : Value) (m : List UInt8) (hm : Sl w mv m) (hl : m.length ≤ 1048576) (i : Nat) (hi : i < 2 ^ h) (hn : n ≤ 1000) (hu : u i = none) (hall : ∀ j : Nat, j < i → (u j).isSome = true) :
    Calls Tryz.prog 9 #[.pointer (some ⟨S, 0, none⟩), mv] w fun e w' => ∃ rv ov pv, e = .returned (.tuple #[.agg #[.int .i64 (i : Int), rv, ov, pv], .int .i64 0]) ∧ SlD w' rv (signR seed i m b) ∧ SlD w' ov (signO seed i m b) ∧ SlD w' pv (sigWay seed b h i) ∧
      Sgn w' S M seed b h (fun j => if j = (i : Int) then some m else u j) (n + 1) ∧ Mv M w w' := by
  obtain ⟨sv, lv, hB, _, hlv⟩ := s.ex
  obtain ⟨A, c, rfl, hc⟩ := hlv.form
  have h6 := (mayK_iff _ _).1 s.may
  have hle := pow_le (show h ≤ 6 by omega)
  have Hat := Lib.hid (fun w' (E : Ext w w') => sSignAt_yes S M seed b h u n w' (hK.ext E) (s.ext E) i mv m (hm.ext E) hl hi hn (.inl hu))
  rw [hu] at Hat
  simp only [Option.isSome_none, Bool.false_eq_true, if_false] at Hat
  obtain ⟨Am, cm, rfl, hcm⟩ := SlR.form hm
  have Hm := fun w => Lib.hid (smay_any ⟨S, 0, none⟩ Am m.length cm w)
  rw [if_pos hl] at Hm
  have c1 : w.cell? ⟨S, 1, none⟩ = some (.slice A (lvsB seed b h).length c) := hB.cell 1
  rw [lvsB_length] at c1 hc
  have HS := Lib.hid s
  have Hall := Lib.hid hall
  have Hu0 := Lib.hid hu
  have HM := Lib.hid (s.um.isMap)
  have hMw : M ≠ w.heap.size := by have := s.um.lt; omega
  obtain ⟨N, hN⟩ : ∃ N, N = 2 ^ h := ⟨_, rfl⟩
  rw [← hN] at c1 hc hle hi
  clear s hB hlv hm hall hN h6 hu
  go_enter Tryz.func9, Tryz.ntmps9
  go_wp2_with (first | (refine wpList_alloc_blk rfl 44 rfl (.agg noSig) zero_sig ?_; intro w1 hs1 hb1 he1; clear hs1))
  with_reducible refine (Hm _).out.mono ?_
  rintro e w2 ⟨rfl, rfl⟩
  have d1 := he1.cell c1
  go_wp2
  go_loopw [20] (fun j wr => ∃ k : Nat, k ≤ i ∧ j = .int .i64 (k : Int) ∧ wr = w1) (fun j _ => i - (intOf j).toNat)
  case atStart => exact ⟨0, by omega, rfl, rfl⟩
  case round =>
    obtain ⟨k, hk, rfl, rfl⟩ := hrel
    have hlt' : (k : Int) < (N : Int) := by omega
    have Hu := Lib.hid (sUsed_any S M seed b h u n (k : Int) wr (HS.out.ext he1) (by omega))
    by_cases hlt : k < i
    · rw [Hall.out k hlt] at Hu
      go_wp2_with fail
      with_reducible refine Hu.out.mono ?_
      rintro e w3 ⟨rfl, rfl⟩
      go_wp2
      go_roundw
      case rel => exact ⟨k + 1, hlt, by go_num, trivial⟩
      case measure => simp [intOf]; omega
    · obtain rfl : k = i := by omega
      rw [Hu0.out] at Hu
      go_wp2_with fail
      with_reducible refine Hu.out.mono ?_
      rintro e w3 ⟨rfl, rfl⟩
      go_wp2_with fail
      with_reducible refine (Hat.out _ he1).mono ?_
      rintro e w4 ⟨rv, ov, pv, rfl, R4, O4, P4, S4, V4⟩
      have hb4 := Lib.hid (V4.blk hb1)
      obtain ⟨Ar, cr, rfl, hcr⟩ := R4.form
      obtain ⟨Ao, co, rfl, hco⟩ := O4.form
      obtain ⟨Ap, cp, rfl, hcp⟩ := P4.form
      have HR := Lib.hid R4
      have HO := Lib.hid O4
      have HP := Lib.hid P4
      have HS4 := Lib.hid S4
      have V04 : Mv M w w4 := (Mv.of_ext he1 HM.out).trans V4
      clear R4 O4 P4 S4 V4 Hat
      go_wp2_with (first | (refine wpList_store_blk rfl 44 _ _ rfl w.heap.size #[.int .i64 (k : Int), .slice Ar _ cr, .slice Ao _ co, .slice Ap _ cp] rfl rfl 44 noSig hb4.out info_sig rfl (sig_one _ _ _ _ _ _ _ _ _ _) ?_; intro w7 hs7 hb7 hg7))
      refine bodyPost_ret (ret2_blk hb7 rfl rfl Tryz.underlying44 rfl info_sig rfl) rfl ?_
      refine ⟨_, _, _, rfl, slD_noByte HR.out hb4.out noSig_noByte hg7, slD_noByte HO.out hb4.out noSig_noByte hg7, slD_noByte HP.out hb4.out noSig_noByte hg7, ?_, V04.newer hg7 (Nat.le_refl _)⟩
      obtain ⟨sv', lv', h1, h2, h3⟩ := HS.out.ex
      have V7 := V04.newer hg7 (Nat.le_refl _)
      exact ⟨⟨sv', lv', V7.blk h1, V7.sl h2, V7.slD h3⟩, HS4.out.um.grownB hg7 hMw, HS.out.may, HS.out.len⟩
end Go.Proofs.YtddbmddblhjkkaaGreatDoor
/- A part of a block stored anew; signer.New where no key may be. -/
namespace Go.Proofs.YtddbmddblhjkkaaGreatDoor
open Go.RowKit Go.Maps

theorem blk_setCells {g : Nat} {t : TypeId} (zs : List Value) : ∀ (vs old xs : List Value) (w : World), Blk w g t (xs ++ (old ++ zs)).toArray → old.length = vs.length →
    Blk (w.setCells g xs.length vs) g t (xs ++ (vs ++ zs)).toArray ∧ w.grownBy (w.setCells g xs.length vs) (some g)
  | [], old, xs, w, hb, hl => by
    have : old = [] := List.eq_nil_of_length_eq_zero (by simpa using hl)
    subst this
    exact ⟨hb, World.grownBy.refl _ _⟩
  | v :: vs, [], xs, w, hb, hl => by simp at hl
  | v :: vs, o :: old, xs, w, hb, hl => by
    have h1 := hb.set xs.length v
    have e : (xs ++ (o :: old ++ zs)).toArray.setIfInBounds xs.length v = ((xs ++ [v]) ++ (old ++ zs)).toArray := by
      simp
    rw [e] at h1
    have ih := blk_setCells zs vs old (xs ++ [v]) _ h1 (by simpa using hl)
    rw [List.length_append, List.length_singleton] at ih
    have hg := grown_setCell w g xs.length v
    refine ⟨?_, ?_⟩
    · have := ih.1
      simpa [World.setCells] using this
    · exact ⟨ih.2.os.trans hg.os, ih.2.tape.trans hg.tape, ih.2.output.trans hg.output, Nat.le_trans hg.size ih.2.size, fun k hk hne => (ih.2.block k (Nat.lt_of_lt_of_le hk hg.size) hne).trans (hg.block k hk hne)⟩
/-- a part of a block stored anew -/
theorem wpList_store_part {P : Program} {ops : Array Oper} {rest : List Oper} {op : Oper} {a : Act} {w : World} {Q : Exit → Act → World → Prop} (hgd : op.guard = none) (ty : TypeId) (x y : Operand) (ho : op.op = .store ty x y)
    (g : Nat) (t : TypeId) (xs old zs vs : List Value) (hx : a.eval x = .pointer (some ⟨g, xs.length, none⟩)) (hy : a.eval y = .agg vs.toArray) (hb : Blk w g t (xs ++ (old ++ zs)).toArray) (hl : old.length = vs.length)
    (hi : (P.info? ty).map (·.size) = some vs.length) (h1 : ∀ v ∈ vs, v.oneCell' = true)
    (h : ∀ w1, Blk w1 g t (xs ++ (vs ++ zs)).toArray → w.grownBy w1 (some g) → wpList P ops Q rest (a.put op.dst undef) w1) : wpList P ops Q (op :: rest) a w := by
  obtain ⟨h2, h3⟩ := blk_setCells zs vs old xs w hb hl
  refine wpList_store_mid hgd ty x y ho g xs.length vs.toArray hx hy (fun j hj => ⟨?_, hb.frozen _⟩) (by simpa using hi) (all_oneCell_toArray h1) ?_
  · rw [hb.cell]
    have hj' : j < old.length := by rw [hl]; simpa using hj
    simp
    omega
  · rw [show vs.toArray.toList = vs from by simp]
    exact h _ h2 h3

abbrev z32 : List UInt8 := List.replicate 32 0
theorem pk_built (b h : Int) : Tryz.prog.built 35 [(0, .int .i64 b), (1, .int .i64 h)] = some (pkC b h z32) := by kernel_rfl

set_option maxRecDepth 100000 in
set_option maxHeartbeats 1000000 in
theorem sNew_no (A : Option Addr) (n c : Nat) (b h : Int) (w : World) (hno : mayK b h = false ∨ (mayK b h = true ∧ 64 < n)) :
    Calls Tryz.prog 6 #[.slice A n c, .int .i64 b, .int .i64 h] w fun e w' => e = .returned (.tuple #[.pointer none, .int .i64 1]) ∧ Ext w w' := by
  have hl : z32.length = 32 := by simp
  have hi := info_pkC b h z32 hl
  have hs := zeroPk_size b h z32 hl
  have hb := pk_built b h
  have Hm := fun w => Lib.hid (sMay_any b h z32 w)
  rcases hno with hm | ⟨hm, hn⟩
  · rw [hm] at Hm
    go_enter Tryz.func6, Tryz.ntmps6
    go_wp2_with (first | (refine wpList_build_to rfl 35 _ rfl (pkC b h z32) hb ?_) | (refine wpList_var rfl rfl 35 rfl _ _ rfl (.agg zeroPk) zero_pk (pkC b h z32) rfl rfl hi hs (pkC_one _ _ _) ?_; intro w1 D1 E1) | (refine wpList_load_blk D1 rfl 35 _ rfl rfl Tryz.underlying35 rfl hi ?_))
    with_reducible refine (Hm _).out.mono ?_
    rintro e w2 ⟨rfl, E2⟩
    go_wp2
    go_ret2
    exact ⟨rfl, E1.trans E2⟩
  · rw [hm] at Hm
    have hn' : (n : Int) > 64 := by omega
    go_enter Tryz.func6, Tryz.ntmps6
    go_wp2_with (first | (refine wpList_build_to rfl 35 _ rfl (pkC b h z32) hb ?_) | (refine wpList_var rfl rfl 35 rfl _ _ rfl (.agg zeroPk) zero_pk (pkC b h z32) rfl rfl hi hs (pkC_one _ _ _) ?_; intro w1 D1 E1) | (refine wpList_load_blk D1 rfl 35 _ rfl rfl Tryz.underlying35 rfl hi ?_))
    with_reducible refine (Hm _).out.mono ?_
    rintro e w2 ⟨rfl, E2⟩
    go_wp2
    go_ret2
    exact ⟨rfl, E1.trans E2⟩
end Go.Proofs.YtddbmddblhjkkaaGreatDoor
/- What stays where a row that is typed turns. -/
namespace Go.Proofs.YtddbmddblhjkkaaGreatDoor
open Go.RowKit

theorem heap_ext {w w' : World} {L : Nat} {o : Obj} (h : w.heap[L]? = some o) (E : Ext w w') : w'.heap[L]? = some o := (Below.block E L (Array.getElem?_eq_some_iff.1 h).1).trans h
theorem heap_grown {w w' : World} {L : Nat} {o : Obj} {row : Option Nat} (h : w.heap[L]? = some o) (hg : w.grownBy w' row) (hne : row ≠ some L) : w'.heap[L]? = some o := (hg.block L (Array.getElem?_eq_some_iff.1 h).1 (Ne.symm hne)).trans h
theorem own_not {w : World} {base : Nat} {e : TypeId} {size : Nat} {v : Value} {k : Nat} {xs : List Value} (h : w.ownsRow base e size v k xs) {L : Nat} {o : Obj} (hl : w.heap[L]? = some o) (ho : ∀ cs fr, o ≠ .cells cs e fr) : v.ownBlock ≠ some L := by
  intro e'
  rcases h.2 with ⟨rfl, _⟩ | ⟨g, cap, cur, rfl, _, hg, _⟩
  · simp [Value.ownBlock] at e'
  · obtain rfl : g = L := by simpa [Value.ownBlock] using e'
    rw [hl] at hg
    injection hg with hg
    exact ho _ _ hg

/-- a block that is typed turns: what is of another type stays -/
theorem own_turn {w w' : World} {base : Nat} {e : TypeId} {size : Nat} {v : Value} {k : Nat} {xs : List Value} {g : Nat} {o : Obj} (h : w.ownsRow base e size v k xs) (hg : w.grownBy w' (some g)) (ho : w.heap[g]? = some o) (hne : ∀ cs fr, o ≠ .cells cs e fr) : w'.ownsRow base e size v k xs := by
  refine h.kept hg ?_
  have := own_not h ho hne
  cases hv : v.ownBlock with
  | none => exact .inl rfl
  | some j => exact .inr (by rw [← hv]; exact this)
/-- the row that turns is of this type -/
def RowT (w : World) (row : Option Nat) (e : TypeId) : Prop := ∀ g, row = some g → ∃ cs fr, w.heap[g]? = some (.cells cs e fr)
theorem rowT_own {w : World} {base : Nat} {e : TypeId} {size : Nat} {v : Value} {k : Nat} {xs : List Value} (h : w.ownsRow base e size v k xs) : RowT w v.ownBlock e := by
  intro g hg
  rcases h.2 with ⟨rfl, _⟩ | ⟨g', cap, cur, rfl, _, hh, _⟩
  · simp [Value.ownBlock] at hg
  · obtain rfl : g' = g := by simpa [Value.ownBlock] using hg
    exact ⟨_, _, hh⟩
theorem rowT_blk {w : World} {B : Nat} {t : TypeId} {cs : Array Value} (h : Blk w B t cs) : RowT w (some B) t := fun g e => by cases e; exact ⟨_, _, h⟩
section
variable {w w' : World} {row : Option Nat} {e : TypeId}
theorem RowT.heap {L : Nat} {o : Obj} (t : RowT w row e) (hg : w.grownBy w' row) (h : w.heap[L]? = some o) (ho : ∀ cs fr, o ≠ .cells cs e fr) : w'.heap[L]? = some o :=
  heap_grown h hg fun e' => by obtain ⟨cs, fr, h2⟩ := t L e'; rw [h] at h2; injection h2 with h2; exact ho _ _ h2
theorem RowT.blk {B : Nat} {t' : TypeId} {cs : Array Value} (t : RowT w row e) (hg : w.grownBy w' row) (h : Blk w B t' cs) (hne : t' ≠ e) : Blk w' B t' cs :=
  t.heap hg h fun _ _ e' => by injection e' with _ e'; exact hne e'
theorem RowT.own {base : Nat} {e' : TypeId} {size : Nat} {v : Value} {k : Nat} {xs : List Value} (t : RowT w row e) (hg : w.grownBy w' row) (h : w.ownsRow base e' size v k xs) (hne : e' ≠ e) : w'.ownsRow base e' size v k xs := by
  cases row with
  | none => exact own_kept h ((Ext.refl w).grown hg (fun k e => by cases e))
  | some g =>
    obtain ⟨cs, fr, hh⟩ := t g rfl
    exact own_turn h hg hh (fun _ _ e' => by injection e' with _ e'; exact hne e'.symm)
end
theorem grown_none {w w' : World} (hg : w.grownBy w' none) : Ext w w' := (Ext.refl w).grown hg (fun k e => by cases e)
end Go.Proofs.YtddbmddblhjkkaaGreatDoor
/- signer.New of a key that may be. -/
namespace Go.Proofs.YtddbmddblhjkkaaGreatDoor
open Go.RowKit Go.Maps

theorem cellsB {w : World} {g : Nat} {t : TypeId} {d : List UInt8} (h : Blk w g t (bytesV d).toArray) : Cells w g 0 (bytesV d) := fun j v hv => by
  rw [Nat.zero_add, h.cell]
  simpa using hv
theorem sgC_set1 (sv lv u : Value) (b h : Int) (r : List UInt8) (M : Nat) : (sgC sv lv b h r M).setIfInBounds 1 u = sgC sv u b h r M := by simp [sgC]
theorem sg_built' (A : Option Addr) (n c : Nat) (M : Nat) : Tryz.prog.built 61 [(0, .slice A n c), (3, .map (some M))] = some (sgC (.slice A n c) (.slice none 0 0) 0 0 z32 M) := by kernel_rfl
def lvsT (seed : List UInt8) (b k : Nat) : List (List UInt8) := (List.range k).map fun i => leafB seed i b
theorem lvsT_length (seed : List UInt8) (b k : Nat) : (lvsT seed b k).length = k := by simp [lvsT]
theorem lvsT_succ (seed : List UInt8) (b k : Nat) : lvsT seed b (k + 1) = lvsT seed b k ++ [leafB seed k b] := by simp [lvsT, List.range_succ]
theorem lvsT_full (seed : List UInt8) (b h : Nat) : lvsT seed b (2 ^ h) = lvsB seed b h := rfl
theorem UMap.row {w w' : World} {M : Nat} {u : Int → Option (List UInt8)} {n : Nat} {row : Option Nat} {e : TypeId} (h : UMap w M u n) (t : RowT w row e) (hg : w.grownBy w' row) : UMap w' M u n := by
  have hne : row ≠ some M := fun e' => by
    obtain ⟨cs, fr, h2⟩ := t M e'
    obtain ⟨es, cl, h3⟩ := h.isMap
    rw [h2] at h3
    cases h3
  obtain ⟨D, h1, h2⟩ := h
  exact ⟨D, h1.kept hg (Ne.symm hne), h2⟩
theorem OwnD.row {w w' : World} {base : Nat} {v : Value} {ds : List (List UInt8)} {row : Option Nat} {e : TypeId} (h : OwnD w base v ds) (t : RowT w row e) (hg : w.grownBy w' row) (hne : 33 ≠ e) : OwnD w' base v ds := ⟨t.own hg h.1 hne, h.2⟩
/-- what New holds in memory while it builds its leaves -/
structure Nw (w0 w : World) (S K M o : Nat) (sv lv : Value) (seed : List UInt8) (b h k : Nat) (bb hh : Int) (r r' : List UInt8) : Prop where
  bs : Blk w S 61 (sgC sv lv bb hh r M)
  bk : Blk w K 35 (pkC b h r')
  ol : OwnD w S lv (lvsT seed b k)
  ow : w.ownsRow o 5 1 sv seed.length (bytesV seed)
  um : UMap w M (fun _ => none) 0
  ex : Ext w0 w
section
variable {w0 w w' : World} {S K M o : Nat} {sv lv : Value} {seed : List UInt8} {b h k : Nat} {bb hh : Int} {r r' : List UInt8}
theorem Nw.ext (n : Nw w0 w S K M o sv lv seed b h k bb hh r r') (E : Ext w w') : Nw w0 w' S K M o sv lv seed b h k bb hh r r' :=
  ⟨n.bs.ext E, n.bk.ext E, n.ol.ext E, own_kept n.ow E, n.um.ext E, n.ex.trans E⟩
theorem Nw.app (n : Nw w0 w S K M o sv lv seed b h k bb hh r r') (hg : w.grownBy w' lv.ownBlock) {lv' : Value} (ho : OwnD w' S lv' (lvsT seed b (k + 1))) (hS : w0.heap.size ≤ S) :
    Nw w0 (w'.setCell ⟨S, 1, none⟩ lv') S K M o sv lv' seed b h (k + 1) bb hh r r' := by
  have t : RowT w lv.ownBlock 33 := rowT_own n.ol.1
  have b1 := t.blk hg n.bs (by decide)
  have t2 : RowT w' (some S) 61 := rowT_blk b1
  have hg2 := grown_setCell w' S 1 lv'
  have b2 := b1.set 1 lv'
  rw [sgC_set1] at b2
  exact ⟨b2, t2.blk hg2 (t.blk hg n.bk (by decide)) (by decide), ho.row t2 hg2 (by decide), t2.own hg2 (t.own hg n.ow (by decide)) (by decide), (n.um.row t hg).row t2 hg2, (n.ex.grown hg fun j hj => Nat.le_trans hS (n.ol.from j hj)).setCell hS _⟩
theorem pkC_form (b h : Int) (r : List UInt8) : pkC b h r = ([Value.int .i64 b, .int .i64 h] ++ (bytesV r ++ [])).toArray := by simp [pkC]
theorem sgC_form (sv lv : Value) (b h : Int) (r : List UInt8) (M : Nat) : sgC sv lv b h r M = ([sv, lv] ++ ((pkC b h r).toList ++ [Value.map (some M)])).toArray := by simp [sgC, pkC]
theorem Nw.pk (n : Nw w0 w S K M o sv lv seed b h k bb hh r r') {r2 : List UInt8} (hb : Blk w' K 35 (pkC b h r2)) (hg : w.grownBy w' (some K)) (hK : w0.heap.size ≤ K) : Nw w0 w' S K M o sv lv seed b h k bb hh r r2 := by
  have t : RowT w (some K) 35 := rowT_blk n.bk
  exact ⟨t.blk hg n.bs (by decide), hb, n.ol.row t hg (by decide), t.own hg n.ow (by decide), n.um.row t hg, n.ex.grown hg fun j hj => by cases hj; exact hK⟩
theorem Nw.sg (n : Nw w0 w S K M o sv lv seed b h k bb hh r r') {b2 h2 : Int} {r2 : List UInt8} (hb : Blk w' S 61 (sgC sv lv b2 h2 r2 M)) (hg : w.grownBy w' (some S)) (hS : w0.heap.size ≤ S) : Nw w0 w' S K M o sv lv seed b h k b2 h2 r2 r' := by
  have t : RowT w (some S) 61 := rowT_blk n.bs
  exact ⟨hb, t.blk hg n.bk (by decide), n.ol.row t hg (by decide), t.own hg n.ow (by decide), n.um.row t hg, n.ex.grown hg fun j hj => by cases hj; exact hS⟩
end
set_option maxRecDepth 100000 in
set_option maxHeartbeats 4000000 in
theorem sNew_yes (v : Value) (seed : List UInt8) (b h : Nat) (w : World) (hK : Kst w) (hv : Sl w v seed) (hl : seed.length ≤ 64) (hm : mayK b h = true) :
    Calls Tryz.prog 6 #[v, .int .i64 (b : Int), .int .i64 (h : Int)] w fun e w' => ∃ S M, e = .returned (.tuple #[.pointer (some ⟨S, 0, none⟩), .int .i64 0]) ∧ Sgn w' S M seed b h (fun _ => none) 0 ∧ w.heap.size ≤ S ∧ w.heap.size ≤ M ∧ Ext w w' := by
  obtain ⟨A, c, rfl, hc⟩ := SlR.form hv
  have hzl : z32.length = 32 := by simp
  have hi := info_pkC b h z32 hzl
  have hs := zeroPk_size b h z32 hzl
  have hb := pk_built b h
  have Hm := fun w => Lib.hid (sMay_any b h z32 w)
  rw [hm] at Hm
  have h6 := (mayK_iff _ _).1 hm
  have hmb := (mayB_iff _).1 h6.1
  have hle := pow_le (show h ≤ 6 by omega)
  obtain ⟨N, hN⟩ : ∃ N, N = 2 ^ h := ⟨_, rfl⟩
  have hw : wrap64 ((2 : Int) ^ min h 64) = (N : Int) := by rw [show min h 64 = h by omega, wrap_pow (by omega), hN]; simp
  have hll := lvsT_length seed b
  have il := fun k => Lib.hid (leafB_length seed k b)
  have hrl := Lib.hid (pubB_length seed b h)
  rw [← hN] at hle
  have hn64 : ¬ ((seed.length : Int) > 64) := by omega
  have HV := Lib.hid hv
  have Hcl := Lib.hid (fun w' (E : Ext w w') => cloneB_any _ seed w' (hv.ext E) (by omega))
  have Hlf := Lib.hid (fun (k : Nat) w' (E : Ext w w') (hk : k ≤ 64) => lLeaf_yes (.slice A seed.length c) seed (k : Int) (b : Int) w' (hK.ext E) (hv.ext E) h6.1 ((keyB_iff _ _).2 ⟨hl, by omega, by omega⟩))
  simp only [Int.toNat_natCast] at Hlf
  have hmm := @run_makeMap Tryz.prog
  have Hmay := Lib.hid hm
  have HN := Lib.hid hN
  have H6 := Lib.hid h6
  clear hv hm hN h6
  go_enter Tryz.func6, Tryz.ntmps6
  go_wp2_with (first | (refine wpList_build_to rfl 35 _ rfl (pkC b h z32) hb ?_) | (refine wpList_var rfl rfl 35 rfl _ _ rfl (.agg zeroPk) zero_pk (pkC b h z32) rfl rfl hi hs (pkC_one _ _ _) ?_; intro w1 D1 E1) | (refine wpList_load_blk D1 rfl 35 _ rfl rfl Tryz.underlying35 rfl hi ?_))
  with_reducible refine (Hm _).out.mono ?_
  rintro e w2 ⟨rfl, E2⟩
  have F2 := E1.trans E2
  replace D1 := D1.ext E2
  clear E1 E2 Hm
  go_wp2_with fail
  with_reducible refine (Hcl.out _ F2).mono ?_
  rintro e w3 ⟨v3, rfl, O3, E3⟩
  obtain ⟨A3, c3, rfl, hc3⟩ := own_form O3
  have F3 := F2.trans E3
  have hsb := sg_built' A3 seed.length c3 w3.heap.size
  clear Hcl
  go_wp2_with (first | (refine wpList_build_to rfl 61 _ rfl _ hsb ?_))
  have hKs : w.heap.size ≤ w3.heap.size := F3.size
  rw [hw]
  go_loopw [31] (fun i wr => ∃ k : Nat, k ≤ N ∧ i = .int .i64 k ∧ ∃ lv, Nw w wr (w3.heap.size + 1) w.heap.size w3.heap.size w2.heap.size (.slice A3 seed.length c3) lv seed b h k 0 0 z32 z32) (fun i _ => N - (intOf i).toNat)
  case atStart =>
    have E4 : Ext w3 ((w3.alloc (.map #[] 0)).alloc (.cells (sgC (.slice A3 seed.length c3) (.slice none 0 0) 0 0 z32 w3.heap.size) 61)) := ((Ext.refl w3).alloc _).alloc _
    have hb0 := Blk.new (w3.alloc (.map #[] 0)) 61 (sgC (.slice A3 seed.length c3) (.slice none 0 0) 0 0 z32 w3.heap.size)
    rw [show (w3.alloc (.map #[] 0)).heap.size = w3.heap.size + 1 by simp] at hb0
    have h0 : Nw w _ (w3.heap.size + 1) w.heap.size w3.heap.size w2.heap.size (.slice A3 seed.length c3) (.slice none 0 0) seed b h 0 0 0 z32 z32 := ⟨hb0, (D1.ext E3).ext E4, OwnD.none_ _ _, own_kept O3 E4, (UMap.made w3).ext ((Ext.refl _).alloc _), F3.trans E4⟩
    exact ⟨0, by omega, rfl, _, h0⟩
  case round =>
    clear hsb D1 O3 E3 F2
    obtain ⟨k, hkN, rfl, lv, n⟩ := hrel
    obtain ⟨Al, cl, rfl, hcl⟩ := n.ol.form
    rw [hll] at *
    have Nn := Lib.hid n
    have Ew := Lib.hid n.ex
    clear n
    by_cases hlt : k < N
    · have H1 := Hlf.out k
      obtain ⟨z, hz⟩ : ∃ z, z = leafB seed k b := ⟨_, rfl⟩
      have Lz := il k
      rw [← hz] at H1 Lz
      have H1 := Lib.hid H1
      have Hz := Lib.hid hz
      have sz : Hid (zb32.size = (bytesV z).toArray.size) := zb32_size _ Lz.out
      have iz : Hid ((Tryz.prog.info? 33).map (·.size) = some (bytesV z).toArray.size) := dg_i z Lz.out
      clear hz Hlf
      go_wp2_with fail
      with_reducible refine (H1.out _ Ew.out (by omega)).mono ?_
      rintro e w4 ⟨rfl, E4⟩
      clear H1
      go_wp2_with (first | (refine wpList_var rfl rfl 33 rfl _ _ rfl (.agg zb32) zero_a32 (bytesV z).toArray rfl rfl iz.out sz.out (bytes_one _) ?_; intro w5 D5 E5))
      have h4l : ∀ j, (Value.slice Al k cl).ownBlock = some j → j < w4.heap.size := fun j e => Nat.lt_of_lt_of_le (Nn.out.ol.lt j e) E4.size
      have h45 := E4.trans E5
      replace Nn := Lib.hid (Nn.out.ext h45)
      clear E4 E5 h45 Ew
      have Hc0 : Hid (w5.drew.cell? ⟨w3.heap.size + 1, 1, none⟩ = some (.slice Al k cl) ∧ Blk w5.drew w4.heap.size 33 (bytesV z).toArray) := ⟨Nn.out.bs.cell 1, D5⟩
      refine wp_region_chain 8 [(true, 0), (true, 1), (true, 2), (true, 3), (true, 4), (true, 5), (false, 6), (false, 7)] (fun w' => w'.cell? ⟨w3.heap.size + 1, 1, none⟩ = some (.slice Al k cl) ∧ Blk w' w4.heap.size 33 (bytesV z).toArray) (by kernel_rfl) (by kernel_rfl) Hc0.out ?_
      iterate 5
        refine wpTake_read _ _ ?_ rfl rfl ?_ ?_
        rotate_left 1
        focus
          intro wS hS
          have hS := hS.1
          try dsimp only at hS
          go_simp
          first | done | with_reducible rfl
        simp only [Act.put, List.setIfInBounds_toArray, List.set_cons_zero, List.set_cons_succ]
      refine wpTake_load _ _ rfl rfl 33 _ rfl (.agg (bytesV z).toArray) (fun wS hS => run_load_dg (cellsB hS.2) Lz.out) ?_
      simp only [Act.put, List.setIfInBounds_toArray, List.set_cons_zero, List.set_cons_succ]
      refine wpTake_do _ _ rfl rfl (fun K hK' => ?_)
      refine wp_build_dg z Lz.out _ rfl rfl ?_
      intro w6 E56 hs6 hnew
      refine hK' _ _ ⟨E56.cell Hc0.out.1, Hc0.out.2.ext E56⟩ ?_
      clear hK' K
      have Hnew := Lib.hid hnew
      have hc6 := E56.cell Hc0.out.1
      have hlx := D5.lt
      have hz6 := E56.size
      have D6 : Blk w6 w4.heap.size 33 (bytesV z).toArray := Hc0.out.2.ext E56
      have hne : (Value.slice Al k cl).ownBlock ≠ some w4.heap.size := fun e => by have := h4l _ e; omega
      replace Nn := Lib.hid (Nn.out.ext ((Ext.draws w5 _).trans E56))
      have hsz := Nn.out.bs.lt
      clear hnew hs6 E56 Hc0 D5
      refine wpTake_do _ _ rfl rfl (fun K hK' => ?_)
      refine wp_appD Nn.out.ol Lz.out Hnew.out _ _ rfl rfl rfl (by rw [hll]; omega) (by omega) ?_
      intro v7 w7 ho7 hg7 hq7
      have hn7 := Nn.out.ol.ne Nn.out.bs (by decide)
      have hB7 := Nn.out.bs.grown hg7 (Ne.symm hn7)
      obtain ⟨A7, c7, e7, hc7'⟩ := ho7.form
      rw [List.length_append, hll, List.length_singleton] at e7
      subst e7
      refine hK' _ _ ⟨hB7.cell 1, D6.grown hg7 (Ne.symm hne)⟩ ?_
      clear hK' K
      refine wpTake_nil ?_
      simp only [Act.put, List.setIfInBounds_toArray, List.set_cons_zero, List.set_cons_succ, List.drop_succ_cons, List.drop_zero]
      have HO7 := Lib.hid ho7
      have Hg7 := Lib.hid hg7
      have hc7 := hB7.cell 1
      have hf7 := hB7.frozen 1
      clear ho7 hg7 hq7 hn7 hne D6 hc6 hB7
      go_wp2
      refine NoPanic.normal ?_
      have n8 := Nn.out.app Hg7.out (by rw [lvsT_succ, ← Hz.out]; exact HO7.out) (by omega)
      clear hf7 hc7 hc7' HO7 Hg7 Hnew Nn
      revert n8
      generalize w7.setCell ⟨w3.heap.size + 1, 1, none⟩ (.slice A7 (k + 1) c7) = w8
      intro n8
      have N8 := Lib.hid n8
      clear n8
      go_wp2
      go_roundw
      case rel => exact ⟨k + 1, by omega, by go_num, _, N8.out⟩
      case measure => simp [intOf]; omega
    · obtain rfl : k = N := by omega
      clear Hlf
      have Hrt := Lib.hid (fun w' (E : Ext w w') (hs : SlD w' (.slice Al k cl) (lvsT seed b k)) => mRoot_yes (.slice Al k cl) (lvsT seed b k) h w' (hK.ext E) hs ((hll k).trans HN.out) (by have := H6.out; omega))
      have erb : rootB (lvsT seed b k) h = pubB seed b h := by rw [HN.out, lvsT_full]; rfl
      rw [erb] at Hrt
      clear erb
      obtain ⟨r, hr⟩ : ∃ r, r = pubB seed b h := ⟨_, rfl⟩
      rw [← hr] at Hrt hrl
      have Hr := Lib.hid hr
      clear hr
      have c1 : wr.cell? ⟨w3.heap.size + 1, 1, none⟩ = some (.slice Al k cl) := Nn.out.bs.cell 1
      go_wp2_with fail
      with_reducible refine (Hrt.out _ Ew.out Nn.out.ol.sl).mono ?_
      rintro e w4 ⟨rfl, E4⟩
      have N4 := Lib.hid (Nn.out.ext E4)
      have I1 : Hid ((Tryz.prog.info? 33).map (·.size) = some (bytesV r).length) := Lib.hid (by rw [bytesV_length, hrl.out]; exact info_a32)
      have L1 : Hid ((bytesV z32).length = (bytesV r).length) := Lib.hid (by rw [bytesV_length, bytesV_length, hrl.out]; simp)
      have B1 : Hid (Blk w4 w.heap.size 35 ([Value.int .i64 b, .int .i64 h] ++ (bytesV z32 ++ [])).toArray) := Lib.hid (by rw [← pkC_form]; exact N4.out.bk)
      have I2 := Lib.hid (info_pkC b h r hrl.out)
      have I2' : Hid ((Tryz.prog.info? 35).map (·.size) = some (pkC b h r).toList.length) := Lib.hid (by rw [Array.length_toList]; exact I2.out)
      have L2 : Hid ((pkC (0 : Int) 0 z32).toList.length = (pkC b h r).toList.length) := Lib.hid (by simp [pkC, bytesV_length, hrl.out])
      have O2 : Hid (∀ v ∈ (pkC b h r).toList, v.oneCell' = true) := Lib.hid (fun v hv => (Array.all_eq_true_iff_forall_mem.1 (pkC_one b h r)) v (by simpa using hv))
      clear c1 E4 Nn Hrt Ew
      go_wp2_with (first | (refine wpList_store_part rfl 33 _ _ rfl w.heap.size 35 [Value.int .i64 b, .int .i64 h] (bytesV z32) [] (bytesV r) rfl rfl B1.out L1.out I1.out (bytesV_one r) ?_; intro w5 hb5 hg5; have N5 := Lib.hid (N4.out.pk (by rw [pkC_form]; exact hb5) hg5 (Nat.le_refl _)); clear hb5 hg5) | (refine wpList_load_blk N5.out.bk rfl 35 _ rfl rfl Tryz.underlying35 rfl I2.out ?_) | (refine wpList_store_part rfl 35 _ _ rfl (w3.heap.size + 1) 61 [Value.slice A3 seed.length c3, .slice Al k cl] (pkC (0 : Int) 0 z32).toList [Value.map (some w3.heap.size)] (pkC b h r).toList rfl rfl (by rw [← sgC_form]; exact N5.out.bs) L2.out I2'.out O2.out ?_; intro w6 hb6 hg6; have N6 := Lib.hid (N5.out.sg (by rw [sgC_form]; exact hb6) hg6 (by omega)); clear hb6 hg6))
      go_ret2
      have hd := N6.out.ol.sl
      rw [show lvsT seed b k = lvsB seed b h by rw [HN.out, lvsT_full]] at hd
      have hB := N6.out.bs
      rw [Hr.out] at hB
      refine ⟨_, _, rfl, ⟨⟨_, _, hB, SlR.of_own N6.out.ow, hd⟩, N6.out.um, Hmay.out, hl⟩, by omega, by omega, N6.out.ex⟩
end Go.Proofs.YtddbmddblhjkkaaGreatDoor
/- signer.Public of a seed; octet.Same of two texts. -/
namespace Go.Proofs.YtddbmddblhjkkaaGreatDoor
open Go.RowKit Go.Maps

set_option maxRecDepth 100000 in
set_option maxHeartbeats 1000000 in
theorem public_no (A : Option Addr) (n c : Nat) (b h : Int) (w : World) (hno : mayK b h = false ∨ (mayK b h = true ∧ 64 < n)) :
    Calls Tryz.prog 20 #[.slice A n c, .int .i64 b, .int .i64 h] w fun e w' => e = .returned (.tuple #[.agg zeroPk, .int .i64 1]) ∧ Ext w w' := by
  have hi := info_pkC 0 0 (List.replicate 32 0) (by simp)
  have Hn := fun w => Lib.hid (sNew_no A n c b h w hno)
  have Hp := fun w => Lib.hid (sPublic_nil w)
  clear hno
  go_enter Tryz.func20, Tryz.ntmps20
  go_wp2_with (first | (refine wpList_alloc_blk rfl 35 rfl (.agg zeroPk) zero_pk ?_; intro w1 hs1 hb1 he1; clear hs1))
  with_reducible refine (Hn _).out.mono ?_
  rintro e w2 ⟨rfl, E2⟩
  go_wp2_with fail
  with_reducible refine (Hp _).out.mono ?_
  rintro e w3 ⟨rfl, E3⟩
  have hb3 := (hb1.ext E2).ext E3
  go_wp2_with (first | (refine wpList_store_blk rfl 35 _ _ rfl w.heap.size zeroPk rfl rfl 35 zeroPk hb3 hi rfl (pkC_one _ _ _) ?_; intro w7 hs7 hb7 hg7))
  refine bodyPost_ret (v := .tuple #[.agg zeroPk, .int .i64 1]) (ret2_blk hb7 rfl rfl Tryz.underlying35 rfl hi rfl) rfl ?_
  exact ⟨rfl, (he1.trans (E2.trans E3)).grown hg7 (by simp)⟩

set_option maxRecDepth 100000 in
set_option maxHeartbeats 1000000 in
theorem public_yes (v : Value) (seed : List UInt8) (b h : Nat) (w : World) (hK : Kst w) (hv : Sl w v seed) (hl : seed.length ≤ 64) (hm : mayK b h = true) :
    Calls Tryz.prog 20 #[v, .int .i64 (b : Int), .int .i64 (h : Int)] w fun e w' => e = .returned (.tuple #[.agg (pkC b h (pubB seed b h)), .int .i64 0]) ∧ Ext w w' := by
  obtain ⟨A, c, rfl, hc⟩ := SlR.form hv
  have hpl := pubB_length seed b h
  have Hn := fun w' (E : Ext w w') => Lib.hid (sNew_yes (.slice A seed.length c) seed b h w' (hK.ext E) (hv.ext E) hl hm)
  have Hp := fun S M w' (s : Sgn w' S M seed b h (fun _ => none) 0) => Lib.hid (sPublic_any S M seed b h (fun _ => none) 0 w' s)
  obtain ⟨r, hr⟩ : ∃ r, r = pubB seed b h := ⟨_, rfl⟩
  rw [← hr] at hpl ⊢
  have hi := info_pkC b h r hpl
  have hz := zeroPk_size b h r hpl
  simp only [← hr] at Hp
  have Hr := Lib.hid hr
  clear hr hv hm
  go_enter Tryz.func20, Tryz.ntmps20
  go_wp2_with (first | (refine wpList_alloc_blk rfl 35 rfl (.agg zeroPk) zero_pk ?_; intro w1 hs1 hb1 he1; clear hs1))
  with_reducible refine (Hn _ he1).out.mono ?_
  rintro e w2 ⟨S, M, rfl, s, _, _, E2⟩
  have Hs := Lib.hid s
  clear s Hn
  go_wp2_with fail
  with_reducible refine (Hp S M _ Hs.out).out.mono ?_
  rintro e w3 ⟨rfl, E3⟩
  have hb3 := (hb1.ext E2).ext E3
  go_wp2_with (first | (refine wpList_store_blk rfl 35 _ _ rfl w.heap.size (pkC b h r) rfl rfl 35 zeroPk hb3 hi hz (pkC_one _ _ _) ?_; intro w7 hs7 hb7 hg7))
  refine bodyPost_ret (v := .tuple #[.agg (pkC b h r), .int .i64 0]) (ret2_blk hb7 rfl rfl Tryz.underlying35 rfl hi rfl) rfl ?_
  exact ⟨rfl, (he1.trans (E2.trans E3)).grown hg7 (by simp)⟩

theorem ofInt8 (x : UInt8) : BitVec.ofInt 8 (x.toNat : Int) = x.toBitVec := by rw [BitVec.ofInt_natCast]; simp
theorem wrap8 (x : UInt8) : IntKind.u8.wrap (x.toNat : Int) = (x.toNat : Int) := by
  have := x.toNat_lt
  show ((x.toNat : Int) % 256) = _
  omega
theorem bits_xor8 (a b : UInt8) : bits .xor .u8 (a.toNat : Int) (b.toNat : Int) = ((a ^^^ b).toNat : Int) := by
  show IntKind.u8.wrap ((BitVec.ofInt 8 (a.toNat : Int) ^^^ BitVec.ofInt 8 (b.toNat : Int)).toNat : Int) = _
  rw [ofInt8, ofInt8]
  exact wrap8 (a ^^^ b)
theorem bits_or8 (a b : UInt8) : bits .or .u8 (a.toNat : Int) (b.toNat : Int) = ((a ||| b).toNat : Int) := by
  show IntKind.u8.wrap ((BitVec.ofInt 8 (a.toNat : Int) ||| BitVec.ofInt 8 (b.toNat : Int)).toNat : Int) = _
  rw [ofInt8, ofInt8]
  exact wrap8 (a ||| b)
theorem or8_zero (a b : UInt8) : (a ||| b = 0) ↔ a = 0 ∧ b = 0 := by
  constructor
  · intro h
    have h1 := congrArg UInt8.toBitVec h
    rw [UInt8.toBitVec_or] at h1
    have h2 : a.toBitVec = 0 ∧ b.toBitVec = 0 := by simpa using h1
    exact ⟨UInt8.toBitVec_inj.1 h2.1, UInt8.toBitVec_inj.1 h2.2⟩
  · rintro ⟨rfl, rfl⟩
    rfl
theorem xor8_zero (a b : UInt8) : (a ^^^ b = 0) ↔ a = b := UInt8.xor_eq_zero_iff
end Go.Proofs.YtddbmddblhjkkaaGreatDoor
/- octet.Same of two texts. -/
namespace Go.Proofs.YtddbmddblhjkkaaGreatDoor
open Go.RowKit Go.Maps

theorem take_succ_eq (xs ys : List UInt8) (k : Nat) (h1 : k < xs.length) (h2 : k < ys.length) : (xs.take (k + 1) = ys.take (k + 1)) ↔ xs.take k = ys.take k ∧ xs[k] = ys[k] := by
  rw [List.take_succ_eq_append_getElem h1, List.take_succ_eq_append_getElem h2]
  constructor
  · intro h
    have := List.append_inj h (by simp; omega)
    exact ⟨this.1, by simpa using this.2⟩
  · rintro ⟨e1, e2⟩
    rw [e1, e2]

set_option maxRecDepth 100000 in
set_option maxHeartbeats 1000000 in
theorem oSame_any (v u : Value) (xs ys : List UInt8) (w : World) (hv : Sl w v xs) (hu : Sl w u ys) (hl : xs.length ≤ 1073741824) :
    Calls Tryz.prog 39 #[v, u] w fun e w' => e = .returned (.bool (decide (xs = ys))) ∧ Ext w w' := by
  obtain ⟨A, c, rfl, hc⟩ := SlR.form hv
  obtain ⟨B, d, rfl, hd⟩ := SlR.form hu
  by_cases hn : xs.length = ys.length
  · obtain ⟨n, hxn⟩ : ∃ n, n = xs.length := ⟨_, rfl⟩
    have hyn : n = ys.length := hxn.trans hn
    have Hv : Hid (SlR w 1 (.slice A n c) n (bytesV xs)) := by rw [hxn]; exact hv
    have Hu : Hid (SlR w 1 (.slice B n d) n (bytesV ys)) := by rw [hyn]; exact hu
    rw [← hxn, ← hyn]
    clear hv hu hn
    have hn0 : ¬ ((n : Int) ≠ (n : Int)) := by simp
    go_enter Tryz.func39, Tryz.ntmps39
    go_wp2
    go_loopw [5, 14] (fun a i wr => ∃ k : Nat, k ≤ n ∧ i = .int .i64 k ∧ Ext w wr ∧ ∃ x : UInt8, a = .int .u8 (x.toNat : Int) ∧ (x = 0 ↔ xs.take k = ys.take k)) (fun _ i _ => n - (intOf i).toNat)
    case atStart => exact ⟨0, by omega, rfl, by first | exact Ext.refl _ | exact (Ext.refl _).drew, 0, rfl, by simp⟩
    case round =>
      obtain ⟨k, hkn, rfl, E, x, rfl, hx⟩ := hrel
      by_cases hlt : k < n
      · obtain ⟨b1, o1, rfl, h1⟩ := (Hv.out.ext E).here (by omega)
        obtain ⟨b2, o2, rfl, h2⟩ := (Hu.out.ext E).here (by omega)
        have c1 := h1 k _ (bytesV_get xs k (by omega))
        have c2 := h2 k _ (bytesV_get ys k (by omega))
        have hs := take_succ_eq xs ys k (by omega) (by omega)
        have e1 : xs[k]?.getD 0 = xs[k] := by rw [List.getElem?_eq_getElem (by omega)]; rfl
        have e2 : ys[k]?.getD 0 = ys[k] := by rw [List.getElem?_eq_getElem (by omega)]; rfl
        rw [← e1, ← e2] at hs
        obtain ⟨p, hp⟩ : ∃ p, p = xs[k]?.getD 0 := ⟨_, rfl⟩
        obtain ⟨q, hq⟩ : ∃ q, q = ys[k]?.getD 0 := ⟨_, rfl⟩
        rw [← hp] at c1 hs
        rw [← hq] at c2 hs
        have f1 := bits_xor8 p q
        obtain ⟨z, hz⟩ : ∃ z, z = p ^^^ q := ⟨_, rfl⟩
        rw [← hz] at f1
        have f2 := bits_or8 x z
        obtain ⟨y, hy⟩ : ∃ y, y = x ||| z := ⟨_, rfl⟩
        rw [← hy] at f2
        have hxy : y = 0 ↔ xs.take (k + 1) = ys.take (k + 1) := by rw [hy, hz, or8_zero, xor8_zero, hs, hx]
        have Hx := Lib.hid hxy
        clear hxy hx hs hz hy
        clear e1 e2 hp hq h1 h2
        go_wp2
        go_quiet (fail)
        go_wp2
        go_roundw
        case rel => exact ⟨k + 1, by omega, by go_num, by first | exact E | exact E.drew | exact E.drewN _, y, rfl, Hx.out⟩
        case measure => simp [intOf]; omega
      · obtain rfl : k = n := by omega
        have hd : ((x.toNat : Int) == 0) = decide (xs = ys) := by
          rw [Bool.beq_eq_decide_eq, decide_eq_decide]
          rw [List.take_of_length_le (by omega), List.take_of_length_le (by omega)] at hx
          rw [← hx]
          constructor
          · intro h; exact UInt8.toNat_inj.1 (by have : x.toNat = 0 := by omega
                                                 simpa using this)
          · rintro rfl; rfl
        have Hd := Lib.hid hd
        clear hd hx
        go_wp2
        go_ret
        refine ⟨?_, E⟩
        show Ending.returned (.bool ((x.toNat : Int) == 0)) = _
        rw [Hd.out]
  · have hne : ¬ (xs = ys) := fun h => hn (by rw [h])
    have hn2 : ((xs.length : Int) ≠ (ys.length : Int)) := by omega
    have Hne : Hid (decide (xs = ys) = false) := Lib.hid (by simpa using hne)
    clear hne hv hu
    go_enter Tryz.func39, Tryz.ntmps39
    go_wp2
    go_ret
    refine ⟨?_, Ext.refl w⟩
    show Ending.returned (.bool false) = _
    rw [Hne.out]
end Go.Proofs.YtddbmddblhjkkaaGreatDoor
/- signer.Verify: what it refuses ahead of the sums. -/
namespace Go.Proofs.YtddbmddblhjkkaaGreatDoor
open Go.RowKit Go.Maps

/-- a signature's cells -/
def sigC (i : Int) (rv ov wv : Value) : Array Value := #[.int .i64 i, rv, ov, wv]
theorem sigC_cells {w : World} {g : Nat} {i : Int} {rv ov wv : Value} (h : Blk w g 44 (sigC i rv ov wv)) : w.cell? ⟨g, 0, none⟩ = some (.int .i64 i) ∧ w.cell? ⟨g, 1, none⟩ = some rv ∧ w.cell? ⟨g, 2, none⟩ = some ov ∧ w.cell? ⟨g, 3, none⟩ = some wv := ⟨h.cell 0, h.cell 1, h.cell 2, h.cell 3⟩
theorem pkC_cells {w : World} {g : Nat} {b h : Int} {r : List UInt8} (hb : Blk w g 35 (pkC b h r)) : w.cell? ⟨g, 0, none⟩ = some (.int .i64 b) ∧ w.cell? ⟨g, 1, none⟩ = some (.int .i64 h) := ⟨hb.cell 0, hb.cell 1⟩

set_option maxRecDepth 100000 in
set_option maxHeartbeats 1000000 in
theorem verify_no1 (b h i : Int) (r : List UInt8) (mv : Value) (Ar Ao Aw : Option Addr) (nr no nw cr co cw : Nat) (w : World) (hr : r.length = 32)
    (hno : mayK b h = false ∨ (mayK b h = true ∧ (nr : Int) ≠ b) ∨ (mayK b h = true ∧ (nr : Int) = b ∧ (nw : Int) ≠ h)) :
    Calls Tryz.prog 16 #[.agg (pkC b h r), mv, .agg (sigC i (.slice Ar nr cr) (.slice Ao no co) (.slice Aw nw cw))] w fun e w' => e = .returned (.bool false) ∧ Ext w w' := by
  have hi := info_pkC b h r hr
  have hB0 := Blk.new w 35 (pkC b h r)
  have hB1 := Blk.new (w.alloc (.cells (pkC b h r) 35)) 44 (sigC i (.slice Ar nr cr) (.slice Ao no co) (.slice Aw nw cw))
  have hB0' := hB0.alloc (.cells (sigC i (.slice Ar nr cr) (.slice Ao no co) (.slice Aw nw cw)) 44)
  rw [World.size_alloc] at hB1
  have Ew3 : Ext w ((w.alloc (.cells (pkC b h r) 35)).alloc (.cells (sigC i (.slice Ar nr cr) (.slice Ao no co) (.slice Aw nw cw)) 44)) := ((Ext.refl w).alloc _).alloc _
  have Hm := fun w => Lib.hid (sMay_any b h r w)
  obtain ⟨P, hP⟩ : ∃ P, P = pkC b h r := ⟨_, rfl⟩
  obtain ⟨S, hS⟩ : ∃ S, S = sigC i (.slice Ar nr cr) (.slice Ao no co) (.slice Aw nw cw) := ⟨_, rfl⟩
  rw [← hS] at hB1 hB0' Ew3 ⊢
  rw [← hP] at hB0 hB1 hB0' Ew3 hi ⊢
  simp only [← hP] at Hm
  have HP := Lib.hid hP
  have HS := Lib.hid hS
  clear hP hS hB0
  go_enter Tryz.func16, Tryz.ntmps16
  go_wp2_with (refine wpList_load_blk hB0' rfl 35 _ rfl rfl Tryz.underlying35 rfl hi ?_)
  have pack := And.intro hB0' (And.intro hB1 Ew3)
  clear hB0' hB1 Ew3
  revert pack
  generalize (w.alloc (.cells P 35)).alloc (.cells S 44) = w3
  rintro ⟨hB0', hB1, Ew3⟩
  with_reducible refine (Hm _).out.mono ?_
  rintro e w4 ⟨rfl, E4⟩
  have E := Ew3.trans E4
  replace hB0' := hB0'.ext E4
  replace hB1 := hB1.ext E4
  rw [HP.out] at hB0'
  rw [HS.out] at hB1
  have c0 := (pkC_cells hB0').1
  have c1 := (pkC_cells hB0').2
  have d1 := (sigC_cells hB1).2.1
  have d3 := (sigC_cells hB1).2.2.2
  clear Hm hB0' hB1 Ew3 E4
  rcases hno with hm | ⟨hm, hn⟩ | ⟨hm, hn, hn2⟩
  · rw [hm]
    go_wp2
    go_ret
    exact ⟨rfl, E⟩
  · rw [hm]
    go_wp2
    go_ret
    exact ⟨rfl, E⟩
  · rw [hm]
    go_wp2
    go_ret
    exact ⟨rfl, E⟩
end Go.Proofs.YtddbmddblhjkkaaGreatDoor
/- octet.Reader in memory; its functions From, Left, Bad, Spoil. -/
namespace Go.Proofs.YtddbmddblhjkkaaGreatDoor
open Go.RowKit

/-- a *Reader: what is left, whether it is bad -/
def Rd (T : TypeId) (w : World) (g : Nat) (rest : List UInt8) (bad : Bool) : Prop :=
  ∃ A c, Blk w g T #[.slice A rest.length c, .bool bad] ∧ Sl w (.slice A rest.length c) rest ∧ (bad = true → rest = [])
/-- only the Reader of block g has turned -/
def Rv (T : TypeId) (g : Nat) (w w' : World) : Prop := w.grownBy w' (some g) ∧ ∃ v b, Blk w g T #[v, .bool b] ∧ ∀ k : Int, v ≠ .int .u8 k
section
variable {T : TypeId} {g : Nat} {w w' w'' : World} {rest : List UInt8} {bad : Bool}
theorem ext_grown {a b : World} (r : Option Nat) (E : Ext a b) : a.grownBy b r := ⟨E.os, E.tape, E.output, E.size, fun k hk _ => E.block k hk⟩
theorem Rd.ext (h : Rd T w g rest bad) (E : Ext w w') : Rd T w' g rest bad := by
  obtain ⟨A, c, hB, hS, hb⟩ := h
  exact ⟨A, c, hB.ext E, hS.ext E, hb⟩
theorem Rd.rv (h : Rd T w g rest bad) (hg : w.grownBy w' (some g)) : Rv T g w w' := by
  obtain ⟨A, c, hB, _, _⟩ := h
  exact ⟨hg, _, _, hB, fun k e => by cases e⟩
theorem Rv.sl (h : Rv T g w w') {v : Value} {bs : List UInt8} (hs : Sl w v bs) : Sl w' v bs := by
  obtain ⟨hg, v', b, hB, hk⟩ := h
  refine hs.grown hg fun o k e => ?_
  rw [hB.cell] at e
  match o with
  | 0 => exact hk k (by simpa using e)
  | 1 => simp at e
  | o + 2 => simp at e
theorem Rv.size (h : Rv T g w w') : w.heap.size ≤ w'.heap.size := h.1.size
end

/-- the number of bytes, the first one the highest -/
def numB (bs : List UInt8) : Nat := bs.foldl (fun a c => a * 256 + c.toNat) 0
theorem numB_snoc (bs : List UInt8) (c : UInt8) : numB (bs ++ [c]) = numB bs * 256 + c.toNat := by simp [numB, List.foldl_append]
theorem foldB_lt (bs : List UInt8) : ∀ a : Nat, bs.foldl (fun a c => a * 256 + c.toNat) a < (a + 1) * 256 ^ bs.length := by
  induction bs with
  | nil => intro a; simp
  | cons c t ih =>
    intro a
    have h1 := ih (a * 256 + c.toNat)
    have h2 := c.toNat_lt
    rw [List.foldl_cons, List.length_cons, Nat.pow_succ, Nat.mul_comm (256 ^ t.length) 256, ← Nat.mul_assoc]
    exact Nat.lt_of_lt_of_le h1 (Nat.mul_le_mul_right _ (by omega))
theorem numB_lt (bs : List UInt8) : numB bs < 256 ^ bs.length := by
  have := foldB_lt bs 0
  simpa [numB] using this
theorem numB_le4 (bs : List UInt8) (h : bs.length ≤ 4) : numB bs ≤ 4294967296 := by
  have h1 := numB_lt bs
  have h2 : (256 : Nat) ^ bs.length ≤ 256 ^ 4 := Nat.pow_le_pow_right (by omega) h
  omega
theorem numB_put4 (i : Nat) (h : i < 4294967296) : numB (putB i 4) = i := by
  simp [numB, putB, List.range_succ]
  omega
theorem or64 (x c : Nat) (hx : x ≤ 1099511627776) (hc : c < 256) : bits .or .i64 ((x * 256 : Nat) : Int) (c : Int) = ((x * 256 + c : Nat) : Int) := by
  show IntKind.i64.wrap ((BitVec.ofInt 64 ((x * 256 : Nat) : Int) ||| BitVec.ofInt 64 (c : Int)).toNat : Int) = _
  have h1 : (BitVec.ofInt 64 ((x * 256 : Nat) : Int) ||| BitVec.ofInt 64 (c : Int)).toNat = x * 256 + c := by
    rw [BitVec.ofInt_natCast, BitVec.ofInt_natCast, BitVec.toNat_or, BitVec.toNat_ofNat, BitVec.toNat_ofNat, Nat.mod_eq_of_lt (by omega), Nat.mod_eq_of_lt (by omega)]
    have := Nat.shiftLeft_add_eq_or_of_lt (i := 8) (b := c) (by omega) x
    rw [Nat.shiftLeft_eq] at this
    exact this.symm
  rw [h1]
  exact IntWalk.i64_in _ (by omega)

set_option maxRecDepth 100000 in
theorem oLeft_any (g : Nat) (rest : List UInt8) (bad : Bool) (w : World) (h : Rd 117 w g rest bad) :
    Calls Tryz.prog 67 #[.pointer (some ⟨g, 0, none⟩)] w fun e w' => e = .returned (.int .i64 rest.length) ∧ Ext w w' := by
  obtain ⟨A, c, hB, hS, hb⟩ := h
  have c0 : w.cell? ⟨g, 0, none⟩ = some (.slice A rest.length c) := hB.cell 0
  go_enter Tryz.func67, Tryz.ntmps67
  go_wp2
  go_ret
  exact ⟨rfl, by first | exact Ext.refl _ | exact (Ext.refl _).drewN _⟩

set_option maxRecDepth 100000 in
theorem oBad_any (g : Nat) (rest : List UInt8) (bad : Bool) (w : World) (h : Rd 117 w g rest bad) :
    Calls Tryz.prog 69 #[.pointer (some ⟨g, 0, none⟩)] w fun e w' => e = .returned (.bool bad) ∧ Ext w w' := by
  obtain ⟨A, c, hB, hS, hb⟩ := h
  have c1 : w.cell? ⟨g, 1, none⟩ = some (.bool bad) := hB.cell 1
  go_enter Tryz.func69, Tryz.ntmps69
  go_wp2
  go_ret
  exact ⟨rfl, by first | exact Ext.refl _ | exact (Ext.refl _).drewN _⟩

set_option maxRecDepth 100000 in
theorem oSpoil_any (g : Nat) (rest : List UInt8) (bad : Bool) (w : World) (h : Rd 117 w g rest bad) :
    Calls Tryz.prog 68 #[.pointer (some ⟨g, 0, none⟩)] w fun e w' => e = .returned (.tuple #[]) ∧ Rd 117 w' g [] true ∧ w.grownBy w' (some g) := by
  obtain ⟨A, c, hB, hS, hb⟩ := h
  have c0 : w.cell? ⟨g, 0, none⟩ = some (.slice A rest.length c) := hB.cell 0
  have c1 : w.cell? ⟨g, 1, none⟩ = some (.bool bad) := hB.cell 1
  have f0 := hB.frozen 0
  have f1 := hB.frozen 1
  go_enter Tryz.func68, Tryz.ntmps68
  go_wp2
  go_end0
  refine ⟨rfl, ⟨none, 0, ?_, SlR.none_ _ _ _ _, fun _ => rfl⟩, ?_⟩
  · have := (hB.set 0 (.slice none 0 0)).set 1 (.bool true)
    exact this
  · exact grown_trans (grown_setCell w g 0 _) (grown_setCell _ g 1 _)

set_option maxRecDepth 100000 in
theorem oDone_any (g : Nat) (rest : List UInt8) (bad : Bool) (w : World) (h : Rd 117 w g rest bad) :
    Calls Tryz.prog 45 #[.pointer (some ⟨g, 0, none⟩)] w fun e w' => e = .returned (.int .i64 (if bad = true ∨ rest ≠ [] then 11 else 0)) ∧ Ext w w' := by
  have Hb := fun w' (E : Ext w w') => Lib.hid (oBad_any g rest bad w' (h.ext E))
  have Hl := fun w' (E : Ext w w') => Lib.hid (oLeft_any g rest bad w' (h.ext E))
  clear h
  cases bad with
  | true =>
    rw [if_pos (.inl rfl)]
    go_enter Tryz.func45, Tryz.ntmps45
    go_wp2_with fail
    refine (Hb _ (Ext.refl w)).out.mono ?_
    rintro e w1 ⟨rfl, E1⟩
    go_wp2
    go_ret
    exact ⟨rfl, E1⟩
  | false =>
    by_cases h0 : rest = []
    · have hn : ¬ ((rest.length : Int) > 0) := by rw [h0]; simp
      rw [if_neg (by simp [h0])]
      go_enter Tryz.func45, Tryz.ntmps45
      go_wp2_with fail
      refine (Hb _ (Ext.refl w)).out.mono ?_
      rintro e w1 ⟨rfl, E1⟩
      go_wp2_with fail
      refine (Hl _ E1).out.mono ?_
      rintro e w2 ⟨rfl, E2⟩
      go_wp2
      go_ret
      exact ⟨rfl, E1.trans E2⟩
    · have hn : ((rest.length : Int) > 0) := by have := List.length_pos_iff.2 h0; omega
      rw [if_pos (.inr h0)]
      go_enter Tryz.func45, Tryz.ntmps45
      go_wp2_with fail
      refine (Hb _ (Ext.refl w)).out.mono ?_
      rintro e w1 ⟨rfl, E1⟩
      go_wp2_with fail
      refine (Hl _ E1).out.mono ?_
      rintro e w2 ⟨rfl, E2⟩
      go_wp2
      go_ret
      exact ⟨rfl, E1.trans E2⟩

set_option maxRecDepth 100000 in
theorem oFrom_any (v : Value) (bs : List UInt8) (w : World) (hv : Sl w v bs) (hlen : bs.length ≤ 1073741824) :
    Calls Tryz.prog 42 #[v] w fun e w' => ∃ g, e = .returned (.pointer (some ⟨g, 0, none⟩)) ∧ Rd 117 w' g bs false ∧ w.heap.size ≤ g ∧ Ext w w' := by
  have Hc := Lib.hid (cloneB_any v bs w hv hlen)
  obtain ⟨A, c, rfl, hc⟩ := SlR.form hv
  clear hv
  go_enter Tryz.func42, Tryz.ntmps42
  go_wp2_with fail
  refine Hc.out.mono ?_
  rintro e w1 ⟨v1, rfl, hO, E1⟩
  obtain ⟨A1, c1, rfl, hc1⟩ := own_form hO
  have hS : Sl w1 (.slice A1 bs.length c1) bs := SlR.of_own hO
  go_wp2
  go_ret
  exact ⟨_, rfl, ⟨A1, c1, Blk.new w1 _ _, hS.ext ((Ext.refl _).alloc _), fun e => by cases e⟩, E1.size, E1.alloc _⟩
end Go.Proofs.YtddbmddblhjkkaaGreatDoor
/- octet.Reader: Bytes and Int. -/
namespace Go.Proofs.YtddbmddblhjkkaaGreatDoor
open Go.RowKit

/-- may so many bytes be read? -/
def rdOk (rest : List UInt8) (bad : Bool) (n : Nat) : Bool := !bad && decide (n ≤ rest.length)
theorem rdOk_iff (rest : List UInt8) (bad : Bool) (n : Nat) : rdOk rest bad n = true ↔ bad = false ∧ n ≤ rest.length := by simp [rdOk]

set_option maxRecDepth 100000 in
theorem oBytes_no (g : Nat) (rest : List UInt8) (bad : Bool) (n : Nat) (w : World) (h : Rd 117 w g rest bad) (hno : rdOk rest bad n = false) :
    Calls Tryz.prog 44 #[.pointer (some ⟨g, 0, none⟩), .int .i64 n] w fun e w' => e = .returned (.slice none 0 0) ∧ Rd 117 w' g [] true ∧ w.grownBy w' (some g) := by
  have hlt : ¬ ((n : Int) < 0) := by omega
  have Hb := fun w' (E : Ext w w') => Lib.hid (oBad_any g rest bad w' (h.ext E))
  have Hl := fun w' (E : Ext w w') => Lib.hid (oLeft_any g rest bad w' (h.ext E))
  have Hs := fun w' (E : Ext w w') => Lib.hid (oSpoil_any g rest bad w' (h.ext E))
  by_cases hn : n ≤ rest.length
  · obtain rfl : bad = true := by cases bad <;> simp_all [rdOk]
    have hle : ¬ ((n : Int) > (rest.length : Int)) := by omega
    clear h hno
    go_enter Tryz.func44, Tryz.ntmps44
    go_wp2_with fail
    refine (Hl _ (Ext.refl w)).out.mono ?_
    rintro e w1 ⟨rfl, E1⟩
    go_wp2_with fail
    refine (Hb _ E1).out.mono ?_
    rintro e w2 ⟨rfl, E2⟩
    go_wp2_with fail
    refine (Hs _ (E1.trans E2)).out.mono ?_
    rintro e w3 ⟨rfl, R3, g3⟩
    go_wp2
    go_ret
    exact ⟨rfl, R3, grown_trans (ext_grown _ (E1.trans E2)) g3⟩
  · have hle : ((n : Int) > (rest.length : Int)) := by omega
    clear h hno Hb
    go_enter Tryz.func44, Tryz.ntmps44
    go_wp2_with fail
    refine (Hl _ (Ext.refl w)).out.mono ?_
    rintro e w1 ⟨rfl, E1⟩
    go_wp2_with fail
    refine (Hs _ E1).out.mono ?_
    rintro e w3 ⟨rfl, R3, g3⟩
    go_wp2
    go_ret
    exact ⟨rfl, R3, grown_trans (ext_grown _ E1) g3⟩

theorem Sl.take {w : World} {A : Option Addr} {c k : Nat} {l : List UInt8} (h : Sl w (.slice A l.length c) l) (hk : k ≤ l.length) : Sl w (.slice A k c) (l.take k) := by
  obtain ⟨hl, A', c', e, hc, hr⟩ := h
  cases e
  have h1 : (l.take k).length = k := by simp; omega
  refine ⟨by rw [bytesV_length]; omega, A, c, by rw [h1], by omega, fun hn => ?_⟩
  obtain ⟨b, o, hA, hx⟩ := hr (by omega)
  refine ⟨b, o, hA, fun j v hv => hx j v ?_⟩
  rw [← hv]
  have hj : j < k := by have := (List.getElem?_eq_some_iff.1 hv).1; rw [bytesV_length, h1] at this; exact this
  simp only [bytesV, List.getElem?_map, List.getElem?_take, if_pos hj]
theorem Sl.dropA {w : World} {a : Addr} {c k : Nat} {l : List UInt8} (h : Sl w (.slice (some a) l.length c) l) (hk : k ≤ l.length) : Sl w (.slice (some (a.add k)) (l.length - k) (c - k)) (l.drop k) := by
  by_cases h0 : k = l.length
  · subst h0
    rw [List.drop_length, Nat.sub_self]
    exact SlR.none_ _ _ _ _
  · obtain ⟨b, o, hA, _⟩ := SlR.here h (by omega)
    cases hA
    rw [Addr.add_lit]
    exact h.drop hk

/-- r.b = what is left -/
theorem rd_set {T : TypeId} {w w3 : World} {g m m' c' d : Nat} {A A' : Option Addr} {bad : Bool} {xs : List UInt8} (F : Ext w w3) (hB : Blk w g T #[.slice A m d, .bool bad]) (hS : Sl w3 (.slice A' m' c') xs) (hb : bad = true → xs = []) :
    Rd T (w3.setCell ⟨g, 0, none⟩ (.slice A' m' c')) g xs bad ∧ w.grownBy (w3.setCell ⟨g, 0, none⟩ (.slice A' m' c')) (some g) ∧ ∀ v bs, Sl w3 v bs → Sl (w3.setCell ⟨g, 0, none⟩ (.slice A' m' c')) v bs := by
  have hg := grown_setCell w3 g 0 (.slice A' m' c')
  have hv : Rv T g w3 (w3.setCell ⟨g, 0, none⟩ (.slice A' m' c')) := ⟨hg, _, _, hB.ext F, fun k e => by cases e⟩
  obtain rfl := hS.bytes
  exact ⟨⟨A', c', (hB.ext F).set 0 _, hv.sl hS, hb⟩, grown_trans (ext_grown _ F) hg, fun v bs h => hv.sl h⟩

set_option maxRecDepth 100000 in
set_option maxHeartbeats 400000 in
theorem oBytes_yes (g : Nat) (rest : List UInt8) (n : Nat) (w : World) (h : Rd 117 w g rest false) (hn : n ≤ rest.length) (hm : rest.length ≤ 1073741824) :
    Calls Tryz.prog 44 #[.pointer (some ⟨g, 0, none⟩), .int .i64 n] w fun e w' => ∃ v, e = .returned v ∧ Sl w' v (rest.take n) ∧ Rd 117 w' g (rest.drop n) false ∧ w.grownBy w' (some g) := by
  have hlt : ¬ ((n : Int) < 0) := by omega
  have hle : ¬ ((n : Int) > (rest.length : Int)) := by omega
  have Hb := fun w' (E : Ext w w') => Lib.hid (oBad_any g rest false w' (h.ext E))
  have Hl := fun w' (E : Ext w w') => Lib.hid (oLeft_any g rest false w' (h.ext E))
  obtain ⟨A, c, hB, hS, _⟩ := h
  have hc : rest.length ≤ c := by
    obtain ⟨A', c', e, hc⟩ := SlR.form hS
    cases e
    exact hc
  have HB := Lib.hid hB
  have HS := Lib.hid hS
  have hcl := fun w' (E : Ext w w') => Lib.hid (cloneB_any (.slice A n c) (rest.take n) w' ((hS.take hn).ext E) (by simp; omega))
  clear hB hS
  cases A with
  | none =>
    have h0 : rest.length = 0 := by
      rcases Nat.eq_zero_or_pos rest.length with h0 | h0
      · exact h0
      · obtain ⟨b, o, e, _⟩ := SlR.here HS.out h0
        cases e
    obtain rfl : rest = [] := List.eq_nil_of_length_eq_zero h0
    obtain rfl : n = 0 := by simpa using hn
    go_enter Tryz.func44, Tryz.ntmps44
    go_wp2_with fail
    refine (Hl _ (Ext.refl w)).out.mono ?_
    rintro e w1 ⟨rfl, E1⟩
    go_wp2_with fail
    refine (Hb _ E1).out.mono ?_
    rintro e w2 ⟨rfl, E2⟩
    have F2 := E1.trans E2
    clear E1 E2 Hb Hl
    have c0 : w2.cell? ⟨g, 0, none⟩ = some (.slice none 0 c) := (HB.out.ext F2).cell 0
    go_wp2_with fail
    refine (hcl _ F2).out.mono ?_
    rintro e w3 ⟨v3, rfl, hO3, E3⟩
    have F3 := F2.trans E3
    replace c0 := E3.cell c0
    have f0 := (HB.out.ext F3).frozen 0
    obtain ⟨A3, c3, rfl, hc3⟩ := own_form hO3
    have HS3 := Lib.hid (SlR.of_own hO3)
    clear hO3 hcl
    have hfin := rd_set (A' := none) (m' := 0) (c' := c) (xs := []) F3 HB.out (SlR.none_ _ _ _ _) (fun h => by cases h)
    go_wp2
    go_ret
    exact ⟨_, rfl, hfin.2.2 _ _ HS3.out, hfin.1, hfin.2.1⟩
  | some a =>
    go_enter Tryz.func44, Tryz.ntmps44
    go_wp2_with fail
    refine (Hl _ (Ext.refl w)).out.mono ?_
    rintro e w1 ⟨rfl, E1⟩
    go_wp2_with fail
    refine (Hb _ E1).out.mono ?_
    rintro e w2 ⟨rfl, E2⟩
    have F2 := E1.trans E2
    clear E1 E2 Hb Hl
    have c0 : w2.cell? ⟨g, 0, none⟩ = some (.slice (some a) rest.length c) := (HB.out.ext F2).cell 0
    go_wp2_with fail
    refine (hcl _ F2).out.mono ?_
    rintro e w3 ⟨v3, rfl, hO3, E3⟩
    have F3 := F2.trans E3
    replace c0 := E3.cell c0
    have f0 := (HB.out.ext F3).frozen 0
    obtain ⟨A3, c3, rfl, hc3⟩ := own_form hO3
    have HS3 := Lib.hid (SlR.of_own hO3)
    clear hO3 hcl
    have hsd := (HS.out.ext F3).dropA hn
    have h1 : (rest.take n).length = n := by simp; omega
    rw [h1] at HS3 hc3 ⊢
    have hs3 : Sl w3 (.slice A3 n c3) (rest.take n) := by unfold Sl; rw [h1]; exact HS3.out
    by_cases hcn : c = n
    · have hz : rest.length - n = 0 := by omega
      have hd0 : rest.drop n = [] := List.eq_nil_of_length_eq_zero (by simp; omega)
      have hfin := rd_set (A' := some a) (m' := 0) (c' := 0) (xs := rest.drop n) F3 HB.out (by rw [hd0]; exact SlR.none_ _ _ _ _) (fun h => by cases h)
      go_wp2
      go_ret
      exact ⟨_, rfl, hfin.2.2 _ _ hs3, hfin.1, hfin.2.1⟩
    · have hfin := rd_set F3 HB.out hsd (fun h => by cases h)
      go_wp2
      go_ret
      exact ⟨_, rfl, hfin.2.2 _ _ hs3, hfin.1, hfin.2.1⟩

set_option maxRecDepth 100000 in
theorem oInt_no (g : Nat) (rest : List UInt8) (bad : Bool) (w : World) (h : Rd 117 w g rest bad) (hno : rest.length < 4) :
    Calls Tryz.prog 43 #[.pointer (some ⟨g, 0, none⟩), .int .i64 4] w fun e w' => e = .returned (.int .i64 0) ∧ Rd 117 w' g [] true ∧ w.grownBy w' (some g) := by
  have hle : (4 : Int) > (rest.length : Int) := by omega
  have Hl := fun w' (E : Ext w w') => Lib.hid (oLeft_any g rest bad w' (h.ext E))
  have Hs := fun w' (E : Ext w w') => Lib.hid (oSpoil_any g rest bad w' (h.ext E))
  clear h hno
  go_enter Tryz.func43, Tryz.ntmps43
  go_wp2_with fail
  refine (Hl _ (Ext.refl w)).out.mono ?_
  rintro e w1 ⟨rfl, E1⟩
  go_wp2_with fail
  refine (Hs _ E1).out.mono ?_
  rintro e w3 ⟨rfl, R3, g3⟩
  go_wp2
  go_ret
  exact ⟨rfl, R3, grown_trans (ext_grown _ E1) g3⟩

set_option maxRecDepth 100000 in
set_option maxHeartbeats 400000 in
theorem oInt_yes (g : Nat) (rest : List UInt8) (w : World) (h : Rd 117 w g rest false) (hn : 4 ≤ rest.length) (hm : rest.length ≤ 1073741824) :
    Calls Tryz.prog 43 #[.pointer (some ⟨g, 0, none⟩), .int .i64 4] w fun e w' => e = .returned (.int .i64 (numB (rest.take 4))) ∧ Rd 117 w' g (rest.drop 4) false ∧ w.grownBy w' (some g) := by
  have hle : ¬ ((4 : Int) > (rest.length : Int)) := by omega
  have Hl := fun w' (E : Ext w w') => Lib.hid (oLeft_any g rest false w' (h.ext E))
  have Hb := fun w' (E : Ext w w') => Lib.hid (oBytes_yes g rest 4 w' (h.ext E) hn hm)
  have h4 : (rest.take 4).length = 4 := by simp; omega
  obtain ⟨bs, hbs⟩ : ∃ bs, bs = rest.take 4 := ⟨_, rfl⟩
  rw [← hbs] at h4 ⊢
  simp only [← hbs] at Hb
  have H4 := Lib.hid h4
  clear h hbs h4 hn hm
  go_enter Tryz.func43, Tryz.ntmps43
  go_wp2_with fail
  refine (Hl _ (Ext.refl w)).out.mono ?_
  rintro e w1 ⟨rfl, E1⟩
  go_wp2_with fail
  refine (Hb _ E1).out.mono ?_
  rintro e w2 ⟨v2, rfl, hS, R2, g2⟩
  have G2 := grown_trans (ext_grown _ E1) g2
  obtain ⟨A2, c2, rfl, hc2⟩ := SlR.form hS
  rw [H4.out] at hc2
  have HS : Hid (SlR w2 1 (.slice A2 4 c2) 4 (bytesV bs)) := by have := hS; unfold Sl at this; rw [H4.out] at this; exact this
  have HR := Lib.hid R2
  clear hS R2 g2 E1 Hb Hl hle
  rw [H4.out]
  go_wp2_with fail
  go_loopw [5, 39] (fun m i wr => ∃ k : Nat, k ≤ 4 ∧ i = .int .i64 k ∧ m = .int .i64 (numB (bs.take k)) ∧ Ext w2 wr) (fun _ i _ => 4 - (intOf i).toNat)
  case atStart => exact ⟨0, by omega, rfl, rfl, Ext.refl _⟩
  case round =>
    obtain ⟨k, hk4, rfl, rfl, E⟩ := hrel
    by_cases hlt : k < 4
    · obtain ⟨b1, o1, rfl, h1⟩ := (HS.out.ext E).here (by omega)
      have hkl : k < bs.length := by rw [H4.out]; exact hlt
      have c1 := h1 k _ (bytesV_get bs k hkl)
      have hst : numB (bs.take (k + 1)) = numB (bs.take k) * 256 + (bs[k]?.getD 0).toNat := by
        rw [List.take_succ_eq_append_getElem hkl, numB_snoc, List.getElem?_eq_getElem hkl]
        rfl
      have hle := numB_le4 (bs.take k) (by simp; omega)
      obtain ⟨x, hx⟩ : ∃ x, x = numB (bs.take k) := ⟨_, rfl⟩
      obtain ⟨p, hp⟩ : ∃ p, p = bs[k]?.getD 0 := ⟨_, rfl⟩
      rw [← hx] at hst hle ⊢
      rw [← hp] at hst c1
      have hpl := p.toNat_lt
      have f1 := or64 x p.toNat (by omega) (by omega)
      have f0 : IntKind.i64.wrap ((x : Int) * 2 ^ 8) = ((x * 256 : Nat) : Int) := by rw [show ((x : Int) * 2 ^ 8) = ((x * 256 : Nat) : Int) by omega]; exact IntWalk.i64_in _ (by omega)
      have Hst := Lib.hid hst
      clear hst hx hp h1
      go_wp2
      refine ⟨⟨k + 1, by omega, by go_num, ?_, E⟩, by simp [intOf]; omega⟩
      rw [Hst.out]
      have e : ((x * 256 : Nat) : Int) = (x : Int) * 256 := by omega
      rw [e] at f1
      rw [f1]
    · obtain rfl : k = 4 := by omega
      rw [List.take_of_length_le (by rw [H4.out]; omega)]
      go_wp2
      go_ret
      exact ⟨rfl, HR.out.ext E, grown_trans G2 (ext_grown _ E)⟩
end Go.Proofs.YtddbmddblhjkkaaGreatDoor
/- signer.Verify: where the shape is whole. -/
namespace Go.Proofs.YtddbmddblhjkkaaGreatDoor
open Go.RowKit Go.Maps

theorem sigC_once {w : World} {g : Nat} {i : Int} {rv ov wv : Value} (h : Blk w g 44 (sigC i rv ov wv)) : Cells w g 1 (#[rv, ov] : Array Value).toList := by
  intro j v hv
  rw [h.cell]
  match j, hv with
  | 0, hv => simpa [sigC] using hv
  | 1, hv => simpa [sigC] using hv
theorem pkC_root {w : World} {g : Nat} {b h : Int} {r : List UInt8} (hB : Blk w g 35 (pkC b h r)) : Cells w g 2 (bytesV r) := by
  intro j v hv
  rw [hB.cell, pkC]
  simp only [List.getElem?_toArray]
  rw [Nat.add_comm]
  exact hv

set_option maxRecDepth 100000 in
set_option maxHeartbeats 2000000 in
theorem verify_whole (i : Int) (r m : List UInt8) (mv : Value) (rv ov wv : Value) (rev oth way : List (List UInt8)) (w : World) (hK : Kst w) (hr : r.length = 32) (hmv : Sl w mv m) (hlm : m.length ≤ 1048576)
    (hrv : SlD w rv rev) (hov : SlD w ov oth) (hwv : SlD w wv way) (hm : mayK rev.length way.length = true) :
    Calls Tryz.prog 16 #[.agg (pkC rev.length way.length r), mv, .agg (sigC i rv ov wv)] w fun e w' => e = .returned (.bool (wholeB rev.length oth.length && climbOk way.length i && decide (climbB (impB m rev oth) i.toNat way = r))) ∧ Ext w w' := by
  obtain ⟨Am, cm, rfl, hcm⟩ := SlR.form hmv
  obtain ⟨Ar, cr, rfl, hcr⟩ := hrv.form
  obtain ⟨Ao, co, rfl, hco⟩ := hov.form
  obtain ⟨Aw, cw, rfl, hcw⟩ := hwv.form
  have hi := info_pkC rev.length way.length r hr
  have hB0 := Blk.new w 35 (pkC rev.length way.length r)
  have hB1 := Blk.new (w.alloc (.cells (pkC rev.length way.length r) 35)) 44 (sigC i (.slice Ar rev.length cr) (.slice Ao oth.length co) (.slice Aw way.length cw))
  have hB0' := hB0.alloc (.cells (sigC i (.slice Ar rev.length cr) (.slice Ao oth.length co) (.slice Aw way.length cw)) 44)
  rw [World.size_alloc] at hB1
  have Ew3 : Ext w ((w.alloc (.cells (pkC rev.length way.length r) 35)).alloc (.cells (sigC i (.slice Ar rev.length cr) (.slice Ao oth.length co) (.slice Aw way.length cw)) 44)) := ((Ext.refl w).alloc _).alloc _
  have Hm := fun w => Lib.hid (sMay_any rev.length way.length r w)
  rw [hm] at Hm
  have Hno := fun w => Lib.hid (lImplied_no (.slice Am m.length cm) Ar Ao rev.length oth.length cr co w)
  have Hyes := fun w' (E : Ext w w') => Lib.hid (lImplied_yes (.slice Am m.length cm) (.slice Ar rev.length cr) (.slice Ao oth.length co) m rev oth w' (hK.ext E) (hmv.ext E) (hrv.ext E) (hov.ext E))
  have Hcno := fun x w => Lib.hid (mClimb_no x i Aw way.length cw w)
  have Hcyes := fun x k w' (E : Ext w w') => Lib.hid (mClimb_yes x k (.slice Aw way.length cw) way w' (hK.ext E))
  have HW := Lib.hid hwv
  obtain ⟨P, hP⟩ : ∃ P, P = pkC rev.length way.length r := ⟨_, rfl⟩
  obtain ⟨S, hS⟩ : ∃ S, S = sigC i (.slice Ar rev.length cr) (.slice Ao oth.length co) (.slice Aw way.length cw) := ⟨_, rfl⟩
  rw [← hS] at hB1 hB0' Ew3 ⊢
  rw [← hP] at hB0 hB1 hB0' Ew3 hi ⊢
  simp only [← hP] at Hm
  have HP := Lib.hid hP
  have HS := Lib.hid hS
  have Hlm := Lib.hid hlm
  clear hP hS hB0 hmv hrv hov hwv hlm
  obtain ⟨B, hB⟩ : ∃ B, B = (wholeB rev.length oth.length && climbOk way.length i && decide (climbB (impB m rev oth) i.toNat way = r)) := ⟨_, rfl⟩
  rw [← hB]
  have HB := Lib.hid hB
  clear hB
  go_enter Tryz.func16, Tryz.ntmps16
  go_wp2_with (refine wpList_load_blk hB0' rfl 35 _ rfl rfl Tryz.underlying35 rfl hi ?_)
  have pack := And.intro hB0' (And.intro hB1 Ew3)
  clear hB0' hB1 Ew3
  revert pack
  generalize (w.alloc (.cells P 35)).alloc (.cells S 44) = w3
  rintro ⟨hB0', hB1, Ew3⟩
  with_reducible refine (Hm _).out.mono ?_
  rintro e w4 ⟨rfl, E4⟩
  have E := Ew3.trans E4
  replace hB0' := hB0'.ext E4
  replace hB1 := hB1.ext E4
  rw [HP.out] at hB0'
  rw [HS.out] at hB1
  have c0 := (pkC_cells hB0').1
  have c1 := (pkC_cells hB0').2
  have d0 := (sigC_cells hB1).1
  have d1 := (sigC_cells hB1).2.1
  have d3 := (sigC_cells hB1).2.2.2
  have HO := Lib.hid (sigC_once hB1)
  have HR := Lib.hid (pkC_root hB0')
  clear Hm hB0' hB1 Ew3 E4
  have hi1 : (Tryz.prog.info? 42).map (·.size) = some 2 := info_one
  by_cases hwh : wholeB rev.length oth.length = true
  · go_wp2_with (refine wpList_load_mid HO.out rfl 42 _ rfl rfl Tryz.underlying42 rfl hi1 ?_)
    have Hyes' := fun w' (E : Ext w w') => Lib.hid ((Hyes w' E).out hwh Hlm.out)
    have lz := impB_length m rev oth
    obtain ⟨z, hz⟩ : ∃ z, z = impB m rev oth := ⟨_, rfl⟩
    simp only [← hz] at Hyes' lz
    have iz := dg_i z lz
    have sz := zb32_size z lz
    have Lz := Lib.hid lz
    have Hz := Lib.hid hz
    have Hwh := Lib.hid hwh
    clear hz Hno Hyes hwh lz
    with_reducible refine (Hyes' _ E).out.mono ?_
    rintro e w5 ⟨rfl, E5⟩
    clear Hyes'
    go_wp2_with (first | (have _ := D1; refine wpList_load_blk D1 rfl 33 _ rfl rfl Tryz.underlying33 rfl iz ?_) | (refine wpList_var rfl rfl 33 rfl _ _ rfl (.agg zb32) zero_a32 (bytesV z).toArray rfl rfl iz sz (bytes_one _) ?_; intro w6 D1 E6; replace d0 := E6.cell (E5.cell d0); replace d3 := E6.cell (E5.cell d3)))
    have F := E.trans (E5.trans E6)
    replace HR := Lib.hid ((HR.out.ext E5).ext E6)
    clear c0 c1 d1 E5 E6 E HO
    by_cases hok : climbOk way.length i = true
    · obtain ⟨h6, h0, hlt⟩ := (climbOk_iff _ _).1 hok
      obtain ⟨k, rfl⟩ : ∃ k : Nat, i = (k : Int) := ⟨i.toNat, by omega⟩
      have hk : k < 2 ^ way.length := by exact_mod_cast hlt
      have Hc := fun w' (E : Ext w w') => Lib.hid ((Hcyes z k w' E).out Lz.out (HW.out.ext E) h6 hk)
      have ly := climbB_length way z k Lz.out
      have HB2 : Hid (B = decide (climbB z k way = r)) := Lib.hid (by rw [HB.out, Hwh.out, hok, Hz.out]; simp)
      clear Hcyes Hcno hok h0 hlt
      obtain ⟨y, hy⟩ : ∃ y, y = climbB z k way := ⟨_, rfl⟩
      rw [← hy] at ly HB2
      simp only [← hy] at Hc
      have iy := dg_i y ly
      have sy := zb32_size y ly
      have Ly := Lib.hid ly
      clear hy ly
      with_reducible refine (Hc _ F).out.mono ?_
      rintro e w7 ⟨rfl, E7⟩
      clear Hc
      go_wp2_with (refine wpList_var rfl rfl 33 rfl _ _ rfl (.agg zb32) zero_a32 (bytesV y).toArray rfl rfl iy sy (bytes_one _) ?_; intro w8 D2 E8)
      have G := F.trans (E7.trans E8)
      have HR8 := Lib.hid (sl_cells ((HR.out.ext E7).ext E8) hr)
      have HD8 := Lib.hid (sl_blk32 D2 Ly.out)
      have Hs := fun w' (E : Ext w8 w') => Lib.hid (oSame_any _ _ y r w' (HD8.out.ext E) (HR8.out.ext E) (by rw [Ly.out]; omega))
      clear HR D1 D2 E7 E8 F d0 d3 HW
      refine wp_region_chain 6 [(true, 0), (true, 1), (true, 2), (true, 3), (true, 4), (true, 5)] (fun w' => Ext w8 w') (by kernel_rfl) (by kernel_rfl) (Ext.refl w8).drew ?_
      iterate 6
        refine wpTake_read _ _ ?_ rfl rfl ?_ ?_
        rotate_left 1
        focus
          intro wS hS
          clear hS
          go_simp
          first | done | with_reducible rfl
        simp only [Act.put, List.setIfInBounds_toArray, List.set_cons_zero, List.set_cons_succ]
      refine wpTake_nil ?_
      simp only [List.drop_succ_cons, List.drop_zero]
      go_wp2_with fail
      with_reducible refine (Hs _ (Ext.refl w8).drew).out.mono ?_
      rintro e w9 ⟨rfl, E9⟩
      have G9 : Ext w w9 := G.drew.trans E9
      go_wp2
      refine NoPanic.normal ?_
      go_wp2
      go_ret
      refine ⟨?_, G9⟩
      rw [HB2.out]
      rfl
    · have hokf : climbOk way.length i = false := by simpa using hok
      have Hc := fun w => Lib.hid ((Hcno z w).out hokf)
      have HBf : Hid (B = false) := Lib.hid (by rw [HB.out, hokf]; simp)
      clear Hcyes Hcno hok hokf
      with_reducible refine (Hc _).out.mono ?_
      rintro e w7 ⟨rfl, E7⟩
      clear Hc
      go_wp2_with (refine wpList_var rfl rfl 33 rfl _ _ rfl (.agg zb32) zero_a32 zb32 rfl rfl info_a32 rfl zb32_one ?_; intro w8 D2 E8)
      have G := F.trans (E7.trans E8)
      go_quiet (fail)
      go_wp2
      go_ret
      refine ⟨?_, G.drewN _⟩
      show Ending.returned (.bool false) = _
      rw [HBf.out]
  · have hwf : wholeB rev.length oth.length = false := by simpa using hwh
    have HBf : Hid (B = false) := Lib.hid (by rw [HB.out, hwf]; rfl)
    have Hno' := fun w => Lib.hid ((Hno w).out hwf)
    clear hwh hwf
    go_wp2_with (refine wpList_load_mid HO.out rfl 42 _ rfl rfl Tryz.underlying42 rfl hi1 ?_)
    with_reducible refine (Hno' _).out.mono ?_
    rintro e w5 ⟨rfl, E5⟩
    go_wp2_with (refine wpList_var rfl rfl 33 rfl _ _ rfl (.agg zb32) zero_a32 zb32 rfl rfl info_a32 rfl zb32_one ?_; intro w6 D1 E6)
    go_ret
    refine ⟨?_, E.trans (E5.trans E6)⟩
    show Ending.returned (.bool false) = _
    rw [HBf.out]
end Go.Proofs.YtddbmddblhjkkaaGreatDoor
/- signer.Encode. -/
namespace Go.Proofs.YtddbmddblhjkkaaGreatDoor
open Go.RowKit Go.Maps

def encOk (i : Int) (nr no nw : Nat) : Bool := wholeB nr no && (decide (0 ≤ i) && (decide (i ≤ 1073741824) && decide (nw ≤ 6)))
theorem encOk_iff (i : Int) (nr no nw : Nat) : encOk i nr no nw = true ↔ wholeB nr no = true ∧ 0 ≤ i ∧ i ≤ 1073741824 ∧ nw ≤ 6 := by simp [encOk]
def sigB (i : Nat) (rev oth way : List (List UInt8)) : List UInt8 := putB i 4 ++ encS rev oth rev.length ++ way.flatten

set_option maxRecDepth 100000 in
set_option maxHeartbeats 1000000 in
theorem sEncode_no (i : Int) (rv ov wv : Value) (rev oth way : List (List UInt8)) (w : World) (hrv : SlD w rv rev) (hov : SlD w ov oth) (hwv : SlD w wv way) (hno : encOk i rev.length oth.length way.length = false) :
    Calls Tryz.prog 21 #[.agg (sigC i rv ov wv)] w fun e w' => e = .returned (.tuple #[.slice none 0 0, .int .i64 1]) ∧ Ext w w' := by
  obtain ⟨Ar, cr, rfl, hcr⟩ := hrv.form
  obtain ⟨Ao, co, rfl, hco⟩ := hov.form
  obtain ⟨Aw, cw, rfl, hcw⟩ := hwv.form
  have hB := Blk.new w 44 (sigC i (.slice Ar rev.length cr) (.slice Ao oth.length co) (.slice Aw way.length cw))
  have E0 : Ext w (w.alloc (.cells (sigC i (.slice Ar rev.length cr) (.slice Ao oth.length co) (.slice Aw way.length cw)) 44)) := (Ext.refl w).alloc _
  have d0 := (sigC_cells hB).1
  have d3 := (sigC_cells hB).2.2.2
  have HO := Lib.hid (sigC_once hB)
  have hi1 : (Tryz.prog.info? 42).map (·.size) = some 2 := info_one
  have Hno := fun w => Lib.hid (lEncode_no Ar Ao rev.length oth.length cr co w)
  have Hyes := fun w' (E : Ext w w') => Lib.hid (lEncode_yes (.slice Ar rev.length cr) (.slice Ao oth.length co) rev oth w' (hrv.ext E) (hov.ext E))
  obtain ⟨S, hS⟩ : ∃ S, S = sigC i (.slice Ar rev.length cr) (.slice Ao oth.length co) (.slice Aw way.length cw) := ⟨_, rfl⟩
  rw [← hS] at E0 d0 d3 HO ⊢
  clear hB hS hrv hov hwv
  by_cases hwh : wholeB rev.length oth.length = true
  · have hcase : i < 0 ∨ (¬ i < 0 ∧ i > 1073741824) ∨ (¬ i < 0 ∧ ¬ i > 1073741824 ∧ (way.length : Int) > 6) := by
      have hf : ¬ (encOk i rev.length oth.length way.length = true) := by rw [hno]; simp
      rw [encOk_iff] at hf
      by_cases h1 : i < 0
      · exact .inl h1
      · by_cases h2 : i > 1073741824
        · exact .inr (.inl ⟨h1, h2⟩)
        · refine .inr (.inr ⟨h1, h2, ?_⟩)
          by_cases h3 : way.length ≤ 6
          · exact absurd ⟨hwh, by omega, by omega, h3⟩ hf
          · omega
    have Hy := fun w' (E : Ext w w') => Lib.hid ((Hyes w' E).out hwh)
    clear Hyes Hno hno hwh
    go_enter Tryz.func21, Tryz.ntmps21
    go_wp2_with (refine wpList_load_mid HO.out rfl 42 _ rfl rfl Tryz.underlying42 rfl hi1 ?_)
    with_reducible refine (Hy _ E0).out.mono ?_
    rintro e w2 ⟨v, rfl, hv, E2⟩
    replace d0 := E2.cell d0
    replace d3 := E2.cell d3
    have E := E0.trans E2
    clear E0 E2 hv Hy HO
    rcases hcase with h1 | ⟨h1, h2⟩ | ⟨h1, h2, h3⟩
    · go_wp2
      go_ret2
      exact ⟨rfl, E⟩
    · go_wp2
      go_ret2
      exact ⟨rfl, E⟩
    · go_wp2
      go_ret2
      exact ⟨rfl, E⟩
  · have hwf : wholeB rev.length oth.length = false := by simpa using hwh
    have Hn := fun w => Lib.hid ((Hno w).out hwf)
    clear Hyes Hno hno hwh hwf
    go_enter Tryz.func21, Tryz.ntmps21
    go_wp2_with (refine wpList_load_mid HO.out rfl 42 _ rfl rfl Tryz.underlying42 rfl hi1 ?_)
    with_reducible refine (Hn _).out.mono ?_
    rintro e w2 ⟨rfl, E2⟩
    go_wp2
    go_ret2
    exact ⟨rfl, E0.trans E2⟩

theorem flat_take (way : List (List UInt8)) (k : Nat) (h : k < way.length) : (way.take (k + 1)).flatten = (way.take k).flatten ++ way[k] := by
  rw [List.take_succ_eq_append_getElem h, List.flatten_append]
  simp

set_option maxRecDepth 100000 in
set_option maxHeartbeats 1000000 in
theorem sEncode_yes (i : Nat) (rv ov wv : Value) (rev oth way : List (List UInt8)) (w : World) (hrv : SlD w rv rev) (hov : SlD w ov oth) (hwv : SlD w wv way) (hok : encOk i rev.length oth.length way.length = true) :
    Calls Tryz.prog 21 #[.agg (sigC i rv ov wv)] w fun e w' => ∃ v, e = .returned (.tuple #[v, .int .i64 0]) ∧ Sl w' v (sigB i rev oth way) ∧ Ext w w' := by
  obtain ⟨hwh, hi0, hi30, hw6⟩ := (encOk_iff _ _ _ _).1 hok
  obtain ⟨hwe, hwm⟩ := (wholeB_iff _ _).1 hwh
  obtain ⟨hm1, hm2, _⟩ := (mayB_iff _).1 hwm
  have hel : (encS rev oth rev.length).length ≤ 16384 := by rw [encS_length rev oth rev.length hrv.2 hov.2 (Nat.le_refl _) (by omega)]; omega
  obtain ⟨Ar, cr, rfl, hcr⟩ := hrv.form
  obtain ⟨Ao, co, rfl, hco⟩ := hov.form
  obtain ⟨Aw, cw, rfl, hcw⟩ := hwv.form
  have hB := Blk.new w 44 (sigC i (.slice Ar rev.length cr) (.slice Ao oth.length co) (.slice Aw way.length cw))
  have E0 : Ext w (w.alloc (.cells (sigC i (.slice Ar rev.length cr) (.slice Ao oth.length co) (.slice Aw way.length cw)) 44)) := (Ext.refl w).alloc _
  have d0 := (sigC_cells hB).1
  have d3 := (sigC_cells hB).2.2.2
  have HO := Lib.hid (sigC_once hB)
  have hi1 : (Tryz.prog.info? 42).map (·.size) = some 2 := info_one
  have Hy := fun w' (E : Ext w w') => Lib.hid (lEncode_yes (.slice Ar rev.length cr) (.slice Ao oth.length co) rev oth w' (hrv.ext E) (hov.ext E) hwh)
  have Hp := fun w' => Lib.hid (oPut_int i 4 i 4 rfl rfl (by omega) (by omega) (by omega) (fit4 _ (by omega)) w')
  have HW := Lib.hid hwv
  obtain ⟨S, hS⟩ : ∃ S, S = sigC i (.slice Ar rev.length cr) (.slice Ao oth.length co) (.slice Aw way.length cw) := ⟨_, rfl⟩
  rw [← hS] at E0 d0 d3 HO ⊢
  obtain ⟨en, hen⟩ : ∃ en, en = encS rev oth rev.length := ⟨_, rfl⟩
  unfold sigB
  rw [← hen] at hel ⊢
  simp only [← hen] at Hy
  have HWS := fun w' (E : Ext w w') => Lib.hid (HW.out.ext E)
  have Hok := Lib.hid HW.out.2
  clear hB hS hrv hov hwv hok hen hwh hwm hwe HW
  have hi0' : ¬ ((i : Int) < 0) := by omega
  have hi30' : ¬ ((i : Int) > 1073741824) := by omega
  have hw6' : ¬ ((way.length : Int) > 6) := by omega
  go_enter Tryz.func21, Tryz.ntmps21
  go_wp2_with (refine wpList_load_mid HO.out rfl 42 _ rfl rfl Tryz.underlying42 rfl hi1 ?_)
  with_reducible refine (Hy _ E0).out.mono ?_
  rintro e w2 ⟨v2, rfl, hv2, E2⟩
  have pack := And.intro E0 (And.intro E2 (And.intro d0 d3))
  clear E0 E2 d0 d3 Hy HO
  revert pack
  generalize w.alloc (.cells S 44) = wb
  rintro ⟨E0, E2, d0, d3⟩
  have e0 := E2.cell d0
  have e3 := E2.cell d3
  have Hv2 := Lib.hid hv2
  clear hv2 d0
  go_wp2_with fail
  with_reducible refine (Hp _).out.mono ?_
  rintro e w3 ⟨v3, rfl, hv3, E3⟩
  have HO3 : Hid (Own w3 w2.heap.size v3 (putB i 4)) := Lib.hid (own_mk hv3 (putB_length i 4).symm rfl)
  have HS3 := Lib.hid (Hv2.out.ext E3)
  have h23 := E3.size
  have hw2 := E2.size
  have F3 := E2.trans E3
  clear hv3 Hv2 E3 E2 Hp e0 e3
  go_wp2_with (at_builtin; refine wpList_appB HO3.out HS3.out rfl _ _ rfl rfl rfl (by rw [putB_length]; omega) h23 ?_; intro v4 w4 ho4 hg4 hq4; have F4 := F3.grown hg4 (fun j hj => Nat.le_trans hw2 (HO3.out.from j hj)); have HO4 := Lib.hid ho4; have e3 := F4.cell d3; have h24 := Nat.le_trans h23 hg4.size; clear hg4 ho4 hq4)
  clear d3 e3 HO3 HS3 F3 h23
  go_loopw [6, 46] (fun a j wr => ∃ k : Nat, k ≤ way.length ∧ j = .int .i64 k ∧ Own wr w2.heap.size a (putB i 4 ++ en ++ (way.take k).flatten) ∧ Ext wb wr ∧ w2.heap.size ≤ wr.heap.size) (fun _ j _ => way.length - (intOf j).toNat)
  case atStart => exact ⟨0, by omega, rfl, by simpa using HO4.out, F4, h24⟩
  case round =>
    obtain ⟨k, hkb, rfl, hO, E, hsz⟩ := hrel
    have hlen : (way.take k).flatten.length ≤ 32 * 6 := by
      have : (way.take k).flatten.length = 32 * (way.take k).length := dsOk_length (fun x hx => Hok.out x (List.mem_of_mem_take hx))
      rw [this, List.length_take]
      omega
    have HOw := Lib.hid hO
    have Hlen := Lib.hid hlen
    clear hO hlen
    by_cases hlt : k < way.length
    · obtain ⟨b, o, rfl, hcd⟩ := (HWS wr (E0.trans E)).out.at_ hlt
      have hld := (HWS wr (E0.trans E)).out.len hlt
      have hst := flat_take way k hlt
      obtain ⟨x, hx⟩ : ∃ x, x = way[k] := ⟨_, rfl⟩
      rw [← hx] at hcd hld hst
      have Hcd := Lib.hid hcd
      have Hld := Lib.hid hld
      have Hst := Lib.hid hst
      have ix : Hid ((Tryz.prog.info? 33).map (·.size) = some (bytesV x).toArray.size) := by rw [List.size_toArray, bytesV_length, Hld.out]; exact info_a32
      have qx : Hid (zb32.size = (bytesV x).toArray.size) := zb32_size _ Hld.out
      clear hx hcd hld hst HWS
      go_wp2_with (first | (refine wpList_load_dg Hcd.out Hld.out rfl _ rfl rfl ?_) | (refine wpList_var rfl rfl 33 rfl _ _ rfl (.agg zb32) zero_a32 (bytesV x).toArray rfl rfl ix.out qx.out (bytes_one _) ?_; intro w5 D5 E5; have HO5 := Lib.hid (HOw.out.ext E5); have F5 := E.trans E5; have hs5 := E5.size) | (at_builtin; refine wpList_appB HO5.out (sl_blk32 D5 Hld.out) rfl _ _ rfl rfl rfl (by simp only [List.length_append, putB_length, Hld.out]; have := Hlen.out; omega) (by omega) ?_; intro v6 w6 ho6 hg6 _))
      have F6 := F5.grown hg6 (fun j hj => Nat.le_trans hw2 (HO5.out.from j hj))
      have O6 : Own w6 w2.heap.size v6 (putB i 4 ++ en ++ (way.take (k + 1)).flatten) := by
        rw [Hst.out, ← List.append_assoc]; exact ho6
      have hs6 := hg6.size
      clear ho6 hg6 D5 E5 HO5
      exact ⟨⟨k + 1, by omega, by go_num, O6, F6, by omega⟩, by simp [intOf]; omega⟩
    · obtain rfl : k = way.length := by omega
      have S := HOw.out.sl
      rw [List.take_length] at S
      go_wp2
      go_ret2
      exact ⟨_, rfl, S, E0.trans E⟩
end Go.Proofs.YtddbmddblhjkkaaGreatDoor
