/- pursuivantref07.Decode. -/
import Derived.Test.YtgbdmelnmmopaaaDoorLamK
import Derived.Deep.Cut
namespace Go.Proofs.YtgbdmelnmmopaaaDoor
open Go.RowKit

set_option maxRecDepth 100000 in
set_option maxHeartbeats 400000 in
theorem r7Decode_no (A : Option Addr) (n c : Nat) (w : World) (hn : n ≤ 1073741824) (hno : n % 64 ≠ 0 ∨ (n % 64 = 0 ∧ mayB (n / 64 : Nat) = false)) :
    Calls Tryd.prog 18 #[.slice A n c] w fun e w' => e = .returned (.tuple #[.agg noOne, .int .i64 11]) ∧ Ext w w' := by
  rcases hno with h | ⟨h, hm⟩
  · have hb : (((n : Int) % 64) != 0) = true := by rw [bne_iff_ne]; omega
    clear h
    go_enter Tryd.func18, Tryd.ntmps18
    go_wp2_with (first | (refine wpList_alloc_blk rfl 26 rfl (.agg noOne) zero_one ?_; intro w1 hs1 hb1 he1; clear hs1) | (refine wpList_build_to rfl 26 _ rfl noOne (by kernel_rfl) ?_) | (refine wpList_store_blk rfl 26 _ _ rfl w.heap.size noOne rfl rfl 26 noOne hb1 info_one rfl noOne_one ?_; intro w7 hs7 hb7 hg7))
    refine bodyPost_ret (v := .tuple #[.agg noOne, .int .i64 11]) (ret2_blk hb7 rfl rfl Tryd.underlying26 rfl info_one rfl) rfl ?_
    exact ⟨rfl, he1.grown hg7 (by simp)⟩
  · have hb : (((n : Int) % 64) != 0) = false := by rw [bne_eq_false_iff_eq]; omega
    have Hm := fun w => Lib.hid (r7May_any ((n : Int) / 64) w)
    rw [show ((n : Int) / 64) = ((n / 64 : Nat) : Int) by omega, hm] at Hm
    rw [show ((n / 64 : Nat) : Int) = (n : Int) / 64 by omega] at Hm
    clear h hm
    go_enter Tryd.func18, Tryd.ntmps18
    go_wp2_with (first | (refine wpList_alloc_blk rfl 26 rfl (.agg noOne) zero_one ?_; intro w1 hs1 hb1 he1; clear hs1))
    with_reducible refine (Hm _).out.mono ?_
    rintro e w2 ⟨rfl, rfl⟩
    go_wp2_with (first | (refine wpList_build_to rfl 26 _ rfl noOne (by kernel_rfl) ?_) | (refine wpList_store_blk rfl 26 _ _ rfl w.heap.size noOne rfl rfl 26 noOne hb1 info_one rfl noOne_one ?_; intro w7 hs7 hb7 hg7))
    refine bodyPost_ret (v := .tuple #[.agg noOne, .int .i64 11]) (ret2_blk hb7 rfl rfl Tryd.underlying26 rfl info_one rfl) rfl ?_
    exact ⟨rfl, he1.grown hg7 (by simp)⟩

theorem decR_succ (bs : List UInt8) (k : Nat) : decR bs (k + 1) = decR bs k ++ [dR bs k] := by simp [decR, List.range_succ]
theorem decO_succ (bs : List UInt8) (k : Nat) : decO bs (k + 1) = decO bs k ++ [dO bs k] := by simp [decO, List.range_succ]
theorem decR_length (bs : List UInt8) (k : Nat) : (decR bs k).length = k := by simp [decR]
theorem decO_length (bs : List UInt8) (k : Nat) : (decO bs k).length = k := by simp [decO]
theorem headC_nil (d : List UInt8) (hd : d.length = 32) : zb32 = headC d 0 := by rw [headC_zero, hd]; rfl
theorem headC_full (d : List UInt8) (hd : d.length = 32) : headC d 32 = (bytesV d).toArray := by rw [← hd]; exact headC_all d
theorem headC_at (d : List UInt8) (hd : d.length = 32) (j : Nat) (hj : j < 32) : ∃ v, (headC d j)[j]? = some v :=
  ⟨_, Array.getElem?_eq_getElem (by rw [headC_size d j (by omega), hd]; exact hj)⟩
theorem cells_get {w : World} {b o : Nat} {d : List UInt8} (h : Cells w b o (bytesV d)) (j : Nat) (hj : j < d.length) : w.cell? ⟨b, o + j, none⟩ = some (.int .u8 ((d[j]?.getD 0).toNat : Int)) := h j _ (bytesV_get d j hj)

set_option maxRecDepth 100000 in
set_option maxHeartbeats 4000000 in
theorem r7Decode_yes (v : Value) (bs : List UInt8) (N : Nat) (w : World) (hv : Sl w v bs) (hl : bs.length = N * 64) (hm : mayB N = true) :
    Calls Tryd.prog 18 #[v] w fun e w' => ∃ vr vo, e = .returned (.tuple #[.agg #[vr, vo], .int .i64 0]) ∧ SlD w' vr (decR bs N) ∧ SlD w' vo (decO bs N) ∧ Ext w w' := by
  obtain ⟨hm1, hm2, _⟩ := (mayB_iff _).1 hm
  obtain ⟨A, c, rfl, hc⟩ := SlR.form hv
  obtain ⟨b, o, rfl, hcs⟩ := SlR.here hv (by omega)
  have Hcs := Lib.hid hcs
  clear hcs hv
  have Hm := fun w => Lib.hid (r7May_any ((bs.length : Int) / 64) w)
  rw [show ((bs.length : Int) / 64) = ((N : Nat) : Int) by omega, hm] at Hm
  have hN : (bs.length : Int) / 64 = (N : Int) := by omega
  have hb : (((bs.length : Int) % 64) != 0) = false := by rw [bne_eq_false_iff_eq]; omega
  have Hl := Lib.hid hl
  have hbl : bs.length ≤ 1073741824 := by omega
  clear hm hl
  go_enter Tryd.func18, Tryd.ntmps18
  go_wp2_with (first | (refine wpList_alloc_blk rfl 26 rfl (.agg noOne) zero_one ?_; intro w1 hs1 hb1 he1; clear hs1))
  with_reducible refine (Hm _).out.mono ?_
  rintro e w2 ⟨rfl, rfl⟩
  clear Hm hb hN
  go_wp2_with (first | (refine wpList_alloc_blk rfl 26 rfl (.agg noOne) zero_one ?_; intro w3 hs3 hb3 he3; clear hs3))
  have hl01 : w.heap.size < w1.heap.size := hb1.lt
  have hl13 : w1.heap.size < w3.heap.size := hb3.lt
  have HB1 := Lib.hid hb1
  clear hb1
  go_loopw [5] (fun i wr => ∃ k : Nat, k ≤ N ∧ i = .int .i64 ((k * 64 : Nat) : Int) ∧ (∃ vr vo, Blk wr w1.heap.size 26 #[vr, vo] ∧ OwnD wr w1.heap.size vr (decR bs k) ∧ OwnD wr w1.heap.size vo (decO bs k) ∧ (∀ j, vr.ownBlock = some j → vo.ownBlock ≠ some j)) ∧ Ext w1 wr) (fun i _ => bs.length - (intOf i).toNat)
  case atStart => exact ⟨0, by omega, by simp, ⟨_, _, hb3, OwnD.none_ _ _, OwnD.none_ _ _, fun j hj => by cases hj⟩, he3⟩
  case round =>
    clear hb3 he3
    obtain ⟨k, hkN, rfl, ⟨vr, vo, hB, hR, hO, hap⟩, E⟩ := hrel
    obtain ⟨wo, rfl⟩ : ∃ wo : World, wo = wr := ⟨_, rfl⟩
    have E0 : Ext w wo := he1.trans E
    by_cases hlt : k < N
    · have hl1 := dR_length Hl.out hlt
      have hl2 := dO_length Hl.out hlt
      have hc1 : Cells wo b (o + k * 64) (bytesV (dR bs k)) := (cells_part Hcs.out (k * 64) 32).ext E0
      have hc2 : Cells wo b (o + (k * 64 + 32)) (bytesV (dO bs k)) := (cells_part Hcs.out (k * 64 + 32) 32).ext E0
      have hRs := decR_succ bs k
      have hOs := decO_succ bs k
      have hRn := decR_length bs k
      have hOn := decO_length bs k
      obtain ⟨x, hx⟩ : ∃ x, x = dR bs k := ⟨_, rfl⟩
      obtain ⟨t, ht⟩ : ∃ t, t = dO bs k := ⟨_, rfl⟩
      obtain ⟨rs, hrs⟩ : ∃ rs, rs = decR bs k := ⟨_, rfl⟩
      obtain ⟨os, hos⟩ : ∃ os, os = decO bs k := ⟨_, rfl⟩
      rw [← hx] at hl1 hc1 hRs
      rw [← ht] at hl2 hc2 hOs
      rw [← hrs] at hR hRs hRn
      rw [← hos] at hO hOs hOn
      clear hx ht hrs hos
      obtain ⟨q, hq⟩ : ∃ q, q = k * 64 := ⟨_, rfl⟩
      have hq1 : (k + 1) * 64 = q + 64 := by omega
      have hq2 : q + 64 ≤ bs.length := by have := Hl.out; omega
      rw [← hq] at hc1 hc2 ⊢
      have Hq1 := Lib.hid hq1
      clear hq hq1
      obtain ⟨Ar, cr, rfl, hcr⟩ := hR.form
      obtain ⟨Ao, co, rfl, hco⟩ := hO.form
      rw [hRn] at hcr hB hR
      rw [hOn] at hco hB hO
      rw [hRn, hOn] at hap
      have HRs := Lib.hid hRs
      have HOs := Lib.hid hOs
      have HRn := Lib.hid hRn
      have HOn := Lib.hid hOn
      have HB := Lib.hid hB
      have HR := Lib.hid hR
      have HO := Lib.hid hO
      have Hap := Lib.hid hap
      have L1 := Lib.hid hl1
      have L2 := Lib.hid hl2
      have HC1 := Lib.hid hc1
      have HC2 := Lib.hid hc2
      clear hB hR hO hap hl1 hl2 hc1 hc2 hRs hOs hRn hOn
      have hql : (q : Int) < (bs.length : Int) := by omega
      go_wp2_with (first | (have _ := hb5; refine wpList_alloc_blk rfl 30 rfl (.agg zb32) zero_a32 ?_; intro w6 hs6 hb6 he6) | (refine wpList_alloc_blk rfl 30 rfl (.agg zb32) zero_a32 ?_; intro w5 hs5 hb5 he5))
      have hb5' := hb5.ext he6
      rw [hs5] at hb6
      have E6 : Ext wo w6 := he5.trans he6
      have hx0 : Blk w6 wo.heap.size 30 (headC x 0) := by rw [← headC_nil x L1.out]; exact hb5'
      have hy0 : Blk w6 (wo.heap.size + 1) 30 (headC t 0) := by rw [← headC_nil t L2.out]; exact hb6
      clear hb5 hb5' hb6 hs5 hs6 he5 he6
      go_loopw [8] (fun i w7 => ∃ j : Nat, j ≤ 32 ∧ i = .int .i64 (j : Int) ∧ Blk w7 wo.heap.size 30 (headC x j) ∧ Blk w7 (wo.heap.size + 1) 30 (headC t j) ∧ Ext wo w7) (fun i _ => 32 - (intOf i).toNat)
      case atStart => exact ⟨0, by omega, rfl, hx0, hy0, E6⟩
      case round =>
        clear hx0 hy0 E6
        obtain ⟨j, hj, rfl, hX, hY, E7⟩ := hrel
        by_cases hlt2 : j < 32
        · have g1 := cells_get HC1.out j (by rw [L1.out]; exact hlt2)
          have g2 := cells_get HC2.out j (by rw [L2.out]; exact hlt2)
          have hs1 := headC_set x j (by rw [L1.out]; exact hlt2)
          have hs2 := headC_set t j (by rw [L2.out]; exact hlt2)
          have hbw : b < wo.heap.size := by
            have := World.block_lt_of_cell? wo _ (HC1.out 0 _ (bytesV_get _ 0 (by rw [L1.out]; omega)))
            simpa using this
          obtain ⟨z1, hz1⟩ := headC_at x L1.out j hlt2
          obtain ⟨z2, hz2⟩ := headC_at t L2.out j hlt2
          have k1 : wr.cell? ⟨wo.heap.size, j, none⟩ = some z1 := (hX.cell j).trans hz1
          have k2 : wr.cell? ⟨wo.heap.size + 1, j, none⟩ = some z2 := (hY.cell j).trans hz2
          have f1 := hX.frozen j
          have f2 := hY.frozen j
          obtain ⟨u1, hu1⟩ : ∃ u, u = ((x[j]?.getD 0).toNat : Int) := ⟨_, rfl⟩
          obtain ⟨u2, hu2⟩ : ∃ u, u = ((t[j]?.getD 0).toNat : Int) := ⟨_, rfl⟩
          rw [← hu1] at g1 hs1
          rw [← hu2] at g2 hs2
          rw [show o + q + j = o + (q + j) by omega] at g1
          rw [show o + (q + 32) + j = o + (q + 32 + j) by omega] at g2
          have Hz2 := Lib.hid hz2
          clear hu1 hu2 hz1 hz2
          have Hs1 := Lib.hid hs1
          have Hs2 := Lib.hid hs2
          have HX := Lib.hid hX
          have HY := Lib.hid hY
          clear hs1 hs2 hX hY
          have hj32 : (j : Int) < 32 := by omega
          have e1 : IntKind.i64.wrap ((q : Int) + (j : Int)) = (q : Int) + (j : Int) := IntWalk.i64_in _ (by omega)
          have e2 : ((q : Int) + (j : Int)).toNat = q + j := by omega
          have e3 : IntKind.i64.wrap ((q : Int) + 32) = (q : Int) + 32 := IntWalk.i64_in _ (by omega)
          have e4 : IntKind.i64.wrap ((q : Int) + 32 + (j : Int)) = (q : Int) + 32 + (j : Int) := IntWalk.i64_in _ (by omega)
          have e5 : ((q : Int) + 32 + (j : Int)).toNat = q + 32 + j := by omega
          have e6 : (q : Int) + (j : Int) < (bs.length : Int) := by omega
          have e7 : (q : Int) + 32 + (j : Int) < (bs.length : Int) := by omega
          have e8 : (0 : Int) ≤ (q : Int) + (j : Int) := by omega
          have e9 : (0 : Int) ≤ (q : Int) + 32 + (j : Int) := by omega
          go_wp2
          refine wp_region_chain 17 [(true, 0), (true, 1), (true, 2), (true, 3), (true, 4), (true, 5), (true, 6), (true, 7), (true, 8), (true, 9), (true, 10), (true, 11), (true, 12), (true, 13), (true, 14), (true, 15), (false, 16)] (fun w' => w'.cell? ⟨b, o + (q + j), none⟩ = some (.int .u8 u1) ∧ w'.cell? ⟨b, o + (q + 32 + j), none⟩ = some (.int .u8 u2)) (by kernel_rfl) (by kernel_rfl) ⟨E7.drew.cell g1, E7.drew.cell g2⟩ ?_
          iterate 16
            refine wpTake_read _ _ ?_ rfl rfl ?_ ?_
            rotate_left 1
            focus
              intro wS hS
              have hS1 := hS.1
              have hS2 := hS.2
              try dsimp only at hS1 hS2
              go_simp
              first | done | with_reducible rfl
            simp only [Act.put, List.setIfInBounds_toArray, List.set_cons_zero, List.set_cons_succ]
          refine wpTake_do _ _ rfl rfl (fun K hK' => ?_)
          go_simp
          have E8 : Ext wo (wr.setCell ⟨wo.heap.size, j, none⟩ (.int .u8 u1)).drew := (E7.setCell (Nat.le_refl _) _).drew
          refine hK' _ _ ⟨E8.cell g1, E8.cell g2⟩ ?_
          clear hK' K
          refine wpTake_nil ?_
          simp only [List.drop_succ_cons, List.drop_zero]
          have hX8 : Blk (wr.setCell ⟨wo.heap.size, j, none⟩ (.int .u8 u1)).drew wo.heap.size 30 (headC x (j + 1)) := by rw [← Hs1.out]; exact (HX.out.set j _).drew
          have hY8 : Blk (wr.setCell ⟨wo.heap.size, j, none⟩ (.int .u8 u1)).drew (wo.heap.size + 1) 30 (headC t j) := (HY.out.far (by simp) _).drew
          have HX8 := Lib.hid hX8
          have HY8 := Lib.hid hY8
          have k3 : (wr.setCell ⟨wo.heap.size, j, none⟩ (.int .u8 u1)).drew.cell? ⟨wo.heap.size + 1, j, none⟩ = some z2 := (hY8.cell j).trans Hz2.out
          have f3 := hY8.frozen j
          clear hX8 hY8 k1 k2 f1 f2 g1 g2
          revert HX8 HY8 k3 f3 E8
          generalize (wr.setCell ⟨wo.heap.size, j, none⟩ (.int .u8 u1)).drew = w8
          intro E8 HX8 HY8 k3 f3
          go_wp2
          refine NoPanic.normal ?_
          have hX9 : Blk (w8.setCell ⟨wo.heap.size + 1, j, none⟩ (.int .u8 u2)) wo.heap.size 30 (headC x (j + 1)) := HX8.out.far (by simp) _
          have hY9 : Blk (w8.setCell ⟨wo.heap.size + 1, j, none⟩ (.int .u8 u2)) (wo.heap.size + 1) 30 (headC t (j + 1)) := by rw [← Hs2.out]; exact HY8.out.set j _
          have E9 : Ext wo (w8.setCell ⟨wo.heap.size + 1, j, none⟩ (.int .u8 u2)) := E8.setCell (by simp) _
          go_wp2
          go_roundw
          case rel => exact ⟨j + 1, by omega, by go_num, hX9, hY9, E9⟩
          case measure => simp [intOf]; omega
        · obtain rfl : j = 32 := by omega
          have HX : Hid (Blk wr wo.heap.size 30 (bytesV x).toArray) := by show Blk _ _ _ _; rw [← headC_full x L1.out]; exact hX
          have HY : Hid (Blk wr (wo.heap.size + 1) 30 (bytesV t).toArray) := by show Blk _ _ _ _; rw [← headC_full t L2.out]; exact hY
          clear hX hY
          have hcr0 : wr.cell? ⟨w1.heap.size, 0, none⟩ = some (.slice Ar k cr) := (HB.out.ext E7).cell 0
          have i1 : Hid ((Tryd.prog.info? 30).map (·.size) = some (bytesV x).toArray.size) := by rw [List.size_toArray, bytesV_length, L1.out]; exact info_a32
          have i2 : Hid ((Tryd.prog.info? 30).map (·.size) = some (bytesV t).toArray.size) := by rw [List.size_toArray, bytesV_length, L2.out]; exact info_a32
          have HB7 := Lib.hid (HB.out.ext E7)
          have HR7 := Lib.hid (HR.out.ext E7)
          have HO7 := Lib.hid (HO.out.ext E7)
          have Ew7 := E.trans E7
          have hl7 := HB7.out.lt
          have hlo := HB.out.lt
          have hne1 : wo.heap.size ≠ w1.heap.size := by omega
          have hne2 : wo.heap.size + 1 ≠ w1.heap.size := by omega
          have HRo := HR
          clear HB HR HO HC1 HC2
          go_upto_region 13 with (first | (refine wpList_load_blk HX.out rfl 30 _ rfl rfl Tryd.underlying30 rfl i1.out ?_) | (refine wpList_build_dg x L1.out rfl _ rfl rfl ?_; intro w8 E78 hs8 hnew; clear hs8; have HN8 := Lib.hid hnew; have HB8 := Lib.hid (HB7.out.ext E78); have HR8 := Lib.hid (HR7.out.ext E78); have HO8 := Lib.hid (HO7.out.ext E78); have HY8 := Lib.hid (HY.out.ext E78); have Ew8 := Ew7.trans E78; have E7o := E7.trans E78; clear hnew HB7 HR7 HO7 HX HY hcr0 E78) | (at_builtin; refine wpList_appD HR8.out L1.out HN8.out rfl _ _ rfl rfl rfl (by have := HRn.out; omega) (by have := Ew8.size; exact this) ?_; intro v9 w9 ho9 hg9 hq9; have hn9 := HR8.out.ne HB8.out (by decide); have hB9 := HB8.out.grown hg9 (Ne.symm hn9); have hc9 : w9.cell? ⟨w1.heap.size, 0, none⟩ = some (.slice Ar k cr) := hB9.cell 0; have hf9 := hB9.frozen 0; obtain ⟨A9, c9, e9, hc9'⟩ := ho9.form; rw [List.length_append, HRn.out, List.length_singleton] at e9; subst e9; have HB9 := Lib.hid hB9; have HR9 := Lib.hid ho9; have Hg9 := Lib.hid hg9; have Hq9 := Lib.hid hq9; clear hB9 ho9 hg9 hq9 hn9))
          obtain ⟨w10, hw10⟩ : ∃ w10, w10 = w9.setCell ⟨w1.heap.size, 0, none⟩ (.slice A9 (k + 1) c9) := ⟨_, rfl⟩
          have HR10 : Hid (OwnD w10 w1.heap.size (.slice A9 (k + 1) c9) (rs ++ [x])) := by rw [hw10]; exact HR9.out.set HB9.out (by decide)
          have HO10 : Hid (OwnD w10 w1.heap.size (.slice Ao k co) os) := by rw [hw10]; exact (HO8.out.apart Hg9.out (fun j hj e => Hap.out j e hj)).set HB9.out (by decide)
          have HB10 : Hid (Blk w10 w1.heap.size 26 #[.slice A9 (k + 1) c9, .slice Ao k co]) := by rw [hw10]; exact HB9.out.set 0 _
          have hny : (Value.slice Ar k cr).ownBlock ≠ some (wo.heap.size + 1) := by
            intro e
            have h1 := HRo.out.lt _ e
            omega
          have HY10 : Hid (Blk w10 (wo.heap.size + 1) 30 (bytesV t).toArray) := by rw [hw10]; exact (HY8.out.grown Hg9.out (Ne.symm hny)).far hne2 _
          have Hap10 : Hid (∀ j, (Value.slice A9 (k + 1) c9).ownBlock = some j → (Value.slice Ao k co).ownBlock ≠ some j) := Lib.hid (apart_app Hap.out HO8.out.lt Hq9.out)
          have E10 : Ext w1 w10 := by rw [hw10]; exact (Ew8.grown Hg9.out HR8.out.from).setCell (by simp) _
          simp only [← hw10]
          have hco0 : w10.cell? ⟨w1.heap.size, 1, none⟩ = some (.slice Ao k co) := HB10.out.cell 1
          clear hf9 hc9 hc9' HB9 HR9 Hg9 Hq9 HR8 HO8 HB8 HY8 HN8 hw10 hny Ew8
          go_upto_region 6 with (first | (refine wpList_load_blk HY10.out rfl 30 _ rfl rfl Tryd.underlying30 rfl i2.out ?_) | (refine wpList_build_dg t L2.out rfl _ rfl rfl ?_; intro w8 E78 hs8 hnew; clear hs8; have HN8 := Lib.hid hnew; have HB8 := Lib.hid (HB10.out.ext E78); have HR8 := Lib.hid (HR10.out.ext E78); have HO8 := Lib.hid (HO10.out.ext E78); have Ew8 := E10.trans E78; clear hnew HB10 HR10 HO10 HY10 hco0 E78) | (at_builtin; refine wpList_appD HO8.out L2.out HN8.out rfl _ _ rfl rfl rfl (by have := HOn.out; omega) (by have := Ew8.size; exact this) ?_; intro v11 w11 ho9 hg9 hq9; have hn9 := HO8.out.ne HB8.out (by decide); have hB9 := HB8.out.grown hg9 (Ne.symm hn9); have hc9 : w11.cell? ⟨w1.heap.size, 1, none⟩ = some (.slice Ao k co) := hB9.cell 1; have hf9 := hB9.frozen 1; obtain ⟨A11, c11, e9, hc9'⟩ := ho9.form; rw [List.length_append, HOn.out, List.length_singleton] at e9; subst e9; have HB9 := Lib.hid hB9; have HO9 := Lib.hid ho9; have Hg9 := Lib.hid hg9; have Hq9 := Lib.hid hq9; clear hB9 ho9 hg9 hq9 hn9))
          obtain ⟨w12, hw12⟩ : ∃ w12, w12 = w11.setCell ⟨w1.heap.size, 1, none⟩ (.slice A11 (k + 1) c11) := ⟨_, rfl⟩
          have HO12 : Hid (OwnD w12 w1.heap.size (.slice A11 (k + 1) c11) (os ++ [t])) := by rw [hw12]; exact HO9.out.set HB9.out (by decide)
          have HR12 : Hid (OwnD w12 w1.heap.size (.slice A9 (k + 1) c9) (rs ++ [x])) := by rw [hw12]; exact (HR8.out.apart Hg9.out (fun j hj e => Hap10.out j hj e)).set HB9.out (by decide)
          have HB12 : Hid (Blk w12 w1.heap.size 26 #[.slice A9 (k + 1) c9, .slice A11 (k + 1) c11]) := by rw [hw12]; exact HB9.out.set 1 _
          have Hap12 : Hid (∀ j, (Value.slice A11 (k + 1) c11).ownBlock = some j → (Value.slice A9 (k + 1) c9).ownBlock ≠ some j) := Lib.hid (apart_app (fun j hj e => Hap10.out j e hj) HR8.out.lt Hq9.out)
          have E12 : Ext w1 w12 := by rw [hw12]; exact (Ew8.grown Hg9.out HO8.out.from).setCell (by simp) _
          simp only [← hw12]
          clear hf9 hc9 hc9' HB9 HO9 Hg9 Hq9 HR8 HO8 HB8 HN8 hw12 Ew8
          go_wp2
          go_roundw
          case rel => exact ⟨k + 1, hlt, by rw [Hq1.out]; go_num, ⟨_, _, HB12.out, by rw [HRs.out]; exact HR12.out, by rw [HOs.out]; exact HO12.out, fun j hj e => Hap12.out j e hj⟩, E12⟩
          case measure => simp [intOf]; omega
    · obtain rfl : k = N := by omega
      have HB := Lib.hid hB
      have HR := Lib.hid hR
      have HO := Lib.hid hO
      clear hB hR hO hap
      have hb1' : Blk wo w.heap.size 26 noOne := HB1.out.ext E
      obtain ⟨Ar, cr, rfl, hcr⟩ := HR.out.form
      obtain ⟨Ao, co, rfl, hco⟩ := HO.out.form
      rw [show ((k * 64 : Nat) : Int) = (bs.length : Int) by rw [Hl.out]]
      go_wp2_with (first | (refine wpList_load_blk HB.out rfl 26 _ rfl rfl Tryd.underlying26 rfl info_one ?_) | (refine wpList_store_blk rfl 26 _ _ rfl w.heap.size _ rfl rfl 26 noOne hb1' info_one rfl (by simp [Value.oneCell']) ?_; intro w7 hs7 hb7 hg7))
      refine bodyPost_ret (ret2_blk hb7 rfl rfl Tryd.underlying26 rfl info_one rfl) rfl ?_
      have hne : ∀ (u : Value) (ds : List (List UInt8)), OwnD wo w1.heap.size u ds → SlD w7 u ds := fun u ds h =>
        (h.apart hg7 (fun j hj e => by have := h.from j hj; injection e with e; omega)).sl
      exact ⟨_, _, rfl, hne _ _ HR.out, hne _ _ HO.out, E0.grown hg7 (by simp)⟩
end Go.Proofs.YtgbdmelnmmopaaaDoor
