/- The contract of pursuivantref02.Block. -/
import Derived.Test.YtafjnlikmjahfaaDoorHashB
namespace Go.Proofs.YtafjnlikmjahfaaDoor
open Go.RowKit
attribute [local go_sem] Later.cell?

theorem turn_int (x k : Int) (h1 : 1 ≤ k) (h2 : k ≤ 31) (w : World) :
    Calls Tryd.prog 53 #[.int .u32 x, .int .u64 k] w fun e w' => e = .returned (.int .u32 (rotr x k.toNat)) ∧ w = w' := by
  obtain ⟨n, rfl⟩ := Int.eq_ofNat_of_zero_le (show 0 ≤ k by omega)
  exact turn_any x n (by omega) (by omega) w

theorem word_bytes (b : List UInt8) (t : Nat) : word b t = bits .or .u32 (bits .or .u32 (bits .or .u32 (((b[4 * t]?.getD 0).toNat : Int) % 4294967296 * 16777216 % 4294967296) (((b[4 * t + 1]?.getD 0).toNat : Int) % 4294967296 * 65536 % 4294967296)) (((b[4 * t + 2]?.getD 0).toNat : Int) % 4294967296 * 256 % 4294967296)) (((b[4 * t + 3]?.getD 0).toNat : Int) % 4294967296) := by
  have l0 := (b[4 * t]?.getD 0).toNat_lt
  have l1 := (b[4 * t + 1]?.getD 0).toNat_lt
  have l2 := (b[4 * t + 2]?.getD 0).toNat_lt
  have l3 := (b[4 * t + 3]?.getD 0).toNat_lt
  rw [Int.emod_eq_of_lt (a := ((b[4 * t]?.getD 0).toNat : Int)) (by omega) (by omega), Int.emod_eq_of_lt (a := ((b[4 * t + 1]?.getD 0).toNat : Int)) (by omega) (by omega), Int.emod_eq_of_lt (a := ((b[4 * t + 2]?.getD 0).toNat : Int)) (by omega) (by omega), Int.emod_eq_of_lt (a := ((b[4 * t + 3]?.getD 0).toNat : Int)) (by omega) (by omega)]
  simp [word, or32, shl32]

theorem zero_a8 (w : World) : (zeroValue 73).run Tryd.prog w = .ok (.agg (cells32 zeroSt.list)) w := by kernel_rfl
theorem u32_max : IntKind.u32.max = 4294967295 := rfl
theorem plus_comm (s r : St) : s.plus r = r.plus s := by simp [St.plus, add32, Int.add_comm]

set_option maxRecDepth 100000 in
set_option maxHeartbeats 1000000 in
theorem rblock_no (s : St) (A : Option Addr) (n c : Nat) (hn : ((n : Int) != 64) = true) (w : World) :
    Calls Tryd.prog 49 #[.agg s.vals, .slice A n c] w fun e w' => e = .returned (.agg zeroSt.vals) ∧ Ext w w' := by
  unfold St.vals
  go_enter Tryd.func49, Tryd.ntmps49
  go_wp2
  refine bodyPost_ret (v := .agg zeroSt.vals) (by simp [results, Tryd.results49, go_sem, zeroSt, St.vals]) rfl ?_
  exact ⟨rfl, ((Ext.refl w).alloc _).alloc _⟩

set_option maxRecDepth 100000 in
set_option maxHeartbeats 4000000 in
theorem rblock_yes (s : St) (bs : List UInt8) (b o c : Nat) (w : World)
    (hcell : ∀ j, j < 64 → w.cell? ⟨b, o + j, none⟩ = some (.int .u8 ((bs[j]?.getD 0).toNat : Int))) :
    Calls Tryd.prog 49 #[.agg s.vals, .slice (some ⟨b, o, none⟩) 64 c] w fun e w' => e = .returned (.agg (blk s bs).vals) ∧ Ext w w' := by
  have Hcell := Lib.hid hcell
  clear hcell
  show Calls Tryd.prog 49 #[.agg #[.int .u32 s.a, .int .u32 s.b, .int .u32 s.c, .int .u32 s.d, .int .u32 s.e, .int .u32 s.f, .int .u32 s.g, .int .u32 s.h], .slice (some ⟨b, o, none⟩) 64 c] w _
  go_enter Tryd.func49, Tryd.ntmps49
  go_wp2_with (first | (refine wpList_alloc_blk rfl 86 rfl (.agg (zeros 64)) zero_a64 ?_; intro w2 hs2 hb2 he2))
  have B0 : Blk w2 w.heap.size 73 (cells32 s.list) := ((Blk.new w _ _).alloc _).ext he2
  have B1 : Blk w2 (w.heap.size + 1) 73 (cells32 zeroSt.list) := by
    have := Blk.new (w.alloc (.cells (cells32 s.list) 73)) 73 (cells32 zeroSt.list)
    rw [World.size_alloc] at this
    exact this.ext he2
  have B2 : Blk w2 (w.heap.size + 1 + 1) 86 (zeros 64) := by simpa [Value.cells] using hb2
  have E2 : Ext w w2 := (((Ext.refl w).alloc _).alloc _).trans he2
  clear hs2 hb2 he2
  go_loopw [6] (fun i wr => ∃ t : Nat, t ≤ 64 ∧ i = .int .i64 t ∧ Blk wr w.heap.size 73 (cells32 s.list) ∧ Blk wr (w.heap.size + 1) 73 (cells32 zeroSt.list) ∧ Blk wr (w.heap.size + 1 + 1) 86 (wcells (ws bs t)) ∧ Ext w wr)
    (fun i _ => 64 - (intOf i).toNat)
  case atStart => exact ⟨0, by omega, rfl, B0, B1, by rw [ws, wcells_nil]; exact B2, E2⟩
  case round =>
    clear B0 B1 B2 E2
    obtain ⟨t, ht, rfl, B0, B1, B2, E2⟩ := hrel
    obtain ⟨W, hW⟩ : ∃ W, W = ws bs t := ⟨_, rfl⟩
    rw [← hW] at B2
    have hWl : Hid (W.length = t) := by rw [hW]; exact ws_length bs t
    have HW := Lib.hid hW
    clear hW
    by_cases hlt : t < 64
    · have c0 : ∃ u, wr.cell? ⟨w.heap.size + 1 + 1, t, none⟩ = some u := by rw [B2.cell]; exact ⟨_, Array.getElem?_eq_getElem (by rw [wcells_size _ (by rw [hWl.out]; omega)]; exact hlt)⟩
      obtain ⟨u0, c0⟩ := c0
      have f0 := B2.frozen t
      have hg : w.heap.size + 1 + 1 < wr.heap.size := B2.lt
      by_cases h16 : t < 16
      · have d0 := E2.cell (Hcell.out (4 * t) (by omega))
        have d1 := E2.cell (Hcell.out (4 * t + 1) (by omega))
        have d2 := E2.cell (Hcell.out (4 * t + 2) (by omega))
        have d3 := E2.cell (Hcell.out (4 * t + 3) (by omega))
        have hb : b < wr.heap.size := World.block_lt_of_cell? _ _ d0
        go_wp2
        refine wp_region_lat_tail 35 (by kernel_rfl) (by kernel_rfl) ?_
        simp only [List.take_succ_cons, List.take_zero, List.drop_succ_cons, List.drop_zero]
        repeat (go_big_quiet_step (fail))
        refine wpQuiet_nil ?_
        intro w5 E5
        have c5 : w5.cell? ⟨w.heap.size + 1 + 1, t, none⟩ = some u0 := E5.cell c0
        have f5 := (B2.ext E5).frozen t
        go_wp2
        go_roundw
        case rel =>
          refine ⟨t + 1, by omega, by go_num, (B0.ext E5).far (by simp <;> omega) _, (B1.ext E5).far (by simp <;> omega) _, ?_, (E2.trans E5).setCell (by simp <;> omega) _⟩
          have h9 := wcells_snoc W (word bs t) (by rw [hWl.out]; exact hlt)
          rw [hWl.out] at h9
          rw [ws, if_pos h16, ← HW.out, ← h9]
          exact (B2.ext E5).set_ (by rw [word_bytes])
        case measure => simp [intOf]; omega
      · have c15 : wr.cell? ⟨w.heap.size + 1 + 1, t - 15, none⟩ = some (.int .u32 (W[t - 15]?.getD 0)) := by rw [B2.cell, wcells_get _ _ (by rw [hWl.out]; omega)]
        have c2 : wr.cell? ⟨w.heap.size + 1 + 1, t - 2, none⟩ = some (.int .u32 (W[t - 2]?.getD 0)) := by rw [B2.cell, wcells_get _ _ (by rw [hWl.out]; omega)]
        have c16 : wr.cell? ⟨w.heap.size + 1 + 1, t - 16, none⟩ = some (.int .u32 (W[t - 16]?.getD 0)) := by rw [B2.cell, wcells_get _ _ (by rw [hWl.out]; omega)]
        have c7 : wr.cell? ⟨w.heap.size + 1 + 1, t - 7, none⟩ = some (.int .u32 (W[t - 7]?.getD 0)) := by rw [B2.cell, wcells_get _ _ (by rw [hWl.out]; omega)]
        go_wp2
        refine wp_region_lat (by kernel_rfl) (by kernel_rfl) ?_
        repeat (go_big_quiet_step (fail))
        refine wpQuiet_nil ?_
        intro w5 E5
        have c16' := E5.cell c16
        have c7' := E5.cell c7
        have hg' : w.heap.size + 1 + 1 < w5.heap.size := Nat.lt_of_lt_of_le hg E5.size
        have c0' : w5.cell? ⟨w.heap.size + 1 + 1, t, none⟩ = some u0 := E5.cell c0
        go_wp2
        refine wp_region_lat_tail 29 (by kernel_rfl) (by kernel_rfl) ?_
        simp only [List.take_succ_cons, List.take_zero, List.drop_succ_cons, List.drop_zero]
        repeat (go_big_quiet_step ((go_at_call 53; exact lat_same (turn_int _ _ (by omega) (by omega) _))))
        refine wpQuiet_nil ?_
        intro w6 E6
        have B6 := (B2.ext E5).ext E6
        have c6 : w6.cell? ⟨w.heap.size + 1 + 1, t, none⟩ = some u0 := E6.cell c0'
        have f6 := B6.frozen t
        go_wp2
        go_roundw
        case rel =>
          refine ⟨t + 1, by omega, by go_num, ((B0.ext E5).ext E6).far (by simp <;> omega) _, ((B1.ext E5).ext E6).far (by simp <;> omega) _, ?_, ((E2.trans E5).trans E6).setCell (by simp <;> omega) _⟩
          have h9 := wcells_snoc W (next W t) (by rw [hWl.out]; exact hlt)
          rw [hWl.out] at h9
          rw [ws, if_neg h16, ← HW.out, ← h9]
          exact B6.set_ (by simp [next, sm0, sm1, xor32, shr32])
        case measure => simp [intOf]; omega
    · obtain rfl : t = 64 := by omega
      obtain ⟨wo, rfl⟩ : ∃ wo : World, wo = wr := ⟨_, rfl⟩
      go_wp2_with (first | (refine wpList_load_row rfl 73 _ rfl w.heap.size rfl 73 (cells32 s.list) (0, 0) _ B0 Tryd.underlying73 rfl info_a8 ?_) | (refine wpList_alloc_blk rfl 73 rfl (.agg (cells32 zeroSt.list)) zero_a8 ?_; intro w3 hs3 hb3 he3) | (refine wpList_store_blk rfl 73 _ _ rfl wo.heap.size (cells32 s.list) rfl rfl 73 (cells32 zeroSt.list) hb3 info_a8 rfl (cells32_one _) ?_; intro w4 hs4 hb4 hg4))
      have hz : w.heap.size + 1 + 1 < wo.heap.size := B2.lt
      have D0 := (B0.ext he3).grown hg4 (by simp <;> omega)
      have D1 := (B1.ext he3).grown hg4 (by simp <;> omega)
      have D2 := (B2.ext he3).grown hg4 (by simp <;> omega)
      have E4 : Ext w w4 := (E2.trans he3).grown hg4 (by simp <;> omega)
      clear hs3 hb3 he3 hs4 hg4 B0 B1 B2 E2
      go_loopw [10] (fun i wr => ∃ t : Nat, t ≤ 64 ∧ i = .int .i64 t ∧ Blk wr w.heap.size 73 (cells32 s.list) ∧ Blk wr (w.heap.size + 1) 73 (cells32 zeroSt.list) ∧ Blk wr (w.heap.size + 1 + 1) 86 (wcells W)
          ∧ Blk wr wo.heap.size 73 (cells32 (rounds s W t).list) ∧ Ext w wr) (fun i _ => 64 - (intOf i).toNat)
      case atStart => exact ⟨0, by omega, rfl, D0, D1, D2, by rw [rounds]; exact hb4, E4⟩
      case round =>
        clear D0 D1 D2 E4 hb4
        obtain ⟨t, ht, rfl, D0, D1, D2, D3, E4⟩ := hrel
        obtain ⟨R, hR⟩ : ∃ R, R = rounds s W t := ⟨_, rfl⟩
        rw [← hR] at D3
        have HR := Lib.hid hR
        clear hR
        by_cases hlt : t < 64
        · have a0 : wr.cell? ⟨wo.heap.size, 0, none⟩ = some (.int .u32 R.a) := by rw [D3.cell]; rfl
          have a1 : wr.cell? ⟨wo.heap.size, 1, none⟩ = some (.int .u32 R.b) := by rw [D3.cell]; rfl
          have a2 : wr.cell? ⟨wo.heap.size, 2, none⟩ = some (.int .u32 R.c) := by rw [D3.cell]; rfl
          have a3 : wr.cell? ⟨wo.heap.size, 3, none⟩ = some (.int .u32 R.d) := by rw [D3.cell]; rfl
          have a4 : wr.cell? ⟨wo.heap.size, 4, none⟩ = some (.int .u32 R.e) := by rw [D3.cell]; rfl
          have a5 : wr.cell? ⟨wo.heap.size, 5, none⟩ = some (.int .u32 R.f) := by rw [D3.cell]; rfl
          have a6 : wr.cell? ⟨wo.heap.size, 6, none⟩ = some (.int .u32 R.g) := by rw [D3.cell]; rfl
          have a7 : wr.cell? ⟨wo.heap.size, 7, none⟩ = some (.int .u32 R.h) := by rw [D3.cell]; rfl
          have hw : wr.cell? ⟨w.heap.size + 1 + 1, t, none⟩ = some (.int .u32 (W[t]?.getD 0)) := by
            rw [D2.cell, wcells_get _ _ (by rw [hWl.out]; exact hlt)]
          have hl3 : wo.heap.size < wr.heap.size := D3.lt
          have hl2 : w.heap.size + 1 + 1 < wr.heap.size := D2.lt
          go_wp2
          refine wp_region_lat (by kernel_rfl) (by kernel_rfl) ?_
          repeat (go_big_quiet_step (first | (go_at_call 53; exact lat_same (turn_int _ _ (by omega) (by omega) _)) | (go_at_call 54; exact lat_call (round_any t hlt _))))
          refine wpQuiet_nil ?_
          intro w5 E5
          have b0 := E5.cell a0
          have b1 := E5.cell a1
          have b2 := E5.cell a2
          have b3 := E5.cell a3
          have b4 := E5.cell a4
          have b5 := E5.cell a5
          have b6 := E5.cell a6
          have b7 := E5.cell a7
          have hl5 : wo.heap.size < w5.heap.size := Nat.lt_of_lt_of_le hl3 E5.size
          clear a0 a1 a2 a3 a4 a5 a6 a7 hw hl2
          go_wp2
          refine wp_region_lat (by kernel_rfl) (by kernel_rfl) ?_
          repeat (go_big_quiet_step (first | (go_at_call 53; exact lat_same (turn_int _ _ (by omega) (by omega) _))))
          refine wpQuiet_nil ?_
          intro w6 E6
          have a0 := E6.cell b0
          have a1 := E6.cell b1
          have a2 := E6.cell b2
          have a3 := E6.cell b3
          have a4 := E6.cell b4
          have a5 := E6.cell b5
          have a6 := E6.cell b6
          have a7 := E6.cell b7
          clear b0 b1 b2 b3 b4 b5 b6 b7
          have F3 := (D3.ext E5).ext E6
          go_wp2_with (refine wpList_store_blk rfl 73 _ _ rfl wo.heap.size _ rfl rfl 73 (cells32 R.list) F3 info_a8 rfl (by simp [Value.oneCell']) ?_; intro w7 hs7 hb7 hg7)
          go_roundw
          case rel =>
            refine ⟨t + 1, by omega, by go_num, ((D0.ext E5).ext E6).grown hg7 (by simp <;> omega), ((D1.ext E5).ext E6).grown hg7 (by simp <;> omega), ((D2.ext E5).ext E6).grown hg7 (by simp <;> omega), ?_, ((E4.trans E5).trans E6).grown hg7 (by simp <;> omega)⟩
            rw [rounds, ← HR.out]
            refine Blk.cast hb7 ?_
            simp [cells32, St.list, St.round, t1Of, t2Of, add32, bg1, bg0, cho, maj, xor32, and32, not32, u32_max]
          case measure => simp [intOf]; omega
        · obtain rfl : t = 64 := by omega
          obtain ⟨wp, rfl⟩ : ∃ wp : World, wp = wr := ⟨_, rfl⟩
          go_wp2
          have hl2 : w.heap.size + 1 + 1 < wo.heap.size := hz
          go_loopw [13] (fun i wr => ∃ k : Nat, k ≤ 8 ∧ i = .int .i64 k ∧ Blk wr w.heap.size 73 (cells32 s.list) ∧ Blk wr (w.heap.size + 1) 73 (cells32 zeroSt.list)
              ∧ Blk wr wo.heap.size 73 (cells32 (mix R.list s.list k)) ∧ Ext w wr) (fun i _ => 8 - (intOf i).toNat)
          case atStart => exact ⟨0, by omega, rfl, D0, D1, by rw [mix_zero]; exact D3, E4⟩
          case round =>
            clear D0 D1 D2 D3 E4
            obtain ⟨k, hk, rfl, D0, D1, D3, E4⟩ := hrel
            by_cases hk8 : k < 8
            · have hc : wr.cell? ⟨wo.heap.size, k, none⟩ = some (.int .u32 (R.list[k]?.getD 0)) := by
                rw [D3.cell, cells32_get _ _ (by rw [mix_length R.list s.list k rfl (by rw [list_length]; omega), list_length]; exact hk8), mix_get R.list s.list k rfl hk8]
              have hd : wr.cell? ⟨w.heap.size, k, none⟩ = some (.int .u32 (s.list[k]?.getD 0)) := by
                rw [D0.cell, cells32_get _ _ hk8]
              have hl0 : w.heap.size < wr.heap.size := D0.lt
              have hl3 : wo.heap.size < wr.heap.size := D3.lt
              go_wp2
              refine wp_region_lat_tail 9 (by kernel_rfl) (by kernel_rfl) ?_
              simp only [List.take_succ_cons, List.take_zero, List.drop_succ_cons, List.drop_zero]
              repeat (go_big_quiet_step (fail))
              refine wpQuiet_nil ?_
              intro w5 E5
              have hc5 := E5.cell hc
              have hf5 := (D3.ext E5).frozen k
              go_wp2
              go_roundw
              case rel =>
                refine ⟨k + 1, by omega, by go_num, (D0.ext E5).far (by simp <;> omega) _, (D1.ext E5).far (by simp <;> omega) _, ?_, (E4.trans E5).setCell (by simp <;> omega) _⟩
                rw [← mix_set R.list s.list k rfl hk8, ← cells32_set]
                exact (D3.ext E5).set_ (by simp [add32])
              case measure => simp [intOf]; omega
            · obtain rfl : k = 8 := by omega
              rw [mix_all, plus_comm] at D3
              have hfin : Hid (s.plus R = blk s bs) := by rw [blk, ← HW.out, HR.out]; exact rfl
              rw [hfin.out] at D3
              obtain ⟨z, hz⟩ : ∃ z, z = blk s bs := ⟨_, rfl⟩
              rw [← hz] at D3
              have Hz := Lib.hid hz
              clear hz
              go_wp2_with (first | (refine wpList_load_row rfl 73 _ rfl wo.heap.size rfl 73 (cells32 z.list) (0, 0) _ D3 Tryd.underlying73 rfl info_a8 ?_) | (refine wpList_store_blk rfl 73 _ _ rfl (w.heap.size + 1) (cells32 z.list) rfl rfl 73 _ D1 info_a8 rfl (cells32_one _) ?_; intro w6 hs6 hb6 hg6))
              refine bodyPost_ret (v := .agg (cells32 z.list)) (results_cell_row rfl _ _ (w.heap.size + 1) 73 _ (0, 0) _ rfl hb6 Tryd.underlying73 rfl info_a8) rfl ?_
              exact ⟨by rw [← Hz.out]; rfl, E4.grown hg6 (by simp)⟩
end Go.Proofs.YtafjnlikmjahfaaDoor
