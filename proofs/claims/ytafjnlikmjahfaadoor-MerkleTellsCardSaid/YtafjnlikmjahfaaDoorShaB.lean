/- The contract of sha.schedule: the sixty-four words of a block. -/
import Derived.Test.YtafjnlikmjahfaaDoorShaA
import Derived.Test.YtafjnlikmjahfaaDoorTail
namespace Go.Proofs.YtafjnlikmjahfaaDoor
open Go.RowKit

theorem zero_a64 (w : World) : (zeroValue 86).run Tryd.prog w = .ok (.agg (zeros 64)) w := by kernel_rfl
theorem info_a64 : (Tryd.prog.info? 86).map (·.size) = some 64 := by kernel_rfl

theorem right_int (x k : Int) (h1 : 1 ≤ k) (h2 : k ≤ 31) (w : World) :
    Calls Tryd.prog 52 #[.int .u32 x, .int .i64 k] w fun e w' => e = .returned (.int .u32 (rotr x k.toNat)) ∧ w = w' := by
  obtain ⟨n, rfl⟩ := Int.eq_ofNat_of_zero_le (show 0 ≤ k by omega)
  exact right_any x n (by omega) (by omega) w

theorem wcells_one (l : List Int) : (wcells l).all (·.oneCell') = true := by
  refine Array.all_eq_true_iff_forall_mem.2 (fun v hv => ?_)
  simp only [wcells, zeros, Array.mem_append, List.mem_toArray, List.mem_map, Array.mem_replicate] at hv
  rcases hv with ⟨x, _, rfl⟩ | ⟨_, rfl⟩ <;> rfl

set_option maxRecDepth 100000 in
set_option maxHeartbeats 1000000 in
theorem sched_any (bs : List UInt8) (b o c : Nat) (hc : 64 ≤ c) (w : World)
    (hcell : ∀ j, j < 64 → w.cell? ⟨b, o + j, none⟩ = some (.int .u8 ((bs.getD j 0).toNat : Int))) :
    Calls Tryd.prog 51 #[.slice (some ⟨b, o, none⟩) 64 c] w fun e w' => e = .returned (.agg (wcells (ws bs 64))) ∧ Ext w w' := by
  have Hcell := Lib.hid hcell
  clear hcell
  go_enter Tryd.func51, Tryd.ntmps51
  go_wp2_with (first | (refine wpList_alloc_blk rfl 86 rfl (.agg (zeros 64)) zero_a64 ?_; intro w1 hs1 hb1 he1))
  rename_i w0 hs0 hb0 he0 _ _
  have E1 : Ext w w1 := he0.trans he1
  have B2 : Blk w1 w.heap.size 86 (zeros 64) := hb0.ext he1
  have B3 : Blk w1 (w.heap.size + 1) 86 (zeros 64) := by rw [hs0] at hb1; exact hb1
  clear hs0 hb0 he0 hs1 hb1 he1
  go_loopw [11] (fun i wr => ∃ t : Nat, t ≤ 64 ∧ i = .int .i64 t ∧ Blk wr w.heap.size 86 (zeros 64) ∧ Blk wr (w.heap.size + 1) 86 (wcells (ws bs t)) ∧ Ext w wr)
    (fun i _ => 64 - (intOf i).toNat)
  case atStart => exact ⟨0, by omega, rfl, B2, by rw [ws, wcells_nil]; exact B3, E1⟩
  case round =>
    obtain ⟨t, ht, rfl, C2, C3, E⟩ := hrel
    have hl := ws_length bs t
    have Hl := Lib.hid hl
    clear hl
    by_cases hlt : t < 64
    · by_cases h16 : t < 16
      · go_wp2
        obtain ⟨wo, rfl⟩ : ∃ wo : World, wo = wr := ⟨_, rfl⟩
        go_loopw [24] (fun i wr => ∃ k : Nat, k ≤ 4 ∧ i = .int .i64 k ∧ Blk wr w.heap.size 86 (zeros 64) ∧ Blk wr (w.heap.size + 1) 86 ((wcells (ws bs t)).setIfInBounds t (.int .u32 (accW bs t k))) ∧ Ext w wr)
          (fun i _ => 4 - (intOf i).toNat)
        case atStart => exact ⟨0, by omega, rfl, C2, by have := wcells_here (ws bs t) (by rw [Hl.out]; exact hlt); rw [Hl.out] at this; rw [accW, ← this]; exact C3, E⟩
        case round =>
          obtain ⟨k, hk, rfl, D2, D3, F⟩ := hrel
          by_cases hk4 : k < 4
          · have c1 : wr.cell? ⟨b, o + 4 * t + k, none⟩ = some (.int .u8 ((bs.getD (4 * t + k) 0).toNat : Int)) := by
              have := F.cell (Hcell.out (4 * t + k) (by omega))
              rw [← Nat.add_assoc] at this
              exact this
            have c2 : wr.cell? ⟨w.heap.size + 1, t, none⟩ = some (.int .u32 (accW bs t k)) := by
              rw [D3.cell]; simp [wcells_size _ (show (ws bs t).length ≤ 64 by rw [Hl.out]; omega), hlt]
            have c3 := D3.frozen t
            go_wp2
            go_roundw
            case rel =>
              refine ⟨k + 1, by omega, by go_num, D2.far (by simp) _, ?_, F.setCell (by simp) _⟩
              have := D3.set t (.int .u32 (accW bs t (k + 1)))
              rw [Array.setIfInBounds_setIfInBounds] at this
              rw [accW_step]
              exact this
            case measure => simp [intOf]; omega
          · have hk5 : k = 4 := by omega
            subst hk5
            have D4 : Blk wr (w.heap.size + 1) 86 (wcells (ws bs (t + 1))) := by
              have := wcells_snoc (ws bs t) (word bs t) (by rw [Hl.out]; exact hlt)
              rw [Hl.out] at this
              rw [ws, if_pos h16, ← this, ← accW_four]
              exact D3
            clear D3
            go_wp2
            go_roundw
            case rel => exact ⟨t + 1, by omega, by go_num, D2, D4, F⟩
            case measure => simp [intOf]; omega
      · have c15 : wr.cell? ⟨w.heap.size + 1, t - 15, none⟩ = some (.int .u32 ((ws bs t)[t - 15]?.getD 0)) := by rw [C3.cell, wcells_get _ _ (by rw [Hl.out]; omega)]
        have c2 : wr.cell? ⟨w.heap.size + 1, t - 2, none⟩ = some (.int .u32 ((ws bs t)[t - 2]?.getD 0)) := by rw [C3.cell, wcells_get _ _ (by rw [Hl.out]; omega)]
        have c16 : wr.cell? ⟨w.heap.size + 1, t - 16, none⟩ = some (.int .u32 ((ws bs t)[t - 16]?.getD 0)) := by rw [C3.cell, wcells_get _ _ (by rw [Hl.out]; omega)]
        have c7 : wr.cell? ⟨w.heap.size + 1, t - 7, none⟩ = some (.int .u32 ((ws bs t)[t - 7]?.getD 0)) := by rw [C3.cell, wcells_get _ _ (by rw [Hl.out]; omega)]
        have c0 : ∃ u, wr.cell? ⟨w.heap.size + 1, t, none⟩ = some u := by rw [C3.cell]; exact ⟨_, Array.getElem?_eq_getElem (by rw [wcells_size _ (by rw [Hl.out]; omega)]; exact hlt)⟩
        obtain ⟨u0, c0⟩ := c0
        have f0 := C3.frozen t
        go_wp2
        go_quiet (fail)
        go_wp2_with (go_at_call 52; refine (right_int _ _ (by omega) (by omega) _).mono ?_; rintro e w' ⟨rfl, rfl⟩)
        refine wp_region_drew_tail 15 (by kernel_rfl) (by kernel_rfl) ?_
        simp only [List.take_succ_cons, List.take_zero, List.drop_succ_cons, List.drop_zero]
        repeat (go_big_quiet_step (fail))
        refine wpQuiet_nil ?_
        intro _ hw'
        obtain ⟨nr, hw''⟩ := hw'
        subst hw''
        go_wp2
        go_roundw
        case rel =>
          refine ⟨t + 1, by omega, by go_num, ?_, ?_, ?_⟩
          · exact (C2.drewN _).far (by simp) _
          · have h9 := wcells_snoc (ws bs t) (next (ws bs t) t) (by rw [Hl.out]; exact hlt)
            rw [Hl.out] at h9
            rw [ws, if_neg h16, ← h9]
            exact (C3.drewN _).set_ (by simp [next, sm0, sm1, xor32, shr32])
          · exact (E.drewN _).setCell (by simp) _
        case measure => simp [intOf]; omega
    · obtain rfl : t = 64 := by omega
      have hsz := wcells_size (ws bs 64) (by rw [Hl.out]; omega)
      have Hsz := Lib.hid hsz
      clear hsz
      go_wp2_with (first | (refine wpList_load_row rfl 86 _ rfl (w.heap.size + 1) rfl 86 (wcells (ws bs 64)) (0, 0) _ C3 Tryd.underlying86 rfl (by rw [Hsz.out]; exact info_a64) ?_) | (refine wpList_store_blk rfl 86 _ _ rfl w.heap.size (wcells (ws bs 64)) rfl rfl 86 (zeros 64) C2 (by rw [Hsz.out]; exact info_a64) (by rw [Hsz.out]; simp [zeros]) (wcells_one _) ?_; intro w2 hs2 hb2 hg2))
      refine bodyPost_ret (v := .agg (wcells (ws bs 64))) (results_cell_row rfl _ _ w.heap.size 86 _ (0, 0) _ rfl hb2 Tryd.underlying86 rfl (by rw [Hsz.out]; exact info_a64)) rfl ?_
      exact ⟨rfl, E.grown hg2 (by simp)⟩
end Go.Proofs.YtafjnlikmjahfaaDoor
