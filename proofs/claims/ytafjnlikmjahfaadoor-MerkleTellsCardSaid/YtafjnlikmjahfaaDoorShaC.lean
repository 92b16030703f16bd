/- The contract of sha.Block. -/
import Derived.Test.YtafjnlikmjahfaaDoorShaB
namespace Go.Proofs.YtafjnlikmjahfaaDoor
open Go.RowKit
attribute [local go_sem] Later.cell?

def kvals : List Value := ks.map (Value.int .u32)
theorem kvals_length : kvals.length = 64 := by rw [kvals, List.length_map, ks_length]
/-- the table of the rounds' constants lies at its place -/
def Kst (w : World) : Prop := Cells w 0 0 kvals
theorem Kst.ext {w w' : World} (h : Kst w) (he : Ext w w') : Kst w' := Cells.ext h he
theorem size_u32 (w : World) : (sizeOf 70).run Tryd.prog w = .ok 1 w := by kernel_rfl
theorem agg_u32 (w : World) : (isAgg 70).run Tryd.prog w = .ok false w := by kernel_rfl
theorem kvals_get (t : Nat) (h : t < 64) : kvals.toArray[t]? = some (.int .u32 (ks[t]?.getD 0)) := by
  have h1 : t < ks.length := by rw [ks_length]; exact h
  simp [kvals, List.getElem?_eq_getElem h1]
theorem index_ks (t : Nat) (h : t < 64) (w : World) : (Instr.index 86 (.agg kvals.toArray) (.int .i64 (t : Int))).run Tryd.prog w = .ok (.int .u32 (ks[t]?.getD 0)) w :=
  run_index_row 86 70 64 kvals.toArray Tryd.underlying86 size_u32 agg_u32 t h _ (kvals_get t h) w

theorem cells32_get (l : List Int) (k : Nat) (h : k < l.length) : (cells32 l)[k]? = some (.int .u32 (l[k]?.getD 0)) := by
  simp [cells32, List.getElem?_eq_getElem h]
theorem cells32_set (l : List Int) (k : Nat) (x : Int) : (cells32 l).setIfInBounds k (.int .u32 x) = cells32 (l.set k x) := by
  simp [cells32, List.map_set]
theorem cells32_one (l : List Int) : (cells32 l).all (·.oneCell') = true :=
  Array.all_eq_true_iff_forall_mem.2 (fun v hv => by
    simp only [cells32, List.mem_toArray, List.mem_map] at hv
    obtain ⟨x, _, rfl⟩ := hv
    rfl)
theorem info_a8 : (Tryd.prog.info? 73).map (·.size) = some 8 := by kernel_rfl

set_option maxRecDepth 100000 in
set_option maxHeartbeats 1000000 in
theorem block_no (s : St) (A : Option Addr) (n c : Nat) (hn : ((n : Int) != 64) = true) (w : World) :
    Calls Tryd.prog 44 #[.agg s.vals, .slice A n c] w fun e w' => e = .returned (.agg zeroSt.vals) ∧ Ext w w' := by
  unfold St.vals
  go_enter Tryd.func44, Tryd.ntmps44
  go_wp2
  refine bodyPost_ret (v := .agg zeroSt.vals) (by simp [results, Tryd.results44, go_sem, zeroSt, St.vals]) rfl ?_
  exact ⟨rfl, ((Ext.refl w).alloc _).alloc _⟩

set_option maxRecDepth 100000 in
set_option maxHeartbeats 400000 in
theorem block_yes (s : St) (bs : List UInt8) (b o c : Nat) (hc : 64 ≤ c) (w : World) (hK : Kst w)
    (hcell : ∀ j, j < 64 → w.cell? ⟨b, o + j, none⟩ = some (.int .u8 ((bs.getD j 0).toNat : Int))) :
    Calls Tryd.prog 44 #[.agg s.vals, .slice (some ⟨b, o, none⟩) 64 c] w fun e w' => e = .returned (.agg (blk s bs).vals) ∧ Ext w w' := by
  have Hcell := Lib.hid hcell
  clear hcell
  show Calls Tryd.prog 44 #[.agg #[.int .u32 s.a, .int .u32 s.b, .int .u32 s.c, .int .u32 s.d, .int .u32 s.e, .int .u32 s.f, .int .u32 s.g, .int .u32 s.h], .slice (some ⟨b, o, none⟩) 64 c] w _
  go_enter Tryd.func44, Tryd.ntmps44
  go_wp2_with fail
  have Hc1 : ∀ W, Ext w W → Hid (∀ j, j < 64 → W.cell? ⟨b, o + j, none⟩ = some (.int .u8 ((bs.getD j 0).toNat : Int))) := fun W he j hj => he.cell (Hcell.out j hj)
  refine (sched_any bs b o c hc _ (Hc1 _ ?_).out).mono ?_
  · exact ((Ext.refl w).alloc _).alloc _
  rintro e w1 ⟨rfl, E1⟩
  have HW : Hid (∃ W, W = ws bs 64) := ⟨_, rfl⟩
  obtain ⟨W, hW⟩ := HW.out
  rw [← hW]
  have hWl : Hid (W.length = 64) := by rw [hW]; exact ws_length bs 64
  have HW := Lib.hid hW
  clear hW
  have hsz : Hid ((wcells W).size = 64) := wcells_size _ (by rw [hWl.out]; omega)
  go_wp2_with (first | (refine wpList_alloc_blk rfl 86 rfl (.agg (zeros 64)) zero_a64 ?_; intro w2 hs2 hb2 he2) | (refine wpList_store_blk rfl 86 _ _ rfl w1.heap.size (wcells W) rfl rfl 86 (zeros 64) hb2 (by rw [hsz.out]; exact info_a64) (by rw [hsz.out]; simp [zeros]) (wcells_one _) ?_; intro w3 hs3 hb3 hg3))
  have W0s : ((w.alloc (.cells #[.int .u32 s.a, .int .u32 s.b, .int .u32 s.c, .int .u32 s.d, .int .u32 s.e, .int .u32 s.f, .int .u32 s.g, .int .u32 s.h] 73)).alloc (.cells #[.int .u32 0, .int .u32 0, .int .u32 0, .int .u32 0, .int .u32 0, .int .u32 0, .int .u32 0, .int .u32 0] 73)).heap.size = w.heap.size + 2 := by simp
  have hz1 : w.heap.size + 2 ≤ w1.heap.size := by have := E1.size; rw [W0s] at this; exact this
  have hz3 : w3.heap.size = w1.heap.size + 1 := by rw [hs3, hs2]
  have B0 : Blk w3 w.heap.size 73 #[.int .u32 s.a, .int .u32 s.b, .int .u32 s.c, .int .u32 s.d, .int .u32 s.e, .int .u32 s.f, .int .u32 s.g, .int .u32 s.h] :=
    ((((Blk.new w _ _).alloc _).ext E1).ext he2).grown hg3 (by simp; omega)
  have B1 : Blk w3 (w.heap.size + 1) 73 #[.int .u32 0, .int .u32 0, .int .u32 0, .int .u32 0, .int .u32 0, .int .u32 0, .int .u32 0, .int .u32 0] := by
    have := Blk.new (w.alloc (.cells #[.int .u32 s.a, .int .u32 s.b, .int .u32 s.c, .int .u32 s.d, .int .u32 s.e, .int .u32 s.f, .int .u32 s.g, .int .u32 s.h] 73)) 73 #[.int .u32 0, .int .u32 0, .int .u32 0, .int .u32 0, .int .u32 0, .int .u32 0, .int .u32 0, .int .u32 0]
    rw [World.size_alloc] at this
    exact ((this.ext E1).ext he2).grown hg3 (by simp; omega)
  have E3 : Ext w w3 := ((((Ext.refl w).alloc _).alloc _).trans (E1.trans he2)).grown hg3 (by simp; omega)
  have K3 : Kst w3 := hK.ext E3
  clear hs2 hs3 he2 hb2 hg3 E1 W0s hK Hc1
  have c0 : w3.cell? ⟨w.heap.size, 0, none⟩ = some (.int .u32 s.a) := by rw [B0.cell]; rfl
  have c1 : w3.cell? ⟨w.heap.size, 1, none⟩ = some (.int .u32 s.b) := by rw [B0.cell]; rfl
  have c2 : w3.cell? ⟨w.heap.size, 2, none⟩ = some (.int .u32 s.c) := by rw [B0.cell]; rfl
  have c3 : w3.cell? ⟨w.heap.size, 3, none⟩ = some (.int .u32 s.d) := by rw [B0.cell]; rfl
  have c4 : w3.cell? ⟨w.heap.size, 4, none⟩ = some (.int .u32 s.e) := by rw [B0.cell]; rfl
  have c5 : w3.cell? ⟨w.heap.size, 5, none⟩ = some (.int .u32 s.f) := by rw [B0.cell]; rfl
  have c6 : w3.cell? ⟨w.heap.size, 6, none⟩ = some (.int .u32 s.g) := by rw [B0.cell]; rfl
  have c7 : w3.cell? ⟨w.heap.size, 7, none⟩ = some (.int .u32 s.h) := by rw [B0.cell]; rfl
  have hlt : w.heap.size < w3.heap.size := B0.lt
  have hz3' : Hid (w3.heap.size = w1.heap.size + 1) := hz3
  clear hz3
  go_frame
  refine wp_region_lat (by kernel_rfl) (by kernel_rfl) ?_
  repeat (go_big_quiet_step (fail))
  refine wpQuiet_nil ?_
  intro w4 E4
  clear c0 c1 c2 c3 c4 c5 c6 c7
  have K4 : w4.rangeAt 0 0 kvals := K3.ext E4
  have D0 := B0.ext E4
  have D1 := B1.ext E4
  have D2 : Blk w4 w1.heap.size 86 (wcells W) := hb3.ext E4
  have E5 : Ext w w4 := E3.trans E4
  clear B0 B1 hb3 E3 E4 K3 hz3' hlt
  go_wp2_with (refine wpList_load_mid rfl 86 _ rfl 0 0 rfl kvals _ K4 Tryd.underlying86 rfl (by rw [kvals_length]; exact info_a64) ?_)
  generalize hkc : kvals.toArray = kc
  have Hkc := Lib.hid hkc
  clear hkc
  go_loopw [43, 6, 7, 8, 9, 10, 11, 12, 13] (fun i x0 x1 x2 x3 x4 x5 x6 x7 wr => ∃ t : Nat, t ≤ 64 ∧ i = .int .i64 t ∧ x0 = .int .u32 (rounds s W t).a ∧ x1 = .int .u32 (rounds s W t).b
      ∧ x2 = .int .u32 (rounds s W t).c ∧ x3 = .int .u32 (rounds s W t).d ∧ x4 = .int .u32 (rounds s W t).e ∧ x5 = .int .u32 (rounds s W t).f
      ∧ x6 = .int .u32 (rounds s W t).g ∧ x7 = .int .u32 (rounds s W t).h
      ∧ Blk wr w.heap.size 73 #[.int .u32 s.a, .int .u32 s.b, .int .u32 s.c, .int .u32 s.d, .int .u32 s.e, .int .u32 s.f, .int .u32 s.g, .int .u32 s.h]
      ∧ Blk wr (w.heap.size + 1) 73 #[.int .u32 0, .int .u32 0, .int .u32 0, .int .u32 0, .int .u32 0, .int .u32 0, .int .u32 0, .int .u32 0]
      ∧ Blk wr w1.heap.size 86 (wcells W) ∧ Ext w wr) (fun i _ _ _ _ _ _ _ _ _ => 64 - (intOf i).toNat)
  case atStart => exact ⟨0, by omega, rfl, by rw [rounds], by rw [rounds], by rw [rounds], by rw [rounds], by rw [rounds], by rw [rounds], by rw [rounds], by rw [rounds], D0, D1, D2, E5⟩
  case round =>
    clear D0 D1 D2 E5 K4
    obtain ⟨t, ht, rfl, rfl, rfl, rfl, rfl, rfl, rfl, rfl, rfl, D0, D1, D2, E5⟩ := hrel
    by_cases hlt : t < 64
    · have hix := index_ks t hlt
      rw [Hkc.out] at hix
      have hw : wr.cell? ⟨w1.heap.size, t, none⟩ = some (.int .u32 (W[t]?.getD 0)) := by
        rw [D2.cell, wcells_get _ _ (by rw [hWl.out]; exact hlt)]
      have hl1 : w1.heap.size < wr.heap.size := D2.lt
      go_wp2
      refine wp_region_lat (by kernel_rfl) (by kernel_rfl) ?_
      repeat (go_big_quiet_step ((go_at_call 52; exact lat_same (right_int _ _ (by omega) (by omega) _))))
      refine wpQuiet_nil ?_
      intro w5 E6
      go_wp2_with (go_at_call 52; refine (right_int _ _ (by omega) (by omega) _).mono ?_; rintro e w' ⟨rfl, rfl⟩)
      go_roundw
      case rel =>
        refine ⟨t + 1, by omega, by go_num, ?_, by rw [rounds]; rfl, by rw [rounds]; rfl, by rw [rounds]; rfl, ?_, by rw [rounds]; rfl, by rw [rounds]; rfl, by rw [rounds]; rfl, D0.ext E6, D1.ext E6, D2.ext E6, E5.trans E6⟩
        · rw [rounds]; simp [St.round, t1Of, t2Of, add32, bg1, bg0, cho, maj, xor32, and32, not32, u32_all]
        · rw [rounds]; simp [St.round, t1Of, add32, bg1, cho, xor32, and32, not32, u32_all]
      case measure => simp [intOf]; omega
    · obtain rfl : t = 64 := by omega
      generalize hR : rounds s W 64 = R
      have HR := Lib.hid hR
      clear hR
      obtain ⟨wo, rfl⟩ : ∃ wo : World, wo = wr := ⟨_, rfl⟩
      go_wp2
      go_loopw [114] (fun i wr => ∃ k : Nat, k ≤ 8 ∧ i = .int .i64 k ∧ Blk wr w.heap.size 73 (cells32 (mix s.list R.list k))
        ∧ Blk wr (w.heap.size + 1) 73 #[.int .u32 0, .int .u32 0, .int .u32 0, .int .u32 0, .int .u32 0, .int .u32 0, .int .u32 0, .int .u32 0] ∧ Ext w wr) (fun i _ => 8 - (intOf i).toNat)
      case atStart => exact ⟨0, by omega, rfl, by rw [mix_zero]; exact D0, D1, E5⟩
      case round =>
        clear D0 D1 E5 D2
        obtain ⟨k, hk, rfl, D0, D1, E5⟩ := hrel
        by_cases hk8 : k < 8
        · have hix : ∀ w, (Instr.index 73 (.agg #[.int .u32 R.a, .int .u32 R.b, .int .u32 R.c, .int .u32 R.d, .int .u32 R.e, .int .u32 R.f, .int .u32 R.g, .int .u32 R.h]) (.int .i64 (k : Int))).run Tryd.prog w = .ok (.int .u32 (R.list[k]?.getD 0)) w :=
            run_index_row 73 70 8 _ Tryd.underlying73 size_u32 agg_u32 k hk8 _ (cells32_get R.list k hk8)
          have hc : wr.cell? ⟨w.heap.size, k, none⟩ = some (.int .u32 (s.list[k]?.getD 0)) := by
            rw [D0.cell, cells32_get _ _ (by rw [mix_length s.list R.list k rfl (by rw [list_length]; omega), list_length]; exact hk8), mix_get s.list R.list k rfl hk8]
          have hf := D0.frozen k
          go_wp2
          go_roundw
          case rel =>
            refine ⟨k + 1, by omega, by go_num, ?_, D1.far (by simp) _, E5.setCell (by simp) _⟩
            rw [← mix_set s.list R.list k rfl hk8, ← cells32_set]
            exact D0.set_ (by simp [add32])
          case measure => simp [intOf]; omega
        · obtain rfl : k = 8 := by omega
          rw [mix_all] at D0
          have hfin : Hid (s.plus R = blk s bs) := by rw [blk, ← HW.out, HR.out]; rfl
          rw [hfin.out] at D0
          obtain ⟨z, hz⟩ : ∃ z, z = blk s bs := ⟨_, rfl⟩
          rw [← hz] at D0
          have Hz := Lib.hid hz
          clear hz
          go_wp2_with (first | (refine wpList_load_row rfl 73 _ rfl w.heap.size rfl 73 (cells32 z.list) (0, 0) _ D0 Tryd.underlying73 rfl info_a8 ?_) | (refine wpList_store_blk rfl 73 _ _ rfl (w.heap.size + 1) (cells32 z.list) rfl rfl 73 _ D1 info_a8 rfl (cells32_one _) ?_; intro w6 hs6 hb6 hg6))
          refine bodyPost_ret (v := .agg (cells32 z.list)) (results_cell_row rfl _ _ (w.heap.size + 1) 73 _ (0, 0) _ rfl hb6 Tryd.underlying73 rfl info_a8) rfl ?_
          exact ⟨by rw [← Hz.out]; rfl, E5.grown hg6 (by simp)⟩
end Go.Proofs.YtafjnlikmjahfaaDoor
