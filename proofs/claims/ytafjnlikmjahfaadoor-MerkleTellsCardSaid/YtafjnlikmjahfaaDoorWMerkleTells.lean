/- The walk of the law MerkleTells. -/
import Derived.Test.YtafjnlikmjahfaaDoorMerI
import Derived.Test.YtafjnlikmjahfaaDoorWMerkleWays
namespace Go.Proofs.YtafjnlikmjahfaaDoor
open Go.RowKit Go.Shelf
attribute [local go_sem] Oper.semAt_some

set_option maxRecDepth 100000 in
set_option maxHeartbeats 2000000 in
theorem told_no (A : Option Addr) (n c : Nat) (most : Int) (w : World) (hno : powB n = false) :
    Calls Tryd.prog 18 #[.slice A n c, .int .i64 most] w fun e w' => e = .returned (.tuple #[.slice none 0 0, .slice none 0 0]) ∧ Ext w w' := by
  refine (callsIn_wide (n := 8)).1 ?_
  refine callsIn_of_wp_marks Tryd.func18 rfl trivial ?_ rfl
  refine wpIn_wide.2 ?_
  simp only [Tryd.ntmps18, List.size_toArray, List.length_cons, List.length_nil, Nat.reduceAdd, Nat.reduceSub, Array.replicate_succ, Array.replicate_zero, List.push_toArray, List.append_toArray, List.nil_append, List.cons_append]
  obtain ⟨W3, hW3⟩ : ∃ W3, W3 = ((w.alloc (.cells #[.int .i64 most] 3)).alloc (.cells #[.slice none 0 0] 42)).alloc (.cells #[.slice none 0 0] 24) := ⟨_, rfl⟩
  have b1 : Blk W3 (w.heap.size + 1) 42 #[.slice none 0 0] := by
    rw [hW3]
    have := Blk.new (w.alloc (.cells #[.int .i64 most] 3)) 42 #[.slice none 0 0]
    rw [World.size_alloc] at this
    exact this.alloc _
  have b2 : Blk W3 (w.heap.size + 1 + 1) 24 #[.slice none 0 0] := by
    rw [hW3]
    have := Blk.new ((w.alloc (.cells #[.int .i64 most] 3)).alloc (.cells #[.slice none 0 0] 42)) 24 #[.slice none 0 0]
    rw [World.size_alloc, World.size_alloc] at this
    exact this
  have E3 : Ext w W3 := by rw [hW3]; exact (((Ext.refl w).alloc _).alloc _).alloc _
  have Hways := Lib.hid (mWays_any A n c W3)
  have hsn := seq2_nil_eq
  have Hno := Lib.hid hno
  clear hno
  go_wp2_with fail
  rw [← hW3]
  with_reducible refine Hways.out.mono ?_
  rintro e w4 ⟨rfl, bl, E4⟩
  have F4 := E3.trans E4
  replace b1 := b1.ext E4
  replace b2 := b2.ext E4
  have hs0 : w.heap.size + 1 + 1 < w4.heap.size := b2.lt
  clear hW3 E3 E4 Hways
  go_wp2_with fail
  refine (wpIn_wide (n := 8)).1 ?_
  have Heg := Lib.hid (fun args w => enters_of (P := Tryd.prog) Tryd.func27 (by kernel_rfl) rfl args w)
  refine wpIn_range_called (gf := 27) (lb := #[.pointer (some ⟨W3.heap.size, 0, none⟩)]) rfl (by decide) rfl trivial Heg.out ?_
  intro fn rr hrr hfn
  have Hrr := Lib.hid hrr
  have E5 := called_ext w4 (rr .ready none)
  have rc5 := called_rec w4 (rr .ready none)
  have df5 := called_def w4 (rr .ready none)
  obtain ⟨w5, hw5⟩ : ∃ w5, w5 = called w4 (rr .ready none) := ⟨_, rfl⟩
  rw [← hw5] at E5 rc5 df5 ⊢
  obtain ⟨L, hL⟩ : ∃ L, L = w4.heap.size + 1 := ⟨_, rfl⟩
  obtain ⟨D, hD⟩ : ∃ D, D = w4.heap.size := ⟨_, rfl⟩
  rw [← hL] at rc5 ⊢
  rw [← hD] at df5 ⊢
  have hDL : D ≠ L := by omega
  have hwL : w.heap.size ≤ L := by omega
  have hDw : w.heap.size ≤ D := by omega
  have F5 := F4.trans E5
  have B1 := b1.ext E5
  have B2 := b2.ext E5
  have BL := Lib.hid (bl.ext E5)
  clear b1 b2 bl hrr hw5 hL hD E5 F4
  rw [show (#[Value.func (.yield L) #[] #[]] ++ #[Value.pointer (some ⟨W3.heap.size, 0, none⟩)] : Array Value) = #[Value.func (.yield L) #[] #[], Value.pointer (some ⟨W3.heap.size, 0, none⟩)] from by simp]
  refine (callsIn_wide.2 (ways1_no L W3.heap.size n c A w5 BL.out Hno.out)).mono ?_
  rintro e W' ⟨⟨u, rfl⟩, rfl⟩
  refine range_next rc5 (by rw [Hrr.out]; simp [rec0]) (by rw [Hrr.out]; rfl) ?_
  intro w6 hw6
  have tx : Turn L w5 w6 := by rw [hw6]; exact turn_putObj _ (Nat.le_refl _) rc5 rfl
  have hdf : w6.heap[D]? = some (.deferred (some [])) := by rw [hw6]; exact (World.putObj_heap_other hDL).trans df5
  have Y1 := tx.blk B1
  have Y2 := tx.blk B2
  have F6 := tx.ext F5 hwL
  have c1 : w6.cell? ⟨w.heap.size + 1, 0, none⟩ = some (.slice none 0 0) := Y1.cell 0
  have c2 : w6.cell? ⟨w.heap.size + 1 + 1, 0, none⟩ = some (.slice none 0 0) := Y2.cell 0
  have l1 := Y1.lt
  have l2 := Y2.lt
  have Hdf := Lib.hid hdf
  clear Y1 Y2 hdf tx hw6 Hrr Heg BL B1 B2 F5 rc5 df5 Hno
  dsimp only
  go_wp2_with fail
  go_quiet (fail)
  have E7 : Ext w6 (w6.drewN nq) := (Ext.refl w6).drewN nq
  have Hdf7 := Lib.hid (heap_ext Hdf.out E7)
  have F7 := F6.trans E7
  clear c1 c2 l1 l2 E7 F6 Hdf
  generalize w6.drewN nq = w7 at *
  go_wp2
  refine ⟨by simp, .inl ⟨_, _, rfl, run_takeDeferred Hdf7.out, ?_⟩⟩
  refine ⟨_, results_tmp2 rfl _ _ _, ?_⟩
  have tn : Turn w.heap.size w7 (w7.putObj D (.deferred none)) := turn_putObj _ (by omega) Hdf7.out rfl
  exact ⟨rfl, tn.ext F7 (Nat.le_refl _)⟩

set_option maxRecDepth 100000 in
set_option maxHeartbeats 1000000 in
theorem merkleTells_more (A : Option Addr) (n c : Nat) (stop : Int) (w : World) (hK : Kst w) (h : n > 100) :
    Calls Tryd.prog 6 #[.slice A n c, .int .i64 stop] w fun e w' => e = .returned (.bool true) ∧ Ext w w' := by
  have Hlv := Lib.hid (fun w' (E : Ext w w') => lives8_any w' (hK.ext E))
  have h100 : (n : Int) > 100 := by omega
  go_enter Tryd.func6, Tryd.ntmps6
  go_wp2_with fail
  with_reducible refine (Hlv.out _ (Ext.refl w)).mono ?_
  rintro e w1 ⟨rfl, E1⟩
  go_wp2
  go_ret
  exact ⟨rfl, E1⟩

set_option maxRecDepth 100000 in
set_option maxHeartbeats 1000000 in
theorem merkleTells_no (A : Option Addr) (n c : Nat) (stop : Int) (w : World) (hK : Kst w) (hn : n ≤ 100) (hno : powB n = false) :
    Calls Tryd.prog 6 #[.slice A n c, .int .i64 stop] w fun e w' => e = .returned (.bool true) ∧ Ext w w' := by
  have Hlv := Lib.hid (fun w' (E : Ext w w') => lives8_any w' (hK.ext E))
  have P1 := fun w' => Lib.hid (told_no A n c stop w' hno)
  have P2 := fun w' => Lib.hid (r8Levels_no A n c w' hno)
  have h100 : ¬ ((n : Int) > 100) := by omega
  clear hno
  by_cases h0 : 0 ≤ stop
  all_goals
    go_enter Tryd.func6, Tryd.ntmps6
    go_wp2_with fail
    with_reducible refine (P1 _).out.mono ?_
    rintro e w1 ⟨rfl, E1⟩
    go_wp2_with fail
    with_reducible refine (P2 _).out.mono ?_
    rintro e w2 ⟨rfl, rfl⟩
    go_wp2_with fail
    with_reducible refine (Hlv.out _ E1).mono ?_
    rintro e w3 ⟨rfl, E3⟩
    go_wp2
    go_loopw [10] (fun i wr => i = .int .i64 0 ∧ wr = w3) (fun _ _ => 0)
    case atStart => exact ⟨rfl, rfl⟩
    case round =>
      obtain ⟨rfl, rfl⟩ := hrel
      go_wp2
      go_ret
      exact ⟨rfl, E1.trans E3⟩

set_option maxRecDepth 100000 in
set_option maxHeartbeats 4000000 in
theorem merkleTells_yes (v : Value) (ds : List (List UInt8)) (H : Nat) (stop : Int) (w : World) (hK : Kst w) (hv : SlD w v ds) (hl : ds.length = 2 ^ H) (hH : H ≤ 6) :
    Calls Tryd.prog 6 #[v, .int .i64 stop] w fun e w' => e = .returned (.bool true) ∧ Ext w w' := by
  obtain ⟨A, c, rfl, hc⟩ := hv.form
  have hle := pow_le hH
  have Hlv := Lib.hid (fun w' (E : Ext w w') => lives8_any w' (hK.ext E))
  have P1 := Lib.hid (told_yes _ ds H stop w hK hv hl hH)
  have P2 := Lib.hid (fun w' (E : Ext w w') => r8Levels_yes _ ds H w' (hv.ext E) hl hH)
  have HV := Lib.hid hv
  have Hl := Lib.hid hl
  have hn64 : ds.length ≤ 64 := by omega
  have h100 : ¬ ((ds.length : Int) > 100) := by omega
  clear hv hl
  go_enter Tryd.func6, Tryd.ntmps6
  go_wp2_with fail
  with_reducible refine P1.out.mono ?_
  rintro e w1 ⟨va, vo, k, rfl, hk, SA, SB, E1⟩
  obtain ⟨Aa, ca, rfl, hca⟩ := SA.form
  obtain ⟨Ao, co, rfl, hco⟩ := SB.form
  have HA1 := Lib.hid SA
  have HB1 := Lib.hid SB
  rw [waysT_length] at hco HB1
  rw [waysT_length]
  clear SA SB P1
  go_wp2_with fail
  with_reducible refine (P2.out _ E1).mono ?_
  rintro e w2 ⟨vb, rfl, S2, E2⟩
  obtain ⟨Ab, cb, rfl, hcb⟩ := S2.form
  have F2 := E1.trans E2
  have HA2 := Lib.hid (SlR.ext HA1.out E2)
  have HB2 := Lib.hid (HB1.out.ext E2)
  clear S2 P2 E1 E2 HA1 HB1
  rcases hk with ⟨rfl, hst⟩ | ⟨rfl, hkn⟩
  · by_cases h0 : 0 ≤ stop
    · have h1 : ¬ (stop < (ds.length : Int)) := by omega
      clear hst
      go_wp2_with fail
      with_reducible refine (Hlv.out _ F2).mono ?_
      rintro e w3 ⟨rfl, E3⟩
      have F3 := Lib.hid (F2.trans E3)
      have HA3 := Lib.hid (SlR.ext HA2.out E3)
      have HB3 := Lib.hid (HB2.out.ext E3)
      have hkk : (((ds.length : Nat) : Int) != ((ds.length : Nat) : Int)) = false := by simp
      clear E3 F2 Hlv HA2 HB2
      go_wp2
      go_loopw [10] (fun i wr => ∃ j : Nat, j ≤ ds.length ∧ i = .int .i64 (j : Int) ∧ Ext w3 wr) (fun i _ => ds.length - (intOf i).toNat)
      case atStart => exact ⟨0, by omega, rfl, Ext.refl _⟩
      case round =>
        obtain ⟨j, hj, rfl, E⟩ := hrel
        by_cases hlt : j < ds.length
        · obtain ⟨ba, oa, rfl, xa⟩ := (SlR.ext HA3.out E).here (by omega)
          have xj : wr.cell? ⟨ba, oa + j, none⟩ = some (.int .i64 (j : Int)) := xa j _ (by simp [intsV, hlt])
          obtain ⟨bb, ob, ub, rfl, xb, sb⟩ := (HB3.out.ext E).at_ (k := j) (waysT_length ds H ds.length).symm (by rw [waysT_length]; exact hlt)
          have hge : (waysT ds H ds.length)[j]'(by rw [waysT_length]; exact hlt) = wayT ds j H := by simp [waysT]
          rw [hge] at sb
          obtain ⟨Au, cu, rfl, hcu⟩ := sb.form
          have hwl := wayT_length ds j H
          have Hwy := Lib.hid (fun w' (E' : Ext wr w') => r8Way_yes _ ds H j w' (HV.out.ext ((F3.out.trans E).trans E')) Hl.out hH (by have := Hl.out; omega))
          have Hsb := Lib.hid sb
          have Hwl := Lib.hid hwl
          have hjj : ((j : Int) != (j : Int)) = false := by simp
          rw [hwl] at Hsb xb hcu
          obtain ⟨wy, hwy⟩ : ∃ wy, wy = wayT ds j H := ⟨_, rfl⟩
          rw [← hwy] at Hsb Hwy Hwl
          clear hge sb hwl hwy xa
          go_wp2
          refine wp_region_chain 16 [(true, 0), (true, 1), (true, 2), (true, 3), (true, 4), (true, 5), (true, 6), (true, 7), (true, 8), (true, 9), (true, 10), (true, 11), (true, 12), (false, 13), (false, 14), (true, 15)] (fun w' => Ext wr w') (by kernel_rfl) (by kernel_rfl) (Ext.refl wr).drew ?_
          iterate 3
            refine wpTake_read _ _ ?_ rfl rfl ?_ ?_
            rotate_left 1
            focus
              intro wS hS
              try dsimp only at hS
              go_simp
              first | done | with_reducible rfl
            simp only [Act.put, List.setIfInBounds_toArray, List.set_cons_zero, List.set_cons_succ]
          refine wpTake_read _ _ ?_ rfl rfl ?_ ?_
          rotate_left 1
          focus
            intro wS hS
            try dsimp only at hS
            have e0 := Ext.cell hS xj
            go_simp
            first | done | with_reducible rfl
          simp only [Act.put, List.setIfInBounds_toArray, List.set_cons_zero, List.set_cons_succ]
          iterate 6
            refine wpTake_read _ _ ?_ rfl rfl ?_ ?_
            rotate_left 1
            focus
              intro wS hS
              try dsimp only at hS
              go_simp
              first | done | with_reducible rfl
            simp only [Act.put, List.setIfInBounds_toArray, List.set_cons_zero, List.set_cons_succ]
          refine wpTake_read _ _ ?_ rfl rfl ?_ ?_
          rotate_left 1
          focus
            intro wS hS
            try dsimp only at hS
            have e0 := Ext.cell hS xb
            go_simp
            first | done | with_reducible rfl
          simp only [Act.put, List.setIfInBounds_toArray, List.set_cons_zero, List.set_cons_succ]
          iterate 2
            refine wpTake_read _ _ ?_ rfl rfl ?_ ?_
            rotate_left 1
            focus
              intro wS hS
              try dsimp only at hS
              go_simp
              first | done | with_reducible rfl
            simp only [Act.put, List.setIfInBounds_toArray, List.set_cons_zero, List.set_cons_succ]
          refine wpTake_do _ _ rfl rfl (fun K hK' => ?_)
          go_simp
          refine (Hwy.out _ (Ext.refl wr).drew).mono ?_
          rintro e w5 ⟨v5, rfl, S5, E5⟩
          have G5 : Ext wr w5 := (Ext.refl wr).drew.trans E5
          refine hK' _ _ G5 ?_
          clear hK' K
          obtain ⟨A5, c5, rfl, hc5⟩ := S5.form
          have Hsm := Lib.hid (r8Same_eq _ _ wy w5 (Hsb.out.ext G5) S5 (by rw [Hwl.out]; omega))
          refine wpTake_do _ _ rfl rfl (fun K hK' => ?_)
          go_simp
          refine Hsm.out.mono ?_
          rintro e w6 ⟨rfl, E6⟩
          have G6 : Ext wr w6 := G5.trans E6
          refine hK' _ _ G6 ?_
          clear hK' K S5 Hsm E5 E6 G5
          refine wpTake_read _ _ ?_ rfl rfl ?_ ?_
          rotate_left 1
          focus
            intro wS hS
            try dsimp only at hS
            go_simp
            first | done | with_reducible rfl
          simp only [Act.put, List.setIfInBounds_toArray, List.set_cons_zero, List.set_cons_succ]
          refine wpTake_nil ?_
          simp only [List.drop_succ_cons, List.drop_zero]
          go_wp2
          refine NoPanic.normal ?_
          go_wp2
          go_roundw
          case rel => exact ⟨j + 1, hlt, by go_num, E.trans G6⟩
          case measure => simp [intOf]; omega
        · obtain rfl : j = ds.length := by omega
          go_wp2
          go_ret
          exact ⟨rfl, F3.out.trans E⟩
    · clear hst
      go_wp2_with fail
      with_reducible refine (Hlv.out _ F2).mono ?_
      rintro e w3 ⟨rfl, E3⟩
      have F3 := Lib.hid (F2.trans E3)
      have HA3 := Lib.hid (SlR.ext HA2.out E3)
      have HB3 := Lib.hid (HB2.out.ext E3)
      have hkk : (((ds.length : Nat) : Int) != ((ds.length : Nat) : Int)) = false := by simp
      clear E3 F2 Hlv HA2 HB2
      go_wp2
      go_loopw [10] (fun i wr => ∃ j : Nat, j ≤ ds.length ∧ i = .int .i64 (j : Int) ∧ Ext w3 wr) (fun i _ => ds.length - (intOf i).toNat)
      case atStart => exact ⟨0, by omega, rfl, Ext.refl _⟩
      case round =>
        obtain ⟨j, hj, rfl, E⟩ := hrel
        by_cases hlt : j < ds.length
        · obtain ⟨ba, oa, rfl, xa⟩ := (SlR.ext HA3.out E).here (by omega)
          have xj : wr.cell? ⟨ba, oa + j, none⟩ = some (.int .i64 (j : Int)) := xa j _ (by simp [intsV, hlt])
          obtain ⟨bb, ob, ub, rfl, xb, sb⟩ := (HB3.out.ext E).at_ (k := j) (waysT_length ds H ds.length).symm (by rw [waysT_length]; exact hlt)
          have hge : (waysT ds H ds.length)[j]'(by rw [waysT_length]; exact hlt) = wayT ds j H := by simp [waysT]
          rw [hge] at sb
          obtain ⟨Au, cu, rfl, hcu⟩ := sb.form
          have hwl := wayT_length ds j H
          have Hwy := Lib.hid (fun w' (E' : Ext wr w') => r8Way_yes _ ds H j w' (HV.out.ext ((F3.out.trans E).trans E')) Hl.out hH (by have := Hl.out; omega))
          have Hsb := Lib.hid sb
          have Hwl := Lib.hid hwl
          have hjj : ((j : Int) != (j : Int)) = false := by simp
          rw [hwl] at Hsb xb hcu
          obtain ⟨wy, hwy⟩ : ∃ wy, wy = wayT ds j H := ⟨_, rfl⟩
          rw [← hwy] at Hsb Hwy Hwl
          clear hge sb hwl hwy xa
          go_wp2
          refine wp_region_chain 16 [(true, 0), (true, 1), (true, 2), (true, 3), (true, 4), (true, 5), (true, 6), (true, 7), (true, 8), (true, 9), (true, 10), (true, 11), (true, 12), (false, 13), (false, 14), (true, 15)] (fun w' => Ext wr w') (by kernel_rfl) (by kernel_rfl) (Ext.refl wr).drew ?_
          iterate 3
            refine wpTake_read _ _ ?_ rfl rfl ?_ ?_
            rotate_left 1
            focus
              intro wS hS
              try dsimp only at hS
              go_simp
              first | done | with_reducible rfl
            simp only [Act.put, List.setIfInBounds_toArray, List.set_cons_zero, List.set_cons_succ]
          refine wpTake_read _ _ ?_ rfl rfl ?_ ?_
          rotate_left 1
          focus
            intro wS hS
            try dsimp only at hS
            have e0 := Ext.cell hS xj
            go_simp
            first | done | with_reducible rfl
          simp only [Act.put, List.setIfInBounds_toArray, List.set_cons_zero, List.set_cons_succ]
          iterate 6
            refine wpTake_read _ _ ?_ rfl rfl ?_ ?_
            rotate_left 1
            focus
              intro wS hS
              try dsimp only at hS
              go_simp
              first | done | with_reducible rfl
            simp only [Act.put, List.setIfInBounds_toArray, List.set_cons_zero, List.set_cons_succ]
          refine wpTake_read _ _ ?_ rfl rfl ?_ ?_
          rotate_left 1
          focus
            intro wS hS
            try dsimp only at hS
            have e0 := Ext.cell hS xb
            go_simp
            first | done | with_reducible rfl
          simp only [Act.put, List.setIfInBounds_toArray, List.set_cons_zero, List.set_cons_succ]
          iterate 2
            refine wpTake_read _ _ ?_ rfl rfl ?_ ?_
            rotate_left 1
            focus
              intro wS hS
              try dsimp only at hS
              go_simp
              first | done | with_reducible rfl
            simp only [Act.put, List.setIfInBounds_toArray, List.set_cons_zero, List.set_cons_succ]
          refine wpTake_do _ _ rfl rfl (fun K hK' => ?_)
          go_simp
          refine (Hwy.out _ (Ext.refl wr).drew).mono ?_
          rintro e w5 ⟨v5, rfl, S5, E5⟩
          have G5 : Ext wr w5 := (Ext.refl wr).drew.trans E5
          refine hK' _ _ G5 ?_
          clear hK' K
          obtain ⟨A5, c5, rfl, hc5⟩ := S5.form
          have Hsm := Lib.hid (r8Same_eq _ _ wy w5 (Hsb.out.ext G5) S5 (by rw [Hwl.out]; omega))
          refine wpTake_do _ _ rfl rfl (fun K hK' => ?_)
          go_simp
          refine Hsm.out.mono ?_
          rintro e w6 ⟨rfl, E6⟩
          have G6 : Ext wr w6 := G5.trans E6
          refine hK' _ _ G6 ?_
          clear hK' K S5 Hsm E5 E6 G5
          refine wpTake_read _ _ ?_ rfl rfl ?_ ?_
          rotate_left 1
          focus
            intro wS hS
            try dsimp only at hS
            go_simp
            first | done | with_reducible rfl
          simp only [Act.put, List.setIfInBounds_toArray, List.set_cons_zero, List.set_cons_succ]
          refine wpTake_nil ?_
          simp only [List.drop_succ_cons, List.drop_zero]
          go_wp2
          refine NoPanic.normal ?_
          go_wp2
          go_roundw
          case rel => exact ⟨j + 1, hlt, by go_num, E.trans G6⟩
          case measure => simp [intOf]; omega
        · obtain rfl : j = ds.length := by omega
          go_wp2
          go_ret
          exact ⟨rfl, F3.out.trans E⟩
  · have h0 : (0 : Int) ≤ ((k : Nat) : Int) := by omega
    have h1 : ((k : Nat) : Int) < (ds.length : Int) := by omega
    have hkl : k ≤ ds.length := by omega
    go_wp2_with fail
    with_reducible refine (Hlv.out _ F2).mono ?_
    rintro e w3 ⟨rfl, E3⟩
    have F3 := Lib.hid (F2.trans E3)
    have HA3 := Lib.hid (SlR.ext HA2.out E3)
    have HB3 := Lib.hid (HB2.out.ext E3)
    have hkk : (((k : Nat) : Int) != ((k : Nat) : Int)) = false := by simp
    clear E3 F2 Hlv HA2 HB2
    go_wp2
    go_loopw [10] (fun i wr => ∃ j : Nat, j ≤ k ∧ i = .int .i64 (j : Int) ∧ Ext w3 wr) (fun i _ => k - (intOf i).toNat)
    case atStart => exact ⟨0, by omega, rfl, Ext.refl _⟩
    case round =>
      obtain ⟨j, hj, rfl, E⟩ := hrel
      by_cases hlt : j < k
      · obtain ⟨ba, oa, rfl, xa⟩ := (SlR.ext HA3.out E).here (by omega)
        have xj : wr.cell? ⟨ba, oa + j, none⟩ = some (.int .i64 (j : Int)) := xa j _ (by simp [intsV, hlt])
        obtain ⟨bb, ob, ub, rfl, xb, sb⟩ := (HB3.out.ext E).at_ (k := j) (waysT_length ds H k).symm (by rw [waysT_length]; exact hlt)
        have hge : (waysT ds H k)[j]'(by rw [waysT_length]; exact hlt) = wayT ds j H := by simp [waysT]
        rw [hge] at sb
        obtain ⟨Au, cu, rfl, hcu⟩ := sb.form
        have hwl := wayT_length ds j H
        have Hwy := Lib.hid (fun w' (E' : Ext wr w') => r8Way_yes _ ds H j w' (HV.out.ext ((F3.out.trans E).trans E')) Hl.out hH (by have := Hl.out; omega))
        have Hsb := Lib.hid sb
        have Hwl := Lib.hid hwl
        have hjj : ((j : Int) != (j : Int)) = false := by simp
        rw [hwl] at Hsb xb hcu
        obtain ⟨wy, hwy⟩ : ∃ wy, wy = wayT ds j H := ⟨_, rfl⟩
        rw [← hwy] at Hsb Hwy Hwl
        clear hge sb hwl hwy xa
        go_wp2
        refine wp_region_chain 16 [(true, 0), (true, 1), (true, 2), (true, 3), (true, 4), (true, 5), (true, 6), (true, 7), (true, 8), (true, 9), (true, 10), (true, 11), (true, 12), (false, 13), (false, 14), (true, 15)] (fun w' => Ext wr w') (by kernel_rfl) (by kernel_rfl) (Ext.refl wr).drew ?_
        iterate 3
          refine wpTake_read _ _ ?_ rfl rfl ?_ ?_
          rotate_left 1
          focus
            intro wS hS
            try dsimp only at hS
            go_simp
            first | done | with_reducible rfl
          simp only [Act.put, List.setIfInBounds_toArray, List.set_cons_zero, List.set_cons_succ]
        refine wpTake_read _ _ ?_ rfl rfl ?_ ?_
        rotate_left 1
        focus
          intro wS hS
          try dsimp only at hS
          have e0 := Ext.cell hS xj
          go_simp
          first | done | with_reducible rfl
        simp only [Act.put, List.setIfInBounds_toArray, List.set_cons_zero, List.set_cons_succ]
        iterate 6
          refine wpTake_read _ _ ?_ rfl rfl ?_ ?_
          rotate_left 1
          focus
            intro wS hS
            try dsimp only at hS
            go_simp
            first | done | with_reducible rfl
          simp only [Act.put, List.setIfInBounds_toArray, List.set_cons_zero, List.set_cons_succ]
        refine wpTake_read _ _ ?_ rfl rfl ?_ ?_
        rotate_left 1
        focus
          intro wS hS
          try dsimp only at hS
          have e0 := Ext.cell hS xb
          go_simp
          first | done | with_reducible rfl
        simp only [Act.put, List.setIfInBounds_toArray, List.set_cons_zero, List.set_cons_succ]
        iterate 2
          refine wpTake_read _ _ ?_ rfl rfl ?_ ?_
          rotate_left 1
          focus
            intro wS hS
            try dsimp only at hS
            go_simp
            first | done | with_reducible rfl
          simp only [Act.put, List.setIfInBounds_toArray, List.set_cons_zero, List.set_cons_succ]
        refine wpTake_do _ _ rfl rfl (fun K hK' => ?_)
        go_simp
        refine (Hwy.out _ (Ext.refl wr).drew).mono ?_
        rintro e w5 ⟨v5, rfl, S5, E5⟩
        have G5 : Ext wr w5 := (Ext.refl wr).drew.trans E5
        refine hK' _ _ G5 ?_
        clear hK' K
        obtain ⟨A5, c5, rfl, hc5⟩ := S5.form
        have Hsm := Lib.hid (r8Same_eq _ _ wy w5 (Hsb.out.ext G5) S5 (by rw [Hwl.out]; omega))
        refine wpTake_do _ _ rfl rfl (fun K hK' => ?_)
        go_simp
        refine Hsm.out.mono ?_
        rintro e w6 ⟨rfl, E6⟩
        have G6 : Ext wr w6 := G5.trans E6
        refine hK' _ _ G6 ?_
        clear hK' K S5 Hsm E5 E6 G5
        refine wpTake_read _ _ ?_ rfl rfl ?_ ?_
        rotate_left 1
        focus
          intro wS hS
          try dsimp only at hS
          go_simp
          first | done | with_reducible rfl
        simp only [Act.put, List.setIfInBounds_toArray, List.set_cons_zero, List.set_cons_succ]
        refine wpTake_nil ?_
        simp only [List.drop_succ_cons, List.drop_zero]
        go_wp2
        refine NoPanic.normal ?_
        go_wp2
        go_roundw
        case rel => exact ⟨j + 1, hlt, by go_num, E.trans G6⟩
        case measure => simp [intOf]; omega
      · obtain rfl : j = k := by omega
        go_wp2
        go_ret
        exact ⟨rfl, F3.out.trans E⟩

theorem merkleTells_any (v : Value) (ds : List (List UInt8)) (stop : Int) (w : World) (hK : Kst w) (hv : SlD w v ds) (_ : -9223372036854775808 ≤ stop ∧ stop ≤ 9223372036854775807) :
    Calls Tryd.prog 6 #[v, .int .i64 stop] w fun e w' => e = .returned (.bool true) ∧ Ext w w' := by
  by_cases h : ds.length ≤ 100
  · cases hp : powB ds.length with
    | true =>
      obtain ⟨H, h6, hl⟩ := pow_of hp
      exact merkleTells_yes v ds H stop w hK hv hl h6
    | false =>
      obtain ⟨A, c, rfl, hc⟩ := hv.form
      exact merkleTells_no A ds.length c stop w hK h hp
  · obtain ⟨A, c, rfl, hc⟩ := hv.form
    exact merkleTells_more A ds.length c stop w hK (by omega)
end Go.Proofs.YtafjnlikmjahfaaDoor
