/- pursuivantref08: Way of a leaf that is there; Climb. -/
import Derived.Test.YtafjnlikmjahfaaDoorMerF
namespace Go.Proofs.YtafjnlikmjahfaaDoor
open Go.RowKit

theorem cells_blk {w : World} {g : Nat} {t : TypeId} {d : List UInt8} (h : Blk w g t (bytesV d).toArray) : Cells w g 0 (bytesV d) := fun j v hv => by
  rw [Nat.zero_add, h.cell]
  simpa using hv

set_option maxRecDepth 100000 in
set_option maxHeartbeats 1000000 in
theorem r8Way_yes (v : Value) (ds : List (List UInt8)) (H i : Nat) (w : World) (hv : SlD w v ds) (hl : ds.length = 2 ^ H) (hH : H ≤ 6) (hi : i < 2 ^ H) :
    Calls Tryd.prog 16 #[v, .int .i64 (i : Int)] w fun e w' => ∃ vo, e = .returned vo ∧ SlD w' vo (wayT ds i H) ∧ Ext w w' := by
  obtain ⟨A, c, rfl, hc⟩ := hv.form
  have Hy := Lib.hid (r8Levels_yes _ ds H w hv hl hH)
  have hlv := levels_length ds (H + 1)
  have Hl := Lib.hid hl
  have Hlv := Lib.hid hlv
  have hle := pow_le hH
  have H64 := Lib.hid (Nat.lt_of_lt_of_le hi hle)
  have Hi := Lib.hid hi
  clear hv hl hlv hi
  go_enter Tryd.func16, Tryd.ntmps16
  go_wp2_with fail
  with_reducible refine Hy.out.mono ?_
  rintro e w2 ⟨vo, rfl, S2, E2⟩
  obtain ⟨b, o, u, hA, hx1, hx2⟩ : ∃ b o u, vo = .slice (some ⟨b, o, none⟩) (H + 1) u ∧ True ∧ True := by
    obtain ⟨Ao, co, rfl, hco⟩ := S2.form
    obtain ⟨b, o, u, rfl, _⟩ := S2.at_ (k := 0) rfl (by rw [Hlv.out]; omega)
    exact ⟨b, o, co, by rw [Hlv.out], trivial, trivial⟩
  subst hA
  have HV := Lib.hid S2
  clear Hy S2 hx1 hx2
  have e1 : IntKind.i64.wrap (((H + 1 : Nat) : Int) - 1) = (H : Int) := by rw [IntWalk.i64_in _ (by omega)]; omega
  go_wp2
  go_loopw [1, 7, 8] (fun j out n wr => ∃ k : Nat, k ≤ H ∧ n = .int .i64 (k : Int) ∧ j = .int .i64 ((i / 2 ^ k : Nat) : Int) ∧ OwnD wr w2.heap.size out (wayT ds i k) ∧ Ext w2 wr) (fun _ _ n _ => H - (intOf n).toNat)
  case atStart => exact ⟨0, by omega, rfl, by simp, OwnD.none_ _ _, Ext.refl _⟩
  case round =>
    obtain ⟨k, hk, rfl, rfl, hO, E⟩ := hrel
    have hwl := wayT_length ds i k
    obtain ⟨Ao, co, rfl, hco⟩ := hO.form
    rw [hwl] at hO hco ⊢
    have HO := Lib.hid hO
    clear hO
    by_cases hlt : k < H
    · have hin := way_in Hl.out Hi.out hlt
      obtain ⟨b', o', u', hA, hcell, hu⟩ := (HV.out.ext E).at_ (k := k) Hlv.out.symm (by rw [Hlv.out]; omega)
      obtain ⟨rfl, rfl⟩ : b = b' ∧ o = o' := by simpa using hA
      have hge : (levels ds (H + 1))[k]'(by rw [Hlv.out]; omega) = lev ds k := by simp [levels]
      rw [hge] at hu
      obtain ⟨Au, cu, rfl, hcu⟩ := hu.form
      obtain ⟨bu, ou, rfl, hcd⟩ := hu.at_ hin
      have hld := hu.len hin
      have hws := wayT_succ ds i k
      rw [dAt_eq hin] at hws
      have hp2 : i / 2 ^ (k + 1) = i / 2 ^ k / 2 := by rw [Nat.pow_succ, ← Nat.div_div_eq_div_mul]
      have hpb0 : i / 2 ^ k ≤ 64 := by have := Nat.div_le_self i (2 ^ k); have := H64.out; omega
      obtain ⟨p, hp⟩ : ∃ p, p = i / 2 ^ k := ⟨_, rfl⟩
      obtain ⟨q, hq⟩ : ∃ q, q = bes p := ⟨_, rfl⟩
      obtain ⟨z, hz⟩ : ∃ z, z = (lev ds k)[bes (i / 2 ^ k)] := ⟨_, rfl⟩
      obtain ⟨n, hn⟩ : ∃ n, n = (lev ds k).length := ⟨_, rfl⟩
      rw [← hz] at hcd hld hws
      rw [← hp, ← hq] at hcd hin
      rw [← hp] at hpb0 hp2 ⊢
      rw [← hn] at hcell hcu hin
      unfold bes at hq
      have Hcd := Lib.hid hcd
      have Hld := Lib.hid hld
      have Hws := Lib.hid hws
      have Hp2 := Lib.hid hp2
      have Hwl := Lib.hid hwl
      have hsz := E.size
      have hqn : (q : Int) < (n : Int) := by omega
      clear hcd hld hws hp hz hn hge hu hA hp2 hwl hin
      by_cases h2 : p % 2 = 1
      · have hb : (((p : Int) % 2) == 1) = true := by rw [beq_iff_eq]; omega
        rw [if_pos h2] at hq
        have e2 : IntKind.i64.wrap ((p : Int) - 1) = (q : Int) := by rw [IntWalk.i64_in _ (by omega)]; omega
        have Hq := Lib.hid hq
        clear hq
        go_wp2_with (first | (refine wpList_load_dg Hcd.out Hld.out rfl _ rfl rfl ?_) | (refine wpList_build_dg z Hld.out rfl _ rfl rfl ?_; intro w6 E6 hs6 hnew; have HN6 := Lib.hid hnew; have HO6 := Lib.hid (HO.out.ext E6); clear hnew hs6) | (at_builtin; refine wpList_appD HO6.out Hld.out HN6.out rfl _ _ rfl rfl rfl (by rw [Hwl.out]; omega) (by have := E6.size; omega) ?_; intro v7 w7 ho7 hg7 hq7))
        have E7 := (E.trans E6).grown hg7 HO6.out.from
        rw [← Hws.out] at ho7
        go_roundw
        case rel => exact ⟨k + 1, hlt, by go_num, by rw [Hp2.out]; go_num, ho7, E7⟩
        case measure => simp [intOf]; omega
      · have hb : (((p : Int) % 2) == 1) = false := by rw [beq_eq_false_iff_ne]; omega
        rw [if_neg h2] at hq
        have e2 : IntKind.i64.wrap ((p : Int) + 1) = (q : Int) := by rw [IntWalk.i64_in _ (by omega)]; omega
        have Hq := Lib.hid hq
        clear hq
        go_wp2_with (first | (refine wpList_load_dg Hcd.out Hld.out rfl _ rfl rfl ?_) | (refine wpList_build_dg z Hld.out rfl _ rfl rfl ?_; intro w6 E6 hs6 hnew; have HN6 := Lib.hid hnew; have HO6 := Lib.hid (HO.out.ext E6); clear hnew hs6) | (at_builtin; refine wpList_appD HO6.out Hld.out HN6.out rfl _ _ rfl rfl rfl (by rw [Hwl.out]; omega) (by have := E6.size; omega) ?_; intro v7 w7 ho7 hg7 hq7))
        have E7 := (E.trans E6).grown hg7 HO6.out.from
        rw [← Hws.out] at ho7
        go_roundw
        case rel => exact ⟨k + 1, hlt, by go_num, by rw [Hp2.out]; go_num, ho7, E7⟩
        case measure => simp [intOf]; omega
    · obtain rfl : k = H := by omega
      clear hwl
      go_wp2
      go_ret
      exact ⟨_, rfl, HO.out.sl, E2.trans E⟩

set_option maxRecDepth 100000 in
set_option maxHeartbeats 400000 in
theorem r8Climb_no (x : List UInt8) (i : Int) (A : Option Addr) (n c : Nat) (w : World) (hno : climbOk n i = false) :
    Calls Tryd.prog 17 #[dgV x, .int .i64 i, .slice A n c] w fun e w' => e = .returned (.tuple #[.agg zb32, .int .i64 1]) ∧ Ext w w' := by
  have E0 : Ext w (w.alloc (.cells (bytesV x).toArray 30)) := (Ext.refl w).alloc _
  by_cases h6 : n ≤ 6
  · by_cases h0 : 0 ≤ i
    · have hi : (2 : Int) ^ n ≤ i := by simpa [climbOk, h6, h0] using hno
      obtain ⟨p, hp⟩ : ∃ p, p = (2 : Int) ^ n := ⟨_, rfl⟩
      have hw : wrap64 ((2 : Int) ^ n) = p := by rw [hp]; exact wrap_pow h6
      rw [← hp] at hi
      clear hno hp
      go_enter Tryd.func17, Tryd.ntmps17
      go_wp2_with (first | (refine wpList_alloc_blk rfl 30 rfl (.agg zb32) zero_a32 ?_; intro w1 hs1 hb1 he1; clear hs1; simp only [World.size_alloc] at hb1) | (refine wpList_build_to rfl 30 _ rfl zb32 (by kernel_rfl) ?_) | (refine wpList_store_blk rfl 30 _ _ rfl (w.heap.size + 1) zb32 rfl rfl 30 zb32 hb1 info_a32 rfl zb32_one ?_; intro w7 hs7 hb7 hg7))
      refine bodyPost_ret (v := .tuple #[.agg zb32, .int .i64 1]) (ret2_blk hb7 rfl rfl Tryd.underlying30 rfl info_a32 rfl) rfl ?_
      exact ⟨rfl, (E0.trans he1).grown hg7 (by simp)⟩
    · have hi : i < 0 := by omega
      clear hno
      go_enter Tryd.func17, Tryd.ntmps17
      go_wp2_with (first | (refine wpList_alloc_blk rfl 30 rfl (.agg zb32) zero_a32 ?_; intro w1 hs1 hb1 he1; clear hs1; simp only [World.size_alloc] at hb1) | (refine wpList_build_to rfl 30 _ rfl zb32 (by kernel_rfl) ?_) | (refine wpList_store_blk rfl 30 _ _ rfl (w.heap.size + 1) zb32 rfl rfl 30 zb32 hb1 info_a32 rfl zb32_one ?_; intro w7 hs7 hb7 hg7))
      refine bodyPost_ret (v := .tuple #[.agg zb32, .int .i64 1]) (ret2_blk hb7 rfl rfl Tryd.underlying30 rfl info_a32 rfl) rfl ?_
      exact ⟨rfl, (E0.trans he1).grown hg7 (by simp)⟩
  · have hi : (6 : Int) < (n : Int) := by omega
    clear hno
    go_enter Tryd.func17, Tryd.ntmps17
    go_wp2_with (first | (refine wpList_alloc_blk rfl 30 rfl (.agg zb32) zero_a32 ?_; intro w1 hs1 hb1 he1; clear hs1; simp only [World.size_alloc] at hb1) | (refine wpList_build_to rfl 30 _ rfl zb32 (by kernel_rfl) ?_) | (refine wpList_store_blk rfl 30 _ _ rfl (w.heap.size + 1) zb32 rfl rfl 30 zb32 hb1 info_a32 rfl zb32_one ?_; intro w7 hs7 hb7 hg7))
    refine bodyPost_ret (v := .tuple #[.agg zb32, .int .i64 1]) (ret2_blk hb7 rfl rfl Tryd.underlying30 rfl info_a32 rfl) rfl ?_
    exact ⟨rfl, (E0.trans he1).grown hg7 (by simp)⟩

set_option maxRecDepth 100000 in
set_option maxHeartbeats 1000000 in
theorem r8Climb_yes (x : List UInt8) (i : Nat) (v : Value) (ds : List (List UInt8)) (w : World) (hx : x.length = 32) (hv : SlD w v ds) (hn : ds.length ≤ 6) (hi : i < 2 ^ ds.length) :
    Calls Tryd.prog 17 #[dgV x, .int .i64 (i : Int), v] w fun e w' => e = .returned (.tuple #[dgV (climbB x i ds), .int .i64 0]) ∧ Ext w w' := by
  obtain ⟨A, c, rfl, hc⟩ := hv.form
  have hB0 := Blk.new w 30 (bytesV x).toArray
  have E0 : Ext w (w.alloc (.cells (bytesV x).toArray 30)) := (Ext.refl w).alloc _
  have hle := pow_le hn
  obtain ⟨p, hp⟩ : ∃ p, p = (2 : Int) ^ ds.length := ⟨_, rfl⟩
  have hw : wrap64 ((2 : Int) ^ ds.length) = p := by rw [hp]; exact wrap_pow hn
  have hip : (i : Int) < p := by rw [hp]; exact_mod_cast hi
  have Hx := Lib.hid hx
  have HV := Lib.hid hv
  have H64 := Lib.hid (Nat.lt_of_lt_of_le hi hle)
  have ix : Hid ((Tryd.prog.info? 30).map (·.size) = some (bytesV x).toArray.size) := dg_i x Hx.out
  have sx : Hid (zb32.size = (bytesV x).toArray.size) := zb32_size _ Hx.out
  clear hv hx hp hi hle
  go_enter Tryd.func17, Tryd.ntmps17
  go_wp2_with (first | (refine wpList_load_blk (hB0.ext he1) rfl 30 _ rfl rfl Tryd.underlying30 rfl ix.out ?_) | (have _ := he1; refine wpList_var rfl rfl 30 rfl _ _ rfl (.agg zb32) zero_a32 (bytesV x).toArray rfl rfl ix.out sx.out (bytes_one _) ?_; intro w4 D4 E4) | (refine wpList_alloc_blk rfl 30 rfl (.agg zb32) zero_a32 ?_; intro w1 hs1 hb1 he1; simp only [World.size_alloc] at hb1 hs1))
  rw [hs1] at D4
  have HX4 := Lib.hid D4
  have HZ4 := Lib.hid (hb1.ext E4)
  have F4 := (E0.trans he1).trans E4
  clear hb1 hB0 he1 hip hw D4 E4 E0
  go_wp2
  go_loopw [1, 9] (fun j n wr => ∃ k : Nat, k ≤ ds.length ∧ n = .int .i64 (k : Int) ∧ j = .int .i64 ((i / 2 ^ k : Nat) : Int) ∧ Blk wr (w.heap.size + 1 + 1) 30 (bytesV (climbB x i (ds.take k))).toArray ∧ Blk wr (w.heap.size + 1) 30 zb32 ∧ Ext w wr) (fun _ n _ => ds.length - (intOf n).toNat)
  case atStart => exact ⟨0, by omega, rfl, by simp, by simpa [climbB] using HX4.out, HZ4.out, F4⟩
  case round =>
    obtain ⟨k, hk, rfl, rfl, hB, hZ, E⟩ := hrel
    clear HX4 HZ4 F4
    have hcl := climbB_length (ds.take k) x i Hx.out
    by_cases hlt : k < ds.length
    · obtain ⟨b, o, rfl, hcd⟩ := (HV.out.ext E).at_ hlt
      have hld := HV.out.len hlt
      have hstep := climb_take (x := x) (i := i) hlt
      have hp2 : i / 2 ^ (k + 1) = i / 2 ^ k / 2 := by rw [Nat.pow_succ, ← Nat.div_div_eq_div_mul]
      obtain ⟨q, hq⟩ : ∃ q, q = i / 2 ^ k := ⟨_, rfl⟩
      obtain ⟨z, hz⟩ : ∃ z, z = ds[k] := ⟨_, rfl⟩
      obtain ⟨y, hy⟩ : ∃ y, y = climbB x i (ds.take k) := ⟨_, rfl⟩
      have hqb : q ≤ 64 := by have := Nat.div_le_self i (2 ^ k); have := H64.out; omega
      rw [← hq, ← hz, ← hy] at hstep
      rw [← hz] at hcd hld
      rw [← hy] at hB hcl
      rw [← hq] at hp2 ⊢
      have Hcd := Lib.hid hcd
      have Hld := Lib.hid hld
      have Hcl := Lib.hid hcl
      have Hst := Lib.hid hstep
      have Hp2 := Lib.hid hp2
      have HB := Lib.hid hB
      have HZ := Lib.hid hZ
      clear hcd hld hcl hstep hq hz hy hp2 hB hZ
      by_cases h2 : q % 2 = 0
      · have hb : (((q : Int) % 2) == 0) = true := by rw [beq_iff_eq]; omega
        have Hnd := Lib.hid (fun w' => r8Node_any y z Hcl.out Hld.out w')
        have hnl := nodeB_length y z
        rw [if_pos h2] at Hst
        obtain ⟨r, hr⟩ : ∃ r, r = nodeB y z := ⟨_, rfl⟩
        rw [← hr] at Hnd hnl Hst
        have ir : Hid ((Tryd.prog.info? 30).map (·.size) = some (bytesV r).toArray.size) := dg_i r hnl
        have sr : Hid ((bytesV y).toArray.size = (bytesV r).toArray.size) := by show _ = _; simp [bytesV_length, Hcl.out, hnl]
        clear hr hnl
        go_wp2
        refine wp_region_chain 6 [(true, 0), (true, 1), (true, 2), (true, 3), (true, 4), (false, 5)] (fun w' => Ext wr w') (by kernel_rfl) (by kernel_rfl) (Ext.refl wr).drew ?_
        refine wpTake_load _ _ rfl rfl 30 _ rfl (.agg (bytesV y).toArray) (fun wS hS => run_load_dg (cells_blk (HB.out.ext hS)) Hcl.out) ?_
        simp only [Act.put, List.setIfInBounds_toArray, List.set_cons_zero, List.set_cons_succ]
        iterate 3
          refine wpTake_read _ _ ?_ rfl rfl ?_ ?_
          rotate_left 1
          focus
            intro wS hS
            clear hS
            go_simp
            first | done | with_reducible rfl
          simp only [Act.put, List.setIfInBounds_toArray, List.set_cons_zero, List.set_cons_succ]
        refine wpTake_load _ _ rfl rfl 30 _ rfl (.agg (bytesV z).toArray) (fun wS hS => run_load_dg (Hcd.out.ext hS) Hld.out) ?_
        simp only [Act.put, List.setIfInBounds_toArray, List.set_cons_zero, List.set_cons_succ]
        refine wpTake_do _ _ rfl rfl (fun K hK' => ?_)
        go_simp
        refine (Hnd.out _).mono ?_
        rintro e w5 ⟨rfl, E5⟩
        have E05 : Ext wr w5 := (Ext.refl wr).drew.trans E5
        refine hK' _ _ E05 ?_
        clear hK' K
        refine wpTake_nil ?_
        simp only [List.drop_succ_cons, List.drop_zero]
        have HB5 := Lib.hid (HB.out.ext E05)
        have HZ5 := Lib.hid (HZ.out.ext E05)
        have F5 := E.trans E05
        clear HB HZ E5 E05
        go_wp2_with (first | (refine wpList_store_blk rfl 30 _ _ rfl (w.heap.size + 1 + 1) (bytesV r).toArray rfl rfl 30 _ HB5.out ir.out sr.out (bytes_one _) ?_; intro w7 hs7 hb7 hg7))
        refine NoPanic.normal ?_
        go_wp2
        go_roundw
        case rel => exact ⟨k + 1, hlt, by go_num, by rw [Hp2.out]; go_num, by rw [Hst.out]; exact hb7, HZ5.out.grown hg7 (by simp), F5.grown hg7 (by simp; omega)⟩
        case measure => simp [intOf]; omega
      · have hb : (((q : Int) % 2) == 0) = false := by rw [beq_eq_false_iff_ne]; omega
        have Hnd := Lib.hid (fun w' => r8Node_any z y Hld.out Hcl.out w')
        have hnl := nodeB_length z y
        rw [if_neg h2] at Hst
        obtain ⟨r, hr⟩ : ∃ r, r = nodeB z y := ⟨_, rfl⟩
        rw [← hr] at Hnd hnl Hst
        have ir : Hid ((Tryd.prog.info? 30).map (·.size) = some (bytesV r).toArray.size) := dg_i r hnl
        have sr : Hid ((bytesV y).toArray.size = (bytesV r).toArray.size) := by show _ = _; simp [bytesV_length, Hcl.out, hnl]
        clear hr hnl
        go_wp2
        refine wp_region_chain 6 [(true, 0), (true, 1), (true, 2), (true, 3), (true, 4), (false, 5)] (fun w' => Ext wr w') (by kernel_rfl) (by kernel_rfl) (Ext.refl wr).drew ?_
        iterate 3
          refine wpTake_read _ _ ?_ rfl rfl ?_ ?_
          rotate_left 1
          focus
            intro wS hS
            clear hS
            go_simp
            first | done | with_reducible rfl
          simp only [Act.put, List.setIfInBounds_toArray, List.set_cons_zero, List.set_cons_succ]
        refine wpTake_load _ _ rfl rfl 30 _ rfl (.agg (bytesV z).toArray) (fun wS hS => run_load_dg (Hcd.out.ext hS) Hld.out) ?_
        simp only [Act.put, List.setIfInBounds_toArray, List.set_cons_zero, List.set_cons_succ]
        refine wpTake_load _ _ rfl rfl 30 _ rfl (.agg (bytesV y).toArray) (fun wS hS => run_load_dg (cells_blk (HB.out.ext hS)) Hcl.out) ?_
        simp only [Act.put, List.setIfInBounds_toArray, List.set_cons_zero, List.set_cons_succ]
        refine wpTake_do _ _ rfl rfl (fun K hK' => ?_)
        go_simp
        refine (Hnd.out _).mono ?_
        rintro e w5 ⟨rfl, E5⟩
        have E05 : Ext wr w5 := (Ext.refl wr).drew.trans E5
        refine hK' _ _ E05 ?_
        clear hK' K
        refine wpTake_nil ?_
        simp only [List.drop_succ_cons, List.drop_zero]
        have HB5 := Lib.hid (HB.out.ext E05)
        have HZ5 := Lib.hid (HZ.out.ext E05)
        have F5 := E.trans E05
        clear HB HZ E5 E05
        go_wp2_with (first | (refine wpList_store_blk rfl 30 _ _ rfl (w.heap.size + 1 + 1) (bytesV r).toArray rfl rfl 30 _ HB5.out ir.out sr.out (bytes_one _) ?_; intro w7 hs7 hb7 hg7))
        refine NoPanic.normal ?_
        go_wp2
        go_roundw
        case rel => exact ⟨k + 1, hlt, by go_num, by rw [Hp2.out]; go_num, by rw [Hst.out]; exact hb7, HZ5.out.grown hg7 (by simp), F5.grown hg7 (by simp; omega)⟩
        case measure => simp [intOf]; omega
    · obtain rfl : k = ds.length := by omega
      rw [List.take_length] at hB hcl
      obtain ⟨y, hy⟩ : ∃ y, y = climbB x i ds := ⟨_, rfl⟩
      rw [← hy] at hB hcl
      have Hy := Lib.hid hy
      have iy : Hid ((Tryd.prog.info? 30).map (·.size) = some (bytesV y).toArray.size) := dg_i y hcl
      have sy : Hid (zb32.size = (bytesV y).toArray.size) := zb32_size _ hcl
      clear hy
      go_wp2_with (first | (refine wpList_load_blk hB rfl 30 _ rfl rfl Tryd.underlying30 rfl iy.out ?_) | (refine wpList_store_blk rfl 30 _ _ rfl (w.heap.size + 1) (bytesV y).toArray rfl rfl 30 zb32 hZ iy.out sy.out (bytes_one _) ?_; intro w7 hs7 hb7 hg7))
      refine bodyPost_ret (v := .tuple #[dgV y, .int .i64 0]) (ret2_blk hb7 rfl rfl Tryd.underlying30 rfl iy.out rfl) rfl ?_
      exact ⟨by rw [Hy.out], E.grown hg7 (by simp)⟩
end Go.Proofs.YtafjnlikmjahfaaDoor
