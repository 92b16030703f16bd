/- merkle.Climb by a way that may be climbed; the reference's Climb. -/
import Derived.Test.YtafjnlikmjahfaaDoorMerD
namespace Go.Proofs.YtafjnlikmjahfaaDoor
open Go.RowKit

theorem climb_take {x : List UInt8} {i : Nat} {ds : List (List UInt8)} {k : Nat} (h : k < ds.length) :
    climbB x i (ds.take (k + 1)) = if (i / 2 ^ k) % 2 = 0 then nodeB (climbB x i (ds.take k)) ds[k] else nodeB ds[k] (climbB x i (ds.take k)) := by
  rw [List.take_succ_eq_append_getElem h, climbB_snoc, List.length_take, Nat.min_eq_left (by omega)]

set_option maxRecDepth 100000 in
set_option maxHeartbeats 1000000 in
theorem mClimb_yes (x : List UInt8) (i : Nat) (v : Value) (ds : List (List UInt8)) (w : World) (hK : Kst w) (hx : x.length = 32) (hv : SlD w v ds) (hn : ds.length ≤ 6) (hi : i < 2 ^ ds.length) :
    Calls Tryd.prog 15 #[dgV x, .int .i64 (i : Int), v] w fun e w' => e = .returned (.tuple #[dgV (climbB x i ds), .int .i64 0]) ∧ Ext w w' := by
  obtain ⟨A, c, rfl, hc⟩ := hv.form
  have hB0 := Blk.new w 30 (bytesV x).toArray
  have E0 : Ext w (w.alloc (.cells (bytesV x).toArray 30)) := (Ext.refl w).alloc _
  have hle := pow_le hn
  obtain ⟨p, hp⟩ : ∃ p, p = (2 : Int) ^ ds.length := ⟨_, rfl⟩
  have hw : wrap64 ((2 : Int) ^ ds.length) = p := by rw [hp]; exact wrap_pow hn
  have hip : (i : Int) < p := by rw [hp]; exact_mod_cast hi
  have Hx := Lib.hid hx
  have HV := Lib.hid hv
  have HB0 := Lib.hid hB0
  have Hi := Lib.hid hi
  have H64 := Lib.hid (Nat.lt_of_lt_of_le hi hle)
  clear hv hx hB0 hp hi hle
  go_enter Tryd.func15, Tryd.ntmps15
  go_wp2_with (first | (refine wpList_alloc_blk rfl 30 rfl (.agg zb32) zero_a32 ?_; intro w1 hs1 hb1 he1; clear hs1; simp only [World.size_alloc] at hb1))
  have HB1 := Lib.hid (HB0.out.ext he1)
  have HZ1 := Lib.hid hb1
  have E1 := E0.trans he1
  clear hb1 HB0 he1 hip hw
  go_loopw [1, 27] (fun j n wr => ∃ k : Nat, k ≤ ds.length ∧ n = .int .i64 (k : Int) ∧ j = .int .i64 ((i / 2 ^ k : Nat) : Int) ∧ Blk wr w.heap.size 30 (bytesV (climbB x i (ds.take k))).toArray ∧ Blk wr (w.heap.size + 1) 30 zb32 ∧ Ext w wr) (fun _ n _ => ds.length - (intOf n).toNat)
  case atStart => exact ⟨0, by omega, rfl, by simp, by simpa [climbB] using HB1.out, HZ1.out, E1⟩
  case round =>
    obtain ⟨k, hk, rfl, rfl, hB, hZ, E⟩ := hrel
    clear HB1 HZ1 E1
    have hcl := climbB_length (ds.take k) x i Hx.out
    by_cases hlt : k < ds.length
    · obtain ⟨b, o, rfl, hcd⟩ := (HV.out.ext E).at_ hlt
      have hld := HV.out.len hlt
      have hstep := climb_take (x := x) (i := i) hlt
      have hp2 : i / 2 ^ (k + 1) = i / 2 ^ k / 2 := by rw [Nat.pow_succ, ← Nat.div_div_eq_div_mul]
      obtain ⟨q, hq⟩ : ∃ q, q = i / 2 ^ k := ⟨_, rfl⟩
      obtain ⟨z, hz⟩ : ∃ z, z = ds[k] := ⟨_, rfl⟩
      obtain ⟨y, hy⟩ : ∃ y, y = climbB x i (ds.take k) := ⟨_, rfl⟩
      have hqb : q ≤ 64 := by have := Nat.div_le_self i (2 ^ k); have := H64.out; omega
      rw [← hq, ← hz, ← hy] at hstep
      rw [← hz] at hcd hld
      rw [← hy] at hB hcl
      rw [← hq] at hp2 ⊢
      have Hcd := Lib.hid hcd
      have Hld := Lib.hid hld
      have Hcl := Lib.hid hcl
      have Hst := Lib.hid hstep
      have Hp2 := Lib.hid hp2
      have iz : Hid ((Tryd.prog.info? 30).map (·.size) = some (bytesV z).toArray.size) := dg_i z Hld.out
      have sz : Hid (zb32.size = (bytesV z).toArray.size) := zb32_size _ Hld.out
      have iy : Hid ((Tryd.prog.info? 30).map (·.size) = some (bytesV y).toArray.size) := dg_i y Hcl.out
      clear hcd hld hcl hstep hq hz hy hp2
      by_cases h2 : q % 2 = 0
      · have hb : (((q : Int) % 2) == 0) = true := by rw [beq_iff_eq]; omega
        have Hnd := Lib.hid (fun w' (E' : Ext w w') => mNode_any y z Hcl.out Hld.out w' (hK.ext E'))
        have hnl := nodeB_length y z
        rw [if_pos h2] at Hst
        obtain ⟨r, hr⟩ : ∃ r, r = nodeB y z := ⟨_, rfl⟩
        rw [← hr] at Hnd hnl Hst
        have ir : Hid ((Tryd.prog.info? 30).map (·.size) = some (bytesV r).toArray.size) := dg_i r hnl
        have sr : Hid ((bytesV y).toArray.size = (bytesV r).toArray.size) := by show _ = _; simp [bytesV_length, Hcl.out, hnl]
        clear hr hnl
        go_wp2_with (first | (refine wpList_load_dg Hcd.out Hld.out rfl _ rfl rfl ?_) | (refine wpList_var rfl rfl 30 rfl _ _ rfl (.agg zb32) zero_a32 (bytesV z).toArray rfl rfl iz.out sz.out (bytes_one _) ?_; intro w4 D4 E4; have HB4 := Lib.hid (hB.ext E4); have HZ4 := Lib.hid (hZ.ext E4); have F4 := E.trans E4) | (refine wpList_load_blk HB4.out rfl 30 _ rfl rfl Tryd.underlying30 rfl iy.out ?_) | (refine wpList_load_blk D4 rfl 30 _ rfl rfl Tryd.underlying30 rfl iz.out ?_))
        with_reducible refine (Hnd.out _ F4).mono ?_
        rintro e w5 ⟨rfl, E5⟩
        have HB5 := Lib.hid (HB4.out.ext E5)
        have HZ5 := Lib.hid (HZ4.out.ext E5)
        have F5 := F4.trans E5
        clear HB4 HZ4 hB hZ E4 E5 D4 F4
        go_wp2_with (first | (refine wpList_store_blk rfl 30 _ _ rfl w.heap.size (bytesV r).toArray rfl rfl 30 _ HB5.out ir.out sr.out (bytes_one _) ?_; intro w7 hs7 hb7 hg7))
        go_roundw
        case rel => exact ⟨k + 1, hlt, by go_num, by rw [Hp2.out]; go_num, by rw [Hst.out]; exact hb7, HZ5.out.grown hg7 (by simp), F5.grown hg7 (by simp)⟩
        case measure => simp [intOf]; omega
      · have hb : (((q : Int) % 2) == 0) = false := by rw [beq_eq_false_iff_ne]; omega
        have Hnd := Lib.hid (fun w' (E' : Ext w w') => mNode_any z y Hld.out Hcl.out w' (hK.ext E'))
        have hnl := nodeB_length z y
        rw [if_neg h2] at Hst
        obtain ⟨r, hr⟩ : ∃ r, r = nodeB z y := ⟨_, rfl⟩
        rw [← hr] at Hnd hnl Hst
        have ir : Hid ((Tryd.prog.info? 30).map (·.size) = some (bytesV r).toArray.size) := dg_i r hnl
        have sr : Hid ((bytesV y).toArray.size = (bytesV r).toArray.size) := by show _ = _; simp [bytesV_length, Hcl.out, hnl]
        clear hr hnl
        go_wp2_with (first | (refine wpList_load_dg Hcd.out Hld.out rfl _ rfl rfl ?_) | (refine wpList_var rfl rfl 30 rfl _ _ rfl (.agg zb32) zero_a32 (bytesV z).toArray rfl rfl iz.out sz.out (bytes_one _) ?_; intro w4 D4 E4; have HB4 := Lib.hid (hB.ext E4); have HZ4 := Lib.hid (hZ.ext E4); have F4 := E.trans E4) | (refine wpList_load_blk HB4.out rfl 30 _ rfl rfl Tryd.underlying30 rfl iy.out ?_) | (refine wpList_load_blk D4 rfl 30 _ rfl rfl Tryd.underlying30 rfl iz.out ?_))
        with_reducible refine (Hnd.out _ F4).mono ?_
        rintro e w5 ⟨rfl, E5⟩
        have HB5 := Lib.hid (HB4.out.ext E5)
        have HZ5 := Lib.hid (HZ4.out.ext E5)
        have F5 := F4.trans E5
        clear HB4 HZ4 hB hZ E4 E5 D4 F4
        go_wp2_with (first | (refine wpList_store_blk rfl 30 _ _ rfl w.heap.size (bytesV r).toArray rfl rfl 30 _ HB5.out ir.out sr.out (bytes_one _) ?_; intro w7 hs7 hb7 hg7))
        go_roundw
        case rel => exact ⟨k + 1, hlt, by go_num, by rw [Hp2.out]; go_num, by rw [Hst.out]; exact hb7, HZ5.out.grown hg7 (by simp), F5.grown hg7 (by simp)⟩
        case measure => simp [intOf]; omega
    · obtain rfl : k = ds.length := by omega
      rw [List.take_length] at hB hcl
      obtain ⟨y, hy⟩ : ∃ y, y = climbB x i ds := ⟨_, rfl⟩
      rw [← hy] at hB hcl
      have Hy := Lib.hid hy
      have iy : Hid ((Tryd.prog.info? 30).map (·.size) = some (bytesV y).toArray.size) := dg_i y hcl
      have sy : Hid (zb32.size = (bytesV y).toArray.size) := zb32_size _ hcl
      clear hy
      go_wp2_with (first | (refine wpList_load_blk hB rfl 30 _ rfl rfl Tryd.underlying30 rfl iy.out ?_) | (refine wpList_store_blk rfl 30 _ _ rfl (w.heap.size + 1) (bytesV y).toArray rfl rfl 30 zb32 hZ iy.out sy.out (bytes_one _) ?_; intro w7 hs7 hb7 hg7))
      refine bodyPost_ret (v := .tuple #[dgV y, .int .i64 0]) (ret2_blk hb7 rfl rfl Tryd.underlying30 rfl iy.out rfl) rfl ?_
      exact ⟨by rw [Hy.out], E.grown hg7 (by simp)⟩
end Go.Proofs.YtafjnlikmjahfaaDoor
