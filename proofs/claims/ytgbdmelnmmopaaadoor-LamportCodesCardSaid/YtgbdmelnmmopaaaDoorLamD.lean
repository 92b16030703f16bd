/- lamport: a leaf's key's digest: contracts of Leaf of both. -/
import Derived.Test.YtgbdmelnmmopaaaDoorLamC
namespace Go.Proofs.YtgbdmelnmmopaaaDoor
open Go.RowKit

/-- the sums of both sides of the first k bits -/
def leafS (seed : List UInt8) (leaf k : Nat) : List UInt8 := ((List.range k).map fun b => sumB (secB seed leaf b 0) ++ sumB (secB seed leaf b 1)).flatten
def leafB (seed : List UInt8) (leaf bits : Nat) : List UInt8 := digB (leafS seed leaf bits)
theorem leafB_length (seed : List UInt8) (leaf bits : Nat) : (leafB seed leaf bits).length = 32 := digB_length _
theorem leafS_succ (seed : List UInt8) (leaf k : Nat) : leafS seed leaf (k + 1) = leafS seed leaf k ++ (sumB (secB seed leaf k 0) ++ sumB (secB seed leaf k 1)) := by
  simp [leafS, List.range_succ]
theorem leafS_length (seed : List UInt8) (leaf k : Nat) : (leafS seed leaf k).length = 64 * k := by
  induction k with
  | zero => rfl
  | succ k ih => rw [leafS_succ]; simp [ih, sumB_length]; omega
/-- as the reference goes -/
def leafR (seed : List UInt8) (leaf k : Nat) : List UInt8 := ((List.range k).map fun j => sumB (secB seed leaf (j / 2) (j % 2))).flatten
theorem leafR_succ (seed : List UInt8) (leaf k : Nat) : leafR seed leaf (k + 1) = leafR seed leaf k ++ sumB (secB seed leaf (k / 2) (k % 2)) := by
  simp [leafR, List.range_succ]
theorem leafR_length (seed : List UInt8) (leaf k : Nat) : (leafR seed leaf k).length = 32 * k := by
  induction k with
  | zero => rfl
  | succ k ih => rw [leafR_succ]; simp [ih, sumB_length]; omega
theorem leafR_all (seed : List UInt8) (leaf k : Nat) : leafR seed leaf (2 * k) = leafS seed leaf k := by
  induction k with
  | zero => simp [leafR, leafS]
  | succ k ih =>
    rw [show 2 * (k + 1) = 2 * k + 1 + 1 by omega, leafR_succ, leafR_succ, leafS_succ, ih]
    rw [show (2 * k) / 2 = k by omega, show (2 * k) % 2 = 0 by omega, show (2 * k + 1) / 2 = k by omega, show (2 * k + 1) % 2 = 1 by omega, List.append_assoc]

theorem Ext.below {a b c : World} (h : Ext a b) (k : Below a.heap.size b c) : Ext a c := Below.trans h k

set_option maxRecDepth 100000 in
set_option maxHeartbeats 1000000 in
theorem lLeaf_no (sv : Value) (seed : List UInt8) (la ba : Int) (w : World) (hv : Sl w sv seed) (hno : mayB ba = false ∨ (mayB ba = true ∧ keyB seed.length la = false)) :
    Calls Tryd.prog 10 #[sv, .int .i64 la, .int .i64 ba] w fun e w' => e = .returned (.tuple #[.agg zb32, .int .i64 1]) ∧ Ext w w' := by
  obtain ⟨A, c, rfl, hc⟩ := hv.form
  clear hv
  have Hm := fun w => Lib.hid (lMay_any ba w)
  have Hk := fun w => Lib.hid (lkey_any A seed.length c la w)
  rcases hno with hm | ⟨hm, hk⟩
  · rw [hm] at Hm
    clear hm
    go_enter Tryd.func10, Tryd.ntmps10
    go_wp2_with (first | (refine wpList_alloc_blk rfl 30 rfl (.agg zb32) zero_a32 ?_; intro w1 hs1 hb1 he1; clear hs1))
    refine ((Hm _).out).mono ?_
    rintro e w1' ⟨rfl, rfl⟩
    go_wp2_with (first | (refine wpList_build_to rfl 30 _ rfl zb32 (by kernel_rfl) ?_) | (refine wpList_store_blk rfl 30 _ _ rfl w.heap.size zb32 rfl rfl 30 zb32 hb1 info_a32 rfl zb32_one ?_; intro w7 hs7 hb7 hg7))
    refine bodyPost_ret (v := .tuple #[.agg zb32, .int .i64 1]) (ret2_blk hb7 rfl rfl Tryd.underlying30 rfl info_a32 rfl) rfl ?_
    exact ⟨rfl, he1.grown hg7 (by simp)⟩
  · rw [hm] at Hm
    rw [hk] at Hk
    clear hm hk
    go_enter Tryd.func10, Tryd.ntmps10
    go_wp2_with (first | (refine wpList_alloc_blk rfl 30 rfl (.agg zb32) zero_a32 ?_; intro w1 hs1 hb1 he1; clear hs1))
    refine ((Hm _).out).mono ?_
    rintro e w1' ⟨rfl, rfl⟩
    go_wp2_with fail
    refine ((Hk _).out).mono ?_
    rintro e w1' ⟨rfl, rfl⟩
    go_wp2_with (first | (refine wpList_build_to rfl 30 _ rfl zb32 (by kernel_rfl) ?_) | (refine wpList_store_blk rfl 30 _ _ rfl w.heap.size zb32 rfl rfl 30 zb32 hb1 info_a32 rfl zb32_one ?_; intro w7 hs7 hb7 hg7))
    refine bodyPost_ret (v := .tuple #[.agg zb32, .int .i64 1]) (ret2_blk hb7 rfl rfl Tryd.underlying30 rfl info_a32 rfl) rfl ?_
    exact ⟨rfl, he1.grown hg7 (by simp)⟩

set_option maxRecDepth 100000 in
set_option maxHeartbeats 2000000 in
theorem lLeaf_yes (sv : Value) (seed : List UInt8) (la ba : Int) (w : World) (hK : Kst w) (hv : Sl w sv seed) (hm : mayB ba = true) (hk : keyB seed.length la = true) :
    Calls Tryd.prog 10 #[sv, .int .i64 la, .int .i64 ba] w fun e w' => e = .returned (.tuple #[dgV (leafB seed la.toNat ba.toNat), .int .i64 0]) ∧ Ext w w' := by
  obtain ⟨A, c, rfl, hc⟩ := hv.form
  have HV := Lib.hid hv
  clear hv
  obtain ⟨hm1, hm2, hm3⟩ := (mayB_iff _).1 hm
  obtain ⟨hk1, hk2, hk3⟩ := (keyB_iff _ _).1 hk
  have Hm := fun w => Lib.hid (lMay_any ba w)
  have Hk := fun w => Lib.hid (lkey_any A seed.length c la w)
  rw [hm] at Hm
  rw [hk] at Hk
  clear hm hk hm3
  obtain ⟨leaf, rfl⟩ := Int.eq_ofNat_of_zero_le hk2
  obtain ⟨bits, rfl⟩ := Int.eq_ofNat_of_zero_le (show 0 ≤ ba by omega)
  simp only [Int.toNat_natCast]
  have hl := leafB_length seed leaf bits
  obtain ⟨z, hz⟩ : ∃ z, z = leafB seed leaf bits := ⟨_, rfl⟩
  rw [← hz] at hl ⊢
  have Hl := Lib.hid hl
  have Hz := Lib.hid hz
  clear hz hl
  have hz32 : Hid (zb32.size = (bytesV z).toArray.size) := zb32_size _ Hl.out
  have hi32 : Hid ((Tryd.prog.info? 30).map (·.size) = some (bytesV z).toArray.size) := by rw [List.size_toArray, bytesV_length, Hl.out]; exact info_a32
  go_enter Tryd.func10, Tryd.ntmps10
  go_wp2_with (first | (refine wpList_alloc_blk rfl 30 rfl (.agg zb32) zero_a32 ?_; intro w1 hs1 hb1 he1; clear hs1))
  refine ((Hm _).out).mono ?_
  rintro e w1' ⟨rfl, rfl⟩
  go_wp2_with fail
  refine ((Hk _).out).mono ?_
  rintro e w1' ⟨rfl, rfl⟩
  clear Hm Hk
  go_wp2
  have hg0 : Blk (w1.alloc (.cells #[.slice none 0 0] 56)) w1.heap.size 56 #[.slice none 0 0] := Blk.new w1 _ _
  have E0 : Ext w1 (w1.alloc (.cells #[.slice none 0 0] 56)) := (Ext.refl w1).alloc _
  have hlw : w.heap.size < w1.heap.size := hb1.lt
  go_loopw [23] (fun i wr => ∃ k : Nat, k ≤ bits ∧ i = .int .i64 k ∧ (∃ v, Blk wr w1.heap.size 56 #[v] ∧ Own wr w1.heap.size v (leafS seed leaf k)) ∧ Ext w1 wr) (fun i _ => bits - (intOf i).toNat)
  case atStart => exact ⟨0, by omega, rfl, ⟨_, hg0, Own.none_ _ _⟩, E0⟩
  case round =>
    clear hg0 E0
    obtain ⟨k, hkb, rfl, ⟨v, hB, hO⟩, E⟩ := hrel
    have HB := Lib.hid hB
    have HO := Lib.hid hO
    have hlen := leafS_length seed leaf k
    have Hlen := Lib.hid hlen
    clear hB hO hlen
    have Ew := he1.trans E
    by_cases hlt : k < bits
    · have s0 := secB_length seed leaf k 0
      have s1 := secB_length seed leaf k 1
      have Hc0 := Lib.hid (fun w' (E' : Ext w w') => lsecret_any (.slice A seed.length c) seed (leaf : Int) (k : Int) 0 leaf k 0 rfl rfl rfl w' (hK.ext E') (HV.out.ext E') (by omega) (by omega) (by omega) (by omega))
      have Hc1 := Lib.hid (fun w' (E' : Ext w w') => lsecret_any (.slice A seed.length c) seed (leaf : Int) (k : Int) 1 leaf k 1 rfl rfl rfl w' (hK.ext E') (HV.out.ext E') (by omega) (by omega) (by omega) (by omega))
      obtain ⟨z0, hz0⟩ : ∃ z, z = secB seed leaf k 0 := ⟨_, rfl⟩
      obtain ⟨z1, hz1⟩ : ∃ z, z = secB seed leaf k 1 := ⟨_, rfl⟩
      rw [← hz0] at Hc0 s0
      rw [← hz1] at Hc1 s1
      have Hz0 := Lib.hid hz0
      have Hz1 := Lib.hid hz1
      have S0 := Lib.hid s0
      have S1 := Lib.hid s1
      clear hz0 hz1 s0 s1
      go_wp2_with fail
      refine (Hc0.out _ Ew).mono ?_
      rintro e w2 ⟨rfl, E2⟩
      go_wp2_with fail
      refine (lsum_any z0 S0.out w2 (hK.ext (Ew.trans E2))).mono ?_
      rintro e w3 ⟨rfl, E3⟩
      have E13 := E2.trans E3
      clear E2 E3
      go_wp2_with fail
      refine (Hc1.out _ (Ew.trans E13)).mono ?_
      rintro e w4 ⟨rfl, E4⟩
      have E14 := E13.trans E4
      clear E13 E4
      go_wp2_with fail
      refine (lsum_any z1 S1.out w4 (hK.ext (Ew.trans E14))).mono ?_
      rintro e w5 ⟨rfl, E5⟩
      have E15 := E14.trans E5
      clear E14 E5
      go_wp2_with fail
      refine (ladd_any w1.heap.size w1.heap.size v (leafS seed leaf k) (sumB z0) (sumB z1) w5 (HB.out.ext E15) (HO.out.ext E15) (Nat.le_refl _) (sumB_length _) (sumB_length _) (by rw [Hlen.out]; omega)).mono ?_
      rintro e w6 ⟨rfl, v', hB6, hO6, hb6⟩
      have E6 : Ext w1 w6 := (E.trans E15).below hb6
      have hO6' : Own w6 w1.heap.size v' (leafS seed leaf (k + 1)) := by rw [leafS_succ, ← Hz0.out, ← Hz1.out]; exact hO6
      have HB6 := Lib.hid hB6
      have HO6 := Lib.hid hO6'
      clear hB6 hO6 hO6' hb6
      go_wp2
      go_roundw
      case rel => exact ⟨k + 1, by omega, by go_num, ⟨v', HB6.out, HO6.out⟩, E6⟩
      case measure => simp [intOf]; omega
    · obtain rfl : k = bits := by omega
      have Hc := Lib.hid (ldigest_any w1.heap.size v (leafS seed leaf k) wr (hK.ext Ew) HB.out HO.out.sl (by rw [Hlen.out]; omega))
      rw [show digB (leafS seed leaf k) = z from Hz.out.symm] at Hc
      go_wp2_with fail
      refine Hc.out.mono ?_
      rintro e w3 ⟨rfl, E3⟩
      have B3 := hb1.ext (E.trans E3)
      go_wp2_with (first | (refine wpList_store_blk rfl 30 _ _ rfl w.heap.size (bytesV z).toArray rfl rfl 30 zb32 B3 hi32.out hz32.out (bytes_one _) ?_; intro w7 hs7 hb7 hg7))
      refine bodyPost_ret (v := .tuple #[dgV z, .int .i64 0]) (ret2_blk hb7 rfl rfl Tryd.underlying30 rfl hi32.out rfl) rfl ?_
      exact ⟨rfl, (Ew.trans E3).grown hg7 (by simp)⟩

set_option maxRecDepth 100000 in
set_option maxHeartbeats 1000000 in
theorem r7Leaf_no (sv : Value) (seed : List UInt8) (la ba : Int) (w : World) (hv : Sl w sv seed) (hno : mayB ba = false ∨ (mayB ba = true ∧ keyB seed.length la = false)) :
    Calls Tryd.prog 11 #[sv, .int .i64 la, .int .i64 ba] w fun e w' => e = .returned (.tuple #[.agg zb32, .int .i64 1]) ∧ Ext w w' := by
  obtain ⟨A, c, rfl, hc⟩ := hv.form
  clear hv
  have Hm := fun w => Lib.hid (r7May_any ba w)
  have Hk := fun w => Lib.hid (r7key_any A seed.length c la w)
  rcases hno with hm | ⟨hm, hk⟩
  · rw [hm] at Hm
    clear hm
    go_enter Tryd.func11, Tryd.ntmps11
    go_wp2_with (first | (refine wpList_alloc_blk rfl 30 rfl (.agg zb32) zero_a32 ?_; intro w1 hs1 hb1 he1; clear hs1))
    refine ((Hm _).out).mono ?_
    rintro e w1' ⟨rfl, rfl⟩
    go_wp2_with (first | (refine wpList_build_to rfl 30 _ rfl zb32 (by kernel_rfl) ?_) | (refine wpList_store_blk rfl 30 _ _ rfl w.heap.size zb32 rfl rfl 30 zb32 hb1 info_a32 rfl zb32_one ?_; intro w7 hs7 hb7 hg7))
    refine bodyPost_ret (v := .tuple #[.agg zb32, .int .i64 1]) (ret2_blk hb7 rfl rfl Tryd.underlying30 rfl info_a32 rfl) rfl ?_
    exact ⟨rfl, he1.grown hg7 (by simp)⟩
  · rw [hm] at Hm
    rw [hk] at Hk
    clear hm hk
    go_enter Tryd.func11, Tryd.ntmps11
    go_wp2_with (first | (refine wpList_alloc_blk rfl 30 rfl (.agg zb32) zero_a32 ?_; intro w1 hs1 hb1 he1; clear hs1))
    refine ((Hm _).out).mono ?_
    rintro e w1' ⟨rfl, rfl⟩
    go_wp2_with fail
    refine ((Hk _).out).mono ?_
    rintro e w1' ⟨rfl, rfl⟩
    go_wp2_with (first | (refine wpList_build_to rfl 30 _ rfl zb32 (by kernel_rfl) ?_) | (refine wpList_store_blk rfl 30 _ _ rfl w.heap.size zb32 rfl rfl 30 zb32 hb1 info_a32 rfl zb32_one ?_; intro w7 hs7 hb7 hg7))
    refine bodyPost_ret (v := .tuple #[.agg zb32, .int .i64 1]) (ret2_blk hb7 rfl rfl Tryd.underlying30 rfl info_a32 rfl) rfl ?_
    exact ⟨rfl, he1.grown hg7 (by simp)⟩

set_option maxRecDepth 100000 in
set_option maxHeartbeats 2000000 in
theorem r7Leaf_yes (sv : Value) (seed : List UInt8) (la ba : Int) (w : World) (hv : Sl w sv seed) (hm : mayB ba = true) (hk : keyB seed.length la = true) :
    Calls Tryd.prog 11 #[sv, .int .i64 la, .int .i64 ba] w fun e w' => e = .returned (.tuple #[dgV (leafB seed la.toNat ba.toNat), .int .i64 0]) ∧ Ext w w' := by
  obtain ⟨A, c, rfl, hc⟩ := hv.form
  have HV := Lib.hid hv
  clear hv
  obtain ⟨hm1, hm2, hm3⟩ := (mayB_iff _).1 hm
  obtain ⟨hk1, hk2, hk3⟩ := (keyB_iff _ _).1 hk
  have Hm := fun w => Lib.hid (r7May_any ba w)
  have Hk := fun w => Lib.hid (r7key_any A seed.length c la w)
  have Hkk := Lib.hid hk
  rw [hm] at Hm
  rw [hk] at Hk
  clear hm hk hm3
  obtain ⟨leaf, rfl⟩ := Int.eq_ofNat_of_zero_le hk2
  obtain ⟨bits, rfl⟩ := Int.eq_ofNat_of_zero_le (show 0 ≤ ba by omega)
  simp only [Int.toNat_natCast]
  have hl := leafB_length seed leaf bits
  obtain ⟨z, hz⟩ : ∃ z, z = leafB seed leaf bits := ⟨_, rfl⟩
  rw [← hz] at hl ⊢
  have Hl := Lib.hid hl
  have Hz := Lib.hid hz
  clear hz hl
  have hz32 : Hid (zb32.size = (bytesV z).toArray.size) := zb32_size _ Hl.out
  have hi32 : Hid ((Tryd.prog.info? 30).map (·.size) = some (bytesV z).toArray.size) := by rw [List.size_toArray, bytesV_length, Hl.out]; exact info_a32
  go_enter Tryd.func11, Tryd.ntmps11
  go_wp2_with (first | (refine wpList_alloc_blk rfl 30 rfl (.agg zb32) zero_a32 ?_; intro w1 hs1 hb1 he1; clear hs1))
  refine ((Hm _).out).mono ?_
  rintro e w1' ⟨rfl, rfl⟩
  go_wp2_with fail
  refine ((Hk _).out).mono ?_
  rintro e w1' ⟨rfl, rfl⟩
  clear Hm Hk
  go_wp2
  have hlw : w.heap.size < w1.heap.size := hb1.lt
  go_loopw [9, 8] (fun i v wr => ∃ k : Nat, k ≤ 2 * bits ∧ i = .int .i64 k ∧ Own wr w1.heap.size v (leafR seed leaf k) ∧ Ext w1 wr) (fun i _ _ => 2 * bits - (intOf i).toNat)
  case atStart => exact ⟨0, by omega, rfl, Own.none_ _ _, Ext.refl _⟩
  case round =>
    obtain ⟨k, hkb, rfl, hO, E⟩ := hrel
    have HO := Lib.hid hO
    have hlen := leafR_length seed leaf k
    have Hlen := Lib.hid hlen
    clear hO hlen
    have Ew := he1.trans E
    by_cases hlt : k < 2 * bits
    · have s0 := secB_length seed leaf (k / 2) (k % 2)
      have hok : okSec seed.length (leaf : Int) ((k : Int) / 2) ((k : Int) % 2) = true := (okSec_iff _ _ _ _).2 ⟨Hkk.out, by omega, by omega, by omega, by omega⟩
      have Hc0 := Lib.hid (r7Secret_yes (.slice A seed.length c) seed (leaf : Int) ((k : Int) / 2) ((k : Int) % 2) wr (HV.out.ext Ew) hok)
      rw [show (leaf : Int).toNat = leaf from by omega, show ((k : Int) / 2).toNat = k / 2 from by omega, show ((k : Int) % 2).toNat = k % 2 from by omega] at Hc0
      obtain ⟨z0, hz0⟩ : ∃ z, z = secB seed leaf (k / 2) (k % 2) := ⟨_, rfl⟩
      rw [← hz0] at Hc0 s0
      obtain ⟨y0, hy0⟩ : ∃ y, y = sumB z0 := ⟨_, rfl⟩
      have Hz0 := Lib.hid hz0
      have Hy0 := Lib.hid hy0
      have S0 := Lib.hid s0
      have L0 : Hid (y0.length = 32) := by show _ = _; rw [hy0]; exact sumB_length _
      clear hz0 hy0 s0 hok
      have i0 : Hid ((Tryd.prog.info? 30).map (·.size) = some (bytesV z0).toArray.size) := by rw [List.size_toArray, bytesV_length, S0.out]; exact info_a32
      have i1 : Hid ((Tryd.prog.info? 30).map (·.size) = some (bytesV y0).toArray.size) := by rw [List.size_toArray, bytesV_length, L0.out]; exact info_a32
      have s0 : Hid (zb32.size = (bytesV z0).toArray.size) := zb32_size _ S0.out
      have s1 : Hid (zb32.size = (bytesV y0).toArray.size) := zb32_size _ L0.out
      go_wp2_with fail
      refine Hc0.out.mono ?_
      rintro e w2 ⟨rfl, E2⟩
      go_wp2_with (first | (refine wpList_alloc_blk rfl 30 rfl (.agg zb32) zero_a32 ?_; intro w3 hs3 hb3 he3; clear hs3) | (refine wpList_store_blk rfl 30 _ _ rfl w2.heap.size (bytesV z0).toArray rfl rfl 30 zb32 hb3 i0.out s0.out (bytes_one _) ?_; intro w4 hs4 hb4 hg4))
      have E24 : Ext w2 w4 := he3.grown hg4 (by simp)
      have S4 : Sl w4 (.slice (some ⟨w2.heap.size, 0, none⟩) 32 32) z0 := by have := sl_of_blk hb4; rw [S0.out] at this; exact this
      have Hr := Lib.hid (rOf_any _ z0 w4 S4 (by rw [S0.out]; omega))
      rw [← Hy0.out] at Hr
      have E14 := E2.trans E24
      clear hb3 he3 hs4 hb4 hg4 S4 E24 E2
      refine Hr.out.mono ?_
      rintro e w5 ⟨rfl, E5⟩
      have E15 := E14.trans E5
      clear E14 E5 Hr
      go_wp2_with (first | (refine wpList_alloc_blk rfl 30 rfl (.agg zb32) zero_a32 ?_; intro w6 hs6 hb6 he6; clear hs6) | (refine wpList_store_blk rfl 30 _ _ rfl w5.heap.size (bytesV y0).toArray rfl rfl 30 zb32 hb6 i1.out s1.out (bytes_one _) ?_; intro w7 hs7 hb7 hg7; have E57 : Ext w5 w7 := he6.grown hg7 (by simp); have S7 : Sl w7 (.slice (some ⟨w5.heap.size, 0, none⟩) 32 32) y0 := (by have := sl_of_blk hb7; rw [L0.out] at this; exact this); have E17 := E15.trans E57) | (at_builtin; refine wpList_appB (HO.out.ext E17) S7 rfl _ _ rfl rfl rfl (by rw [Hlen.out, L0.out]; omega) (by have := (E.trans E17).size; exact this) ?_; intro v8 w8 ho8 hg8 _))
      have O8 : Own w8 w1.heap.size v8 (leafR seed leaf (k + 1)) := by rw [leafR_succ, ← Hz0.out, ← Hy0.out]; exact ho8
      have E8 := (E.trans E17).grown hg8 HO.out.from
      clear ho8 hg8 S7 E57 hb7 hs7 hg7 hb6 he6
      go_roundw
      case rel => exact ⟨k + 1, by omega, by go_num, O8, E8⟩
      case measure => simp [intOf]; omega
    · obtain rfl : k = 2 * bits := by omega
      rw [leafR_all] at HO Hlen
      have Hc := Lib.hid (r7digest_any _ (leafS seed leaf bits) wr HO.out.sl (by rw [Hlen.out]; omega))
      rw [show digB (leafS seed leaf bits) = z from Hz.out.symm] at Hc
      go_wp2_with fail
      refine Hc.out.mono ?_
      rintro e w3 ⟨rfl, E3⟩
      have B3 := hb1.ext (E.trans E3)
      go_wp2_with (first | (refine wpList_store_blk rfl 30 _ _ rfl w.heap.size (bytesV z).toArray rfl rfl 30 zb32 B3 hi32.out hz32.out (bytes_one _) ?_; intro w7 hs7 hb7 hg7))
      refine bodyPost_ret (v := .tuple #[dgV z, .int .i64 0]) (ret2_blk hb7 rfl rfl Tryd.underlying30 rfl hi32.out rfl) rfl ?_
      exact ⟨rfl, (Ew.trans E3).grown hg7 (by simp)⟩
end Go.Proofs.YtgbdmelnmmopaaaDoor
