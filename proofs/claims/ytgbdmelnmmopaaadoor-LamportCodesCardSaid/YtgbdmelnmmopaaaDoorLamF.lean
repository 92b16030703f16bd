/- lamport: contracts of Sign where it may not be, of pursuivantref07.Sides and Sign. -/
import Derived.Test.YtgbdmelnmmopaaaDoorLamE
namespace Go.Proofs.YtgbdmelnmmopaaaDoor
open Go.RowKit

theorem info_int : (Tryd.prog.info? 3).map (fun i => (i.zero, i.size, i.bytes)) = some (some (.int .i64 0), 1, 8) := by kernel_rfl
/-- the bits of a digest, as cells -/
def sidesV (z : List UInt8) (k : Nat) : List Value := (List.range k).map fun b => .int .i64 (sideB z b : Int)
theorem sidesV_length (z : List UInt8) (k : Nat) : (sidesV z k).length = k := by simp [sidesV]
theorem sidesV_succ (z : List UInt8) (k : Nat) : sidesV z (k + 1) = sidesV z k ++ [.int .i64 (sideB z k : Int)] := by simp [sidesV, List.range_succ]
theorem sidesV_get (z : List UInt8) (k b : Nat) (h : b < k) : (sidesV z k)[b]? = some (.int .i64 (sideB z b : Int)) := by simp [sidesV, h]

set_option maxRecDepth 100000 in
set_option maxHeartbeats 1000000 in
theorem r7Sides_any (mv : Value) (m : List UInt8) (bits : Nat) (w : World) (hv : Sl w mv m) (hm : m.length ≤ 1048576) (hb : bits ≤ 256) :
    Calls Tryd.prog 31 #[mv, .int .i64 (bits : Int)] w fun e w' => ∃ v, e = .returned v ∧ w'.ownsRow w.heap.size 3 1 v bits (sidesV (msgB m) bits) ∧ Ext w w' := by
  obtain ⟨A, c, rfl, hc⟩ := hv.form
  have HV := Lib.hid hv
  clear hv
  obtain ⟨i0, hi, hz0, hz1, hz2⟩ := info_parts info_int
  have hl := msgB_length m
  obtain ⟨z, hz⟩ : ∃ z, z = msgB m := ⟨_, rfl⟩
  rw [← hz] at hl ⊢
  have Hl := Lib.hid hl
  have Hz := Lib.hid hz
  clear hz hl
  have hz32 : Hid (zb32.size = (bytesV z).toArray.size) := zb32_size _ Hl.out
  have hi32 : Hid ((Tryd.prog.info? 30).map (·.size) = some (bytesV z).toArray.size) := by rw [List.size_toArray, bytesV_length, Hl.out]; exact info_a32
  have Hc : Hid (Calls Tryd.prog 39 #[.string msgA, .slice (some ⟨w.heap.size, 0, none⟩) 1 1] (w.alloc (.cells #[.slice A m.length c] 22)) fun e w' => e = .returned (dgV z) ∧ Ext (w.alloc (.cells #[.slice A m.length c] 22)) w') := by
    have := rTagged_any msgA _ _ _ (slAll_one 22 _ rfl HV.out) (by decide) (by simpa using hm) (by simp)
    rw [Hz.out]
    exact this
  go_enter Tryd.func31, Tryd.ntmps31
  go_wp2_with fail
  refine Hc.out.mono ?_
  rintro e w1 ⟨rfl, E1⟩
  have E1' : Ext w w1 := ((Ext.refl w).alloc _).trans E1
  clear Hc
  go_wp2_with (first | (refine wpList_alloc_blk rfl 30 rfl (.agg zb32) zero_a32 ?_; intro w4 hs4 hb4 he4; clear hs4) | (refine wpList_store_blk rfl 30 _ _ rfl w1.heap.size (bytesV z).toArray rfl rfl 30 zb32 hb4 hi32.out hz32.out (bytes_one _) ?_; intro w5 hs5 hb5 hg5))
  have E15 : Ext w1 w5 := he4.grown hg5 (by simp)
  have E5 : Ext w w5 := E1'.trans E15
  clear hb4 he4 hs5 hg5 E1 E15
  have h1 := E1'.size
  have h15 : w1.heap.size < w5.heap.size := hb5.lt
  go_loopw [7, 6] (fun i v wr => ∃ k : Nat, k ≤ bits ∧ i = .int .i64 k ∧ wr.ownsRow w5.heap.size 3 1 v k (sidesV z k) ∧ Ext w5 wr) (fun i _ _ => bits - (intOf i).toNat)
  case atStart => exact ⟨0, by omega, rfl, World.ownsRow_nil _ _ _ _, Ext.refl _⟩
  case round =>
    obtain ⟨k, hkb, rfl, hO, E⟩ := hrel
    obtain ⟨A6, c6, rfl, hc6⟩ := own_form hO
    have HO := Lib.hid hO
    clear hO
    by_cases hlt : k < bits
    · have hcc : wr.cell? ⟨w1.heap.size, k / 8, none⟩ = some (.int .u8 ((z[k / 8]?.getD 0).toNat : Int)) := by
        have := (hb5.ext E).cell (k / 8)
        rw [this]
        have := bytesV_get z (k / 8) (by rw [Hl.out]; omega)
        simpa using this
      obtain ⟨x, hx⟩ : ∃ x, x = z[k / 8]?.getD 0 := ⟨_, rfl⟩
      rw [← hx] at hcc
      have Hx := Lib.hid hx
      clear hx
      go_wp2_with (at_builtin; refine wpList_append_sl _ rfl _ _ 51 rfl w5.heap.size 3 i0 (.int .i64 0) 1 8 Tryd.underlying51 hi hz0 hz1 hz2 rfl (by omega) (.slice A6 k c6) k (sidesV z k) rfl (own_kept HO.out ((Ext.refl wr).alloc _)) (some ⟨wr.heap.size, 0, none⟩) 1 1 [.int .i64 ((wrap64 (x.toNat : Int) / 2 ^ (7 - k % 8)).tmod 2)] rfl (SlR.of_cells rfl (Nat.le_refl _) (fun j v hv => by rw [Nat.zero_add, (Blk.new wr 3 _).cell]; simpa using hv)) (by simp [Value.oneCell']) (by unfold maxLen; omega) (by omega) (by have := E.size; simp; omega) ?_; intro v7 w7 ho7 hg7 hq7)
      have E7 : Ext w5 w7 := (E.alloc _).grown hg7 (fun j hj => (World.ownsRow.lt HO.out j hj).1)
      have ho7' : w7.ownsRow w5.heap.size 3 1 v7 (k + 1) (sidesV z (k + 1)) := by
        rw [sidesV_succ]
        rw [side_val, Hx.out] at ho7
        exact ho7
      clear ho7 hg7 hq7
      go_roundw
      case rel => exact ⟨k + 1, by omega, by go_num, ho7', E7⟩
      case measure => simp [intOf]; omega
    · obtain rfl : k = bits := by omega
      go_wp2
      go_ret
      exact ⟨_, rfl, own_base HO.out E5.size, E5.trans E⟩

set_option maxRecDepth 100000 in
set_option maxHeartbeats 1000000 in
theorem lSign_no (sv mv : Value) (seed : List UInt8) (la ba : Int) (w : World) (hv : Sl w sv seed) (hno : mayB ba = false ∨ (mayB ba = true ∧ keyB seed.length la = false)) :
    Calls Tryd.prog 8 #[sv, .int .i64 la, .int .i64 ba, mv] w fun e w' => e = .returned (.tuple #[.agg noOne, .int .i64 1]) ∧ Ext w w' := by
  obtain ⟨A, c, rfl, hc⟩ := hv.form
  clear hv
  have Hm := fun w => Lib.hid (lMay_any ba w)
  have Hk := fun w => Lib.hid (lkey_any A seed.length c la w)
  rcases hno with hm | ⟨hm, hk⟩
  · rw [hm] at Hm
    clear hm
    go_enter Tryd.func8, Tryd.ntmps8
    go_wp2_with (first | (refine wpList_alloc_blk rfl 26 rfl (.agg noOne) zero_one ?_; intro w1 hs1 hb1 he1; clear hs1))
    refine ((Hm _).out).mono ?_
    rintro e w1' ⟨rfl, rfl⟩
    go_wp2_with (first | (refine wpList_build_to rfl 26 _ rfl noOne (by kernel_rfl) ?_) | (refine wpList_store_blk rfl 26 _ _ rfl w.heap.size noOne rfl rfl 26 noOne hb1 info_one rfl noOne_one ?_; intro w7 hs7 hb7 hg7))
    refine bodyPost_ret (v := .tuple #[.agg noOne, .int .i64 1]) (ret2_blk hb7 rfl rfl Tryd.underlying26 rfl info_one rfl) rfl ?_
    exact ⟨rfl, he1.grown hg7 (by simp)⟩
  · rw [hm] at Hm
    rw [hk] at Hk
    clear hm hk
    go_enter Tryd.func8, Tryd.ntmps8
    go_wp2_with (first | (refine wpList_alloc_blk rfl 26 rfl (.agg noOne) zero_one ?_; intro w1 hs1 hb1 he1; clear hs1))
    refine ((Hm _).out).mono ?_
    rintro e w1' ⟨rfl, rfl⟩
    go_wp2_with fail
    refine ((Hk _).out).mono ?_
    rintro e w1' ⟨rfl, rfl⟩
    go_wp2_with (first | (refine wpList_build_to rfl 26 _ rfl noOne (by kernel_rfl) ?_) | (refine wpList_store_blk rfl 26 _ _ rfl w.heap.size noOne rfl rfl 26 noOne hb1 info_one rfl noOne_one ?_; intro w7 hs7 hb7 hg7))
    refine bodyPost_ret (v := .tuple #[.agg noOne, .int .i64 1]) (ret2_blk hb7 rfl rfl Tryd.underlying26 rfl info_one rfl) rfl ?_
    exact ⟨rfl, he1.grown hg7 (by simp)⟩
set_option maxRecDepth 100000 in
set_option maxHeartbeats 1000000 in
theorem r7Sign_no (sv mv : Value) (seed : List UInt8) (la ba : Int) (w : World) (hv : Sl w sv seed) (hno : mayB ba = false ∨ (mayB ba = true ∧ keyB seed.length la = false)) :
    Calls Tryd.prog 9 #[sv, .int .i64 la, .int .i64 ba, mv] w fun e w' => e = .returned (.tuple #[.agg noOne, .int .i64 1]) ∧ Ext w w' := by
  obtain ⟨A, c, rfl, hc⟩ := hv.form
  clear hv
  have Hm := fun w => Lib.hid (r7May_any ba w)
  have Hk := fun w => Lib.hid (r7key_any A seed.length c la w)
  rcases hno with hm | ⟨hm, hk⟩
  · rw [hm] at Hm
    clear hm
    go_enter Tryd.func9, Tryd.ntmps9
    go_wp2_with (first | (refine wpList_alloc_blk rfl 26 rfl (.agg noOne) zero_one ?_; intro w1 hs1 hb1 he1; clear hs1))
    refine ((Hm _).out).mono ?_
    rintro e w1' ⟨rfl, rfl⟩
    go_wp2_with (first | (refine wpList_build_to rfl 26 _ rfl noOne (by kernel_rfl) ?_) | (refine wpList_store_blk rfl 26 _ _ rfl w.heap.size noOne rfl rfl 26 noOne hb1 info_one rfl noOne_one ?_; intro w7 hs7 hb7 hg7))
    refine bodyPost_ret (v := .tuple #[.agg noOne, .int .i64 1]) (ret2_blk hb7 rfl rfl Tryd.underlying26 rfl info_one rfl) rfl ?_
    exact ⟨rfl, he1.grown hg7 (by simp)⟩
  · rw [hm] at Hm
    rw [hk] at Hk
    clear hm hk
    go_enter Tryd.func9, Tryd.ntmps9
    go_wp2_with (first | (refine wpList_alloc_blk rfl 26 rfl (.agg noOne) zero_one ?_; intro w1 hs1 hb1 he1; clear hs1))
    refine ((Hm _).out).mono ?_
    rintro e w1' ⟨rfl, rfl⟩
    go_wp2_with fail
    refine ((Hk _).out).mono ?_
    rintro e w1' ⟨rfl, rfl⟩
    go_wp2_with (first | (refine wpList_build_to rfl 26 _ rfl noOne (by kernel_rfl) ?_) | (refine wpList_store_blk rfl 26 _ _ rfl w.heap.size noOne rfl rfl 26 noOne hb1 info_one rfl noOne_one ?_; intro w7 hs7 hb7 hg7))
    refine bodyPost_ret (v := .tuple #[.agg noOne, .int .i64 1]) (ret2_blk hb7 rfl rfl Tryd.underlying26 rfl info_one rfl) rfl ?_
    exact ⟨rfl, he1.grown hg7 (by simp)⟩

theorem SlR.far {w w' : World} {size n c : Nat} {A : Option Addr} {xs : List Value} {q : Option Nat} (h : SlR w size (.slice A n c) n xs) (hg : w.grownBy w' q) (hq : ∀ b o, A = some ⟨b, o, none⟩ → q ≠ some b) : SlR w' size (.slice A n c) n xs := by
  obtain ⟨hl, A', c', hv, hc, hr⟩ := h
  cases hv
  refine ⟨hl, A, c, rfl, hc, fun hn => ?_⟩
  obtain ⟨b, o, hA, hx⟩ := hr hn
  exact ⟨b, o, hA, fun j u hu => hg.cell (hx j u hu) (Ne.symm (hq b o hA))⟩

set_option maxRecDepth 100000 in
set_option maxHeartbeats 1000000 in
theorem r7Sign_yes (sv mv : Value) (seed m : List UInt8) (la ba : Int) (w : World) (hv : Sl w sv seed) (hmv : Sl w mv m) (hm : mayB ba = true) (hk : keyB seed.length la = true) (hlm : m.length ≤ 1048576) :
    Calls Tryd.prog 9 #[sv, .int .i64 la, .int .i64 ba, mv] w fun e w' => ∃ vr vo, e = .returned (.tuple #[.agg #[vr, vo], .int .i64 0]) ∧ SlD w' vr (signR seed la.toNat m ba.toNat) ∧ SlD w' vo (signO seed la.toNat m ba.toNat) ∧ Ext w w' := by
  obtain ⟨A, c, rfl, hc⟩ := hv.form
  obtain ⟨Am, cm, rfl, hcm⟩ := hmv.form
  have HV := Lib.hid hv
  have HM := Lib.hid hmv
  clear hv hmv
  obtain ⟨hm1, hm2, hm3⟩ := (mayB_iff _).1 hm
  obtain ⟨hk1, hk2, hk3⟩ := (keyB_iff _ _).1 hk
  have Hkk := Lib.hid hk
  have Hm := fun w => Lib.hid (r7May_any ba w)
  have Hk := fun w => Lib.hid (r7key_any A seed.length c la w)
  rw [hm] at Hm
  rw [hk] at Hk
  clear hm hk hm3
  obtain ⟨leaf, rfl⟩ := Int.eq_ofNat_of_zero_le hk2
  obtain ⟨bits, rfl⟩ := Int.eq_ofNat_of_zero_le (show 0 ≤ ba by omega)
  simp only [Int.toNat_natCast]
  go_enter Tryd.func9, Tryd.ntmps9
  go_wp2_with (first | (refine wpList_alloc_blk rfl 26 rfl (.agg noOne) zero_one ?_; intro w1 hs1 hb1 he1; clear hs1))
  refine ((Hm _).out).mono ?_
  rintro e w1' ⟨rfl, rfl⟩
  go_wp2_with fail
  refine ((Hk _).out).mono ?_
  rintro e w1' ⟨rfl, rfl⟩
  clear Hm Hk
  go_wp2_with (first | (refine wpList_alloc_blk rfl 26 rfl (.agg noOne) zero_one ?_; intro w2 hs2 hb2 he2; clear hs2))
  have Hs := Lib.hid (r7Sides_any _ m bits w2 (HM.out.ext (he1.trans he2)) hlm (by omega))
  have hz := msgB_length m
  obtain ⟨z, hzz⟩ : ∃ z, z = msgB m := ⟨_, rfl⟩
  rw [← hzz] at hz Hs
  have Hz := Lib.hid hzz
  clear hz hzz
  refine Hs.out.mono ?_
  rintro e w3 ⟨v3, rfl, hO3, E3⟩
  obtain ⟨A3, c3, rfl, hc3⟩ := own_form hO3
  have HS := Lib.hid (SlR.of_own hO3)
  have hA3 : ∀ b o, A3 = some ⟨b, o, none⟩ → w2.heap.size ≤ b ∧ b < w3.heap.size := by
    rintro b o rfl
    refine ⟨own_from hO3 _ rfl, ?_⟩
    obtain ⟨b', o', e, hx⟩ := HS.out.here (by omega)
    cases e
    have := World.block_lt_of_cell? w3 _ (hx 0 _ (sidesV_get z bits 0 (by omega)))
    simpa using this
  have HA3 := Lib.hid hA3
  clear hO3 Hs hA3
  have hlw : w.heap.size < w1.heap.size := hb1.lt
  have hl12 : w1.heap.size < w2.heap.size := hb2.lt
  have h23 := E3.size
  have hB3 := hb2.ext E3
  have HB3 := Lib.hid hB3
  have E23 := he2.trans E3
  clear hB3 hb2 he2
  go_wp2
  go_loopw [12] (fun i wr => ∃ k : Nat, k ≤ bits ∧ i = .int .i64 k ∧ (∃ vr vo, Blk wr w1.heap.size 26 #[vr, vo] ∧ OwnD wr w3.heap.size vr (signR seed leaf m k) ∧ OwnD wr w3.heap.size vo (signO seed leaf m k) ∧ (∀ j, vr.ownBlock = some j → vo.ownBlock ≠ some j)) ∧ SlR wr 1 (.slice A3 bits c3) bits (sidesV z bits) ∧ Ext w1 wr ∧ w3.heap.size ≤ wr.heap.size) (fun i _ => bits - (intOf i).toNat)
  case atStart => exact ⟨0, by omega, rfl, ⟨_, _, HB3.out, OwnD.none_ _ _, OwnD.none_ _ _, fun j hj => by cases hj⟩, HS.out, E23, Nat.le_refl _⟩
  case round =>
    clear HB3
    obtain ⟨k, hkb, rfl, ⟨vr, vo, hB, hR, hO, hap⟩, hsd, E, hsz⟩ := hrel
    obtain ⟨Ar, cr, rfl, hcr⟩ := hR.form
    obtain ⟨Ao, co, rfl, hco⟩ := hO.form
    rw [signR_length, signO_length] at *
    have HB := Lib.hid hB
    have HR := Lib.hid hR
    have HO := Lib.hid hO
    have Hap := Lib.hid hap
    have HSd := Lib.hid hsd
    clear hB hR hO hap hsd
    have Ew := he1.trans E
    by_cases hlt : k < bits
    · have hsd := sideB_lt z k
      obtain ⟨b3, o3, rfl, hx3⟩ := HSd.out.here (by omega)
      have hcs := hx3 k _ (sidesV_get z bits k hlt)
      obtain ⟨hb3l, hb3u⟩ := HA3.out b3 o3 rfl
      obtain ⟨sd, hsdz⟩ : ∃ sd, sd = sideB z k := ⟨_, rfl⟩
      rw [← hsdz] at hsd hcs
      have Hsd := Lib.hid hsdz
      clear hsdz hx3
      have s0 := secB_length seed leaf k sd
      have s1 := secB_length seed leaf k (1 - sd)
      have hok0 : okSec seed.length (leaf : Int) (k : Int) (sd : Int) = true := (okSec_iff _ _ _ _).2 ⟨Hkk.out, by omega, by omega, by omega, by omega⟩
      have hok1 : okSec seed.length (leaf : Int) (k : Int) (1 - (sd : Int)) = true := (okSec_iff _ _ _ _).2 ⟨Hkk.out, by omega, by omega, by omega, by omega⟩
      have Hc0 := Lib.hid (fun w' (E' : Ext w w') => r7Secret_yes (.slice A seed.length c) seed (leaf : Int) (k : Int) (sd : Int) w' (HV.out.ext E') hok0)
      have Hc1 := Lib.hid (fun w' (E' : Ext w w') => r7Secret_yes (.slice A seed.length c) seed (leaf : Int) (k : Int) (1 - (sd : Int)) w' (HV.out.ext E') hok1)
      rw [show (leaf : Int).toNat = leaf from by omega, show (k : Int).toNat = k from by omega, show (sd : Int).toNat = sd from by omega] at Hc0
      rw [show (leaf : Int).toNat = leaf from by omega, show (k : Int).toNat = k from by omega, show (1 - (sd : Int)).toNat = 1 - sd from by omega] at Hc1
      obtain ⟨z0, hz0⟩ : ∃ z, z = secB seed leaf k sd := ⟨_, rfl⟩
      obtain ⟨z1, hz1⟩ : ∃ z, z = secB seed leaf k (1 - sd) := ⟨_, rfl⟩
      rw [← hz0] at Hc0 s0
      rw [← hz1] at Hc1 s1
      have Hz0 := Lib.hid hz0
      have Hz1 := Lib.hid hz1
      have S0 := Lib.hid s0
      have S1 := Lib.hid s1
      clear hz0 hz1 s0 s1 hok0 hok1
      have i0 : Hid ((Tryd.prog.info? 30).map (·.size) = some (bytesV z0).toArray.size) := by rw [List.size_toArray, bytesV_length, S0.out]; exact info_a32
      have i1 : Hid ((Tryd.prog.info? 30).map (·.size) = some (bytesV z1).toArray.size) := by rw [List.size_toArray, bytesV_length, S1.out]; exact info_a32
      have q0 : Hid (zb32.size = (bytesV z0).toArray.size) := zb32_size _ S0.out
      have q1 : Hid (zb32.size = (bytesV z1).toArray.size) := zb32_size _ S1.out
      go_wp2_with fail
      with_reducible refine (Hc0.out _ Ew).mono ?_
      rintro e w4 ⟨rfl, E4⟩
      go_wp2_with (first | (refine wpList_alloc_blk rfl 30 rfl (.agg zb32) zero_a32 ?_; intro w5 hs5 hb5 he5; clear hs5) | (refine wpList_store_blk rfl 30 _ _ rfl w4.heap.size (bytesV z0).toArray rfl rfl 30 zb32 hb5 i0.out q0.out (bytes_one _) ?_; intro w6 hs6 hb6 hg6; have E46 : Ext w4 w6 := he5.grown hg6 (by simp); have hcs6 := (E4.trans E46).cell hcs))
      have Er6 := E4.trans E46
      clear hb5 he5 hs6 hg6 E4 E46
      with_reducible refine (Hc1.out _ (Ew.trans Er6)).mono ?_
      rintro e w7 ⟨rfl, E7⟩
      go_wp2_with (first | (refine wpList_alloc_blk rfl 30 rfl (.agg zb32) zero_a32 ?_; intro w8 hs8 hb8 he8; clear hs8) | (refine wpList_store_blk rfl 30 _ _ rfl w7.heap.size (bytesV z1).toArray rfl rfl 30 zb32 hb8 i1.out q1.out (bytes_one _) ?_; intro w9 hs9 hb9 hg9; have E79 : Ext w7 w9 := he8.grown hg9 (by simp); have E69 := E7.trans E79; have Er9 := Er6.trans E69; have D0 := hb6.ext E69; have HB9 := Lib.hid (HB.out.ext Er9); have hcr9 : w9.cell? ⟨w1.heap.size, 0, none⟩ = some (.slice Ar k cr) := HB9.out.cell 0) | (refine wpList_load_blk D0 rfl 30 _ rfl rfl Tryd.underlying30 rfl i0.out ?_) | (refine wpList_build_dg z0 S0.out rfl _ rfl rfl ?_; intro w10 E10 hs10 hn10; have HR10 := Lib.hid (HR.out.ext (Er9.trans E10)); have HB10 := Lib.hid (HB9.out.ext E10); have hs1010 : w3.heap.size ≤ w10.heap.size := (by have := Er9.size; omega)) | (at_builtin; refine wpList_appD HR10.out S0.out hn10 rfl _ _ rfl rfl rfl (by rw [signR_length]; omega) hs1010 ?_; intro v11 w11 ho11 hg11 hq11; have hn11 := HR10.out.ne HB10.out (by decide); have hB11 := HB10.out.grown hg11 (Ne.symm hn11); have hc11 : w11.cell? ⟨w1.heap.size, 0, none⟩ = some (.slice Ar k cr) := hB11.cell 0; have hf11 := hB11.frozen 0; obtain ⟨A11, c11, e11, hc11'⟩ := ho11.form; rw [List.length_append, signR_length, List.length_singleton] at e11; subst e11; have HB11 := Lib.hid hB11; have HO11 := Lib.hid ho11; have Hg11 := Lib.hid hg11; have Hq11 := Lib.hid hq11; clear hB11 ho11 hg11 hq11 hn11))
      have hR12 : OwnD (w11.setCell ⟨w1.heap.size, 0, none⟩ (.slice A11 (k + 1) c11)) w3.heap.size (.slice A11 (k + 1) c11) (signR seed leaf m (k + 1)) := by
        rw [signR_succ, ← Hz.out, ← Hsd.out, ← Hz0.out]; exact HO11.out.set HB11.out (by decide)
      have HO10 := Lib.hid (HO.out.ext (Er9.trans E10))
      have hO11 := HO10.out.apart Hg11.out (fun j hj e => Hap.out j e hj)
      have hO12 := hO11.set (o := 0) (u := .slice A11 (k + 1) c11) HB11.out (by decide)
      have hB12 : Blk (w11.setCell ⟨w1.heap.size, 0, none⟩ (.slice A11 (k + 1) c11)) w1.heap.size 26 #[.slice A11 (k + 1) c11, .slice Ao k co] := HB11.out.set 0 _
      have hap12 := apart_app Hap.out HO10.out.lt Hq11.out
      have Er10 := Er9.trans E10
      have hfr : ∀ j, (Value.slice Ar k cr).ownBlock = some j → w1.heap.size ≤ j := fun j hj => by have := HR.out.from j hj; omega
      have E12' : Ext w1 (w11.setCell ⟨w1.heap.size, 0, none⟩ (.slice A11 (k + 1) c11)) := ((E.trans Er10).grown Hg11.out hfr).setCell (by simp) _
      have h69 := E69.size
      have h7r := E7.size
      have h6r := Er6.size
      have h1r := E.size
      have hD1 : Blk (w11.setCell ⟨w1.heap.size, 0, none⟩ (.slice A11 (k + 1) c11)) w7.heap.size 30 (bytesV z1).toArray :=
        ((hb9.ext E10).grown Hg11.out (fun e => by have := HR.out.lt _ e.symm; omega)).far (by simp; omega) _
      have hS12 : SlR (w11.setCell ⟨w1.heap.size, 0, none⟩ (.slice A11 (k + 1) c11)) 1 (.slice (some ⟨b3, o3, none⟩) bits c3) bits (sidesV z bits) := by
        have h1 := (HSd.out.ext Er10).far Hg11.out (fun b o e e' => by cases e; have := HR.out.from _ e'; omega)
        exact h1.far (grown_setCell _ _ _ _) (fun b o e e' => by cases e; injection e' with e'; omega)
      have hz12 : w10.heap.size ≤ (w11.setCell ⟨w1.heap.size, 0, none⟩ (.slice A11 (k + 1) c11)).heap.size := by simp [World.setCell]; exact Hg11.out.size
      clear hf11 hc11 hc11' HB11 HO11 Hg11 Hq11 HR10 HO10 HB10 HB9 hn10 hO11 D0 hcr9 hcs6
      revert hR12 hO12 hB12 E12' hD1 hS12 hz12
      generalize w11.setCell ⟨w1.heap.size, 0, none⟩ (.slice A11 (k + 1) c11) = w12
      intro hR12 hO12 hB12 E12' hD1 hS12 hz12
      have HR12 := Lib.hid hR12
      have HO12 := Lib.hid hO12
      have HB12 := Lib.hid hB12
      have Hap12 := Lib.hid hap12
      have HS12 := Lib.hid hS12
      have HD1 := Lib.hid hD1
      have Hr := Lib.hid (fun w' (E' : Ext w12 w') => rOf_any (.slice (some ⟨w7.heap.size, 0, none⟩) 32 32) z1 w' (by have := sl_of_blk (hD1.ext E'); rw [S1.out] at this; exact this) (by rw [S1.out]; omega))
      clear hR12 hO12 hB12 hap12 Hap hS12 hD1 HR HO HB HSd hb6 hb9 hb8 he8 hs9 hg9
      have hd0 : w12.drew.cell? ⟨w1.heap.size, 1, none⟩ = some (.slice Ao k co) := HB12.out.cell 1
      go_wp2
      refine wp_region_chain 5 [(true, 0), (true, 1), (true, 2), (false, 3), (false, 4)] (fun w' => w'.cell? ⟨w1.heap.size, 1, none⟩ = some (.slice Ao k co)) (by kernel_rfl) (by kernel_rfl) hd0 ?_
      iterate 3
        refine wpTake_read _ _ ?_ rfl rfl ?_ ?_
        rotate_left 1
        focus
          intro wS hS
          try dsimp only at hS
          go_simp
          first | done | with_reducible rfl
        simp only [Act.put, List.setIfInBounds_toArray, List.set_cons_zero, List.set_cons_succ]
      refine wpTake_do _ _ rfl rfl (fun K hK' => ?_)
      go_simp
      with_reducible refine (Hr.out _ (Ext.refl w12).drew).mono ?_
      rintro e w13 ⟨rfl, E13⟩
      have E13' : Ext w12 w13 := (Ext.refl w12).drew.trans E13
      refine hK' _ _ (E13.cell hd0) ?_
      clear hK' K
      have hc13 := E13.cell hd0
      clear hd0 E13
      refine wpTake_do _ _ rfl rfl (fun K hK' => ?_)
      refine wp_build_dg (sumB z1) (sumB_length _) _ rfl rfl ?_
      intro w14 E14 hs14 hnew
      have E14' : Ext w12 w14 := E13'.trans E14
      refine hK' _ _ (E14.cell hc13) ?_
      clear hK' K
      refine wpTake_nil ?_
      simp only [Act.put, List.setIfInBounds_toArray, List.set_cons_zero, List.set_cons_succ, List.drop_succ_cons, List.drop_zero]
      have HO14 := Lib.hid (HO12.out.ext E14')
      have Hnew := Lib.hid hnew
      have HB14 := Lib.hid (HB12.out.ext E14')
      have HR14 := Lib.hid (HR12.out.ext E14')
      have HS14 := Lib.hid (HS12.out.ext E14')
      have Ew14 := E12'.trans E14'
      have hz14 := E14'.size
      have hs1414 : w3.heap.size ≤ w14.heap.size := by omega
      clear hnew HR12 HO12 HB12 HS12 hc13 E13' E14 hs14
      go_wp2_with (at_builtin; refine wpList_appD HO14.out (sumB_length z1) Hnew.out rfl _ _ rfl rfl rfl (by rw [signO_length]; omega) hs1414 ?_; intro v15 w15 ho15 hg15 hq15; have hn15 := HO14.out.ne HB14.out (by decide); have hB15 := HB14.out.grown hg15 (Ne.symm hn15); have hc15 : w15.cell? ⟨w1.heap.size, 1, none⟩ = some (.slice Ao k co) := hB15.cell 1; have hf15 := hB15.frozen 1; obtain ⟨A15, c15, e15, hc15'⟩ := ho15.form; rw [List.length_append, signO_length, List.length_singleton] at e15; subst e15; have HB15 := Lib.hid hB15; have HO15 := Lib.hid ho15; have Hg15 := Lib.hid hg15; have Hq15 := Lib.hid hq15; clear hB15 ho15 hg15 hq15 hn15)
      refine NoPanic.normal ?_
      have hO16 : OwnD (w15.setCell ⟨w1.heap.size, 1, none⟩ (.slice A15 (k + 1) c15)) w3.heap.size (.slice A15 (k + 1) c15) (signO seed leaf m (k + 1)) := by
        rw [signO_succ, ← Hz.out, ← Hsd.out, ← Hz1.out]; exact HO15.out.set HB15.out (by decide)
      have hR15 := HR14.out.apart Hg15.out (fun j hj => Hap12.out j hj)
      have hR16 := hR15.set (o := 1) (u := .slice A15 (k + 1) c15) HB15.out (by decide)
      have hB16 : Blk (w15.setCell ⟨w1.heap.size, 1, none⟩ (.slice A15 (k + 1) c15)) w1.heap.size 26 #[.slice A11 (k + 1) c11, .slice A15 (k + 1) c15] := HB15.out.set 1 _
      have hap16 : ∀ j, (Value.slice A11 (k + 1) c11).ownBlock = some j → (Value.slice A15 (k + 1) c15).ownBlock ≠ some j := fun j hj e => apart_app (v := .slice Ao k co) (u := .slice A11 (k + 1) c11) (fun j h1 h2 => Hap12.out j h2 h1) HR14.out.lt Hq15.out j e hj
      have hfr2 : ∀ j, (Value.slice Ao k co).ownBlock = some j → w1.heap.size ≤ j := fun j hj => by have := HO14.out.from j hj; omega
      have E16 : Ext w1 (w15.setCell ⟨w1.heap.size, 1, none⟩ (.slice A15 (k + 1) c15)) := (Ew14.grown Hg15.out hfr2).setCell (by simp) _
      have hS16 : SlR (w15.setCell ⟨w1.heap.size, 1, none⟩ (.slice A15 (k + 1) c15)) 1 (.slice (some ⟨b3, o3, none⟩) bits c3) bits (sidesV z bits) := by
        have h1 := HS14.out.far Hg15.out (fun b o e e' => by cases e; have := HO14.out.from _ e'; omega)
        exact h1.far (grown_setCell _ _ _ _) (fun b o e e' => by cases e; injection e' with e'; omega)
      have hz16 : w3.heap.size ≤ (w15.setCell ⟨w1.heap.size, 1, none⟩ (.slice A15 (k + 1) c15)).heap.size := by have := Hg15.out.size; simp [World.setCell]; omega
      clear hf15 hc15 hc15' HB15 HO15 Hg15 Hq15 HR14 HO14 HB14 Hnew hR15 HS14
      go_wp2
      go_roundw
      case rel => exact ⟨k + 1, by omega, by go_num, ⟨_, _, hB16, hR16, hO16, hap16⟩, hS16, E16, hz16⟩
      case measure => simp [intOf]; omega
    · obtain rfl : k = bits := by omega
      have hB1 := hb1.ext E
      go_wp2_with (first | (refine wpList_load_blk HB.out rfl 26 _ rfl rfl Tryd.underlying26 rfl info_one ?_) | (refine wpList_store_blk rfl 26 _ _ rfl w.heap.size _ rfl rfl 26 noOne hB1 info_one rfl (two_one _ _ _ _ _ _) ?_; intro w7 hs7 hb7 hg7))
      refine bodyPost_ret (v := .tuple #[.agg #[.slice Ar k cr, .slice Ao k co], .int .i64 0]) (ret2_blk hb7 rfl rfl Tryd.underlying26 rfl info_one rfl) rfl ?_
      have hne : ∀ (u : Value) (ds : List (List UInt8)), OwnD wr w3.heap.size u ds → SlD w7 u ds := fun u ds h => (h.apart hg7 (fun j hj e => by have := h.from j hj; injection e with e; omega)).sl
      exact ⟨_, _, rfl, hne _ _ HR.out, hne _ _ HO.out, Ew.grown hg7 (by simp)⟩
end Go.Proofs.YtgbdmelnmmopaaaDoor
