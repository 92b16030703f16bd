/- lamport: contracts of Secret, Side, sum, add, digest of both. -/
import Derived.Test.YtgbdmelnmmopaaaDoorLamA
import Derived.Test.YtgbdmelnmmopaaaDoorChain
import Derived.Laws.ResultCell
namespace Go.Proofs.YtgbdmelnmmopaaaDoor
open Go.RowKit
attribute [local go_sem] Later.cell?
attribute [local go_sem ↓] Go.wp_at_zero Go.wp_at_succ

theorem ret2_blk {P : Program} {fn : Func} {p u : Tmp} {ty : TypeId} {tmps : Array Value} {w : World} {g : Nat} {t : TypeId} {cs : Array Value} (hg : Blk w g t cs) (h : fn.results = #[.cell p ty, .tmp u]) (hp : tmps.getD p undef = .pointer (some ⟨g, 0, none⟩))
    {d : TypeDesc} (hu : P.underlying ty = some d) (hd : (match d with | .struct _ | .array _ _ => true | _ => false) = true) (hi : (P.info? ty).map (·.size) = some cs.size) {v : Value} (hv : tmps.getD u undef = v) :
    (results fn tmps).run P w = .ok (.tuple #[.agg cs, v]) w := by
  rw [results_cell_tmp h, hp, hv]
  simp [asAddr, run_loadVar_row w g t ty cs (0, 0) d hg hu hd hi]

/-- may a secret be? -/
def okSec (n : Nat) (la ba sa : Int) : Bool := keyB n la && (decide (0 ≤ ba) && decide (ba ≤ 255) && decide (0 ≤ sa) && decide (sa ≤ 1))
theorem okSec_iff (n : Nat) (la ba sa : Int) : okSec n la ba sa = true ↔ keyB n la = true ∧ 0 ≤ ba ∧ ba ≤ 255 ∧ 0 ≤ sa ∧ sa ≤ 1 := by simp [okSec, and_assoc]
theorem okSec_no {n : Nat} {la ba sa : Int} (h : okSec n la ba sa = false) : keyB n la = false ∨ (keyB n la = true ∧ (ba < 0 ∨ (0 ≤ ba ∧ 255 < ba) ∨ (0 ≤ ba ∧ ba ≤ 255 ∧ sa < 0) ∨ (0 ≤ ba ∧ ba ≤ 255 ∧ 0 ≤ sa ∧ 1 < sa))) := by
  cases hk : keyB n la with
  | false => exact .inl rfl
  | true =>
    refine .inr ⟨rfl, ?_⟩
    have h' : ¬ (0 ≤ ba ∧ ba ≤ 255 ∧ 0 ≤ sa ∧ sa ≤ 1) := fun hh => by rw [(okSec_iff n la ba sa).2 ⟨hk, hh⟩] at h; cases h
    omega

set_option maxRecDepth 100000 in
set_option maxHeartbeats 1000000 in
theorem lSecret_no (sv : Value) (seed : List UInt8) (la ba sa : Int) (w : World) (hv : Sl w sv seed) (hno : okSec seed.length la ba sa = false) :
    Calls Tryd.prog 19 #[sv, .int .i64 la, .int .i64 ba, .int .i64 sa] w fun e w' => e = .returned (.tuple #[.agg zb32, .int .i64 1]) ∧ Ext w w' := by
  obtain ⟨A, c, rfl, hc⟩ := hv.form
  clear hv
  have Hk := fun w => Lib.hid (lkey_any A seed.length c la w)
  rcases okSec_no hno with hk | ⟨hk, h | ⟨h1, h⟩ | ⟨h1, h2, h⟩ | ⟨h1, h2, h3, h⟩⟩
  all_goals
    rw [hk] at Hk
    clear hno hk
    go_enter Tryd.func19, Tryd.ntmps19
    go_wp2_with (first | (refine wpList_alloc_blk rfl 30 rfl (.agg zb32) zero_a32 ?_; intro w1 hs1 hb1 he1; clear hs1))
    refine ((Hk _).out).mono ?_
    rintro e w1' ⟨rfl, rfl⟩
    go_wp2_with (first | (refine wpList_build_to rfl 30 _ rfl zb32 (by kernel_rfl) ?_) | (refine wpList_store_blk rfl 30 _ _ rfl w.heap.size zb32 rfl rfl 30 zb32 hb1 info_a32 rfl zb32_one ?_; intro w7 hs7 hb7 hg7))
    refine bodyPost_ret (v := .tuple #[.agg zb32, .int .i64 1]) (ret2_blk hb7 rfl rfl Tryd.underlying30 rfl info_a32 rfl) rfl ?_
    exact ⟨rfl, he1.grown hg7 (by simp)⟩

set_option maxRecDepth 100000 in
set_option maxHeartbeats 1000000 in
theorem r7Secret_no (sv : Value) (seed : List UInt8) (la ba sa : Int) (w : World) (hv : Sl w sv seed) (hno : okSec seed.length la ba sa = false) :
    Calls Tryd.prog 20 #[sv, .int .i64 la, .int .i64 ba, .int .i64 sa] w fun e w' => e = .returned (.tuple #[.agg zb32, .int .i64 1]) ∧ Ext w w' := by
  obtain ⟨A, c, rfl, hc⟩ := hv.form
  clear hv
  have Hk := fun w => Lib.hid (r7key_any A seed.length c la w)
  rcases okSec_no hno with hk | ⟨hk, h | ⟨h1, h⟩ | ⟨h1, h2, h⟩ | ⟨h1, h2, h3, h⟩⟩
  all_goals
    rw [hk] at Hk
    clear hno hk
    go_enter Tryd.func20, Tryd.ntmps20
    go_wp2_with (first | (refine wpList_alloc_blk rfl 30 rfl (.agg zb32) zero_a32 ?_; intro w1 hs1 hb1 he1; clear hs1))
    refine ((Hk _).out).mono ?_
    rintro e w1' ⟨rfl, rfl⟩
    go_wp2_with (first | (refine wpList_build_to rfl 30 _ rfl zb32 (by kernel_rfl) ?_) | (refine wpList_store_blk rfl 30 _ _ rfl w.heap.size zb32 rfl rfl 30 zb32 hb1 info_a32 rfl zb32_one ?_; intro w7 hs7 hb7 hg7))
    refine bodyPost_ret (v := .tuple #[.agg zb32, .int .i64 1]) (ret2_blk hb7 rfl rfl Tryd.underlying30 rfl info_a32 rfl) rfl ?_
    exact ⟨rfl, he1.grown hg7 (by simp)⟩

set_option maxRecDepth 100000 in
set_option maxHeartbeats 1000000 in
theorem lSecret_yes (sv : Value) (seed : List UInt8) (la ba sa : Int) (w : World) (hK : Kst w) (hv : Sl w sv seed) (hyes : okSec seed.length la ba sa = true) :
    Calls Tryd.prog 19 #[sv, .int .i64 la, .int .i64 ba, .int .i64 sa] w fun e w' => e = .returned (.tuple #[dgV (secB seed la.toNat ba.toNat sa.toNat), .int .i64 0]) ∧ Ext w w' := by
  obtain ⟨A, c, rfl, hc⟩ := hv.form
  have HV := Lib.hid hv
  clear hv
  obtain ⟨hk, h1, h2, h3, h4⟩ := (okSec_iff _ _ _ _).1 hyes
  have hkk := (keyB_iff _ _).1 hk
  obtain ⟨hk1, hk2, hk3⟩ := hkk
  have Hk := fun w => Lib.hid (lkey_any A seed.length c la w)
  rw [hk] at Hk
  clear hyes hk
  have hl32 := secB_length seed la.toNat ba.toNat sa.toNat
  have Hc := fun w' => Lib.hid (fun (E : Ext w w') => lsecret_any (.slice A seed.length c) seed la ba sa la.toNat ba.toNat sa.toNat (by omega) (by omega) (by omega) w' (hK.ext E) (HV.out.ext E) (by omega) (by omega) (by omega) (by omega))
  obtain ⟨z, hz⟩ : ∃ z, z = secB seed la.toNat ba.toNat sa.toNat := ⟨_, rfl⟩
  rw [← hz] at hl32 Hc ⊢
  have Hl := Lib.hid hl32
  clear hl32 hz
  have hz32 : Hid (zb32.size = (bytesV z).toArray.size) := zb32_size _ Hl.out
  have hi32 : Hid ((Tryd.prog.info? 30).map (·.size) = some (bytesV z).toArray.size) := by rw [List.size_toArray, bytesV_length, Hl.out]; exact info_a32
  go_enter Tryd.func19, Tryd.ntmps19
  go_wp2_with (first | (refine wpList_alloc_blk rfl 30 rfl (.agg zb32) zero_a32 ?_; intro w1 hs1 hb1 he1; clear hs1))
  refine ((Hk _).out).mono ?_
  rintro e w1' ⟨rfl, rfl⟩
  go_wp2_with fail
  refine ((Hc _).out he1).mono ?_
  rintro e w3 ⟨rfl, E3⟩
  have B3 := hb1.ext E3
  go_wp2_with (first | (refine wpList_store_blk rfl 30 _ _ rfl w.heap.size (bytesV z).toArray rfl rfl 30 zb32 B3 hi32.out hz32.out (bytes_one _) ?_; intro w7 hs7 hb7 hg7))
  refine bodyPost_ret (v := .tuple #[dgV z, .int .i64 0]) (ret2_blk hb7 rfl rfl Tryd.underlying30 rfl hi32.out rfl) rfl ?_
  exact ⟨rfl, (he1.trans E3).grown hg7 (by simp)⟩

set_option maxRecDepth 100000 in
set_option maxHeartbeats 1000000 in
theorem r7Secret_yes (sv : Value) (seed : List UInt8) (la ba sa : Int) (w : World) (hv : Sl w sv seed) (hyes : okSec seed.length la ba sa = true) :
    Calls Tryd.prog 20 #[sv, .int .i64 la, .int .i64 ba, .int .i64 sa] w fun e w' => e = .returned (.tuple #[dgV (secB seed la.toNat ba.toNat sa.toNat), .int .i64 0]) ∧ Ext w w' := by
  obtain ⟨A, c, rfl, hc⟩ := hv.form
  have HV := Lib.hid hv
  clear hv
  obtain ⟨hk, h1, h2, h3, h4⟩ := (okSec_iff _ _ _ _).1 hyes
  have hkk := (keyB_iff _ _).1 hk
  obtain ⟨hk1, hk2, hk3⟩ := hkk
  have Hk := fun w => Lib.hid (r7key_any A seed.length c la w)
  rw [hk] at Hk
  clear hyes hk
  obtain ⟨leaf, rfl⟩ := Int.eq_ofNat_of_zero_le hk2
  obtain ⟨bit, rfl⟩ := Int.eq_ofNat_of_zero_le h1
  obtain ⟨side, rfl⟩ := Int.eq_ofNat_of_zero_le h3
  simp only [Int.toNat_natCast]
  have hl32 := secB_length seed leaf bit side
  obtain ⟨z, hz⟩ : ∃ z, z = secB seed leaf bit side := ⟨_, rfl⟩
  rw [← hz] at hl32 ⊢
  have Hl := Lib.hid hl32
  have Hz := Lib.hid hz
  clear hl32 hz
  have hz32 : Hid (zb32.size = (bytesV z).toArray.size) := zb32_size _ Hl.out
  have hi32 : Hid ((Tryd.prog.info? 30).map (·.size) = some (bytesV z).toArray.size) := by rw [List.size_toArray, bytesV_length, Hl.out]; exact info_a32
  go_enter Tryd.func20, Tryd.ntmps20
  go_wp2_with (first | (refine wpList_alloc_blk rfl 30 rfl (.agg zb32) zero_a32 ?_; intro w1 hs1 hb1 he1; clear hs1))
  refine ((Hk _).out).mono ?_
  rintro e w1' ⟨rfl, rfl⟩
  go_wp2_with fail
  refine (rPut_int _ _ leaf 4 rfl rfl (by omega) (by omega) (by omega) (fit4 _ (by omega)) _).mono ?_
  rintro e w2 ⟨v2, rfl, O2, E2⟩
  obtain ⟨A2, c2, rfl, hc2⟩ := own_form O2
  have HO2 := Lib.hid O2
  clear O2
  go_wp2_with fail
  refine (rPut_int _ _ bit 2 rfl rfl (by omega) (by omega) (by omega) (fit2 _ (by omega)) _).mono ?_
  rintro e w3 ⟨v3, rfl, O3, E3⟩
  obtain ⟨A3, c3, rfl, hc3⟩ := own_form O3
  have HO3 := Lib.hid O3
  clear O3
  have E13 := E2.trans E3
  have Ew3 := he1.trans E13
  have Hc : Hid (Calls Tryd.prog 39 #[.string secA, .slice (some ⟨w3.heap.size + 1, 0, none⟩) 4 4] ((w3.alloc (.cells #[.int .u8 (side : Int)] 5)).alloc (.cells #[.slice A seed.length c, .slice A2 4 c2, .slice A3 2 c3, .slice (some ⟨w3.heap.size, 0, none⟩) 1 1] 22)) fun e w' => e = .returned (dgV z) ∧ Ext ((w3.alloc (.cells #[.int .u8 (side : Int)] 5)).alloc (.cells #[.slice A seed.length c, .slice A2 4 c2, .slice A3 2 c3, .slice (some ⟨w3.heap.size, 0, none⟩) 1 1] 22)) w') := by
    have := rTagged_any secA _ _ _ (slAll_four (w := w3.alloc (.cells #[.int .u8 (side : Int)] 5)) 22 (w3.heap.size + 1) (by simp) (HV.out.ext (Ew3.alloc _)) ((sl_put HO2.out).ext (E3.alloc _)) ((sl_put HO3.out).ext ((Ext.refl w3).alloc _)) (sl_one (UInt8.ofNat side) (u8_small side (by omega)).symm)) (by decide) (by simp [putB_length]; omega) (by simp)
    rw [Hz.out]
    exact this
  go_wp2_with fail
  refine Hc.out.mono ?_
  rintro e w5 ⟨rfl, E5⟩
  have E15 : Ext w1 w5 := ((E13.alloc _).alloc _).trans E5
  have B5 := hb1.ext E15
  go_wp2_with (first | (refine wpList_store_blk rfl 30 _ _ rfl w.heap.size (bytesV z).toArray rfl rfl 30 zb32 B5 hi32.out hz32.out (bytes_one _) ?_; intro w7 hs7 hb7 hg7))
  refine bodyPost_ret (v := .tuple #[dgV z, .int .i64 0]) (ret2_blk hb7 rfl rfl Tryd.underlying30 rfl hi32.out rfl) rfl ?_
  exact ⟨rfl, (he1.trans E15).grown hg7 (by simp)⟩

/-- a bit of a message, 0 where there is none -/
def sideOf (m : List UInt8) (bit : Int) : Nat := if 0 ≤ bit ∧ bit ≤ 255 ∧ m.length ≤ 1048576 then sideB (msgB m) bit.toNat else 0

set_option maxRecDepth 100000 in
set_option maxHeartbeats 1000000 in
theorem lSide_any (mv : Value) (m : List UInt8) (ba : Int) (w : World) (hK : Kst w) (hv : Sl w mv m) :
    Calls Tryd.prog 21 #[mv, .int .i64 ba] w fun e w' => e = .returned (.int .i64 (sideOf m ba : Int)) ∧ Ext w w' := by
  obtain ⟨A, c, rfl, hc⟩ := hv.form
  have HV := Lib.hid hv
  clear hv
  by_cases h1 : 0 ≤ ba
  · by_cases h2 : ba ≤ 255
    · by_cases h3 : m.length ≤ 1048576
      · obtain ⟨bit, rfl⟩ := Int.eq_ofNat_of_zero_le h1
        have hs : sideOf m (bit : Int) = sideB (msgB m) bit := by rw [sideOf, if_pos ⟨h1, h2, h3⟩]; rfl
        rw [hs]
        clear hs
        have Hc := Lib.hid (lof_any _ m w hK HV.out h3)
        have hl := msgB_length m
        obtain ⟨z, hz⟩ : ∃ z, z = msgB m := ⟨_, rfl⟩
        rw [← hz] at hl Hc ⊢
        have Hl := Lib.hid hl
        clear hz hl
        go_enter Tryd.func21, Tryd.ntmps21
        go_wp2_with fail
        refine Hc.out.mono ?_
        rintro e w1 ⟨rfl, E1⟩
        go_wp2_with fail
        refine (lside_any z Hl.out bit (by omega) w1).mono ?_
        rintro e w2 ⟨rfl, E2⟩
        go_wp2
        go_ret
        exact ⟨rfl, E1.trans E2⟩
      · have hs : sideOf m ba = 0 := by rw [sideOf, if_neg (by omega)]
        rw [hs]
        clear hs
        go_enter Tryd.func21, Tryd.ntmps21
        go_wp2
        go_ret
        exact ⟨rfl, Ext.refl w⟩
    · have hs : sideOf m ba = 0 := by rw [sideOf, if_neg (by omega)]
      rw [hs]
      clear hs
      go_enter Tryd.func21, Tryd.ntmps21
      go_wp2
      go_ret
      exact ⟨rfl, Ext.refl w⟩
  · have hs : sideOf m ba = 0 := by rw [sideOf, if_neg (by omega)]
    rw [hs]
    clear hs
    go_enter Tryd.func21, Tryd.ntmps21
    go_wp2
    go_ret
    exact ⟨rfl, Ext.refl w⟩

theorem side_val (x : UInt8) (k : Nat) : (wrap64 (x.toNat : Int) / 2 ^ k).tmod 2 = ((x.toNat / 2 ^ k % 2 : Nat) : Int) := by
  have hx := x.toNat_lt
  rw [IntWalk.wrap64_in _ ⟨by omega, by omega⟩]
  have e1 : ((x.toNat : Int) / 2 ^ k) = ((x.toNat / 2 ^ k : Nat) : Int) := by simp
  rw [e1, Int.tmod_eq_emod_of_nonneg (Int.natCast_nonneg _)]
  generalize x.toNat / 2 ^ k = y
  omega

set_option maxRecDepth 100000 in
set_option maxHeartbeats 1000000 in
theorem r7Side_any (mv : Value) (m : List UInt8) (ba : Int) (w : World) (hv : Sl w mv m) :
    Calls Tryd.prog 22 #[mv, .int .i64 ba] w fun e w' => e = .returned (.int .i64 (sideOf m ba : Int)) ∧ Ext w w' := by
  obtain ⟨A, c, rfl, hc⟩ := hv.form
  have HV := Lib.hid hv
  clear hv
  by_cases h1 : 0 ≤ ba
  · by_cases h2 : ba ≤ 255
    · by_cases h3 : m.length ≤ 1048576
      · obtain ⟨bit, rfl⟩ := Int.eq_ofNat_of_zero_le h1
        have hs : sideOf m (bit : Int) = sideB (msgB m) bit := by rw [sideOf, if_pos ⟨h1, h2, h3⟩]; rfl
        rw [hs]
        clear hs
        have hl := msgB_length m
        obtain ⟨z, hz⟩ : ∃ z, z = msgB m := ⟨_, rfl⟩
        rw [← hz] at hl ⊢
        have Hl := Lib.hid hl
        have Hz := Lib.hid hz
        clear hz hl
        have hz32 : Hid (zb32.size = (bytesV z).toArray.size) := zb32_size _ Hl.out
        have hi32 : Hid ((Tryd.prog.info? 30).map (·.size) = some (bytesV z).toArray.size) := by rw [List.size_toArray, bytesV_length, Hl.out]; exact info_a32
        have Hc : Hid (Calls Tryd.prog 39 #[.string msgA, .slice (some ⟨w.heap.size, 0, none⟩) 1 1] (w.alloc (.cells #[.slice A m.length c] 22)) fun e w' => e = .returned (dgV z) ∧ Ext (w.alloc (.cells #[.slice A m.length c] 22)) w') := by
          have := rTagged_any msgA _ _ _ (slAll_one 22 _ rfl HV.out) (by decide) (by simpa using h3) (by simp)
          rw [Hz.out]
          exact this
        go_enter Tryd.func22, Tryd.ntmps22
        go_wp2_with fail
        refine Hc.out.mono ?_
        rintro e w1 ⟨rfl, E1⟩
        go_wp2_with (first | (refine wpList_alloc_blk rfl 30 rfl (.agg zb32) zero_a32 ?_; intro w4 hs4 hb4 he4; clear hs4) | (refine wpList_store_blk rfl 30 _ _ rfl w1.heap.size (bytesV z).toArray rfl rfl 30 zb32 hb4 hi32.out hz32.out (bytes_one _) ?_; intro w5 hs5 hb5 hg5; have hcc : w5.cell? ⟨w1.heap.size, bit / 8, none⟩ = some (.int .u8 ((z[bit / 8]?.getD 0).toNat : Int)) := (by rw [hb5.cell]; have := bytesV_get z (bit / 8) (by rw [Hl.out]; omega); simpa using this)))
        go_ret
        refine ⟨?_, (((Ext.refl w).alloc _).trans (E1.trans he4)).grown hg5 (by simp; have := ((Ext.refl w).alloc (.cells #[.slice A m.length c] 22) |>.trans E1).size; omega)⟩
        show Ending.returned (.int .i64 ((wrap64 ((z[bit / 8]?.getD 0).toNat : Int) / 2 ^ (7 - bit % 8)).tmod 2)) = _
        rw [side_val]
        rfl
      · have hs : sideOf m ba = 0 := by rw [sideOf, if_neg (by omega)]
        rw [hs]
        clear hs
        go_enter Tryd.func22, Tryd.ntmps22
        go_wp2
        go_ret
        exact ⟨rfl, Ext.refl w⟩
    · have hs : sideOf m ba = 0 := by rw [sideOf, if_neg (by omega)]
      rw [hs]
      clear hs
      go_enter Tryd.func22, Tryd.ntmps22
      go_wp2
      go_ret
      exact ⟨rfl, Ext.refl w⟩
  · have hs : sideOf m ba = 0 := by rw [sideOf, if_neg (by omega)]
    rw [hs]
    clear hs
    go_enter Tryd.func22, Tryd.ntmps22
    go_wp2
    go_ret
    exact ⟨rfl, Ext.refl w⟩

set_option maxRecDepth 100000 in
set_option maxHeartbeats 400000 in
theorem lsum_any (d : List UInt8) (hd : d.length = 32) (w : World) (hK : Kst w) :
    Calls Tryd.prog 29 #[dgV d] w fun e w' => e = .returned (dgV (sumB d)) ∧ Ext w w' := by
  have hl := sumB_length d
  obtain ⟨z, hz⟩ : ∃ z, z = sumB d := ⟨_, rfl⟩
  rw [← hz] at hl ⊢
  have Hl := Lib.hid hl
  have Hz := Lib.hid hz
  have Hd := Lib.hid hd
  clear hz hl hd
  have hz32 : Hid (zb32.size = (bytesV z).toArray.size) := zb32_size _ Hl.out
  have hi32 : Hid ((Tryd.prog.info? 30).map (·.size) = some (bytesV z).toArray.size) := by rw [List.size_toArray, bytesV_length, Hl.out]; exact info_a32
  have B0 := Blk.new w 30 (bytesV d).toArray
  go_enter Tryd.func29, Tryd.ntmps29
  go_wp2_with (first | (refine wpList_alloc_blk rfl 30 rfl (.agg zb32) zero_a32 ?_; intro w1 hs1 hb1 he1; clear hs1))
  have E1 : Ext w w1 := ((Ext.refl w).alloc _).trans he1
  have S1 : Sl w1 (.slice (some ⟨w.heap.size, 0, none⟩) 32 32) d := by have := sl_of_blk (B0.ext he1); rw [Hd.out] at this; exact this
  have Hc : Hid (Calls Tryd.prog 42 #[.slice (some ⟨w1.heap.size, 0, none⟩) 1 1] (w1.alloc (.cells #[.slice (some ⟨w.heap.size, 0, none⟩) 32 32] 22)) fun e w' => e = .returned (dgV z) ∧ Ext (w1.alloc (.cells #[.slice (some ⟨w.heap.size, 0, none⟩) 32 32] 22)) w') := by
    have := of_any _ _ _ (hK.ext (E1.alloc _)) (slAll_one 22 _ rfl S1) (by simp) (by simp [total, Hd.out])
    rw [Hz.out]
    rw [show ([d] : List (List UInt8)).flatten = d from by simp] at this
    exact this
  go_wp2_with fail
  refine Hc.out.mono ?_
  rintro e w3 ⟨rfl, E3⟩
  have E13 : Ext w1 w3 := ((Ext.refl w1).alloc _).trans E3
  have B3 := hb1.ext E13
  simp only [World.size_alloc] at B3
  go_wp2_with (first | (refine wpList_store_blk rfl 30 _ _ rfl (w.heap.size + 1) (bytesV z).toArray rfl rfl 30 zb32 B3 hi32.out hz32.out (bytes_one _) ?_; intro w7 hs7 hb7 hg7))
  refine bodyPost_ret (v := dgV z) (ret_blk hb7 rfl rfl Tryd.underlying30 rfl hi32.out) rfl ?_
  exact ⟨rfl, (E1.trans E13).grown hg7 (by simp)⟩
end Go.Proofs.YtgbdmelnmmopaaaDoor
