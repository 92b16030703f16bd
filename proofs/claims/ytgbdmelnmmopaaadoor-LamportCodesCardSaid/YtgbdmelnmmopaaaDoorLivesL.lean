/- The contract of pursuivantlaw07.lives: it answers true. -/
import Derived.Test.YtgbdmelnmmopaaaDoorLamI
namespace Go.Proofs.YtgbdmelnmmopaaaDoor
open Go.RowKit

def seedL : List UInt8 := [115, 101, 101, 100]
def mL : List UInt8 := [109]
theorem dg_i (z : List UInt8) (h : z.length = 32) : (Tryd.prog.info? 30).map (·.size) = some (bytesV z).toArray.size := by rw [List.size_toArray, bytesV_length, h]; exact info_a32

theorem Blk.alloc' {w : World} {g : Nat} {t : TypeId} {cs : Array Value} (h : Blk w g t cs) (o : Obj) : Blk (w.alloc o) g t cs := h.alloc o

set_option maxRecDepth 100000 in
set_option maxHeartbeats 2000000 in
theorem lives7_any (w : World) (hK : Kst w) : Calls Tryd.prog 7 #[] w fun e w' => e = .returned (.bool true) ∧ Ext w w' := by
  have kc := conv_const
  have hm8 : Hid (mayB 8 = true) := by show _ = _; decide
  have hk3 : Hid (keyB seedL.length 3 = true) := by show _ = _; decide
  have Hs := Lib.hid (lSign_yes (.slice (some ⟨w.heap.size, 0, none⟩) 4 4) (.slice (some ⟨w.heap.size + 1, 0, none⟩) 1 1) seedL mL 3 8 ((w.alloc (.cells #[.int .u8 115, .int .u8 101, .int .u8 101, .int .u8 100] 5 (4, 5))).alloc (.cells #[.int .u8 109] 5 (1, 2)))
    (hK.ext (((Ext.refl w).alloc _).alloc _)) ((sl_mark w 5 (4, 5) seedL _ rfl).ext ((Ext.refl _).alloc _)) (sl_mark _ 5 (1, 2) mL _ (by simp)) hm8.out hk3.out (by decide))
  have hrl := signR_length seedL (3 : Int).toNat mL (8 : Int).toNat
  have hol := signO_length seedL (3 : Int).toNat mL (8 : Int).toNat
  have himp := impB_sign seedL mL (3 : Int).toNat (8 : Int).toNat
  have hll := leafB_length seedL (3 : Int).toNat (8 : Int).toNat
  obtain ⟨R, hR⟩ : ∃ R, R = signR seedL (3 : Int).toNat mL (8 : Int).toNat := ⟨_, rfl⟩
  obtain ⟨O, hO⟩ : ∃ O, O = signO seedL (3 : Int).toNat mL (8 : Int).toNat := ⟨_, rfl⟩
  obtain ⟨z, hz⟩ : ∃ z, z = leafB seedL (3 : Int).toNat (8 : Int).toNat := ⟨_, rfl⟩
  rw [← hR] at Hs hrl himp
  rw [← hO] at Hs hol himp
  rw [← hz] at himp hll
  rw [show (8 : Int).toNat = 8 from rfl] at hrl hol
  have Hz := Lib.hid hz
  have HRl := Lib.hid hrl
  have HOl := Lib.hid hol
  have Himp := Lib.hid himp
  have Hll := Lib.hid hll
  have heq := eq_dg z hll
  clear hz hR hO hrl hol himp hll
  have hwh : Hid (wholeB R.length O.length = true) := by show _ = _; rw [HRl.out, HOl.out]; decide
  have iz : Hid ((Tryd.prog.info? 30).map (·.size) = some (bytesV z).toArray.size) := dg_i z Hll.out
  have sz : Hid (zb32.size = (bytesV z).toArray.size) := zb32_size _ Hll.out
  go_enter Tryd.func7, Tryd.ntmps7
  go_wp2_with fail
  with_reducible refine Hs.out.mono ?_
  rintro e w1 ⟨vr, vo, rfl, R1, O1, E1'⟩
  have E1 : Ext w w1 := (((Ext.refl w).alloc _).alloc _).trans E1'
  obtain ⟨Ar, cr, rfl, hcr⟩ := R1.form
  obtain ⟨Ao, co, rfl, hco⟩ := O1.form
  rw [HRl.out] at R1 hcr ⊢
  rw [HOl.out] at O1 hco ⊢
  have HR := Lib.hid R1
  have HO := Lib.hid O1
  clear E1' Hs R1 O1
  go_wp2_with (first | (refine wpList_var rfl rfl 26 rfl _ _ rfl (.agg noOne) zero_one #[.slice Ar 8 cr, .slice Ao 8 co] rfl rfl info_one rfl (two_one _ _ _ _ _ _) ?_; intro w2 D1 E2))
  have F2 : Ext w1 w2 := E2
  have Hl := Lib.hid (lLeaf_yes (.slice (some ⟨w2.heap.size, 0, none⟩) 4 4) seedL 3 8 (w2.alloc (.cells #[.int .u8 115, .int .u8 101, .int .u8 101, .int .u8 100] 5 (4, 5))) (hK.ext ((E1.trans F2).alloc _)) (sl_mark w2 5 (4, 5) seedL _ rfl) hm8.out hk3.out)
  rw [← Hz.out] at Hl
  with_reducible refine Hl.out.mono ?_
  rintro e w3 ⟨rfl, E3'⟩
  have E3 : Ext w2 w3 := ((Ext.refl w2).alloc _).trans E3'
  have F3 := F2.trans E3
  replace D1 := D1.ext E3
  clear E3' E3 Hl E2 F2
  go_wp2_with (first | (have _ := D2; refine wpList_load_blk (D1.alloc' _) rfl 26 _ rfl rfl Tryd.underlying26 rfl info_one ?_) | (refine wpList_var rfl rfl 30 rfl _ _ rfl (.agg zb32) zero_a32 (bytesV z).toArray rfl rfl iz.out sz.out (bytes_one _) ?_; intro w4 D2 E4; replace D1 := D1.ext E4))
  have F4 := F3.trans E4
  clear F3 E4
  have Hi := Lib.hid (lImplied_yes (.slice (some ⟨w4.heap.size, 0, none⟩) 1 1) (.slice Ar 8 cr) (.slice Ao 8 co) mL R O (w4.alloc (.cells #[.int .u8 109] 5 (1, 2))) (hK.ext ((E1.trans F4).alloc _)) (sl_mark w4 5 (1, 2) mL _ rfl) (HR.out.ext (F4.alloc _)) (HO.out.ext (F4.alloc _)) hwh.out (by decide))
  rw [Himp.out] at Hi
  with_reducible refine Hi.out.mono ?_
  rintro e w5 ⟨rfl, E5'⟩
  have E5 : Ext w4 w5 := ((Ext.refl w4).alloc _).trans E5'
  have F5 := F4.trans E5
  replace D1 := D1.ext E5
  replace D2 := D2.ext E5
  clear E5' E5 Hi F4
  go_wp2_with (first | (have _ := D3; refine wpList_load_blk D1 rfl 26 _ rfl rfl Tryd.underlying26 rfl info_one ?_) | (refine wpList_var rfl rfl 30 rfl _ _ rfl (.agg zb32) zero_a32 (bytesV z).toArray rfl rfl iz.out sz.out (bytes_one _) ?_; intro w6 D3 E6; replace D1 := D1.ext E6; replace D2 := D2.ext E6))
  have F6 := F5.trans E6
  clear F5 E6
  have He := Lib.hid (lEncode_yes (.slice Ar 8 cr) (.slice Ao 8 co) R O w6 (HR.out.ext F6) (HO.out.ext F6) hwh.out)
  have hel := encS_length R O R.length HR.out.2 HO.out.2 (Nat.le_refl _) (by rw [HRl.out, HOl.out]; omega)
  rw [HRl.out] at hel
  rw [HRl.out] at He
  with_reducible refine He.out.mono ?_
  rintro e w7 ⟨vc, rfl, S7, E7⟩
  obtain ⟨Ac, cc, rfl, hcc⟩ := S7.form
  rw [hel] at S7 hcc ⊢
  have F7 := F6.trans E7
  replace D1 := D1.ext E7
  replace D2 := D2.ext E7
  replace D3 := D3.ext E7
  clear E7 He F6 hel S7
  have Hn := Lib.hid (lLeaf_no (.slice (some ⟨w7.heap.size, 0, none⟩) 4 4) seedL (-1) 8 (w7.alloc (.cells #[.int .u8 115, .int .u8 101, .int .u8 101, .int .u8 100] 5 (4, 5))) (sl_mark w7 5 (4, 5) seedL _ rfl) (.inr ⟨hm8.out, by decide⟩))
  go_wp2_with fail
  with_reducible refine Hn.out.mono ?_
  rintro e w8 ⟨rfl, E8'⟩
  have E8 : Ext w7 w8 := ((Ext.refl w7).alloc _).trans E8'
  have F8 := F7.trans E8
  replace D1 := D1.ext E8
  replace D2 := D2.ext E8
  replace D3 := D3.ext E8
  clear E8' E8 Hn F7
  go_wp2_with (first | (refine wpList_var rfl rfl 30 rfl _ _ rfl (.agg zb32) zero_a32 zb32 rfl rfl info_a32 rfl zb32_one ?_; intro w9 D4 E9) | (at_make; refine wpList_make_blk rfl 22 5 _ _ rfl (.int .u8 0) 1 Tryd.underlying22 info_u8 rfl 500 rfl rfl (by omega) (by omega) ?_; intro w10 hs10 hb10 he10; clear hs10 hb10))
  have F10 := (F8.trans E9).trans he10
  replace D1 := D1.ext (E9.trans he10)
  replace D2 := D2.ext (E9.trans he10)
  replace D3 := D3.ext (E9.trans he10)
  have Hd := Lib.hid (lDecode_no (some ⟨w9.heap.size, 0, none⟩) 500 500 w10 (by omega) (.inl (by decide)))
  clear E9 he10 D4 F8
  with_reducible refine Hd.out.mono ?_
  rintro e w11 ⟨rfl, E11⟩
  have F11 := F10.trans E11
  replace D1 := D1.ext E11
  replace D2 := D2.ext E11
  replace D3 := D3.ext E11
  clear E11 F10 Hd
  go_wp2_with (first | (refine wpList_var rfl rfl 26 rfl _ _ rfl (.agg noOne) zero_one noOne rfl rfl info_one rfl noOne_one ?_; intro w12 D5 E12))
  have F12 := F11.trans E12
  replace D1 := D1.ext E12
  replace D2 := D2.ext E12
  replace D3 := D3.ext E12
  clear E12 F11 D5
  have Hl := Lib.hid (r7Leaf_yes (.slice (some ⟨w12.heap.size, 0, none⟩) 4 4) seedL 3 8 (w12.alloc (.cells #[.int .u8 115, .int .u8 101, .int .u8 101, .int .u8 100] 5 (4, 5))) (sl_mark w12 5 (4, 5) seedL _ rfl) hm8.out hk3.out)
  rw [← Hz.out] at Hl
  with_reducible refine Hl.out.mono ?_
  rintro e w13 ⟨rfl, E13'⟩
  have E13 : Ext w12 w13 := ((Ext.refl w12).alloc _).trans E13'
  have F13 := F12.trans E13
  replace D1 := D1.ext E13
  replace D2 := D2.ext E13
  replace D3 := D3.ext E13
  clear E13' E13 Hl F12 kc
  have Hy8 := Lib.hid (fun w' => lMay_any 256 w')
  have Hn8 := Lib.hid (fun w' => lMay_any 12 w')
  rw [show mayB 256 = true from by decide] at Hy8
  rw [show mayB 12 = false from by decide] at Hn8
  go_wp2_with (first | (refine wpList_var rfl rfl 30 rfl _ _ rfl (.agg zb32) zero_a32 (bytesV z).toArray rfl rfl iz.out sz.out (bytes_one _) ?_; intro w14 D6 E14; replace D1 := D1.ext E14; replace D2 := D2.ext E14; replace D3 := D3.ext E14; have c0 := (one_cells D1).1; have c1 := (one_cells D1).2) | (have _ := D6; refine wpList_unguard rfl ?_; refine wpList_load_blk D2 rfl 30 _ rfl rfl Tryd.underlying30 rfl iz.out ?_) | (have _ := D6; refine wpList_unguard rfl ?_; refine wpList_load_blk D3 rfl 30 _ rfl rfl Tryd.underlying30 rfl iz.out ?_) | (have _ := D6; refine wpList_unguard rfl ?_; refine wpList_load_blk D6 rfl 30 _ rfl rfl Tryd.underlying30 rfl iz.out ?_))
  with_reducible refine (Hy8.out _).mono ?_
  rintro e w15 ⟨rfl, rfl⟩
  go_wp2_with fail
  with_reducible refine (Hn8.out _).mono ?_
  rintro e w15 ⟨rfl, rfl⟩
  go_wp2
  go_ret
  exact ⟨rfl, (E1.trans F13).trans E14⟩
end Go.Proofs.YtgbdmelnmmopaaaDoor
