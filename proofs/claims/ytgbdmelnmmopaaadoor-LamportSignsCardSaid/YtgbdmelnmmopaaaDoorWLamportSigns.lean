/- The walk of the law LamportSigns. -/
import Derived.Test.YtgbdmelnmmopaaaDoorLivesL
namespace Go.Proofs.YtgbdmelnmmopaaaDoor
open Go.RowKit

theorem fromN (ds : List (List UInt8)) (n : Nat) (h : ds.length = n) {w : World} {v : Value} (hs : SlD w v ds) : ∃ A c, v = .slice A n c ∧ n ≤ c := by
  obtain ⟨A, c, hv, hc⟩ := hs.form
  exact ⟨A, c, by rw [hv, h], by omega⟩

set_option maxRecDepth 100000 in
set_option maxHeartbeats 2000000 in
theorem lamportSigns_no (sv : Value) (seed : List UInt8) (la ba : Int) (mv : Value) (m : List UInt8) (w : World) (hK : Kst w) (hs : Sl w sv seed) (hm : Sl w mv m) (h1 : seed.length ≤ 200) (h2 : m.length ≤ 3000) (hno : mayB ba = false ∨ (mayB ba = true ∧ keyB seed.length la = false)) :
    Calls Tryd.prog 3 #[sv, .int .i64 la, .int .i64 ba, mv] w fun e w' => e = .returned (.bool true) ∧ Ext w w' := by
  obtain ⟨A, c, rfl, hc⟩ := hs.form
  obtain ⟨Am, cm, rfl, hcm⟩ := hm.form
  have HV := Lib.hid hs
  have Hno := Lib.hid hno
  have Hlv := Lib.hid (fun w' (E : Ext w w') => lives7_any w' (hK.ext E))
  have t1 : ((seed.length : Int) > 200) = False := by simp; omega
  have t2 : ((m.length : Int) > 3000) = False := by simp; omega
  have heq : ∀ w, (Op.equalIn 10000 30 (.agg zb32) (.agg zb32)).run Tryd.prog w = .ok true w := fun w => eq_dg (List.replicate 32 0) (by simp) w
  clear hs hm hno
  go_enter Tryd.func3, Tryd.ntmps3
  go_wp2_with fail
  with_reducible refine (lSign_no _ (.slice Am m.length cm) seed la ba w HV.out Hno.out).mono ?_
  rintro e w1 ⟨rfl, E1⟩
  go_wp2_with (refine wpList_var rfl rfl 26 rfl _ _ rfl (.agg noOne) zero_one noOne rfl rfl info_one rfl noOne_one ?_; intro w2 D1 E2)
  have F2 := E1.trans E2
  clear E1 E2
  with_reducible refine (r7Sign_no _ (.slice Am m.length cm) seed la ba w2 (HV.out.ext F2) Hno.out).mono ?_
  rintro e w3 ⟨rfl, E3⟩
  have F3 := F2.trans E3
  replace D1 := D1.ext E3
  clear E3 F2
  go_wp2_with (refine wpList_var rfl rfl 26 rfl _ _ rfl (.agg noOne) zero_one noOne rfl rfl info_one rfl noOne_one ?_; intro w4 D2 E4)
  have F4 := F3.trans E4
  replace D1 := D1.ext E4
  clear E4 F3
  with_reducible refine (lLeaf_no _ seed la ba w4 (HV.out.ext F4) Hno.out).mono ?_
  rintro e w5 ⟨rfl, E5⟩
  have F5 := F4.trans E5
  replace D1 := D1.ext E5
  replace D2 := D2.ext E5
  clear E5 F4
  go_wp2_with (refine wpList_var rfl rfl 30 rfl _ _ rfl (.agg zb32) zero_a32 zb32 rfl rfl info_a32 rfl zb32_one ?_; intro w6 D3 E6)
  have F6 := F5.trans E6
  replace D1 := D1.ext E6
  replace D2 := D2.ext E6
  clear E6 F5
  with_reducible refine (r7Leaf_no _ seed la ba w6 (HV.out.ext F6) Hno.out).mono ?_
  rintro e w7 ⟨rfl, E7⟩
  have F7 := F6.trans E7
  replace D1 := D1.ext E7
  replace D2 := D2.ext E7
  replace D3 := D3.ext E7
  clear E7 F6
  go_wp2_with (refine wpList_var rfl rfl 30 rfl _ _ rfl (.agg zb32) zero_a32 zb32 rfl rfl info_a32 rfl zb32_one ?_; intro w8 D4 E8)
  have F8 := F7.trans E8
  replace D1 := D1.ext E8
  replace D2 := D2.ext E8
  replace D3 := D3.ext E8
  clear E8 F7
  with_reducible refine (Hlv.out _ F8).mono ?_
  rintro e w9 ⟨rfl, E9⟩
  have F9 := F8.trans E9
  replace D1 := D1.ext E9
  replace D2 := D2.ext E9
  replace D3 := D3.ext E9
  replace D4 := D4.ext E9
  clear E9 F8
  go_wp2_with (first | (refine wpList_unguard rfl ?_; refine wpList_load_blk D1 rfl 26 _ rfl rfl Tryd.underlying26 rfl info_one ?_) | (refine wpList_unguard rfl ?_; refine wpList_load_blk D2 rfl 26 _ rfl rfl Tryd.underlying26 rfl info_one ?_))
  have Hsame : Hid (Calls Tryd.prog 12 #[.agg noOne, .agg noOne] w9 fun e w' => e = .returned (.bool true) ∧ Ext w9 w') := r7Same_eq (.slice none 0 0) (.slice none 0 0) (.slice none 0 0) (.slice none 0 0) [] [] w9 (SlD.none_ _ _ _) (SlD.none_ _ _ _) (SlD.none_ _ _ _) (SlD.none_ _ _ _) (by simp) (by simp)
  with_reducible refine Hsame.out.mono ?_
  rintro e w10 ⟨rfl, E10⟩
  have F10 := F9.trans E10
  replace D3 := D3.ext E10
  replace D4 := D4.ext E10
  clear E10 F9 D1 D2
  go_wp2_with (first | (refine wpList_unguard rfl ?_; refine wpList_load_blk D3 rfl 30 _ rfl rfl Tryd.underlying30 rfl info_a32 ?_) | (refine wpList_unguard rfl ?_; refine wpList_load_blk D4 rfl 30 _ rfl rfl Tryd.underlying30 rfl info_a32 ?_))
  go_ret
  exact ⟨rfl, F10⟩

set_option maxRecDepth 100000 in
set_option maxHeartbeats 2000000 in
theorem lamportSigns_yes (sv : Value) (seed : List UInt8) (la ba : Int) (mv : Value) (m : List UInt8) (w : World) (hK : Kst w) (hs : Sl w sv seed) (hm : Sl w mv m) (h1 : seed.length ≤ 200) (h2 : m.length ≤ 3000) (hmay : mayB ba = true) (hkey : keyB seed.length la = true) :
    Calls Tryd.prog 3 #[sv, .int .i64 la, .int .i64 ba, mv] w fun e w' => e = .returned (.bool true) ∧ Ext w w' := by
  obtain ⟨A, c, rfl, hc⟩ := hs.form
  obtain ⟨Am, cm, rfl, hcm⟩ := hm.form
  have HV := Lib.hid hs
  have HM := Lib.hid hm
  have Hmay := Lib.hid hmay
  have Hkey := Lib.hid hkey
  have Hlv := Lib.hid (fun w' (E : Ext w w') => lives7_any w' (hK.ext E))
  have t1 : ((seed.length : Int) > 200) = False := by simp; omega
  have t2 : ((m.length : Int) > 3000) = False := by simp; omega
  obtain ⟨hb1, hb2, hb3⟩ := (mayB_iff _).1 hmay
  have hrl := signR_length seed la.toNat m ba.toNat
  have hol := signO_length seed la.toNat m ba.toNat
  have himp := impB_sign seed m la.toNat ba.toNat
  have hll := leafB_length seed la.toNat ba.toNat
  have Hs1 := Lib.hid (lSign_yes _ _ seed m la ba w hK hs hm hmay hkey (by omega))
  have Hs2 := Lib.hid (fun w' (E : Ext w w') => r7Sign_yes _ _ seed m la ba w' (hs.ext E) (hm.ext E) hmay hkey (by omega))
  have Hf1 := Lib.hid (fun w' (E : Ext w w') => lLeaf_yes _ seed la ba w' (hK.ext E) (hs.ext E) hmay hkey)
  have Hf2 := Lib.hid (fun w' (E : Ext w w') => r7Leaf_yes _ seed la ba w' (hs.ext E) hmay hkey)
  have hwb : wholeB (signR seed la.toNat m ba.toNat).length (signO seed la.toNat m ba.toNat).length = true := by rw [hrl, hol]; simp [wholeB, show ((ba.toNat : Nat) : Int) = ba by omega, hmay]
  obtain ⟨n, hn⟩ : ∃ n, n = ba.toNat := ⟨_, rfl⟩
  obtain ⟨R, hR⟩ : ∃ R, R = signR seed la.toNat m ba.toNat := ⟨_, rfl⟩
  obtain ⟨O, hO⟩ : ∃ O, O = signO seed la.toNat m ba.toNat := ⟨_, rfl⟩
  obtain ⟨z, hz⟩ : ∃ z, z = leafB seed la.toNat ba.toNat := ⟨_, rfl⟩
  rw [← hR] at Hs1 Hs2 hrl himp hwb
  rw [← hO] at Hs1 Hs2 hol himp hwb
  rw [← hz] at himp hll Hf1 Hf2
  rw [← hn] at hrl hol
  have hnb : n ≤ 256 := by omega
  have Hwb := Lib.hid hwb
  have HRl := Lib.hid hrl
  have HOl := Lib.hid hol
  have Himp := Lib.hid himp
  have Hll := Lib.hid hll
  have heq := eq_dg z hll
  clear hz hR hO hrl hol himp hll hwb hn hs hm hmay hkey hb3
  have iz : Hid ((Tryd.prog.info? 30).map (·.size) = some (bytesV z).toArray.size) := dg_i z Hll.out
  have sz : Hid (zb32.size = (bytesV z).toArray.size) := zb32_size _ Hll.out
  go_enter Tryd.func3, Tryd.ntmps3
  go_wp2_with fail
  with_reducible refine Hs1.out.mono ?_
  rintro e w1 ⟨vr, vo, rfl, R1, O1, E1⟩
  obtain ⟨Ar, cr, rfl, hcr⟩ := fromN R n HRl.out R1
  obtain ⟨Ao, co, rfl, hco⟩ := fromN O n HOl.out O1
  have HR1 := Lib.hid R1
  have HO1 := Lib.hid O1
  clear R1 O1 Hs1
  go_wp2_with (refine wpList_var rfl rfl 26 rfl _ _ rfl (.agg noOne) zero_one #[.slice Ar n cr, .slice Ao n co] rfl rfl info_one rfl (two_one _ _ _ _ _ _) ?_; intro w2 D1 E2)
  have F2 := E1.trans E2
  have G2 := E2
  clear E2
  with_reducible refine (Hs2.out _ F2).mono ?_
  rintro e w3 ⟨vr2, vo2, rfl, R2, O2, E3⟩
  obtain ⟨Ar2, cr2, rfl, hcr2⟩ := fromN R n HRl.out R2
  obtain ⟨Ao2, co2, rfl, hco2⟩ := fromN O n HOl.out O2
  have HR2 := Lib.hid R2
  have HO2 := Lib.hid O2
  have G3 := G2.trans E3
  replace D1 := D1.ext E3
  clear R2 O2 E3 F2 G2 Hs2
  go_wp2_with (refine wpList_var rfl rfl 26 rfl _ _ rfl (.agg noOne) zero_one #[.slice Ar2 n cr2, .slice Ao2 n co2] rfl rfl info_one rfl (two_one _ _ _ _ _ _) ?_; intro w4 D2 E4)
  have G4 := G3.trans E4
  have F4 := E1.trans G4
  replace D1 := D1.ext E4
  with_reducible refine (Hf1.out _ F4).mono ?_
  rintro e w5 ⟨rfl, E5⟩
  have E35 := E4.trans E5
  have G5 := G4.trans E5
  replace D1 := D1.ext E5
  replace D2 := D2.ext E5
  clear E4 E5 G3 G4 F4
  go_wp2_with (refine wpList_var rfl rfl 30 rfl _ _ rfl (.agg zb32) zero_a32 (bytesV z).toArray rfl rfl iz.out sz.out (bytes_one _) ?_; intro w6 D3 E6)
  have E36 := E35.trans E6
  have G6 := G5.trans E6
  have F6 := E1.trans G6
  replace D1 := D1.ext E6
  replace D2 := D2.ext E6
  clear E6 E35 G5
  with_reducible refine (Hf2.out _ F6).mono ?_
  rintro e w7 ⟨rfl, E7⟩
  have E37 := E36.trans E7
  have G7 := G6.trans E7
  replace D1 := D1.ext E7
  replace D2 := D2.ext E7
  replace D3 := D3.ext E7
  clear E7 E36 G6 F6
  go_wp2_with (refine wpList_var rfl rfl 30 rfl _ _ rfl (.agg zb32) zero_a32 (bytesV z).toArray rfl rfl iz.out sz.out (bytes_one _) ?_; intro w8 D4 E8)
  have E38 := E37.trans E8
  have G8 := G7.trans E8
  have F8 := E1.trans G8
  replace D1 := D1.ext E8
  replace D2 := D2.ext E8
  replace D3 := D3.ext E8
  clear E8 E37 G7
  with_reducible refine (Hlv.out _ F8).mono ?_
  rintro e w9 ⟨rfl, E9⟩
  have E39 := E38.trans E9
  have G9 := G8.trans E9
  have F9 := F8.trans E9
  replace D1 := D1.ext E9
  replace D2 := D2.ext E9
  replace D3 := D3.ext E9
  replace D4 := D4.ext E9
  clear E9 F8 G8 E38
  go_wp2_with (first | (refine wpList_unguard rfl ?_; refine wpList_load_blk D1 rfl 26 _ rfl rfl Tryd.underlying26 rfl info_one ?_) | (refine wpList_unguard rfl ?_; refine wpList_load_blk D2 rfl 26 _ rfl rfl Tryd.underlying26 rfl info_one ?_))
  with_reducible refine (r7Same_eq (.slice Ar n cr) (.slice Ao n co) (.slice Ar2 n cr2) (.slice Ao2 n co2) R O w9 (HR1.out.ext G9) (HO1.out.ext G9) (HR2.out.ext E39) (HO2.out.ext E39) (by rw [HRl.out]; omega) (by rw [HOl.out]; omega)).mono ?_
  rintro e w10 ⟨rfl, E10⟩
  have F10 := F9.trans E10
  have G10 := G9.trans E10
  replace D1 := D1.ext E10
  replace D3 := D3.ext E10
  replace D4 := D4.ext E10
  clear E10 F9 G9 E39 D2
  have Hi := Lib.hid (lImplied_yes (.slice Am m.length cm) (.slice Ar n cr) (.slice Ao n co) m R O w10 (hK.ext F10) (HM.out.ext F10) (HR1.out.ext G10) (HO1.out.ext G10) Hwb.out (by omega))
  rw [Himp.out] at Hi
  go_wp2_with (first | (refine wpList_unguard rfl ?_; refine wpList_load_blk D3 rfl 30 _ rfl rfl Tryd.underlying30 rfl iz.out ?_) | (refine wpList_unguard rfl ?_; refine wpList_load_blk D4 rfl 30 _ rfl rfl Tryd.underlying30 rfl iz.out ?_) | (refine wpList_load_blk D1 rfl 26 _ rfl rfl Tryd.underlying26 rfl info_one ?_))
  with_reducible refine Hi.out.mono ?_
  rintro e w11 ⟨rfl, E11⟩
  have F11 := F10.trans E11
  replace D3 := D3.ext E11
  clear E11 F10 G10 D1 D4 Hi
  go_wp2_with (first | (refine wpList_var rfl rfl 30 rfl _ _ rfl (.agg zb32) zero_a32 (bytesV z).toArray rfl rfl iz.out sz.out (bytes_one _) ?_; intro w12 D5 E12; replace D3 := D3.ext E12) | (have _ := D5; refine wpList_unguard rfl ?_; refine wpList_load_blk D3 rfl 30 _ rfl rfl Tryd.underlying30 rfl iz.out ?_) | (have _ := D5; refine wpList_unguard rfl ?_; refine wpList_load_blk D5 rfl 30 _ rfl rfl Tryd.underlying30 rfl iz.out ?_))
  go_ret
  exact ⟨rfl, F11.trans E12⟩

set_option maxRecDepth 100000 in
set_option maxHeartbeats 1000000 in
theorem lamportSigns_any (sv : Value) (seed : List UInt8) (la ba : Int) (mv : Value) (m : List UInt8) (w : World) (hK : Kst w) (hs : Sl w sv seed) (_ : -9223372036854775808 ≤ la ∧ la ≤ 9223372036854775807) (_ : -9223372036854775808 ≤ ba ∧ ba ≤ 9223372036854775807) (hm : Sl w mv m) :
    Calls Tryd.prog 3 #[sv, .int .i64 la, .int .i64 ba, mv] w fun e w' => e = .returned (.bool true) ∧ Ext w w' := by
  have Hlv := Lib.hid (fun w' (E : Ext w w') => lives7_any w' (hK.ext E))
  by_cases h1 : seed.length ≤ 200
  · by_cases h2 : m.length ≤ 3000
    · cases hmay : mayB ba with
      | false => exact lamportSigns_no sv seed la ba mv m w hK hs hm h1 h2 (.inl hmay)
      | true =>
        cases hkey : keyB seed.length la with
        | false => exact lamportSigns_no sv seed la ba mv m w hK hs hm h1 h2 (.inr ⟨hmay, hkey⟩)
        | true => exact lamportSigns_yes sv seed la ba mv m w hK hs hm h1 h2 hmay hkey
    · obtain ⟨A, c, rfl, hc⟩ := hs.form
      obtain ⟨Am, cm, rfl, hcm⟩ := hm.form
      have t1 : ((seed.length : Int) > 200) = False := by simp; omega
      have t2 : ((m.length : Int) > 3000) = True := by simp; omega
      clear hs hm
      go_enter Tryd.func3, Tryd.ntmps3
      go_wp2_with fail
      with_reducible refine (Hlv.out _ (Ext.refl w)).mono ?_
      rintro e w1 ⟨rfl, E1⟩
      go_wp2
      go_ret
      exact ⟨rfl, E1⟩
  · obtain ⟨A, c, rfl, hc⟩ := hs.form
    have t1 : ((seed.length : Int) > 200) = True := by simp; omega
    clear hs hm
    go_enter Tryd.func3, Tryd.ntmps3
    go_wp2_with fail
    with_reducible refine (Hlv.out _ (Ext.refl w)).mono ?_
    rintro e w1 ⟨rfl, E1⟩
    go_wp2
    go_ret
    exact ⟨rfl, E1⟩
end Go.Proofs.YtgbdmelnmmopaaaDoor
