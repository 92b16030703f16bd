/- The walk of the law LamportSecrets. -/
import Derived.Test.YtgbdmelnmmopaaaDoorLivesL
namespace Go.Proofs.YtgbdmelnmmopaaaDoor
open Go.RowKit

theorem zb_eq : zb32 = (bytesV (List.replicate 32 0)).toArray := by rfl

/-- what both Secret answer -/
theorem secret_two (sv : Value) (seed : List UInt8) (la ba sa : Int) (w : World) (hK : Kst w) (hv : Sl w sv seed) :
    ∃ (z : List UInt8) (ec : Int), z.length = 32 ∧ (∀ w', Ext w w' → Calls Tryd.prog 19 #[sv, .int .i64 la, .int .i64 ba, .int .i64 sa] w' fun e w'' => e = .returned (.tuple #[.agg (bytesV z).toArray, .int .i64 ec]) ∧ Ext w' w'') ∧
      (∀ w', Ext w w' → Calls Tryd.prog 20 #[sv, .int .i64 la, .int .i64 ba, .int .i64 sa] w' fun e w'' => e = .returned (.tuple #[.agg (bytesV z).toArray, .int .i64 ec]) ∧ Ext w' w'') := by
  cases h : okSec seed.length la ba sa with
  | true => exact ⟨_, 0, secB_length _ _ _ _, fun w' E => lSecret_yes sv seed la ba sa w' (hK.ext E) (hv.ext E) h, fun w' E => r7Secret_yes sv seed la ba sa w' (hv.ext E) h⟩
  | false => exact ⟨List.replicate 32 0, 1, by simp, fun w' E => lSecret_no sv seed la ba sa w' (hv.ext E) h, fun w' E => r7Secret_no sv seed la ba sa w' (hv.ext E) h⟩

set_option maxRecDepth 100000 in
set_option maxHeartbeats 2000000 in
theorem lamportSecrets_any (sv : Value) (seed : List UInt8) (la ba sa : Int) (mv : Value) (m : List UInt8) (w : World) (hK : Kst w) (hs : Sl w sv seed) (_ : -9223372036854775808 ≤ la ∧ la ≤ 9223372036854775807) (_ : -9223372036854775808 ≤ ba ∧ ba ≤ 9223372036854775807) (_ : -9223372036854775808 ≤ sa ∧ sa ≤ 9223372036854775807) (hm : Sl w mv m) :
    Calls Tryd.prog 6 #[sv, .int .i64 la, .int .i64 ba, .int .i64 sa, mv] w fun e w' => e = .returned (.bool true) ∧ Ext w w' := by
  obtain ⟨A, c, rfl, hc⟩ := hs.form
  obtain ⟨Am, cm, rfl, hcm⟩ := hm.form
  have Hlv := Lib.hid (fun w' (E : Ext w w') => lives7_any w' (hK.ext E))
  by_cases h1 : seed.length ≤ 200
  · by_cases h2 : m.length ≤ 3000
    · have t1 : ((seed.length : Int) > 200) = False := by simp; omega
      have t2 : ((m.length : Int) > 3000) = False := by simp; omega
      obtain ⟨z, ec, hz, p1, p2⟩ := secret_two _ seed la ba sa w hK hs
      have P1 := Lib.hid p1
      have P2 := Lib.hid p2
      have Hl := Lib.hid hz
      have HM := Lib.hid hm
      have heq := eq_dg z hz
      clear p1 p2 hz hm hs
      have iz : Hid ((Tryd.prog.info? 30).map (·.size) = some (bytesV z).toArray.size) := dg_i z Hl.out
      have sz : Hid (zb32.size = (bytesV z).toArray.size) := zb32_size _ Hl.out
      go_enter Tryd.func6, Tryd.ntmps6
      go_wp2_with fail
      with_reducible refine (P1.out _ (Ext.refl w)).mono ?_
      rintro e w1 ⟨rfl, E1⟩
      go_wp2_with (refine wpList_var rfl rfl 30 rfl _ _ rfl (.agg zb32) zero_a32 (bytesV z).toArray rfl rfl iz.out sz.out (bytes_one _) ?_; intro w2 D1 E2)
      have F2 := E1.trans E2
      clear E1 E2
      with_reducible refine (P2.out _ F2).mono ?_
      rintro e w3 ⟨rfl, E3⟩
      have F3 := F2.trans E3
      replace D1 := D1.ext E3
      clear E3 F2
      go_wp2_with (refine wpList_var rfl rfl 30 rfl _ _ rfl (.agg zb32) zero_a32 (bytesV z).toArray rfl rfl iz.out sz.out (bytes_one _) ?_; intro w4 D2 E4)
      have F4 := F3.trans E4
      replace D1 := D1.ext E4
      clear E4 F3
      with_reducible refine (Hlv.out _ F4).mono ?_
      rintro e w5 ⟨rfl, E5⟩
      have F5 := F4.trans E5
      replace D1 := D1.ext E5
      replace D2 := D2.ext E5
      clear E5 F4
      go_wp2_with (first | (refine wpList_unguard rfl ?_; refine wpList_load_blk D1 rfl 30 _ rfl rfl Tryd.underlying30 rfl iz.out ?_) | (refine wpList_unguard rfl ?_; refine wpList_load_blk D2 rfl 30 _ rfl rfl Tryd.underlying30 rfl iz.out ?_))
      have Ha := Lib.hid (lSide_any _ m ba w5 (hK.ext F5) (HM.out.ext F5))
      obtain ⟨sd, hsd⟩ : ∃ sd, sd = sideOf m ba := ⟨_, rfl⟩
      rw [← hsd] at Ha
      have Hsd := Lib.hid hsd
      clear hsd
      with_reducible refine Ha.out.mono ?_
      rintro e w6 ⟨rfl, E6⟩
      have F6 := F5.trans E6
      clear E6 F5 Ha D1 D2
      have Hb := Lib.hid (r7Side_any _ m ba w6 (HM.out.ext F6))
      rw [← Hsd.out] at Hb
      go_wp2_with fail
      with_reducible refine Hb.out.mono ?_
      rintro e w7 ⟨rfl, E7⟩
      have F7 := F6.trans E7
      clear E7 F6 Hb
      go_wp2_with fail
      with_reducible refine (lMay_any ba _).mono ?_
      rintro e w8 ⟨rfl, rfl⟩
      go_wp2_with fail
      with_reducible refine (r7May_any ba _).mono ?_
      rintro e w8 ⟨rfl, rfl⟩
      go_wp2_with fail
      with_reducible refine (lMay_any la _).mono ?_
      rintro e w8 ⟨rfl, rfl⟩
      go_wp2_with fail
      with_reducible refine (r7May_any la _).mono ?_
      rintro e w8 ⟨rfl, rfl⟩
      go_wp2
      go_ret
      exact ⟨rfl, F7⟩
    · have t1 : ((seed.length : Int) > 200) = False := by simp; omega
      have t2 : ((m.length : Int) > 3000) = True := by simp; omega
      clear hs hm
      go_enter Tryd.func6, Tryd.ntmps6
      go_wp2_with fail
      with_reducible refine (Hlv.out _ (Ext.refl w)).mono ?_
      rintro e w1 ⟨rfl, E1⟩
      go_wp2
      go_ret
      exact ⟨rfl, E1⟩
  · have t1 : ((seed.length : Int) > 200) = True := by simp; omega
    clear hs hm
    go_enter Tryd.func6, Tryd.ntmps6
    go_wp2_with fail
    with_reducible refine (Hlv.out _ (Ext.refl w)).mono ?_
    rintro e w1 ⟨rfl, E1⟩
    go_wp2
    go_ret
    exact ⟨rfl, E1⟩
end Go.Proofs.YtgbdmelnmmopaaaDoor
