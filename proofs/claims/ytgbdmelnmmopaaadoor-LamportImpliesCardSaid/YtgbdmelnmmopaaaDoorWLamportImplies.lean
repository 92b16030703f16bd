/- The walk of the law LamportImplies. -/
import Derived.Test.YtgbdmelnmmopaaaDoorLivesL
namespace Go.Proofs.YtgbdmelnmmopaaaDoor
open Go.RowKit

/-- what both Implied answer -/
theorem implied_two (mv rv ov : Value) (m : List UInt8) (rev oth : List (List UInt8)) (w : World) (hK : Kst w) (hm : Sl w mv m) (hr : SlD w rv rev) (ho : SlD w ov oth) (hlm : m.length ≤ 1048576) :
    ∃ (z : List UInt8) (ec : Int), z.length = 32 ∧ (∀ w', Ext w w' → Calls Tryd.prog 13 #[mv, .agg #[rv, ov]] w' fun e w'' => e = .returned (.tuple #[.agg (bytesV z).toArray, .int .i64 ec]) ∧ Ext w' w'') ∧
      (∀ w', Ext w w' → Calls Tryd.prog 14 #[mv, .agg #[rv, ov]] w' fun e w'' => e = .returned (.tuple #[.agg (bytesV z).toArray, .int .i64 ec]) ∧ Ext w' w'') := by
  cases h : wholeB rev.length oth.length with
  | true => exact ⟨_, 0, impB_length _ _ _, fun w' E => lImplied_yes mv rv ov m rev oth w' (hK.ext E) (hm.ext E) (hr.ext E) (ho.ext E) h hlm, fun w' E => r7Implied_yes mv rv ov m rev oth w' (hm.ext E) (hr.ext E) (ho.ext E) h hlm⟩
  | false =>
    obtain ⟨Ar, cr, rfl, hcr⟩ := hr.form
    obtain ⟨Ao, co, rfl, hco⟩ := ho.form
    exact ⟨List.replicate 32 0, 1, by simp, fun w' E => lImplied_no mv Ar Ao rev.length oth.length cr co w' h, fun w' E => r7Implied_no mv Ar Ao rev.length oth.length cr co w' h⟩

set_option maxRecDepth 100000 in
set_option maxHeartbeats 2000000 in
theorem lamportImplies_any (mv : Value) (m : List UInt8) (rv ov : Value) (rev oth : List (List UInt8)) (w : World) (hK : Kst w) (hm : Sl w mv m) (hr : SlD w rv rev) (ho : SlD w ov oth) :
    Calls Tryd.prog 4 #[mv, .agg #[rv, ov]] w fun e w' => e = .returned (.bool true) ∧ Ext w w' := by
  obtain ⟨Am, cm, rfl, hcm⟩ := hm.form
  obtain ⟨Ar, cr, rfl, hcr⟩ := hr.form
  obtain ⟨Ao, co, rfl, hco⟩ := ho.form
  have Hlv := Lib.hid (fun w' (E : Ext w w') => lives7_any w' (hK.ext E))
  have hB0 := Blk.new w 26 #[.slice Ar rev.length cr, .slice Ao oth.length co]
  have E0 : Ext w (w.alloc (.cells #[.slice Ar rev.length cr, .slice Ao oth.length co] 26)) := (Ext.refl w).alloc _
  by_cases h1 : m.length ≤ 3000
  · by_cases h2 : rev.length ≤ 300
    · by_cases h3 : oth.length ≤ 300
      · have t1 : ((m.length : Int) > 3000) = False := by simp; omega
        have t2 : ((rev.length : Int) > 300) = False := by simp; omega
        have t3 : ((oth.length : Int) > 300) = False := by simp; omega
        obtain ⟨z, ec, hz, p1, p2⟩ := implied_two _ _ _ m rev oth w hK hm hr ho (by omega)
        have P1 := Lib.hid p1
        have P2 := Lib.hid p2
        have Hl := Lib.hid hz
        have heq := eq_dg z hz
        clear p1 p2 hz hm hr ho
        have iz : Hid ((Tryd.prog.info? 30).map (·.size) = some (bytesV z).toArray.size) := dg_i z Hl.out
        have sz : Hid (zb32.size = (bytesV z).toArray.size) := zb32_size _ Hl.out
        go_enter Tryd.func4, Tryd.ntmps4
        go_wp2_with (first | (refine wpList_load_blk hB0 rfl 26 _ rfl rfl Tryd.underlying26 rfl info_one ?_))
        with_reducible refine (P1.out _ E0).mono ?_
        rintro e w1 ⟨rfl, E1⟩
        have F1 := E0.trans E1
        replace hB0 := hB0.ext E1
        clear E1 E0
        go_wp2_with (first | (have _ := D1; refine wpList_load_blk hB0 rfl 26 _ rfl rfl Tryd.underlying26 rfl info_one ?_) | (refine wpList_var rfl rfl 30 rfl _ _ rfl (.agg zb32) zero_a32 (bytesV z).toArray rfl rfl iz.out sz.out (bytes_one _) ?_; intro w2 D1 E2; replace hB0 := hB0.ext E2))
        have F2 := F1.trans E2
        clear F1 E2
        with_reducible refine (P2.out _ F2).mono ?_
        rintro e w3 ⟨rfl, E3⟩
        have F3 := F2.trans E3
        replace D1 := D1.ext E3
        clear E3 F2 hB0
        go_wp2_with (refine wpList_var rfl rfl 30 rfl _ _ rfl (.agg zb32) zero_a32 (bytesV z).toArray rfl rfl iz.out sz.out (bytes_one _) ?_; intro w4 D2 E4)
        have F4 := F3.trans E4
        replace D1 := D1.ext E4
        clear E4 F3
        with_reducible refine (Hlv.out _ F4).mono ?_
        rintro e w5 ⟨rfl, E5⟩
        have F5 := F4.trans E5
        replace D1 := D1.ext E5
        replace D2 := D2.ext E5
        clear E5 F4
        go_wp2_with (first | (refine wpList_unguard rfl ?_; refine wpList_load_blk D1 rfl 30 _ rfl rfl Tryd.underlying30 rfl iz.out ?_) | (refine wpList_unguard rfl ?_; refine wpList_load_blk D2 rfl 30 _ rfl rfl Tryd.underlying30 rfl iz.out ?_))
        go_ret
        exact ⟨rfl, F5⟩
      · have t1 : ((m.length : Int) > 3000) = False := by simp; omega
        have t2 : ((rev.length : Int) > 300) = False := by simp; omega
        have t3 : ((oth.length : Int) > 300) = True := by simp; omega
        clear hm hr ho
        go_enter Tryd.func4, Tryd.ntmps4
        go_wp2_with fail
        with_reducible refine (Hlv.out _ E0).mono ?_
        rintro e w1 ⟨rfl, E1⟩
        go_wp2
        go_ret
        exact ⟨rfl, E0.trans E1⟩
    · have t1 : ((m.length : Int) > 3000) = False := by simp; omega
      have t2 : ((rev.length : Int) > 300) = True := by simp; omega
      clear hm hr ho
      go_enter Tryd.func4, Tryd.ntmps4
      go_wp2_with fail
      with_reducible refine (Hlv.out _ E0).mono ?_
      rintro e w1 ⟨rfl, E1⟩
      go_wp2
      go_ret
      exact ⟨rfl, E0.trans E1⟩
  · have t1 : ((m.length : Int) > 3000) = True := by simp; omega
    clear hm hr ho
    go_enter Tryd.func4, Tryd.ntmps4
    go_wp2_with fail
    with_reducible refine (Hlv.out _ E0).mono ?_
    rintro e w1 ⟨rfl, E1⟩
    go_wp2
    go_ret
    exact ⟨rfl, E0.trans E1⟩
end Go.Proofs.YtgbdmelnmmopaaaDoor
