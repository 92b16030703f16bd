/- The walk of the law LamportCodes. -/
import Derived.Test.YtgbdmelnmmopaaaDoorLivesL
import Derived.Test.YtgbdmelnmmopaaaDoorLamL
namespace Go.Proofs.YtgbdmelnmmopaaaDoor
open Go.RowKit

/-- what both Decode answer -/
theorem decode_two (v : Value) (bs : List UInt8) (w : World) (hv : Sl w v bs) (hl : bs.length ≤ 1073741824) :
    ∃ (R O : List (List UInt8)) (ec : Int), R.length ≤ 256 ∧ O.length ≤ 256 ∧
      (∀ w', Ext w w' → Calls Tryd.prog 17 #[v] w' fun e w'' => ∃ vr vo, e = .returned (.tuple #[.agg #[vr, vo], .int .i64 ec]) ∧ SlD w'' vr R ∧ SlD w'' vo O ∧ Ext w' w'') ∧
      (∀ w', Ext w w' → Calls Tryd.prog 18 #[v] w' fun e w'' => ∃ vr vo, e = .returned (.tuple #[.agg #[vr, vo], .int .i64 ec]) ∧ SlD w'' vr R ∧ SlD w'' vo O ∧ Ext w' w'') := by
  by_cases h : bs.length % 64 = 0 ∧ mayB (bs.length / 64 : Nat) = true
  · have hb := (mayB_iff _).1 h.2
    refine ⟨decR bs (bs.length / 64), decO bs (bs.length / 64), 0, by rw [decR_length]; omega, by rw [decO_length]; omega, ?_, ?_⟩
    · exact fun w' E => lDecode_yes v bs (bs.length / 64) w' (hv.ext E) (by omega) h.2
    · exact fun w' E => r7Decode_yes v bs (bs.length / 64) w' (hv.ext E) (by omega) h.2
  · have hno : bs.length % 64 ≠ 0 ∨ (bs.length % 64 = 0 ∧ mayB (bs.length / 64 : Nat) = false) := by
      by_cases h1 : bs.length % 64 = 0
      · exact .inr ⟨h1, by simpa using fun e => h ⟨h1, e⟩⟩
      · exact .inl h1
    obtain ⟨A, c, rfl, hc⟩ := SlR.form hv
    refine ⟨[], [], 11, by simp, by simp, ?_, ?_⟩
    · exact fun w' E => (lDecode_no A bs.length c w' hl hno).mono fun e w'' ⟨he, E2⟩ => ⟨.slice none 0 0, .slice none 0 0, he, SlD.none_ _ _ _, SlD.none_ _ _ _, E2⟩
    · exact fun w' E => (r7Decode_no A bs.length c w' hl hno).mono fun e w'' ⟨he, E2⟩ => ⟨.slice none 0 0, .slice none 0 0, he, SlD.none_ _ _ _, SlD.none_ _ _ _, E2⟩

/-- what both Encode answer -/
theorem encode_two (rv ov : Value) (rev oth : List (List UInt8)) (w : World) (hr : SlD w rv rev) (ho : SlD w ov oth) :
    ∃ (z : List UInt8) (ec : Int), z.length ≤ 16384 ∧ ((wholeB rev.length oth.length = true ∧ ec = 0 ∧ z = encS rev oth rev.length) ∨ ((ec != 0) = true)) ∧
      (∀ w', Ext w w' → Calls Tryd.prog 15 #[.agg #[rv, ov]] w' fun e w'' => ∃ v, e = .returned (.tuple #[v, .int .i64 ec]) ∧ Sl w'' v z ∧ Ext w' w'') ∧
      (∀ w', Ext w w' → Calls Tryd.prog 16 #[.agg #[rv, ov]] w' fun e w'' => ∃ v, e = .returned (.tuple #[v, .int .i64 ec]) ∧ Sl w'' v z ∧ Ext w' w'') := by
  cases h : wholeB rev.length oth.length with
  | true =>
    obtain ⟨h1, h2⟩ := (wholeB_iff _ _).1 h
    have hb := (mayB_iff _).1 h2
    refine ⟨encS rev oth rev.length, 0, ?_, .inl ⟨rfl, rfl, rfl⟩, ?_, ?_⟩
    · rw [encS_length rev oth rev.length hr.2 ho.2 (Nat.le_refl _) (by omega)]; omega
    · exact fun w' E => lEncode_yes rv ov rev oth w' (hr.ext E) (ho.ext E) h
    · exact fun w' E => r7Encode_yes rv ov rev oth w' (hr.ext E) (ho.ext E) h
  | false =>
    obtain ⟨Ar, cr, rfl, hcr⟩ := hr.form
    obtain ⟨Ao, co, rfl, hco⟩ := ho.form
    refine ⟨[], 1, by simp, .inr rfl, ?_, ?_⟩
    · exact fun w' E => (lEncode_no Ar Ao rev.length oth.length cr co w' h).mono fun e w'' ⟨he, E2⟩ => ⟨_, he, SlR.none_ _ _ _ _, E2⟩
    · exact fun w' E => (r7Encode_no Ar Ao rev.length oth.length cr co w' h).mono fun e w'' ⟨he, E2⟩ => ⟨_, he, SlR.none_ _ _ _ _, E2⟩

set_option maxRecDepth 100000 in
set_option maxHeartbeats 4000000 in
theorem lamportCodes_in (rv ov : Value) (rev oth : List (List UInt8)) (bv : Value) (b : List UInt8) (w : World) (hK : Kst w) (hr : SlD w rv rev) (ho : SlD w ov oth) (hb : Sl w bv b) (h1 : rev.length ≤ 300) (h2 : oth.length ≤ 300) (h3 : b.length ≤ 20000) :
    Calls Tryd.prog 5 #[.agg #[rv, ov], bv] w fun e w' => e = .returned (.bool true) ∧ Ext w w' := by
  obtain ⟨z, ec, hzl, hcase, p1, p2⟩ := encode_two rv ov rev oth w hr ho
  obtain ⟨R, O, dc, hRl, hOl, p3, p4⟩ := decode_two bv b w hb (by omega)
  obtain ⟨Ar, cr, rfl, hcr⟩ := hr.form
  obtain ⟨Ao, co, rfl, hco⟩ := ho.form
  obtain ⟨Ab, cb, rfl, hcb⟩ := SlR.form hb
  have HRv := Lib.hid hr
  have HOv := Lib.hid ho
  have Hcase := Lib.hid hcase
  have P1 := Lib.hid p1
  have P2 := Lib.hid p2
  have P3 := Lib.hid p3
  have P4 := Lib.hid p4
  have Hlv := Lib.hid (fun w' (E : Ext w w') => lives7_any w' (hK.ext E))
  have t1 : ((rev.length : Int) > 300) = False := by simp; omega
  have t2 : ((oth.length : Int) > 300) = False := by simp; omega
  have t3 : ((b.length : Int) > 20000) = False := by simp; omega
  have hec : (ec != ec) = false := by simp
  have hdc : (dc != dc) = false := by simp
  clear hr ho hb hcase p1 p2 p3 p4
  have hB0 := Blk.new w 26 #[.slice Ar rev.length cr, .slice Ao oth.length co]
  have E0 : Ext w (w.alloc (.cells #[.slice Ar rev.length cr, .slice Ao oth.length co] 26)) := (Ext.refl w).alloc _
  go_enter Tryd.func5, Tryd.ntmps5
  go_wp2_with (first | (refine wpList_load_blk hB0 rfl 26 _ rfl rfl Tryd.underlying26 rfl info_one ?_))
  with_reducible refine (P1.out _ E0).mono ?_
  rintro e w1 ⟨v1, rfl, S1, E1⟩
  have F1 := E0.trans E1
  replace hB0 := hB0.ext E1
  have HS1 := Lib.hid S1
  clear E1 E0 S1 P1
  go_wp2_with (first | (refine wpList_load_blk hB0 rfl 26 _ rfl rfl Tryd.underlying26 rfl info_one ?_))
  with_reducible refine (P2.out _ F1).mono ?_
  rintro e w2 ⟨v2, rfl, S2, E2⟩
  have F2 := F1.trans E2
  have G2 := E2
  replace hB0 := hB0.ext E2
  have HS2 := Lib.hid S2
  clear F1 E2 S2 P2
  go_wp2_with fail
  with_reducible refine (P3.out _ F2).mono ?_
  rintro e w3 ⟨vr3, vo3, rfl, R3, O3, E3⟩
  have F3 := F2.trans E3
  have G3 := E3
  replace hB0 := hB0.ext E3
  obtain ⟨Ar3, cr3, rfl, hcr3⟩ := R3.form
  obtain ⟨Ao3, co3, rfl, hco3⟩ := O3.form
  have HR3 := Lib.hid R3
  have HO3 := Lib.hid O3
  clear E3 F2 P3 R3 O3
  go_wp2_with (refine wpList_var rfl rfl 26 rfl _ _ rfl (.agg noOne) zero_one #[.slice Ar3 R.length cr3, .slice Ao3 O.length co3] rfl rfl info_one rfl (two_one _ _ _ _ _ _) ?_; intro w4 D1 E4)
  have F4 := F3.trans E4
  have G4 := E4
  replace hB0 := hB0.ext E4
  clear E4 F3
  with_reducible refine (P4.out _ F4).mono ?_
  rintro e w5 ⟨vr5, vo5, rfl, R5, O5, E5⟩
  have F5 := F4.trans E5
  have G5 := G4.trans E5
  replace hB0 := hB0.ext E5
  replace D1 := D1.ext E5
  obtain ⟨Ar5, cr5, rfl, hcr5⟩ := R5.form
  obtain ⟨Ao5, co5, rfl, hco5⟩ := O5.form
  have HR5 := Lib.hid R5
  have HO5 := Lib.hid O5
  clear E5 F4 G4 P4 R5 O5
  go_wp2_with (refine wpList_var rfl rfl 26 rfl _ _ rfl (.agg noOne) zero_one #[.slice Ar5 R.length cr5, .slice Ao5 O.length co5] rfl rfl info_one rfl (two_one _ _ _ _ _ _) ?_; intro w6 D2 E6)
  have F6 := F5.trans E6
  have G6 := G5.trans E6
  replace hB0 := hB0.ext E6
  replace D1 := D1.ext E6
  have G56 := E6
  clear E6 F5 G5
  with_reducible refine (Hlv.out _ F6).mono ?_
  rintro e w7 ⟨rfl, E7⟩
  have F7 := F6.trans E7
  have G7 := G6.trans E7
  have G57 := G56.trans E7
  replace hB0 := hB0.ext E7
  replace D1 := D1.ext E7
  replace D2 := D2.ext E7
  clear E7 F6 G6 G56 Hlv
  have HT1 := Lib.hid (HS1.out.ext (G2.trans (G3.trans G7)))
  have c1 := run_conv_str HT1.out
  have c2 := run_conv_str (HS2.out.ext (G3.trans G7))
  obtain ⟨A1, cc1, rfl, _⟩ := SlR.form HS1.out
  obtain ⟨A2, cc2, rfl, _⟩ := SlR.form HS2.out
  have Hsame := Lib.hid (r7Same_eq (.slice Ar3 R.length cr3) (.slice Ao3 O.length co3) (.slice Ar5 R.length cr5) (.slice Ao5 O.length co5) R O w7 (HR3.out.ext G7) (HO3.out.ext G7) (HR5.out.ext G57) (HO5.out.ext G57) (by omega) (by omega))
  clear HS1 HS2 HR3 HO3 HR5 HO5 G2 G3 G7 G57
  go_wp2_with (first | (refine wpList_unguard rfl ?_; refine wpList_load_blk D1 rfl 26 _ rfl rfl Tryd.underlying26 rfl info_one ?_) | (refine wpList_unguard rfl ?_; refine wpList_load_blk D2 rfl 26 _ rfl rfl Tryd.underlying26 rfl info_one ?_))
  with_reducible refine Hsame.out.mono ?_
  rintro e w8 ⟨rfl, E8⟩
  have F8 := F7.trans E8
  replace hB0 := hB0.ext E8
  have HT8 := Lib.hid (HT1.out.ext E8)
  clear E8 F7 HT1 c1 c2 Hsame D1 D2
  rcases Hcase.out with ⟨hw, rfl, hz⟩ | hec0
  · have hlen := encS_length rev oth rev.length HRv.out.2 HOv.out.2 (Nat.le_refl _) (by have := ((wholeB_iff _ _).1 hw).1; omega)
    have Hd := Lib.hid (lDecode_yes _ z rev.length w8 HT8.out (by rw [hz, hlen]; omega) ((wholeB_iff _ _).1 hw).2)
    rw [hz, decR_enc HRv.out.2 HOv.out.2 rfl ((wholeB_iff _ _).1 hw).1.symm, decO_enc HRv.out.2 HOv.out.2 rfl ((wholeB_iff _ _).1 hw).1.symm] at Hd
    rw [← hz] at Hd
    clear hw hz hlen Hcase
    go_wp2_with fail
    with_reducible refine Hd.out.mono ?_
    rintro e w9 ⟨vr9, vo9, rfl, R9, O9, E9⟩
    obtain ⟨Ar9, cr9, rfl, hcr9⟩ := R9.form
    obtain ⟨Ao9, co9, rfl, hco9⟩ := O9.form
    have HR9 := Lib.hid R9
    have HO9 := Lib.hid O9
    have F9 := F8.trans E9
    replace hB0 := hB0.ext E9
    clear R9 O9 E9 F8 Hd
    go_wp2_with (first | (refine wpList_var rfl rfl 26 rfl _ _ rfl (.agg noOne) zero_one #[.slice Ar9 rev.length cr9, .slice Ao9 oth.length co9] rfl rfl info_one rfl (two_one _ _ _ _ _ _) ?_; intro w10 D3 E10; replace hB0 := hB0.ext E10) | (have _ := D3; refine wpList_unguard rfl ?_; refine wpList_load_blk D3 rfl 26 _ rfl rfl Tryd.underlying26 rfl info_one ?_) | (have _ := D3; refine wpList_unguard rfl ?_; refine wpList_load_blk hB0 rfl 26 _ rfl rfl Tryd.underlying26 rfl info_one ?_))
    have F10 := F9.trans E10
    have Hs2 := Lib.hid (r7Same_eq (.slice Ar9 rev.length cr9) (.slice Ao9 oth.length co9) (.slice Ar rev.length cr) (.slice Ao oth.length co) rev oth w10 (HR9.out.ext E10) (HO9.out.ext E10) (HRv.out.ext F10) (HOv.out.ext F10) (by omega) (by omega))
    with_reducible refine Hs2.out.mono ?_
    rintro e w11 ⟨rfl, E11⟩
    have F11 := F10.trans E11
    go_wp2
    go_ret
    exact ⟨rfl, F11⟩
  · clear Hcase
    go_wp2
    go_ret
    exact ⟨rfl, F8⟩

set_option maxRecDepth 100000 in
set_option maxHeartbeats 1000000 in
theorem lamportCodes_any (rv ov : Value) (rev oth : List (List UInt8)) (bv : Value) (b : List UInt8) (w : World) (hK : Kst w) (hr : SlD w rv rev) (ho : SlD w ov oth) (hb : Sl w bv b) :
    Calls Tryd.prog 5 #[.agg #[rv, ov], bv] w fun e w' => e = .returned (.bool true) ∧ Ext w w' := by
  by_cases h1 : rev.length ≤ 300
  · by_cases h2 : oth.length ≤ 300
    · by_cases h3 : b.length ≤ 20000
      · exact lamportCodes_in rv ov rev oth bv b w hK hr ho hb h1 h2 h3
      · obtain ⟨Ar, cr, rfl, hcr⟩ := hr.form
        obtain ⟨Ao, co, rfl, hco⟩ := ho.form
        obtain ⟨Ab, cb, rfl, hcb⟩ := SlR.form hb
        have Hlv := Lib.hid (fun w' (E : Ext w w') => lives7_any w' (hK.ext E))
        have t1 : ((rev.length : Int) > 300) = False := by simp; omega
        have t2 : ((oth.length : Int) > 300) = False := by simp; omega
        have t3 : ((b.length : Int) > 20000) = True := by simp; omega
        have E0 : Ext w (w.alloc (.cells #[.slice Ar rev.length cr, .slice Ao oth.length co] 26)) := (Ext.refl w).alloc _
        clear hr ho hb
        go_enter Tryd.func5, Tryd.ntmps5
        go_wp2_with fail
        with_reducible refine (Hlv.out _ E0).mono ?_
        rintro e w1 ⟨rfl, E1⟩
        go_wp2
        go_ret
        exact ⟨rfl, E0.trans E1⟩
    · obtain ⟨Ar, cr, rfl, hcr⟩ := hr.form
      obtain ⟨Ao, co, rfl, hco⟩ := ho.form
      obtain ⟨Ab, cb, rfl, hcb⟩ := SlR.form hb
      have Hlv := Lib.hid (fun w' (E : Ext w w') => lives7_any w' (hK.ext E))
      have t1 : ((rev.length : Int) > 300) = False := by simp; omega
      have t2 : ((oth.length : Int) > 300) = True := by simp; omega
      have E0 : Ext w (w.alloc (.cells #[.slice Ar rev.length cr, .slice Ao oth.length co] 26)) := (Ext.refl w).alloc _
      clear hr ho hb
      go_enter Tryd.func5, Tryd.ntmps5
      go_wp2_with fail
      with_reducible refine (Hlv.out _ E0).mono ?_
      rintro e w1 ⟨rfl, E1⟩
      go_wp2
      go_ret
      exact ⟨rfl, E0.trans E1⟩
  · obtain ⟨Ar, cr, rfl, hcr⟩ := hr.form
    obtain ⟨Ao, co, rfl, hco⟩ := ho.form
    obtain ⟨Ab, cb, rfl, hcb⟩ := SlR.form hb
    have Hlv := Lib.hid (fun w' (E : Ext w w') => lives7_any w' (hK.ext E))
    have t1 : ((rev.length : Int) > 300) = True := by simp; omega
    have E0 : Ext w (w.alloc (.cells #[.slice Ar rev.length cr, .slice Ao oth.length co] 26)) := (Ext.refl w).alloc _
    clear hr ho hb
    go_enter Tryd.func5, Tryd.ntmps5
    go_wp2_with fail
    with_reducible refine (Hlv.out _ E0).mono ?_
    rintro e w1 ⟨rfl, E1⟩
    go_wp2
    go_ret
    exact ⟨rfl, E0.trans E1⟩
end Go.Proofs.YtgbdmelnmmopaaaDoor
