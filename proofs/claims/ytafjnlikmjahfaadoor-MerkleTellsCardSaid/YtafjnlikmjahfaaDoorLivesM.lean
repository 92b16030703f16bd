/- The contract of merkle.Ways; of pursuivantlaw08.lives: it answers true. -/
import Derived.Test.YtafjnlikmjahfaaDoorLivA8
namespace Go.Proofs.YtafjnlikmjahfaaDoor
open Go.RowKit

set_option maxRecDepth 100000 in
set_option maxHeartbeats 400000 in
theorem mWays_any (A : Option Addr) (n c : Nat) (w : World) : Calls Tryd.prog 19 #[.slice A n c] w fun e w' => e = .returned (.func (.func 27) #[] #[.pointer (some ⟨w.heap.size, 0, none⟩)]) ∧ Blk w' w.heap.size 22 #[.slice A n c] ∧ Ext w w' := by
  have hb := Blk.new w 22 #[.slice A n c]
  go_enter Tryd.func19, Tryd.ntmps19
  go_wp2
  go_ret
  exact ⟨rfl, hb, (Ext.refl w).alloc _⟩

theorem run_equalIn_func_nil {P : Program} (w : World) (d : Nat) (t : TypeId) {ps rs : Array TypeId} {vd : Bool} (f : Fn) (a c : Array Value) (h : P.underlying t = some (.func ps rs vd)) : (Op.equalIn (d + 1) t (.func f a c) .nilFunc).run P w = .ok false w := by
  simp [Op.equalIn, run_underlying h]
theorem run_equal_func_nil {P : Program} (w : World) (t : TypeId) {ps rs : Array TypeId} {vd : Bool} (f : Fn) (a c : Array Value) (h : P.underlying t = some (.func ps rs vd)) : (Op.equal t (.func f a c) .nilFunc).run P w = .ok false w := run_equalIn_func_nil w 9999 t f a c h
theorem seq2_nil (f : Fn) (a c : Array Value) (w : World) : (binOp .neq 46 (.func f a c) .nilFunc).run Tryd.prog w = .ok (.bool true) w := by
  simp only [binOp]
  simp [run_equal_func_nil w 46 f a c Tryd.underlying46]
theorem seq2_nil_eq (f : Fn) (a c : Array Value) (w : World) : (binOp .eql 46 (.func f a c) .nilFunc).run Tryd.prog w = .ok (.bool false) w := by
  simp only [binOp]
  simp [run_equal_func_nil w 46 f a c Tryd.underlying46]

theorem lat_load {w : World} {b o : Nat} {d : List UInt8} (h : Cells w b o (bytesV d)) (hd : d.length = 32) : ∀ w', (∃ x : Later w, w' = x.w) → (Instr.loadAt 30 (.pointer (some ⟨b, o, none⟩))).run Tryd.prog w' = .ok (dgV d) w' := by
  rintro w' ⟨x, rfl⟩
  exact run_load_dg (h.ext x.ext) hd

set_option maxRecDepth 100000 in
set_option maxHeartbeats 4000000 in
theorem lives8_any (w : World) (hK : Kst w) : Calls Tryd.prog 7 #[] w fun e w' => e = .returned (.bool true) ∧ Ext w w' := by
  obtain ⟨W1, hW1⟩ : ∃ W1, W1 = w.alloc (.cells (bytesV ds4.flatten).toArray 30) := ⟨_, rfl⟩
  have E1 : Ext w W1 := by rw [hW1]; exact (Ext.refl w).alloc _
  have hok : dsOk ds4 := by intro d hd; simp [ds4] at hd; rcases hd with rfl | rfl | rfl | rfl <;> exact dk_length _
  have HS : Hid (SlD W1 (.slice (some ⟨w.heap.size, 0, none⟩) 4 4) ds4) := by
    show SlD _ _ _
    rw [hW1]
    exact ⟨SlR.of_cells (by rw [bytesV_length, dsOk_length hok]; rfl) (Nat.le_refl _) (cells_blk (Blk.new w 30 _)), hok⟩
  have Hroot := Lib.hid (mRoot_yes _ ds4 2 W1 (hK.ext E1) HS.out rfl (by omega))
  have Hway := Lib.hid (fun w' (E : Ext W1 w') => mWay_yes _ ds4 2 2 w' (hK.ext (E1.trans E)) (HS.out.ext E) rfl (by omega) (by decide))
  have Hno := Lib.hid (fun w' => mRoot_no (some ⟨w.heap.size, 0, none⟩) 3 4 w' (by decide))
  have hc1 : Cells W1 w.heap.size 0 (bytesV (dk 1)) := by
    obtain ⟨_, _, hA, h⟩ := HS.out.at_ (k := 0) (by decide)
    cases hA
    have h2 : Cells W1 w.heap.size 0 (bytesV ds4[0]) := by simpa using h
    exact h2
  have hc2 : Cells W1 w.heap.size 32 (bytesV (dk 2)) := by
    obtain ⟨_, _, hA, h⟩ := HS.out.at_ (k := 1) (by decide)
    cases hA
    have h2 : Cells W1 w.heap.size 32 (bytesV ds4[1]) := by simpa using h
    exact h2
  have hc3 : Cells W1 w.heap.size 64 (bytesV (dk 3)) := by
    obtain ⟨_, _, hA, h⟩ := HS.out.at_ (k := 2) (by decide)
    cases hA
    have h2 : Cells W1 w.heap.size 64 (bytesV ds4[2]) := by simpa using h
    exact h2
  have hc4 : Cells W1 w.heap.size 96 (bytesV (dk 4)) := by
    obtain ⟨_, _, hA, h⟩ := HS.out.at_ (k := 3) (by decide)
    cases hA
    have h2 : Cells W1 w.heap.size 96 (bytesV ds4[3]) := by simpa using h
    exact h2
  have C1 := Lib.hid hc1
  have C2 := Lib.hid hc2
  have C3 := Lib.hid hc3
  have C4 := Lib.hid hc4
  have l1 := Lib.hid (dk_length 1)
  have l2 := Lib.hid (dk_length 2)
  have l3 := Lib.hid (dk_length 3)
  have l4 := Lib.hid (dk_length 4)
  have hr4 := root4
  have hrl : (rootB ds4 2).length = 32 := rootB_length hok rfl
  have hwl := wayT_length ds4 2 2
  have hw0 := way4_0
  have hcl := climb4
  obtain ⟨r, hr⟩ : ∃ r, r = rootB ds4 2 := ⟨_, rfl⟩
  rw [← hr] at hr4 hrl hcl Hroot
  obtain ⟨wy, hwy⟩ : ∃ wy, wy = wayT ds4 2 2 := ⟨_, rfl⟩
  rw [← hwy] at hwl hw0 hcl Hway
  have Hrl := Lib.hid hrl
  have Hr4 := Lib.hid hr4
  have Hcl := Lib.hid hcl
  have Hw0 := Lib.hid hw0
  have Hwl := Lib.hid hwl
  have ir : Hid ((Tryd.prog.info? 30).map (·.size) = some (bytesV r).toArray.size) := dg_i r Hrl.out
  have sr : Hid (zb32.size = (bytesV r).toArray.size) := zb32_size _ Hrl.out
  have HW := Lib.hid hW1
  clear hc1 hc2 hc3 hc4 hr4 hrl hwl hw0 hcl hr hwy hok hW1
  go_enter Tryd.func7, Tryd.ntmps7
  go_wp2_with fail
  have Hroot2 := Hroot
  rw [HW.out] at Hroot2
  refine Hroot2.out.mono ?_
  clear Hroot Hroot2
  rw [← HW.out]
  rintro e w2 ⟨rfl, E2⟩
  go_wp2_with (first | (refine wpList_var rfl rfl 30 rfl _ _ rfl (.agg zb32) zero_a32 (bytesV r).toArray rfl rfl ir.out sr.out (bytes_one _) ?_; intro w3 D1 E3))
  have F3 := E2.trans E3
  clear E2 E3
  refine (Hway.out _ F3).mono ?_
  rintro e w4 ⟨v4, rfl, S4, E4⟩
  obtain ⟨A4, c4, rfl, hc4⟩ := S4.form
  have F4 := F3.trans E4
  have hk4 := S4.at_ (k := 0) (by rw [Hwl.out]; decide)
  obtain ⟨b4, o4, rfl, hcw⟩ := hk4
  rw [← dAt_eq, Hw0.out, Nat.zero_mul, Nat.add_zero] at hcw
  have Hcw := Lib.hid hcw
  have HS4 := Lib.hid S4
  rw [Hwl.out] at hc4
  rw [Hwl.out]
  replace D1 := D1.ext E4
  have C34 := Lib.hid (C3.out.ext F4)
  have hmc := Lib.hid (mClimb_yes (dk 3) 2 _ wy w4 (hK.ext (E1.trans F4)) l3.out HS4.out (by rw [Hwl.out]; decide) (by rw [Hwl.out]; decide))
  rw [Hcl.out, Hwl.out] at hmc
  clear hcw S4 E4 F3 Hway Hcl
  go_wp2_with (first | (refine wpList_load_dg C34.out l3.out rfl _ rfl rfl ?_))
  refine hmc.out.mono ?_
  rintro e w5 ⟨rfl, E5⟩
  have F5 := F4.trans E5
  replace D1 := D1.ext E5
  replace Hcw := Lib.hid (Hcw.out.ext E5)
  clear E5 F4 hmc HS4 C34
  go_wp2_with (first | (refine wpList_var rfl rfl 30 rfl _ _ rfl (.agg zb32) zero_a32 (bytesV r).toArray rfl rfl ir.out sr.out (bytes_one _) ?_; intro w6 D2 E6))
  have F6 := F5.trans E6
  replace D1 := D1.ext E6
  replace Hcw := Lib.hid (Hcw.out.ext E6)
  clear E6 F5
  with_reducible refine (Hno.out _).mono ?_
  rintro e w7 ⟨rfl, E7⟩
  have F7 := F6.trans E7
  replace D1 := D1.ext E7
  replace D2 := D2.ext E7
  replace Hcw := Lib.hid (Hcw.out.ext E7)
  clear E7 F6 Hno
  go_wp2_with (first | (refine wpList_var rfl rfl 30 rfl _ _ rfl (.agg zb32) zero_a32 zb32 rfl rfl info_a32 rfl zb32_one ?_; intro w8 D3 E8))
  have F8 := F7.trans E8
  replace D1 := D1.ext E8
  replace D2 := D2.ext E8
  clear D3
  have LW := Lib.hid (lat_load (Hcw.out.ext E8) l4.out)
  have LX := Lib.hid (lat_load (cells_blk D2) Hrl.out)
  have LR := Lib.hid (lat_load (cells_blk D1) Hrl.out)
  have M1 := Lib.hid (lat_load (C1.out.ext F8) l1.out)
  have M2 := Lib.hid (lat_load (C2.out.ext F8) l2.out)
  have M3 := Lib.hid (lat_load (C3.out.ext F8) l3.out)
  have M4 := Lib.hid (lat_load (C4.out.ext F8) l4.out)
  have N1 := Lib.hid (fun x : Later w8 => r8Node_any (dk 1) (dk 2) l1.out l2.out x.w)
  have N2 := Lib.hid (fun x : Later w8 => r8Node_any (dk 3) (dk 4) l3.out l4.out x.w)
  have N3 := Lib.hid (fun x : Later w8 => r8Node_any (nodeB (dk 1) (dk 2)) (nodeB (dk 3) (dk 4)) (nodeB_length _ _) (nodeB_length _ _) x.w)
  rw [← Hr4.out] at N3
  have q4 := eq_dg (dk 4) l4.out
  have qr := eq_dg r Hrl.out
  have E18 := E1.trans F8
  obtain ⟨n1, hn1⟩ : ∃ n1, n1 = nodeB (dk 1) (dk 2) := ⟨_, rfl⟩
  obtain ⟨n2, hn2⟩ : ∃ n2, n2 = nodeB (dk 3) (dk 4) := ⟨_, rfl⟩
  rw [← hn1] at N1 N3
  rw [← hn2] at N2 N3
  obtain ⟨d1, hd1⟩ : ∃ d, d = dk 1 := ⟨_, rfl⟩
  obtain ⟨d2, hd2⟩ : ∃ d, d = dk 2 := ⟨_, rfl⟩
  obtain ⟨d3, hd3⟩ : ∃ d, d = dk 3 := ⟨_, rfl⟩
  obtain ⟨d4, hd4⟩ : ∃ d, d = dk 4 := ⟨_, rfl⟩
  rw [← hd1] at M1 N1
  rw [← hd2] at M2 N1
  rw [← hd3] at M3 N2
  rw [← hd4] at M4 N2 LW q4
  clear hd1 hd2 hd3 hd4 hn1 hn2 D1 D2 C1 C2 C3 C4 Hcw E8 F7 F8 Hr4 Hw0 Hwl Hrl ir sr l1 l2 l3 l4 HS HW E1
  go_wp2
  refine wp_region_lat_tail 53 (by kernel_rfl) (by kernel_rfl) ?_
  simp only [List.take_succ_cons, List.take_zero, List.drop_succ_cons, List.drop_zero]
  repeat (first | ((first | (refine quiet_load rfl 30 _ rfl (dgV d4) LW.out ?_) | (refine quiet_load rfl 30 _ rfl (dgV r) LX.out ?_) | (refine quiet_load rfl 30 _ rfl (dgV r) LR.out ?_) | (refine quiet_load rfl 30 _ rfl (dgV d1) M1.out ?_) | (refine quiet_load rfl 30 _ rfl (dgV d2) M2.out ?_) | (refine quiet_load rfl 30 _ rfl (dgV d3) M3.out ?_) | (refine quiet_load rfl 30 _ rfl (dgV d4) M4.out ?_)); simp only [Act.put, List.setIfInBounds_toArray, List.set_cons_succ, List.set_cons_zero]) | go_big_quiet_step ((go_at_call 12; first | (with_reducible exact lat_call (N1.out _)) | (with_reducible exact lat_call (N2.out _)) | (with_reducible exact lat_call (N3.out _)))))
  refine wpQuiet_nil ?_
  intro w9 E9
  clear LW LX LR M1 M2 M3 M4 N1 N2 N3 q4 qr
  go_wp2_with fail
  refine (mWays_any _ _ _ _).mono ?_
  rintro e w10 ⟨rfl, _, E10⟩
  have hsn := seq2_nil
  go_wp2
  go_ret
  exact ⟨rfl, E18.trans (E9.trans E10)⟩
end Go.Proofs.YtafjnlikmjahfaaDoor
