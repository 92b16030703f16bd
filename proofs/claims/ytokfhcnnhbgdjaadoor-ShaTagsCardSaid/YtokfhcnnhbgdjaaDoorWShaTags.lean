/- The walk of the law ShaTags. -/
import Derived.Test.YtokfhcnnhbgdjaaDoorLivesA
import Derived.Test.YtokfhcnnhbgdjaaDoorTagA
import Derived.Test.YtokfhcnnhbgdjaaDoorGuard
namespace Go.Proofs.YtokfhcnnhbgdjaaDoor
open Go.RowKit

theorem eq_dg (z : List UInt8) (hl : z.length = 32) (w : World) : (Op.equalIn 10000 28 (.agg (bytesV z).toArray) (.agg (bytesV z).toArray)).run Tryd.prog w = .ok true w := by rw [equal_dg z z hl hl w]; simp

/-- both tagged sums in a later world, under one name -/
theorem tags_two (tag : ByteArray) (bss : List (List UInt8)) (ht : tag.size ≤ 3000) (hb : ∀ bs ∈ bss, bs.length ≤ 3000) (hn : bss.length ≤ 1000) :
    ∃ z : List UInt8, z.length = 32 ∧ (∀ w pv, Kst w → SlAll w pv bss → Calls Tryd.prog 19 #[.string tag, pv] w fun e w' => e = .returned (.agg (bytesV z).toArray) ∧ Ext w w') ∧ (∀ w pv, SlAll w pv bss → Calls Tryd.prog 20 #[.string tag, pv] w fun e w' => e = .returned (.agg (bytesV z).toArray) ∧ Ext w w') :=
  ⟨tagB tag.data.toList bss, tagB_length _ _, fun w pv hK hv => tagged_any tag pv bss w hK hv (by omega) (fun bs h => by have := hb bs h; omega) hn, fun w pv hv => rTagged_any tag pv bss w hv (by omega) (fun bs h => by have := hb bs h; omega) hn⟩

set_option maxRecDepth 100000 in
set_option maxHeartbeats 1000000 in
theorem shaTags_yes (tag : ByteArray) (u v x : Value) (a b c : List UInt8) (w : World) (hK : Kst w) (hu : Sl w u a) (hv : Sl w v b) (hx : Sl w x c) (ht : tag.size ≤ 3000) (ha : a.length ≤ 3000) (hb : b.length ≤ 3000) (hc : c.length ≤ 3000) :
    Calls Tryd.prog 7 #[.string tag, u, v, x] w fun e w' => e = .returned (.bool true) ∧ Ext w w' := by
  obtain ⟨A, ca, rfl, hca⟩ := hu.form
  obtain ⟨B, cb, rfl, hcb⟩ := hv.form
  obtain ⟨C, cc, rfl, hcc⟩ := hx.form
  have Hu := Lib.hid hu
  have Hv := Lib.hid hv
  have Hx := Lib.hid hx
  clear hu hv hx
  obtain ⟨z0, l0, p0, q0⟩ := tags_two tag [] ht (by simp) (by simp)
  obtain ⟨z1, l1, p1, q1⟩ := tags_two tag [a, b, c] ht (by simp [ha, hb, hc]) (by simp)
  obtain ⟨z2, l2, p2, q2⟩ := tags_two tag [a, b] ht (by simp [ha, hb]) (by simp)
  have e0 := eq_dg z0 l0
  have e1 := eq_dg z1 l1
  have e2 := eq_dg z2 l2
  have P0 := Lib.hid p0
  have P1 := Lib.hid p1
  have P2 := Lib.hid p2
  have Q0 := Lib.hid q0
  have Q1 := Lib.hid q1
  have Q2 := Lib.hid q2
  clear l0 l1 l2 p0 p1 p2 q0 q1 q2
  have t0 : ((tag.size : Int) > 3000) = False := by simp; omega
  have t1 : ((a.length : Int) > 3000) = False := by simp; omega
  have t2 : ((b.length : Int) > 3000) = False := by simp; omega
  have t3 : ((c.length : Int) > 3000) = False := by simp; omega
  go_enter Tryd.func7, Tryd.ntmps7
  go_wp2_with fail
  refine (lives2_any _ hK).mono ?_
  rintro e w1 ⟨rfl, E1⟩
  go_wp2_with fail
  refine (P0.out _ _ (hK.ext E1) ⟨[], SlR.none_ _ _ _ _, by intro i bs h; simp at h⟩).mono ?_
  rintro e w2 ⟨rfl, E2'⟩
  have E2 := E1.trans E2'
  go_wp2_with fail
  refine (Q0.out _ _ ⟨[], SlR.none_ _ _ _ _, by intro i bs h; simp at h⟩).mono ?_
  rintro e w3 ⟨rfl, E3'⟩
  have E3 := E2.trans E3'
  go_wp2_with fail
  refine (P1.out _ _ (hK.ext (E3.alloc _)) (slAll_three 24 _ rfl (Hu.out.ext E3) (Hv.out.ext E3) (Hx.out.ext E3))).mono ?_
  rintro e w4 ⟨rfl, E4'⟩
  have E4 := (E3.alloc _).trans E4'
  clear E4'
  go_wp2_with fail
  refine (Q1.out _ _ (slAll_three 24 _ rfl (Hu.out.ext E4) (Hv.out.ext E4) (Hx.out.ext E4))).mono ?_
  rintro e w5 ⟨rfl, E5'⟩
  have E5 := (E4.alloc _).trans E5'
  clear E5'
  go_wp2_with fail
  refine (P2.out _ _ (hK.ext (E5.alloc _)) (slAll_two 24 _ rfl (Hu.out.ext E5) (Hv.out.ext E5))).mono ?_
  rintro e w6 ⟨rfl, E6'⟩
  have E6 := (E5.alloc _).trans E6'
  clear E6'
  go_wp2_with fail
  refine (Q2.out _ _ (slAll_two 24 _ rfl (Hu.out.ext E6) (Hv.out.ext E6))).mono ?_
  rintro e w7 ⟨rfl, E7'⟩
  have E7 := (E6.alloc _).trans E7'
  clear E7'
  go_wp2
  go_ret
  exact ⟨rfl, E7⟩

set_option maxRecDepth 100000 in
set_option maxHeartbeats 1000000 in
theorem shaTags_any (tag : ByteArray) (u : Value) (a : List UInt8) (v : Value) (b : List UInt8) (x : Value) (c : List UInt8) (w : World) (hK : Kst w) (hu : Sl w u a) (hv : Sl w v b) (hx : Sl w x c) :
    Calls Tryd.prog 7 #[.string tag, u, v, x] w fun e w' => e = .returned (.bool true) ∧ Ext w w' := by
  have Hl := Lib.hid (lives2_any w hK)
  by_cases ht : tag.size ≤ 3000
  · by_cases ha : a.length ≤ 3000
    · by_cases hb : b.length ≤ 3000
      · by_cases hc : c.length ≤ 3000
        · exact shaTags_yes tag u v x a b c w hK hu hv hx ht ha hb hc
        · obtain ⟨A, ca, rfl, hca⟩ := hu.form
          obtain ⟨B, cb, rfl, hcb⟩ := hv.form
          obtain ⟨C, cc, rfl, hcc⟩ := hx.form
          clear hu hv hx
          have t0 : ((tag.size : Int) > 3000) = False := by simp; omega
          have t1 : ((a.length : Int) > 3000) = False := by simp; omega
          have t2 : ((b.length : Int) > 3000) = False := by simp; omega
          have t3 : ((c.length : Int) > 3000) = True := by simp; omega
          go_enter Tryd.func7, Tryd.ntmps7
          go_wp2_with fail
          refine Hl.out.mono ?_
          rintro e w1 ⟨rfl, E1⟩
          go_wp2
          go_ret
          exact ⟨rfl, E1⟩
      · obtain ⟨A, ca, rfl, hca⟩ := hu.form
        obtain ⟨B, cb, rfl, hcb⟩ := hv.form
        clear hu hv hx
        have t0 : ((tag.size : Int) > 3000) = False := by simp; omega
        have t1 : ((a.length : Int) > 3000) = False := by simp; omega
        have t2 : ((b.length : Int) > 3000) = True := by simp; omega
        go_enter Tryd.func7, Tryd.ntmps7
        go_wp2_with fail
        refine Hl.out.mono ?_
        rintro e w1 ⟨rfl, E1⟩
        go_wp2
        go_ret
        exact ⟨rfl, E1⟩
    · obtain ⟨A, ca, rfl, hca⟩ := hu.form
      clear hu hv hx
      have t0 : ((tag.size : Int) > 3000) = False := by simp; omega
      have t1 : ((a.length : Int) > 3000) = True := by simp; omega
      go_enter Tryd.func7, Tryd.ntmps7
      go_wp2_with fail
      refine Hl.out.mono ?_
      rintro e w1 ⟨rfl, E1⟩
      go_wp2
      go_ret
      exact ⟨rfl, E1⟩
  · have t0 : ((tag.size : Int) > 3000) = True := by simp; omega
    clear hu hv hx
    go_enter Tryd.func7, Tryd.ntmps7
    go_wp2_with fail
    refine Hl.out.mono ?_
    rintro e w1 ⟨rfl, E1⟩
    go_wp2
    go_ret
    exact ⟨rfl, E1⟩
end Go.Proofs.YtokfhcnnhbgdjaaDoor
