/- The walk of the law ShaSums. -/
import Derived.Test.YtokfhcnnhbgdjaaDoorLivesA
import Derived.Test.YtokfhcnnhbgdjaaDoorGuard
namespace Go.Proofs.YtokfhcnnhbgdjaaDoor
open Go.RowKit

set_option maxRecDepth 100000 in
set_option maxHeartbeats 1000000 in
theorem shaSums_any (u : Value) (a : List UInt8) (v : Value) (b : List UInt8) (w : World) (hK : Kst w) (hu : Sl w u a) (hv : Sl w v b) :
    Calls Tryd.prog 4 #[u, v] w fun e w' => e = .returned (.bool true) ∧ Ext w w' := by
  obtain ⟨A, c, rfl, hc⟩ := hu.form
  obtain ⟨B, d, rfl, hd⟩ := hv.form
  have Hu := Lib.hid hu
  have Hv := Lib.hid hv
  clear hu hv
  by_cases h1 : a.length ≤ 3000
  · by_cases h2 : b.length ≤ 3000
    · have t1 : ((a.length : Int) > 3000) = False := by simp; omega
      have t2 : ((b.length : Int) > 3000) = False := by simp; omega
      go_enter Tryd.func4, Tryd.ntmps4
      go_wp2_with fail
      refine (lives2_any _ hK).mono ?_
      rintro e w1 ⟨rfl, E1⟩
      have hall : SlAll (w1.alloc (.cells #[.slice A a.length c, .slice B b.length d] 24)) (.slice (some ⟨w1.heap.size, 0, none⟩) 2 2) [a, b] := slAll_two 24 _ rfl (Hu.out.ext E1) (Hv.out.ext E1)
      have Hof := Lib.hid (of_any _ _ _ (hK.ext (E1.alloc _)) hall (by simp) (by simp [total]; omega))
      clear hall
      rw [show ([a, b] : List (List UInt8)).flatten = a ++ b from by simp] at Hof
      have hl := sumB_length (a ++ b)
      obtain ⟨z, hz⟩ : ∃ z, z = sumB (a ++ b) := ⟨_, rfl⟩
      rw [← hz] at hl Hof
      have Hz := Lib.hid hz
      have heq : ∀ w, (Op.equalIn 10000 28 (.agg (bytesV z).toArray) (.agg (bytesV z).toArray)).run Tryd.prog w = .ok true w := fun w => by rw [equal_dg z z hl hl w]; simp
      clear hz hl
      go_wp2_with fail
      refine Hof.out.mono ?_
      rintro e w2 ⟨rfl, E2⟩
      clear Hof
      have E12 : Ext w w2 := (E1.alloc _).trans E2
      go_wp2_with (first | (at_builtin; have _ := ho3; refine wpList_unguard rfl ?_; refine wpList_appB ho3 (Hv.out.ext E13) rfl _ _ rfl rfl rfl (by simp; omega) (by have := E3.size; exact this) ?_; intro v4 w4 ho4 hg4 _) | (at_builtin; refine wpList_unguard rfl ?_; refine wpList_appB (Own.empty w2 w2.heap.size (Nat.le_refl _)) (Hu.out.ext (E12.alloc _)) rfl _ _ rfl rfl rfl (by simp; omega) (by simp) ?_; intro v3 w3 ho3 hg3 _; have E3 : Ext w2 w3 := ((Ext.refl w2).alloc _).grown hg3 (by simp [Value.ownBlock]); have E13 : Ext w w3 := E12.trans E3))
      have E4 : Ext w w4 := E13.grown hg4 (fun j hj => by have := ho3.from j hj; have := E12.size; omega)
      have O4 : Own w4 w2.heap.size v4 (a ++ b) := by simpa using ho4
      have Hr := Lib.hid (rOf_any v4 (a ++ b) w4 O4.sl (by simp; omega))
      rw [← Hz.out] at Hr
      clear ho3 ho4 hg3 hg4 E3 E13 O4
      refine Hr.out.mono ?_
      rintro e w5 ⟨rfl, E5⟩
      clear Hr
      have E15 : Ext w w5 := E4.trans E5
      have hall : SlAll (w5.alloc (.cells #[.slice A a.length c] 24)) (.slice (some ⟨w5.heap.size, 0, none⟩) 1 1) [a] := slAll_one 24 _ rfl (Hu.out.ext E15)
      have Hof := Lib.hid (of_any _ _ _ (hK.ext (E15.alloc _)) hall (by simp) (by simp [total]; omega))
      clear hall
      rw [show ([a] : List (List UInt8)).flatten = a from by simp] at Hof
      have hl := sumB_length a
      obtain ⟨y, hy⟩ : ∃ y, y = sumB a := ⟨_, rfl⟩
      rw [← hy] at hl Hof
      have Hy := Lib.hid hy
      have heq2 : ∀ w, (Op.equalIn 10000 28 (.agg (bytesV y).toArray) (.agg (bytesV y).toArray)).run Tryd.prog w = .ok true w := fun w => by rw [equal_dg y y hl hl w]; simp
      clear hy hl
      go_wp2_with fail
      refine Hof.out.mono ?_
      rintro e w6 ⟨rfl, E6⟩
      clear Hof
      have E16 : Ext w w6 := (E15.alloc _).trans E6
      have Hr := Lib.hid (rOf_any _ a w6 (Hu.out.ext E16) (by omega))
      rw [← Hy.out] at Hr
      go_wp2_with fail
      refine Hr.out.mono ?_
      rintro e w7 ⟨rfl, E7⟩
      clear Hr
      go_wp2
      go_ret
      exact ⟨rfl, E16.trans E7⟩
    · have t1 : ((a.length : Int) > 3000) = False := by simp; omega
      have t2 : ((b.length : Int) > 3000) = True := by simp; omega
      go_enter Tryd.func4, Tryd.ntmps4
      go_wp2_with fail
      refine (lives2_any _ hK).mono ?_
      rintro e w1 ⟨rfl, E1⟩
      go_wp2
      go_ret
      exact ⟨rfl, E1⟩
  · have t1 : ((a.length : Int) > 3000) = True := by simp; omega
    go_enter Tryd.func4, Tryd.ntmps4
    go_wp2_with fail
    refine (lives2_any _ hK).mono ?_
    rintro e w1 ⟨rfl, E1⟩
    go_wp2
    go_ret
    exact ⟨rfl, E1⟩
end Go.Proofs.YtokfhcnnhbgdjaaDoor
