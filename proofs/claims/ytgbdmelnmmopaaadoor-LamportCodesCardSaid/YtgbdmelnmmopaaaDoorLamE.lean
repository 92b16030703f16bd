/- lamport: signatures: contracts of Sign of both, and of pursuivantref07.Sides. -/
import Derived.Test.YtgbdmelnmmopaaaDoorLamD
import Derived.Test.YtgbdmelnmmopaaaDoorDigs
namespace Go.Proofs.YtgbdmelnmmopaaaDoor
open Go.RowKit

def signR (seed : List UInt8) (leaf : Nat) (m : List UInt8) (k : Nat) : List (List UInt8) := (List.range k).map fun b => secB seed leaf b (sideB (msgB m) b)
def signO (seed : List UInt8) (leaf : Nat) (m : List UInt8) (k : Nat) : List (List UInt8) := (List.range k).map fun b => sumB (secB seed leaf b (1 - sideB (msgB m) b))
theorem signR_succ (seed : List UInt8) (leaf : Nat) (m : List UInt8) (k : Nat) : signR seed leaf m (k + 1) = signR seed leaf m k ++ [secB seed leaf k (sideB (msgB m) k)] := by simp [signR, List.range_succ]
theorem signO_succ (seed : List UInt8) (leaf : Nat) (m : List UInt8) (k : Nat) : signO seed leaf m (k + 1) = signO seed leaf m k ++ [sumB (secB seed leaf k (1 - sideB (msgB m) k))] := by simp [signO, List.range_succ]
theorem signR_length (seed : List UInt8) (leaf : Nat) (m : List UInt8) (k : Nat) : (signR seed leaf m k).length = k := by simp [signR]
theorem signO_length (seed : List UInt8) (leaf : Nat) (m : List UInt8) (k : Nat) : (signO seed leaf m k).length = k := by simp [signO]

def noOne : Array Value := #[.slice none 0 0, .slice none 0 0]
theorem zero_one (w : World) : (zeroValue 26).run Tryd.prog w = .ok (.agg noOne) w := by kernel_rfl
theorem info_one : (Tryd.prog.info? 26).map (·.size) = some 2 := by kernel_rfl
theorem noOne_one : noOne.all (·.oneCell') = true := by decide +kernel
theorem two_one (A B : Option Addr) (n m c d : Nat) : (#[.slice A n c, .slice B m d] : Array Value).all (·.oneCell') = true := by simp [Value.oneCell']
/-- a store into one cell -/
theorem grown_setCell (w : World) (g o : Nat) (u : Value) : w.grownBy (w.setCell ⟨g, o, none⟩ u) (some g) := ⟨rfl, rfl, rfl, by simp [World.setCell], fun k _ hk => heap_setCell_other w _ k _ (fun e => hk (by rw [e]))⟩
theorem OwnD.set {w : World} {base g o : Nat} {v u : Value} {ds : List (List UInt8)} {t : TypeId} {cs : Array Value} (h : OwnD w base v ds) (hb : Blk w g t cs) (hne : t ≠ 30) : OwnD (w.setCell ⟨g, o, none⟩ u) base v ds :=
  h.apart (grown_setCell w g o u) (fun j hj e => h.ne hb hne (by rw [hj, e]))
/-- two rows that lie apart stay so where one is appended to -/
theorem apart_app {w : World} {v v' u : Value} (h : ∀ j, v.ownBlock = some j → u.ownBlock ≠ some j) (hu : ∀ j, u.ownBlock = some j → j < w.heap.size) (hq : v'.ownBlock = v.ownBlock ∨ v'.ownBlock = some w.heap.size) : ∀ j, v'.ownBlock = some j → u.ownBlock ≠ some j := by
  intro j hj e
  rcases hq with hq | hq
  · exact h j (by rw [← hq, hj]) e
  · rw [hq] at hj
    injection hj with hj
    have := hu j e
    omega

set_option maxRecDepth 100000 in
set_option maxHeartbeats 1000000 in
theorem lSign_yes (sv mv : Value) (seed m : List UInt8) (la ba : Int) (w : World) (hK : Kst w) (hv : Sl w sv seed) (hmv : Sl w mv m) (hm : mayB ba = true) (hk : keyB seed.length la = true) (hlm : m.length ≤ 1048576) :
    Calls Tryd.prog 8 #[sv, .int .i64 la, .int .i64 ba, mv] w fun e w' => ∃ vr vo, e = .returned (.tuple #[.agg #[vr, vo], .int .i64 0]) ∧ SlD w' vr (signR seed la.toNat m ba.toNat) ∧ SlD w' vo (signO seed la.toNat m ba.toNat) ∧ Ext w w' := by
  obtain ⟨A, c, rfl, hc⟩ := hv.form
  obtain ⟨Am, cm, rfl, hcm⟩ := hmv.form
  have HV := Lib.hid hv
  have HM := Lib.hid hmv
  clear hv hmv
  obtain ⟨hm1, hm2, hm3⟩ := (mayB_iff _).1 hm
  obtain ⟨hk1, hk2, hk3⟩ := (keyB_iff _ _).1 hk
  have Hm := fun w => Lib.hid (lMay_any ba w)
  have Hk := fun w => Lib.hid (lkey_any A seed.length c la w)
  rw [hm] at Hm
  rw [hk] at Hk
  clear hm hk hm3
  obtain ⟨leaf, rfl⟩ := Int.eq_ofNat_of_zero_le hk2
  obtain ⟨bits, rfl⟩ := Int.eq_ofNat_of_zero_le (show 0 ≤ ba by omega)
  simp only [Int.toNat_natCast]
  go_enter Tryd.func8, Tryd.ntmps8
  go_wp2_with (first | (refine wpList_alloc_blk rfl 26 rfl (.agg noOne) zero_one ?_; intro w1 hs1 hb1 he1; clear hs1))
  refine ((Hm _).out).mono ?_
  rintro e w1' ⟨rfl, rfl⟩
  go_wp2_with fail
  refine ((Hk _).out).mono ?_
  rintro e w1' ⟨rfl, rfl⟩
  clear Hm Hk
  have hz := msgB_length m
  have Hof := Lib.hid (lof_any _ m w1 (hK.ext he1) (HM.out.ext he1) hlm)
  obtain ⟨z, hzz⟩ : ∃ z, z = msgB m := ⟨_, rfl⟩
  rw [← hzz] at hz Hof
  have Hz := Lib.hid hzz
  have HL := Lib.hid hz
  clear hz hzz
  go_wp2_with fail
  refine Hof.out.mono ?_
  rintro e w2 ⟨rfl, E2⟩
  clear Hof
  go_wp2_with (first | (refine wpList_alloc_blk rfl 26 rfl (.agg noOne) zero_one ?_; intro w3 hs3 hb3 he3; clear hs3))
  have hlw : w.heap.size < w1.heap.size := hb1.lt
  have h12 := E2.size
  have E12 := he1.trans E2
  go_loopw [33] (fun i wr => ∃ k : Nat, k ≤ bits ∧ i = .int .i64 k ∧ (∃ vr vo, Blk wr w2.heap.size 26 #[vr, vo] ∧ OwnD wr w2.heap.size vr (signR seed leaf m k) ∧ OwnD wr w2.heap.size vo (signO seed leaf m k) ∧ (∀ j, vr.ownBlock = some j → vo.ownBlock ≠ some j)) ∧ Ext w2 wr) (fun i _ => bits - (intOf i).toNat)
  case atStart => exact ⟨0, by omega, rfl, ⟨_, _, hb3, OwnD.none_ _ _, OwnD.none_ _ _, fun j hj => by cases hj⟩, he3⟩
  case round =>
    clear hb3 he3
    obtain ⟨k, hkb, rfl, ⟨vr, vo, hB, hR, hO, hap⟩, E⟩ := hrel
    obtain ⟨Ar, cr, rfl, hcr⟩ := hR.form
    obtain ⟨Ao, co, rfl, hco⟩ := hO.form
    rw [signR_length, signO_length] at *
    have HB := Lib.hid hB
    have HR := Lib.hid hR
    have HO := Lib.hid hO
    have Hap := Lib.hid hap
    clear hB hR hO hap
    have Ew := E12.trans E
    by_cases hlt : k < bits
    · have hsd := sideB_lt z k
      obtain ⟨sd, hsdz⟩ : ∃ sd, sd = sideB z k := ⟨_, rfl⟩
      rw [← hsdz] at hsd
      have Hsd := Lib.hid hsdz
      clear hsdz
      have s0 := secB_length seed leaf k sd
      have s1 := secB_length seed leaf k (1 - sd)
      have Hside := Lib.hid (fun w' => lside_any z HL.out k (by omega) w')
      rw [← Hsd.out] at Hside
      have Hc0 := Lib.hid (fun w' (E' : Ext w w') => lsecret_any (.slice A seed.length c) seed (leaf : Int) (k : Int) (sd : Int) leaf k sd rfl rfl rfl w' (hK.ext E') (HV.out.ext E') (by omega) (by omega) (by omega) (by omega))
      have Hc1 := Lib.hid (fun w' (E' : Ext w w') => lsecret_any (.slice A seed.length c) seed (leaf : Int) (k : Int) (1 - (sd : Int)) leaf k (1 - sd) rfl rfl (by omega) w' (hK.ext E') (HV.out.ext E') (by omega) (by omega) (by omega) (by omega))
      obtain ⟨z0, hz0⟩ : ∃ z, z = secB seed leaf k sd := ⟨_, rfl⟩
      obtain ⟨z1, hz1⟩ : ∃ z, z = secB seed leaf k (1 - sd) := ⟨_, rfl⟩
      rw [← hz0] at Hc0 s0
      rw [← hz1] at Hc1 s1
      have Hz0 := Lib.hid hz0
      have Hz1 := Lib.hid hz1
      have S0 := Lib.hid s0
      have S1 := Lib.hid s1
      clear hz0 hz1 s0 s1
      have hc0 : wr.drew.cell? ⟨w2.heap.size, 0, none⟩ = some (.slice Ar k cr) := HB.out.cell 0
      go_wp2
      refine wp_region_chain 10 [(true, 0), (true, 1), (true, 2), (true, 3), (true, 4), (true, 5), (true, 6), (false, 7), (false, 8), (false, 9)] (fun w' => w'.cell? ⟨w2.heap.size, 0, none⟩ = some (.slice Ar k cr)) (by kernel_rfl) (by kernel_rfl) hc0 ?_
      iterate 7
        refine wpTake_read _ _ ?_ rfl rfl ?_ ?_
        rotate_left 1
        focus
          intro wS hS
          try dsimp only at hS
          go_simp
          first | done | with_reducible rfl
        simp only [Act.put, List.setIfInBounds_toArray, List.set_cons_zero, List.set_cons_succ]
      refine wpTake_do _ _ rfl rfl (fun K hK' => ?_)
      go_simp
      refine (Hside.out _).mono ?_
      rintro e w4 ⟨rfl, E4⟩
      have E4' : Ext wr w4 := (Ext.refl wr).drew.trans E4
      refine hK' _ _ (E4.cell hc0) ?_
      clear hK' K
      refine wpTake_do _ _ rfl rfl (fun K hK' => ?_)
      go_simp
      refine (Hc0.out _ (Ew.trans E4')).mono ?_
      rintro e w5 ⟨rfl, E5⟩
      have E5' : Ext wr w5 := E4'.trans E5
      refine hK' _ _ (E5.cell (E4.cell hc0)) ?_
      clear hK' K
      have hc5 : w5.cell? ⟨w2.heap.size, 0, none⟩ = some (.slice Ar k cr) := E5.cell (E4.cell hc0)
      clear hc0 E4 E5 E4'
      refine wpTake_do _ _ rfl rfl (fun K hK' => ?_)
      refine wp_build_dg z0 S0.out _ rfl rfl ?_
      intro w6 E56 hs6 hnew
      have E6 : Ext wr w6 := E5'.trans E56
      refine hK' _ _ (E56.cell hc5) ?_
      clear hK' K
      refine wpTake_nil ?_
      simp only [Act.put, List.setIfInBounds_toArray, List.set_cons_zero, List.set_cons_succ, List.drop_succ_cons, List.drop_zero]
      have HR6 := Lib.hid (HR.out.ext E6)
      have Hnew := Lib.hid hnew
      have HB6 := Lib.hid (HB.out.ext E6)
      have HO6 := Lib.hid (HO.out.ext E6)
      have Ew6 := E.trans E6
      clear hnew HR HO HB hc5 E5' E56 hs6
      go_wp2_with (at_builtin; refine wpList_appD HR6.out S0.out Hnew.out rfl _ _ rfl rfl rfl (by rw [signR_length]; omega) (by have := Ew6.size; exact this) ?_; intro v7 w7 ho7 hg7 hq7; have hn7 := HR6.out.ne HB6.out (by decide); have hB7 := HB6.out.grown hg7 (Ne.symm hn7); have hc7 : w7.cell? ⟨w2.heap.size, 0, none⟩ = some (.slice Ar k cr) := hB7.cell 0; have hf7 := hB7.frozen 0; obtain ⟨A7, c7, e7, hc7'⟩ := ho7.form; rw [List.length_append, signR_length, List.length_singleton] at e7; subst e7; have HB7 := Lib.hid hB7; have HO7 := Lib.hid ho7; have Hg7 := Lib.hid hg7; have Hq7 := Lib.hid hq7; clear hB7 ho7 hg7 hq7 hn7)
      refine NoPanic.normal ?_
      have hR8 : OwnD (w7.setCell ⟨w2.heap.size, 0, none⟩ (.slice A7 (k + 1) c7)) w2.heap.size (.slice A7 (k + 1) c7) (signR seed leaf m (k + 1)) := by
        rw [signR_succ, ← Hz.out, ← Hsd.out, ← Hz0.out]; exact HO7.out.set HB7.out (by decide)
      have hO7 := HO6.out.apart Hg7.out (fun j hj e => Hap.out j e hj)
      have hO8 := hO7.set (o := 0) (u := .slice A7 (k + 1) c7) HB7.out (by decide)
      have hB8 : Blk (w7.setCell ⟨w2.heap.size, 0, none⟩ (.slice A7 (k + 1) c7)) w2.heap.size 26 #[.slice A7 (k + 1) c7, .slice Ao k co] := HB7.out.set 0 _
      have hap8 := apart_app Hap.out HO6.out.lt Hq7.out
      have E8 : Ext w2 (w7.setCell ⟨w2.heap.size, 0, none⟩ (.slice A7 (k + 1) c7)) := (Ew6.grown Hg7.out HR6.out.from).setCell (by simp) _
      clear hf7 hc7 hc7' HB7 HO7 Hg7 Hq7 HR6 HO6 HB6 Hnew hO7
      revert hR8 hO8 hB8 E8
      generalize w7.setCell ⟨w2.heap.size, 0, none⟩ (.slice A7 (k + 1) c7) = w8
      intro hR8 hO8 hB8 E8
      have HR8 := Lib.hid hR8
      have HO8 := Lib.hid hO8
      have HB8 := Lib.hid hB8
      have Hap8 := Lib.hid hap8
      clear hR8 hO8 hB8 hap8 Hap E6 Ew6
      have Ew8 := E12.trans E8
      have hd0 : w8.drew.cell? ⟨w2.heap.size, 1, none⟩ = some (.slice Ao k co) := HB8.out.cell 1
      go_wp2
      refine wp_region_chain 12 [(true, 0), (true, 1), (true, 2), (true, 3), (true, 4), (true, 5), (true, 6), (false, 7), (true, 8), (false, 9), (false, 10), (false, 11)] (fun w' => w'.cell? ⟨w2.heap.size, 1, none⟩ = some (.slice Ao k co)) (by kernel_rfl) (by kernel_rfl) hd0 ?_
      iterate 7
        refine wpTake_read _ _ ?_ rfl rfl ?_ ?_
        rotate_left 1
        focus
          intro wS hS
          try dsimp only at hS
          go_simp
          first | done | with_reducible rfl
        simp only [Act.put, List.setIfInBounds_toArray, List.set_cons_zero, List.set_cons_succ]
      refine wpTake_do _ _ rfl rfl (fun K hK' => ?_)
      go_simp
      refine (Hside.out _).mono ?_
      rintro e w4 ⟨rfl, E4⟩
      have E4' : Ext w8 w4 := (Ext.refl w8).drew.trans E4
      refine hK' _ _ (E4.cell hd0) ?_
      clear hK' K
      have hwr : IntKind.i64.wrap (1 - (sd : Int)) = 1 - (sd : Int) := IntWalk.i64_in _ (by omega)
      iterate 1
        refine wpTake_read _ _ ?_ rfl rfl ?_ ?_
        rotate_left 1
        focus
          intro wS hS
          try dsimp only at hS
          go_simp
          first | done | with_reducible rfl
        simp only [Act.put, List.setIfInBounds_toArray, List.set_cons_zero, List.set_cons_succ]
      refine wpTake_do _ _ rfl rfl (fun K hK' => ?_)
      go_simp
      clear hwr
      with_reducible refine (Hc1.out _ (Ew8.trans E4')).mono ?_
      rintro e w5 ⟨rfl, E5⟩
      have E5' : Ext w8 w5 := E4'.trans E5
      refine hK' _ _ (E5.cell (E4.cell hd0)) ?_
      clear hK' K
      have hc5 : w5.cell? ⟨w2.heap.size, 1, none⟩ = some (.slice Ao k co) := E5.cell (E4.cell hd0)
      clear hd0 E4 E5 E4'
      refine wpTake_do _ _ rfl rfl (fun K hK' => ?_)
      go_simp
      refine (lsum_any z1 S1.out w5 (hK.ext (Ew8.trans E5'))).mono ?_
      rintro e w6 ⟨rfl, E6⟩
      have E6' : Ext w8 w6 := E5'.trans E6
      refine hK' _ _ (E6.cell hc5) ?_
      clear hK' K
      have hc6 := E6.cell hc5
      clear hc5 E5' E6
      refine wpTake_do _ _ rfl rfl (fun K hK' => ?_)
      refine wp_build_dg (sumB z1) (sumB_length _) _ rfl rfl ?_
      intro w9 E69 hs9 hnew
      have E9 : Ext w8 w9 := E6'.trans E69
      refine hK' _ _ (E69.cell hc6) ?_
      clear hK' K
      refine wpTake_nil ?_
      simp only [Act.put, List.setIfInBounds_toArray, List.set_cons_zero, List.set_cons_succ, List.drop_succ_cons, List.drop_zero]
      have HO9 := Lib.hid (HO8.out.ext E9)
      have Hnew := Lib.hid hnew
      have HB9 := Lib.hid (HB8.out.ext E9)
      have HR9 := Lib.hid (HR8.out.ext E9)
      have Ew9 := E8.trans E9
      clear hnew HR8 HO8 HB8 hc6 E6' E69 hs9
      go_wp2_with (at_builtin; refine wpList_appD HO9.out (sumB_length z1) Hnew.out rfl _ _ rfl rfl rfl (by rw [signO_length]; omega) (by have := Ew9.size; exact this) ?_; intro v10 w10 ho10 hg10 hq10; have hn10 := HO9.out.ne HB9.out (by decide); have hB10 := HB9.out.grown hg10 (Ne.symm hn10); have hc10 : w10.cell? ⟨w2.heap.size, 1, none⟩ = some (.slice Ao k co) := hB10.cell 1; have hf10 := hB10.frozen 1; obtain ⟨A10, c10, e10, hc10'⟩ := ho10.form; rw [List.length_append, signO_length, List.length_singleton] at e10; subst e10; have HB10 := Lib.hid hB10; have HO10 := Lib.hid ho10; have Hg10 := Lib.hid hg10; have Hq10 := Lib.hid hq10; clear hB10 ho10 hg10 hq10 hn10)
      refine NoPanic.normal ?_
      have hO11 : OwnD (w10.setCell ⟨w2.heap.size, 1, none⟩ (.slice A10 (k + 1) c10)) w2.heap.size (.slice A10 (k + 1) c10) (signO seed leaf m (k + 1)) := by
        rw [signO_succ, ← Hz.out, ← Hsd.out, ← Hz1.out]; exact HO10.out.set HB10.out (by decide)
      have hR10 := HR9.out.apart Hg10.out (fun j hj => Hap8.out j hj)
      have hR11 := hR10.set (o := 1) (u := .slice A10 (k + 1) c10) HB10.out (by decide)
      have hB11 : Blk (w10.setCell ⟨w2.heap.size, 1, none⟩ (.slice A10 (k + 1) c10)) w2.heap.size 26 #[.slice A7 (k + 1) c7, .slice A10 (k + 1) c10] := HB10.out.set 1 _
      have hap11 : ∀ j, (Value.slice A7 (k + 1) c7).ownBlock = some j → (Value.slice A10 (k + 1) c10).ownBlock ≠ some j := fun j hj e => apart_app (v := .slice Ao k co) (u := .slice A7 (k + 1) c7) (fun j h1 h2 => Hap8.out j h2 h1) HR9.out.lt Hq10.out j e hj
      have E11 : Ext w2 (w10.setCell ⟨w2.heap.size, 1, none⟩ (.slice A10 (k + 1) c10)) := (Ew9.grown Hg10.out HO9.out.from).setCell (by simp) _
      clear hf10 hc10 hc10' HB10 HO10 Hg10 Hq10 HR9 HO9 HB9 Hnew hR10
      go_wp2
      go_roundw
      case rel => exact ⟨k + 1, by omega, by go_num, ⟨_, _, hB11, hR11, hO11, hap11⟩, E11⟩
      case measure => simp [intOf]; omega
    · obtain rfl : k = bits := by omega
      have hB1 := hb1.ext (E2.trans E)
      have hi2 := info_one
      go_wp2_with (first | (refine wpList_load_blk HB.out rfl 26 _ rfl rfl Tryd.underlying26 rfl info_one ?_) | (refine wpList_store_blk rfl 26 _ _ rfl w.heap.size _ rfl rfl 26 noOne hB1 info_one rfl (two_one _ _ _ _ _ _) ?_; intro w7 hs7 hb7 hg7))
      refine bodyPost_ret (v := .tuple #[.agg #[.slice Ar k cr, .slice Ao k co], .int .i64 0]) (ret2_blk hb7 rfl rfl Tryd.underlying26 rfl info_one rfl) rfl ?_
      have hne : ∀ (u : Value) (ds : List (List UInt8)), OwnD wr w2.heap.size u ds → SlD w7 u ds := fun u ds h => (h.apart hg7 (fun j hj e => by have := h.from j hj; injection e with e; omega)).sl
      exact ⟨_, _, rfl, hne _ _ HR.out, hne _ _ HO.out, Ew.grown hg7 (by simp)⟩
end Go.Proofs.YtgbdmelnmmopaaaDoor
