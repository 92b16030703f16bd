/- lamport: what its functions compute, in plain words; contracts of May, key, of, side, secret, Secret, Side of both. -/
import Derived.Test.YtgbdmelnmmopaaaDoorSmall
import Derived.Test.YtgbdmelnmmopaaaDoorTagA
namespace Go.Proofs.YtgbdmelnmmopaaaDoor
open Go.RowKit

def mayB (b : Int) : Bool := decide (8 ≤ b) && decide (b ≤ 256) && decide (b % 8 = 0)
def keyB (n : Nat) (leaf : Int) : Bool := decide (n ≤ 64) && decide (0 ≤ leaf) && decide (leaf ≤ 1073741824)
theorem mayB_iff (b : Int) : mayB b = true ↔ 8 ≤ b ∧ b ≤ 256 ∧ b % 8 = 0 := by simp [mayB, and_assoc]
theorem keyB_iff (n : Nat) (leaf : Int) : keyB n leaf = true ↔ n ≤ 64 ∧ 0 ≤ leaf ∧ leaf ≤ 1073741824 := by simp [keyB, and_assoc]
abbrev msgA : ByteArray := ⟨#[108, 97, 109, 112, 111, 114, 116, 32, 109, 101, 115, 115, 97, 103, 101]⟩
abbrev secA : ByteArray := ⟨#[108, 97, 109, 112, 111, 114, 116, 32, 115, 101, 99, 114, 101, 116]⟩
abbrev keyA : ByteArray := ⟨#[108, 97, 109, 112, 111, 114, 116, 32, 107, 101, 121]⟩
/-- a message's digest -/
def msgB (m : List UInt8) : List UInt8 := tagB msgA.data.toList [m]
theorem msgB_length (m : List UInt8) : (msgB m).length = 32 := tagB_length _ _
/-- a bit of a digest -/
def sideB (d : List UInt8) (bit : Nat) : Nat := (d[bit / 8]?.getD 0).toNat / 2 ^ (7 - bit % 8) % 2
theorem sideB_lt (d : List UInt8) (bit : Nat) : sideB d bit < 2 := by unfold sideB; omega
/-- a secret -/
def secB (seed : List UInt8) (leaf bit side : Nat) : List UInt8 := tagB secA.data.toList [seed, putB leaf 4, putB bit 2, [UInt8.ofNat side]]
theorem secB_length (seed : List UInt8) (leaf bit side : Nat) : (secB seed leaf bit side).length = 32 := tagB_length _ _
/-- a key's digest -/
def digB (sums : List UInt8) : List UInt8 := tagB keyA.data.toList [sums]
theorem digB_length (s : List UInt8) : (digB s).length = 32 := tagB_length _ _

set_option maxHeartbeats 400000 in
theorem lMay_any (b : Int) (w : World) : Calls Tryd.prog 23 #[.int .i64 b] w fun e w' => e = .returned (.bool (mayB b)) ∧ w = w' := by
  by_cases h1 : 8 ≤ b
  · by_cases h2 : b ≤ 256
    · by_cases h3 : b % 8 = 0
      · have hm : mayB b = true := (mayB_iff b).2 ⟨h1, h2, h3⟩
        have h3' : (b % 8 == 0) = true := by simp [h3]
        rw [hm]
        clear h3 hm
        go_enter Tryd.func23, Tryd.ntmps23
        go_wp2
        go_ret
        exact ⟨rfl, rfl⟩
      · have hm : mayB b = false := by simp [mayB, h3]
        have h3' : (b % 8 == 0) = false := by simp [h3]
        rw [hm]
        clear h3 hm
        go_enter Tryd.func23, Tryd.ntmps23
        go_wp2
        go_ret
        exact ⟨rfl, rfl⟩
    · have hm : mayB b = false := by simp [mayB, h2]
      rw [hm]
      clear hm
      go_enter Tryd.func23, Tryd.ntmps23
      go_wp2
      go_ret
      exact ⟨rfl, rfl⟩
  · have hm : mayB b = false := by simp [mayB, h1]
    rw [hm]
    clear hm
    go_enter Tryd.func23, Tryd.ntmps23
    go_wp2
    go_ret
    exact ⟨rfl, rfl⟩
set_option maxHeartbeats 400000 in
theorem r7May_any (b : Int) (w : World) : Calls Tryd.prog 24 #[.int .i64 b] w fun e w' => e = .returned (.bool (mayB b)) ∧ w = w' := by
  by_cases h1 : 8 ≤ b
  · by_cases h2 : b ≤ 256
    · by_cases h3 : b % 8 = 0
      · have hm : mayB b = true := (mayB_iff b).2 ⟨h1, h2, h3⟩
        have h3' : (b % 8 == 0) = true := by simp [h3]
        rw [hm]
        clear h3 hm
        go_enter Tryd.func24, Tryd.ntmps24
        go_wp2
        go_ret
        exact ⟨rfl, rfl⟩
      · have hm : mayB b = false := by simp [mayB, h3]
        have h3' : (b % 8 == 0) = false := by simp [h3]
        rw [hm]
        clear h3 hm
        go_enter Tryd.func24, Tryd.ntmps24
        go_wp2
        go_ret
        exact ⟨rfl, rfl⟩
    · have hm : mayB b = false := by simp [mayB, h2]
      rw [hm]
      clear hm
      go_enter Tryd.func24, Tryd.ntmps24
      go_wp2
      go_ret
      exact ⟨rfl, rfl⟩
  · have hm : mayB b = false := by simp [mayB, h1]
    rw [hm]
    clear hm
    go_enter Tryd.func24, Tryd.ntmps24
    go_wp2
    go_ret
    exact ⟨rfl, rfl⟩
set_option maxHeartbeats 400000 in
theorem lkey_any (A : Option Addr) (n c : Nat) (leaf : Int) (w : World) : Calls Tryd.prog 25 #[.slice A n c, .int .i64 leaf] w fun e w' => e = .returned (.bool (keyB n leaf)) ∧ w = w' := by
  by_cases h1 : n ≤ 64
  · by_cases h2 : 0 ≤ leaf
    · by_cases h3 : leaf ≤ 1073741824
      · have hm : keyB n leaf = true := (keyB_iff n leaf).2 ⟨h1, h2, h3⟩
        rw [hm]
        clear hm
        go_enter Tryd.func25, Tryd.ntmps25
        go_wp2
        go_ret
        exact ⟨rfl, rfl⟩
      · have hm : keyB n leaf = false := by simp [keyB, h3]
        rw [hm]
        clear hm
        go_enter Tryd.func25, Tryd.ntmps25
        go_wp2
        go_ret
        exact ⟨rfl, rfl⟩
    · have hm : keyB n leaf = false := by simp [keyB, h2]
      rw [hm]
      clear hm
      go_enter Tryd.func25, Tryd.ntmps25
      go_wp2
      go_ret
      exact ⟨rfl, rfl⟩
  · have hm : keyB n leaf = false := by simp [keyB, h1]
    rw [hm]
    clear hm
    go_enter Tryd.func25, Tryd.ntmps25
    go_wp2
    go_ret
    exact ⟨rfl, rfl⟩
set_option maxHeartbeats 400000 in
theorem r7key_any (A : Option Addr) (n c : Nat) (leaf : Int) (w : World) : Calls Tryd.prog 30 #[.slice A n c, .int .i64 leaf] w fun e w' => e = .returned (.bool (keyB n leaf)) ∧ w = w' := by
  by_cases h1 : n ≤ 64
  · by_cases h2 : 0 ≤ leaf
    · by_cases h3 : leaf ≤ 1073741824
      · have hm : keyB n leaf = true := (keyB_iff n leaf).2 ⟨h1, h2, h3⟩
        rw [hm]
        clear hm
        go_enter Tryd.func30, Tryd.ntmps30
        go_wp2
        go_ret
        exact ⟨rfl, rfl⟩
      · have hm : keyB n leaf = false := by simp [keyB, h3]
        rw [hm]
        clear hm
        go_enter Tryd.func30, Tryd.ntmps30
        go_wp2
        go_ret
        exact ⟨rfl, rfl⟩
    · have hm : keyB n leaf = false := by simp [keyB, h2]
      rw [hm]
      clear hm
      go_enter Tryd.func30, Tryd.ntmps30
      go_wp2
      go_ret
      exact ⟨rfl, rfl⟩
  · have hm : keyB n leaf = false := by simp [keyB, h1]
    rw [hm]
    clear hm
    go_enter Tryd.func30, Tryd.ntmps30
    go_wp2
    go_ret
    exact ⟨rfl, rfl⟩

theorem zero_digest (w : World) : (zeroValue 47).run Tryd.prog w = .ok (.agg zb32) w := by kernel_rfl
theorem info_digest : (Tryd.prog.info? 47).map (·.size) = some 32 := by kernel_rfl

set_option maxRecDepth 100000 in
set_option maxHeartbeats 400000 in
theorem lof_any (mv : Value) (m : List UInt8) (w : World) (hK : Kst w) (hv : Sl w mv m) (hm : m.length ≤ 1048576) :
    Calls Tryd.prog 26 #[mv] w fun e w' => e = .returned (dgV (msgB m)) ∧ Ext w w' := by
  obtain ⟨A, c, rfl, hc⟩ := hv.form
  have HV := Lib.hid hv
  clear hv
  have hl := msgB_length m
  obtain ⟨z, hz⟩ : ∃ z, z = msgB m := ⟨_, rfl⟩
  rw [← hz] at hl ⊢
  have Hl := Lib.hid hl
  have Hz := Lib.hid hz
  clear hl hz
  have hz32 : Hid (zb32.size = (bytesV z).toArray.size) := zb32_size _ Hl.out
  have hi32 : Hid ((Tryd.prog.info? 47).map (·.size) = some (bytesV z).toArray.size) := by rw [List.size_toArray, bytesV_length, Hl.out]; exact info_digest
  go_enter Tryd.func26, Tryd.ntmps26
  go_wp2_with (first | (refine wpList_alloc_blk rfl 47 rfl (.agg zb32) zero_digest ?_; intro w1 hs1 hb1 he1))
  have Hc : Hid (Calls Tryd.prog 40 #[.string msgA, .slice (some ⟨w1.heap.size, 0, none⟩) 1 1] (w1.alloc (.cells #[.slice A m.length c] 22)) fun e w' => e = .returned (dgV z) ∧ Ext (w1.alloc (.cells #[.slice A m.length c] 22)) w') := by
    have := tagged_any msgA _ _ _ (hK.ext (he1.alloc _)) (slAll_one 22 _ rfl (HV.out.ext he1)) (by decide) (by simpa using hm) (by simp)
    rw [Hz.out]
    exact this
  rw [hs1] at Hc
  clear hs1
  refine Hc.out.mono ?_
  rintro e w3 ⟨rfl, E3⟩
  have B3 := (hb1.alloc (.cells #[.slice A m.length c] 22)).ext E3
  go_wp2_with (first | (refine wpList_store_blk rfl 47 _ _ rfl w.heap.size (bytesV z).toArray rfl rfl 47 zb32 B3 hi32.out hz32.out (bytes_one _) ?_; intro w7 hs7 hb7 hg7))
  refine bodyPost_ret (v := dgV z) (ret_blk hb7 rfl rfl Tryd.underlying47 rfl hi32.out) rfl ?_
  exact ⟨rfl, ((he1.alloc _).trans E3).grown hg7 (by simp)⟩

theorem and_one (y : Nat) (h : y < 256) : bits .and .i64 (wrap64 (y : Int)) 1 = ((y % 2 : Nat) : Int) := by
  have : ∀ m : Fin 256, bits .and .i64 (wrap64 (m.val : Int)) 1 = ((m.val % 2 : Nat) : Int) := by decide +kernel
  exact this ⟨y, h⟩
set_option maxRecDepth 100000 in
set_option maxHeartbeats 400000 in
theorem lside_any (d : List UInt8) (hd : d.length = 32) (bit : Nat) (hb : bit < 256) (w : World) :
    Calls Tryd.prog 27 #[dgV d, .int .i64 (bit : Int)] w fun e w' => e = .returned (.int .i64 (sideB d bit : Int)) ∧ Ext w w' := by
  have hB := Blk.new w 47 (bytesV d).toArray
  have hc : (w.alloc (.cells (bytesV d).toArray 47)).cell? ⟨w.heap.size, bit / 8, none⟩ = some (.int .u8 ((d[bit / 8]?.getD 0).toNat : Int)) := by
    rw [hB.cell]; have := bytesV_get d (bit / 8) (by omega); simpa using this
  obtain ⟨x, hx⟩ : ∃ x : UInt8, x = d[bit / 8]?.getD 0 := ⟨_, rfl⟩
  rw [← hx] at hc
  have hs : sideB d bit = x.toNat / 2 ^ (7 - bit % 8) % 2 := by rw [hx]; rfl
  rw [hs]
  clear hB hx hs hd
  go_enter Tryd.func27, Tryd.ntmps27
  go_wp2
  go_ret
  refine ⟨?_, (Ext.refl w).alloc _⟩
  have hlt : x.toNat / 2 ^ (7 - bit % 8) < 256 := Nat.lt_of_le_of_lt (Nat.div_le_self _ _) x.toNat_lt
  have e1 : ((x.toNat : Int) / 2 ^ (7 - bit % 8)) = ((x.toNat / 2 ^ (7 - bit % 8) : Nat) : Int) := by simp
  rw [e1, and_one _ hlt]
  rfl

theorem slAll_four {w : World} {v0 v1 v2 v3 : Value} {b0 b1 b2 b3 : List UInt8} (t : TypeId) (H : Nat) (hH : w.heap.size = H) (h0 : Sl w v0 b0) (h1 : Sl w v1 b1) (h2 : Sl w v2 b2) (h3 : Sl w v3 b3) : SlAll (w.alloc (.cells #[v0, v1, v2, v3] t)) (.slice (some ⟨H, 0, none⟩) 4 4) [b0, b1, b2, b3] :=
  slAll_at w t [v0, v1, v2, v3] [b0, b1, b2, b3] H hH rfl (by
    intro i bs hi
    rcases i with _ | _ | _ | _ | i
    · simp at hi; subst hi; exact ⟨_, rfl, h0⟩
    · simp at hi; subst hi; exact ⟨_, rfl, h1⟩
    · simp at hi; subst hi; exact ⟨_, rfl, h2⟩
    · simp at hi; subst hi; exact ⟨_, rfl, h3⟩
    · simp at hi)
theorem sl_put {w : World} {base n size : Nat} {v : Value} (h : w.ownsRow base 5 1 v size (bytesV (putB n size))) : Sl w v (putB n size) := by
  have := SlR.of_own h
  rw [Sl, putB_length]
  exact this
theorem u8_small (side : Nat) (h : side ≤ 1) : ((UInt8.ofNat side).toNat : Int) = (side : Int) := by
  rw [UInt8.toNat_ofNat']; omega

set_option maxRecDepth 100000 in
set_option maxHeartbeats 1000000 in
theorem lsecret_any (sv : Value) (seed : List UInt8) (la ba sa : Int) (leaf bit side : Nat) (hla : la = leaf) (hba : ba = bit) (hsa : sa = side) (w : World) (hK : Kst w) (hv : Sl w sv seed) (hs : seed.length ≤ 1048576) (hl : leaf ≤ 1073741824) (hb : bit ≤ 255) (hsd : side ≤ 1) :
    Calls Tryd.prog 28 #[sv, .int .i64 la, .int .i64 ba, .int .i64 sa] w fun e w' => e = .returned (dgV (secB seed leaf bit side)) ∧ Ext w w' := by
  obtain ⟨A, c, rfl, hc⟩ := hv.form
  have HV := Lib.hid hv
  subst hla hba hsa
  clear hv
  have hl32 := secB_length seed leaf bit side
  obtain ⟨z, hz⟩ : ∃ z, z = secB seed leaf bit side := ⟨_, rfl⟩
  rw [← hz] at hl32 ⊢
  have Hl := Lib.hid hl32
  have Hz := Lib.hid hz
  clear hl32 hz
  have hz32 : Hid (zb32.size = (bytesV z).toArray.size) := zb32_size _ Hl.out
  have hi32 : Hid ((Tryd.prog.info? 30).map (·.size) = some (bytesV z).toArray.size) := by rw [List.size_toArray, bytesV_length, Hl.out]; exact info_a32
  go_enter Tryd.func28, Tryd.ntmps28
  go_wp2_with (first | (refine wpList_alloc_blk rfl 30 rfl (.agg zb32) zero_a32 ?_; intro w1 hs1 hb1 he1; clear hs1))
  refine (oPut_int _ _ leaf 4 rfl rfl (by omega) (by omega) (by omega) (fit4 _ (by omega)) _).mono ?_
  rintro e w2 ⟨v2, rfl, O2, E2⟩
  obtain ⟨A2, c2, rfl, hc2⟩ := own_form O2
  have HO2 := Lib.hid O2
  clear O2
  go_wp2_with fail
  refine (oPut_int _ _ bit 2 rfl rfl (by omega) (by omega) (by omega) (fit2 _ (by omega)) _).mono ?_
  rintro e w3 ⟨v3, rfl, O3, E3⟩
  obtain ⟨A3, c3, rfl, hc3⟩ := own_form O3
  have HO3 := Lib.hid O3
  clear O3
  have E13 := E2.trans E3
  have Ew3 := he1.trans E13
  have Hc : Hid (Calls Tryd.prog 40 #[.string secA, .slice (some ⟨w3.heap.size + 1, 0, none⟩) 4 4] ((w3.alloc (.cells #[.int .u8 (side : Int)] 5)).alloc (.cells #[.slice A seed.length c, .slice A2 4 c2, .slice A3 2 c3, .slice (some ⟨w3.heap.size, 0, none⟩) 1 1] 22)) fun e w' => e = .returned (dgV z) ∧ Ext ((w3.alloc (.cells #[.int .u8 (side : Int)] 5)).alloc (.cells #[.slice A seed.length c, .slice A2 4 c2, .slice A3 2 c3, .slice (some ⟨w3.heap.size, 0, none⟩) 1 1] 22)) w') := by
    have := tagged_any secA _ _ _ (hK.ext ((Ew3.alloc _).alloc _)) (slAll_four (w := w3.alloc (.cells #[.int .u8 (side : Int)] 5)) 22 (w3.heap.size + 1) (by simp) (HV.out.ext (Ew3.alloc _)) ((sl_put HO2.out).ext (E3.alloc _)) ((sl_put HO3.out).ext ((Ext.refl w3).alloc _)) (sl_one (UInt8.ofNat side) (u8_small side hsd).symm)) (by decide) (by simp [putB_length]; omega) (by simp)
    rw [Hz.out]
    exact this
  go_wp2_with fail
  refine Hc.out.mono ?_
  rintro e w5 ⟨rfl, E5⟩
  have E15 : Ext w1 w5 := ((E13.alloc _).alloc _).trans E5
  have B5 := hb1.ext E15
  go_wp2_with (first | (refine wpList_store_blk rfl 30 _ _ rfl w.heap.size (bytesV z).toArray rfl rfl 30 zb32 B5 hi32.out hz32.out (bytes_one _) ?_; intro w7 hs7 hb7 hg7))
  refine bodyPost_ret (v := dgV z) (ret_blk hb7 rfl rfl Tryd.underlying30 rfl hi32.out) rfl ?_
  exact ⟨rfl, (he1.trans E15).grown hg7 (by simp)⟩
end Go.Proofs.YtgbdmelnmmopaaaDoor
