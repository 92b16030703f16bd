/- merkle: Root, way, Way. -/
import Derived.Test.YtafjnlikmjahfaaDoorMerC
namespace Go.Proofs.YtafjnlikmjahfaaDoor
open Go.RowKit

set_option maxRecDepth 100000 in
set_option maxHeartbeats 400000 in
theorem mRoot_no (A : Option Addr) (n c : Nat) (w : World) (hno : powB n = false) :
    Calls Tryd.prog 10 #[.slice A n c] w fun e w' => e = .returned (.tuple #[.agg zb32, .int .i64 1]) ∧ Ext w w' := by
  have Hn := fun w => Lib.hid (mLevels_no A n c w hno)
  clear hno
  go_enter Tryd.func10, Tryd.ntmps10
  go_wp2_with (first | (refine wpList_alloc_blk rfl 30 rfl (.agg zb32) zero_a32 ?_; intro w1 hs1 hb1 he1; clear hs1))
  with_reducible refine (Hn _).out.mono ?_
  rintro e w2 ⟨rfl, rfl⟩
  go_wp2_with (first | (refine wpList_build_to rfl 30 _ rfl zb32 (by kernel_rfl) ?_) | (refine wpList_store_blk rfl 30 _ _ rfl w.heap.size zb32 rfl rfl 30 zb32 hb1 info_a32 rfl zb32_one ?_; intro w7 hs7 hb7 hg7))
  refine bodyPost_ret (v := .tuple #[.agg zb32, .int .i64 1]) (ret2_blk hb7 rfl rfl Tryd.underlying30 rfl info_a32 rfl) rfl ?_
  exact ⟨rfl, he1.grown hg7 (by simp)⟩

set_option maxRecDepth 100000 in
set_option maxHeartbeats 1000000 in
theorem mRoot_yes (v : Value) (ds : List (List UInt8)) (H : Nat) (w : World) (hK : Kst w) (hv : SlD w v ds) (hl : ds.length = 2 ^ H) (hH : H ≤ 6) :
    Calls Tryd.prog 10 #[v] w fun e w' => e = .returned (.tuple #[dgV (rootB ds H), .int .i64 0]) ∧ Ext w w' := by
  obtain ⟨A, c, rfl, hc⟩ := hv.form
  have Hy := Lib.hid (fun w' (E : Ext w w') => mLevels_yes _ ds H w' (hK.ext E) (hv.ext E) hl hH)
  have hn := rootB_length hv.2 hl
  have hll := lev_length hl H (Nat.le_refl _)
  have hlv := levels_length ds (H + 1)
  rw [Nat.sub_self, Nat.pow_zero] at hll
  have hz : rootB ds H = (lev ds H)[0]'(by omega) := dAt_eq (by omega)
  obtain ⟨z, hzE⟩ : ∃ z, z = rootB ds H := ⟨_, rfl⟩
  rw [← hzE] at hn hz ⊢
  have Hn := Lib.hid hn
  have hz32 : Hid (zb32.size = (bytesV z).toArray.size) := zb32_size _ Hn.out
  have hi32 : Hid ((Tryd.prog.info? 30).map (·.size) = some (bytesV z).toArray.size) := dg_i z Hn.out
  clear hv hn hzE hl
  go_enter Tryd.func10, Tryd.ntmps10
  go_wp2_with (first | (refine wpList_alloc_blk rfl 30 rfl (.agg zb32) zero_a32 ?_; intro w1 hs1 hb1 he1; clear hs1))
  with_reducible refine (Hy.out _ he1).mono ?_
  rintro e w2 ⟨vo, rfl, S2, E2⟩
  obtain ⟨Ao, co, rfl, hco⟩ := S2.form
  obtain ⟨b, o, u, rfl, hcell, hu⟩ := S2.at_ (k := H) rfl (by rw [hlv]; omega)
  have hge : (levels ds (H + 1))[H]'(by rw [hlv]; omega) = lev ds H := by simp [levels]
  rw [hge] at hu
  obtain ⟨Au, cu, rfl, hcu⟩ := hu.form
  obtain ⟨bu, ou, rfl, hcd⟩ := hu.at_ (k := 0) (by omega)
  rw [← hz] at hcd
  rw [hll] at hcell hcu
  rw [hlv] at hco ⊢
  have B2 := hb1.ext E2
  have Hcd := Lib.hid hcd
  have F2 := he1.trans E2
  have e1 : IntKind.i64.wrap (((H + 1 : Nat) : Int) - 1) = (H : Int) := by rw [IntWalk.i64_in _ (by omega)]; omega
  clear Hy S2 hu hlv hge hll hz hb1 he1 E2 hcd
  have hcell' : w2.cell? ⟨b, o + H, none⟩ = some (.slice (some ⟨bu, ou, none⟩) 1 cu) := hcell
  go_wp2_with (first | (refine wpList_load_dg Hcd.out Hn.out rfl _ rfl rfl ?_) | (refine wpList_store_blk rfl 30 _ _ rfl w.heap.size (bytesV z).toArray rfl rfl 30 zb32 B2 hi32.out hz32.out (bytes_one _) ?_; intro w7 hs7 hb7 hg7))
  refine bodyPost_ret (v := .tuple #[dgV z, .int .i64 0]) (ret2_blk hb7 rfl rfl Tryd.underlying30 rfl hi32.out rfl) rfl ?_
  exact ⟨rfl, F2.grown hg7 (by simp)⟩

theorem xor_one : ∀ i : Fin 64, bits .xor .i64 (i.1 : Int) 1 = (bes i.1 : Int) := by decide +kernel

set_option maxRecDepth 100000 in
set_option maxHeartbeats 1000000 in
theorem mway_any (v : Value) (ds : List (List UInt8)) (H i : Nat) (w : World) (hv : SlDs w v (levels ds (H + 1))) (hl : ds.length = 2 ^ H) (hH : H ≤ 6) (hi : i < 2 ^ H) :
    Calls Tryd.prog 26 #[v, .int .i64 (i : Int)] w fun e w' => ∃ vo, e = .returned vo ∧ OwnD w' w.heap.size vo (wayT ds i H) ∧ Ext w w' := by
  obtain ⟨A, c, rfl, hc⟩ := hv.form
  have hlv := levels_length ds (H + 1)
  obtain ⟨b, o, u, rfl, hx1, hx2⟩ := hv.at_ (k := 0) rfl (by rw [hlv]; omega)
  clear hx1 hx2
  have HV := Lib.hid hv
  have Hl := Lib.hid hl
  have Hlv := Lib.hid hlv
  rw [hlv] at hc HV ⊢
  have hle := pow_le hH
  clear hv hl hlv
  go_enter Tryd.func26, Tryd.ntmps26
  go_wp2
  go_loopw [5, 1, 14] (fun out j n wr => ∃ k : Nat, k ≤ H ∧ n = .int .i64 (k : Int) ∧ j = .int .i64 ((i / 2 ^ k : Nat) : Int) ∧ OwnD wr w.heap.size out (wayT ds i k) ∧ Ext w wr) (fun _ _ n _ => H - (intOf n).toNat)
  case atStart => exact ⟨0, by omega, rfl, by simp, OwnD.none_ _ _, Ext.refl w⟩
  case round =>
    obtain ⟨k, hk, rfl, rfl, hO, E⟩ := hrel
    have hwl := wayT_length ds i k
    obtain ⟨Ao, co, rfl, hco⟩ := hO.form
    rw [hwl] at hO hco ⊢
    have HO := Lib.hid hO
    clear hO
    by_cases hlt : k < H
    · have hin := way_in Hl.out hi hlt
      have hll := lev_length Hl.out k hk
      obtain ⟨b', o', u, hA, hcell, hu⟩ := (HV.out.ext E).at_ (k := k) Hlv.out.symm (by rw [Hlv.out]; omega)
      obtain ⟨rfl, rfl⟩ : b = b' ∧ o = o' := by simpa using hA
      have hge : (levels ds (H + 1))[k]'(by rw [Hlv.out]; omega) = lev ds k := by simp [levels]
      rw [hge] at hu
      obtain ⟨Au, cu, rfl, hcu⟩ := hu.form
      obtain ⟨bu, ou, rfl, hcd⟩ := hu.at_ hin
      have hld := hu.len hin
      have hws := wayT_succ ds i k
      rw [dAt_eq hin] at hws
      have hx := xor_one ⟨i / 2 ^ k, by have := Nat.div_le_self i (2 ^ k); omega⟩
      dsimp only at hx
      have hp2 : i / 2 ^ (k + 1) = i / 2 ^ k / 2 := by rw [Nat.pow_succ, ← Nat.div_div_eq_div_mul]
      obtain ⟨p, hp⟩ : ∃ p, p = i / 2 ^ k := ⟨_, rfl⟩
      obtain ⟨q, hq⟩ : ∃ q, q = bes p := ⟨_, rfl⟩
      obtain ⟨z, hz⟩ : ∃ z, z = (lev ds k)[bes (i / 2 ^ k)] := ⟨_, rfl⟩
      obtain ⟨n, hn⟩ : ∃ n, n = (lev ds k).length := ⟨_, rfl⟩
      rw [← hz] at hcd hld hws
      rw [← hp, ← hq] at hcd hin
      rw [← hp] at hx hp2 ⊢
      rw [← hq] at hx
      rw [← hn] at hcell hcu hin
      have hpb : p ≤ 64 := by have := Nat.div_le_self i (2 ^ k); omega
      have Hcd := Lib.hid hcd
      have Hld := Lib.hid hld
      have Hws := Lib.hid hws
      have Hp2 := Lib.hid hp2
      have Hwl := Lib.hid hwl
      have hsz := E.size
      clear hcd hld hws hp hq hz hn hge hu hll hA hp2 hwl
      go_wp2_with (first | (refine wpList_load_dg Hcd.out Hld.out rfl _ rfl rfl ?_) | (refine wpList_build_dg z Hld.out rfl _ rfl rfl ?_; intro w6 E6 hs6 hnew; have HN6 := Lib.hid hnew; have HO6 := Lib.hid (HO.out.ext E6); clear hnew hs6) | (at_builtin; refine wpList_appD HO6.out Hld.out HN6.out rfl _ _ rfl rfl rfl (by rw [Hwl.out]; omega) (by have := E6.size; omega) ?_; intro v7 w7 ho7 hg7 hq7))
      have E7 := (E.trans E6).grown hg7 HO6.out.from
      rw [← Hws.out] at ho7
      exact ⟨⟨k + 1, hlt, by go_num, by rw [Hp2.out]; go_num, ho7, E7⟩, by simp [intOf]; omega⟩
    · obtain rfl : k = H := by omega
      clear hwl
      go_wp2
      go_ret
      exact ⟨_, rfl, HO.out, E⟩

set_option maxRecDepth 100000 in
set_option maxHeartbeats 400000 in
theorem mWay_no (A : Option Addr) (n c : Nat) (i : Int) (w : World) (hno : powB n = false) :
    Calls Tryd.prog 14 #[.slice A n c, .int .i64 i] w fun e w' => e = .returned (.tuple #[.slice none 0 0, .int .i64 1]) ∧ w = w' := by
  have Hn := fun w => Lib.hid (mLevels_no A n c w hno)
  clear hno
  go_enter Tryd.func14, Tryd.ntmps14
  go_wp2_with fail
  with_reducible refine (Hn _).out.mono ?_
  rintro e w2 ⟨rfl, rfl⟩
  go_wp2
  go_ret2
  exact ⟨rfl, rfl⟩

set_option maxRecDepth 100000 in
set_option maxHeartbeats 400000 in
theorem mWay_none (v : Value) (ds : List (List UInt8)) (H : Nat) (i : Int) (w : World) (hK : Kst w) (hv : SlD w v ds) (hl : ds.length = 2 ^ H) (hH : H ≤ 6) (hi : i < 0 ∨ (0 ≤ i ∧ (ds.length : Int) ≤ i)) :
    Calls Tryd.prog 14 #[v, .int .i64 i] w fun e w' => e = .returned (.tuple #[.slice none 0 0, .int .i64 4]) ∧ Ext w w' := by
  obtain ⟨A, c, rfl, hc⟩ := hv.form
  have Hy := Lib.hid (mLevels_yes _ ds H w hK hv hl hH)
  have hlv := Lib.hid (levels_length ds (H + 1))
  clear hv hl
  rcases hi with hi | ⟨hi0, hi⟩
  all_goals
    go_enter Tryd.func14, Tryd.ntmps14
    go_wp2_with fail
    with_reducible refine Hy.out.mono ?_
    rintro e w2 ⟨vo, rfl, S2, E2⟩
    obtain ⟨Ao, co, rfl, hco⟩ := S2.form
    clear S2 Hy
    go_wp2
    go_ret2
    exact ⟨rfl, E2⟩

set_option maxRecDepth 100000 in
set_option maxHeartbeats 400000 in
theorem mWay_yes (v : Value) (ds : List (List UInt8)) (H i : Nat) (w : World) (hK : Kst w) (hv : SlD w v ds) (hl : ds.length = 2 ^ H) (hH : H ≤ 6) (hi : i < ds.length) :
    Calls Tryd.prog 14 #[v, .int .i64 (i : Int)] w fun e w' => ∃ vo, e = .returned (.tuple #[vo, .int .i64 0]) ∧ SlD w' vo (wayT ds i H) ∧ Ext w w' := by
  obtain ⟨A, c, rfl, hc⟩ := hv.form
  have Hy := Lib.hid (mLevels_yes _ ds H w hK hv hl hH)
  have Hw := Lib.hid (fun vo w' (S : SlDs w' vo (levels ds (H + 1))) => mway_any vo ds H i w' S hl hH (by omega))
  have hi' : (i : Int) < (ds.length : Int) := by omega
  clear hv hl
  go_enter Tryd.func14, Tryd.ntmps14
  go_wp2_with fail
  with_reducible refine Hy.out.mono ?_
  rintro e w2 ⟨vo, rfl, S2, E2⟩
  have HS2 := Lib.hid S2
  clear S2 Hy
  go_wp2_with fail
  with_reducible refine (Hw.out vo w2 HS2.out).mono ?_
  rintro e w3 ⟨v3, rfl, O3, E3⟩
  have F3 := E2.trans E3
  have HO3 := Lib.hid O3
  clear O3 E3 E2
  go_wp2
  go_ret2
  exact ⟨_, rfl, HO3.out.sl, F3⟩

/-- may one climb -/
def climbOk (n : Nat) (i : Int) : Bool := decide (n ≤ 6) && (decide (0 ≤ i) && decide (i < 2 ^ n))
theorem climbOk_iff (n : Nat) (i : Int) : climbOk n i = true ↔ n ≤ 6 ∧ 0 ≤ i ∧ i < 2 ^ n := by simp [climbOk]

theorem wrap_pow7 : ∀ k : Fin 7, wrap64 ((2 : Int) ^ k.1) = (2 : Int) ^ k.1 := by decide +kernel
theorem wrap_pow {n : Nat} (h : n ≤ 6) : wrap64 ((2 : Int) ^ n) = (2 : Int) ^ n := wrap_pow7 ⟨n, by omega⟩

set_option maxRecDepth 100000 in
set_option maxHeartbeats 400000 in
theorem mClimb_no (x : List UInt8) (i : Int) (A : Option Addr) (n c : Nat) (w : World) (hno : climbOk n i = false) :
    Calls Tryd.prog 15 #[dgV x, .int .i64 i, .slice A n c] w fun e w' => e = .returned (.tuple #[.agg zb32, .int .i64 1]) ∧ Ext w w' := by
  have E0 : Ext w (w.alloc (.cells (bytesV x).toArray 30)) := (Ext.refl w).alloc _
  by_cases h6 : n ≤ 6
  · by_cases h0 : 0 ≤ i
    · have hi : (2 : Int) ^ n ≤ i := by simpa [climbOk, h6, h0] using hno
      obtain ⟨p, hp⟩ : ∃ p, p = (2 : Int) ^ n := ⟨_, rfl⟩
      have hw : wrap64 ((2 : Int) ^ n) = p := by rw [hp]; exact wrap_pow h6
      rw [← hp] at hi
      clear hno hp
      go_enter Tryd.func15, Tryd.ntmps15
      go_wp2_with (first | (refine wpList_alloc_blk rfl 30 rfl (.agg zb32) zero_a32 ?_; intro w1 hs1 hb1 he1; clear hs1; simp only [World.size_alloc] at hb1) | (refine wpList_build_to rfl 30 _ rfl zb32 (by kernel_rfl) ?_) | (refine wpList_store_blk rfl 30 _ _ rfl (w.heap.size + 1) zb32 rfl rfl 30 zb32 hb1 info_a32 rfl zb32_one ?_; intro w7 hs7 hb7 hg7))
      refine bodyPost_ret (v := .tuple #[.agg zb32, .int .i64 1]) (ret2_blk hb7 rfl rfl Tryd.underlying30 rfl info_a32 rfl) rfl ?_
      exact ⟨rfl, (E0.trans he1).grown hg7 (by simp)⟩
    · have hi : i < 0 := by omega
      clear hno
      go_enter Tryd.func15, Tryd.ntmps15
      go_wp2_with (first | (refine wpList_alloc_blk rfl 30 rfl (.agg zb32) zero_a32 ?_; intro w1 hs1 hb1 he1; clear hs1; simp only [World.size_alloc] at hb1) | (refine wpList_build_to rfl 30 _ rfl zb32 (by kernel_rfl) ?_) | (refine wpList_store_blk rfl 30 _ _ rfl (w.heap.size + 1) zb32 rfl rfl 30 zb32 hb1 info_a32 rfl zb32_one ?_; intro w7 hs7 hb7 hg7))
      refine bodyPost_ret (v := .tuple #[.agg zb32, .int .i64 1]) (ret2_blk hb7 rfl rfl Tryd.underlying30 rfl info_a32 rfl) rfl ?_
      exact ⟨rfl, (E0.trans he1).grown hg7 (by simp)⟩
  · have hi : (6 : Int) < (n : Int) := by omega
    clear hno
    go_enter Tryd.func15, Tryd.ntmps15
    go_wp2_with (first | (refine wpList_alloc_blk rfl 30 rfl (.agg zb32) zero_a32 ?_; intro w1 hs1 hb1 he1; clear hs1; simp only [World.size_alloc] at hb1) | (refine wpList_build_to rfl 30 _ rfl zb32 (by kernel_rfl) ?_) | (refine wpList_store_blk rfl 30 _ _ rfl (w.heap.size + 1) zb32 rfl rfl 30 zb32 hb1 info_a32 rfl zb32_one ?_; intro w7 hs7 hb7 hg7))
    refine bodyPost_ret (v := .tuple #[.agg zb32, .int .i64 1]) (ret2_blk hb7 rfl rfl Tryd.underlying30 rfl info_a32 rfl) rfl ?_
    exact ⟨rfl, (E0.trans he1).grown hg7 (by simp)⟩
end Go.Proofs.YtafjnlikmjahfaaDoor
