/- merkle.Ways' iterator: what it asks of a round, and what it gives. -/
import Derived.Test.YtafjnlikmjahfaaDoorLivesM
import Derived.Test.YtafjnlikmjahfaaDoorRangeB
namespace Go.Proofs.YtafjnlikmjahfaaDoor
open Go.RowKit Go.Shelf
attribute [local go_sem] Oper.semAt_some

set_option maxRecDepth 100000 in
set_option maxHeartbeats 2000000 in
theorem ways1_no (l B n c : Nat) (A : Option Addr) (W : World) (hB : Blk W B 22 #[.slice A n c]) (hno : powB n = false) :
    Calls Tryd.prog 27 #[.func (.yield l) #[] #[], .pointer (some ⟨B, 0, none⟩)] W fun e W' => (∃ v, e = .returned v) ∧ W = W' := by
  have Hn := fun w => Lib.hid (mLevels_no A n c w hno)
  have hc : W.cell? ⟨B, 0, none⟩ = some (.slice A n c) := hB.cell 0
  clear hno hB
  go_enter Tryd.func27, Tryd.ntmps27
  go_wp2_with fail
  with_reducible refine (Hn _).out.mono ?_
  rintro e w1 ⟨rfl, rfl⟩
  go_wp2
  refine bodyPost_ret (results_none rfl _ _ _) rfl ?_
  exact ⟨⟨_, rfl⟩, rfl⟩

set_option maxRecDepth 100000 in
set_option maxHeartbeats 2000000 in
theorem ways1_yes (m l B H : Nat) (v : Value) (ds : List (List UInt8)) (J : Value → Nat → World → Prop) (Jx : World → Prop) (W : World) (hK : Kst W) (hB : Blk W B 22 #[v]) (hv : SlD W v ds) (hl : ds.length = 2 ^ H) (hH : H ≤ 6)
    (hJ0 : ∀ vl W', Ext W W' → OwnDs W' 0 vl (levels ds (H + 1)) → J vl 0 W') (hJE : ∀ vl k W1 W2, J vl k W1 → Ext W1 W2 → J vl k W2) (hJs : ∀ vl k W1, J vl k W1 → SlDs W1 vl (levels ds (H + 1)))
    (hY : ∀ vl k W1 vw b', k < ds.length → J vl k W1 → OwnD W1 b' vw (wayT ds k H) → YieldAt Fence.wide (m - 1) Tryd.prog l #[.int .i64 (k : Int), vw] W1 fun e W' => (e = .returned (.bool true) ∧ J vl (k + 1) W') ∨ (e = .returned (.bool false) ∧ Jx W')) :
    CallsIn Fence.wide m Tryd.prog 27 #[.func (.yield l) #[] #[], .pointer (some ⟨B, 0, none⟩)] W fun e W' => (∃ u, e = .returned u) ∧ ((∃ vl, J vl ds.length W') ∨ Jx W') := by
  obtain ⟨A, c, rfl, hc⟩ := hv.form
  have Hy := Lib.hid (mLevels_own _ ds H W hK hv hl hH)
  have hc0 : W.cell? ⟨B, 0, none⟩ = some (.slice A ds.length c) := hB.cell 0
  have hle := pow_le hH
  have Hl := Lib.hid hl
  have HJE := Lib.hid hJE
  have HJs := Lib.hid hJs
  have HY := Lib.hid hY
  have HJ0 := Lib.hid hJ0
  clear hv hB hl hJE hJs hY hJ0
  refine callsIn_of_wp Tryd.func27 rfl trivial ?_ rfl
  simp only [Tryd.ntmps27, List.size_toArray, List.length_cons, List.length_nil, Nat.reduceAdd, Nat.reduceSub, Array.replicate_succ, Array.replicate_zero, List.push_toArray, List.append_toArray, List.nil_append, List.cons_append]
  gi_wp2_with fail
  refine ⟨trivial, fun h => by simp [Fence.wide] at h, callsIn_wide.2 (Hy.out.mono ?_)⟩
  rintro e w2 ⟨vl, rfl, O2, E2⟩
  have hlv := levels_length ds (H + 1)
  obtain ⟨Al, cl, rfl, hcl⟩ := O2.form
  have J0 := Lib.hid (HJ0.out _ _ E2 O2)
  have hc2 : w2.cell? ⟨B, 0, none⟩ = some (.slice A ds.length c) := E2.cell hc0
  rw [hlv] at J0
  rw [hlv]
  clear Hy O2 hcl hc0 HJ0
  have hn64 : ds.length ≤ 64 := by rw [Hl.out]; exact hle
  have Hlv := Lib.hid hlv
  clear hlv E2
  gi_wp2
  clear hc2
  gi_loopw [15] (fun i wr => ∃ k : Nat, k ≤ ds.length ∧ i = .int .i64 (k : Int) ∧ J (.slice Al (H + 1) cl) k wr) (fun i _ => ds.length - (intOf i).toNat)
  case atStart => exact ⟨0, by omega, rfl, J0.out⟩
  case round =>
    obtain ⟨k, hk, rfl, hJ⟩ := hrel
    by_cases hlt : k < ds.length
    · have Hw := Lib.hid (mway_any (.slice Al (H + 1) cl) ds H k wr (HJs.out _ _ _ hJ) Hl.out hH (by rw [← Hl.out]; exact hlt))
      have hlt' : (k : Int) < (ds.length : Int) := by omega
      gi_wp2_with fail
      refine ⟨trivial, fun h => by simp [Fence.wide] at h, callsIn_wide.2 (Hw.out.mono ?_)⟩
      rintro e w5 ⟨vw, rfl, O5, E5⟩
      obtain ⟨fn, tmps, assign, body, hy, hR⟩ := HY.out _ k w5 vw _ hlt (HJE.out _ _ _ _ hJ E5) O5
      clear Hw O5 E5 HY
      gi_wp2
      refine ⟨fun h => by simp [Fence.wide] at h, hR.mono ?_⟩
      rintro e W3 (⟨rfl, hJ3⟩ | ⟨rfl, hx3⟩)
      · gi_wp2
        go_roundw
        case rel => exact ⟨k + 1, hlt, by go_num, hJ3⟩
        case measure => simp [intOf]; omega
      · gi_wp2
        refine bodyPost_ret (results_none rfl _ _ _) rfl ?_
        exact ⟨⟨_, rfl⟩, .inr hx3⟩
    · obtain rfl : k = ds.length := by omega
      gi_wp2
      go_end0
      exact ⟨⟨_, rfl⟩, .inl ⟨_, hJ⟩⟩
end Go.Proofs.YtafjnlikmjahfaaDoor
