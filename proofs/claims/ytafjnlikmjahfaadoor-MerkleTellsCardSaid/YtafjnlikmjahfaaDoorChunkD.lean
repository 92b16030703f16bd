/- slices.Chunk of digests: the maker, and its iterator's contract, where the length is N times the chunk's. -/
import Derived.Test.YtafjnlikmjahfaaDoorChunkK
import Derived.Test.YtafjnlikmjahfaaDoorProg
namespace Go.Proofs.YtafjnlikmjahfaaDoor
open Go.RowKit Go.Shelf
attribute [local go_sem] Oper.semAt_some


set_option maxRecDepth 100000 in
set_option maxHeartbeats 2000000 in
theorem chunkD1_in (l Bs Bn N c len cap : Nat) (A : Option Addr) (hlen : len = N * c) (hc0 : 1 ≤ c) (hcap : len ≤ cap) (hreach : len ≤ 1073741824) (hA : 1 ≤ N → ∃ b o, A = some ⟨b, o, none⟩) (J Jx : List (Fin N) → World → Prop) (n : Nat)
    (hY : ∀ (pre : List (Fin N)) (x : Fin N) W, J pre W → pre.length < N → YieldAt Fence.wide (n - 1) Tryd.prog l #[chunkV 32 A c x.1] W fun e W' =>
      (e = .returned (.bool true) ∧ J (pre ++ [x]) W' ∧ Kept2 Bs Bn W W') ∨ (e = .returned (.bool false) ∧ Jx (pre ++ [x]) W'))
    (W : World) (hJ : AbidesFrom W.heap.size J) (hBs : W.cell? ⟨Bs, 0, none⟩ = some (.slice A len cap)) (hBn : W.cell? ⟨Bn, 0, none⟩ = some (.int .i64 (c : Int))) (h0 : J [] W) :
    CallsIn Fence.wide n Tryd.prog 39 #[.func (.yield l) #[] #[], .pointer (some ⟨Bs, 0, none⟩), .pointer (some ⟨Bn, 0, none⟩)] W fun e W' => (∃ v, e = .returned v) ∧
      ((∃ ys, ys = List.finRange N ∧ J ys W') ∨ (∃ pre, True ∧ Jx pre W')) := by
  refine callsIn_of_wp Tryd.func39 rfl trivial ?_ rfl
  simp only [Tryd.ntmps39, List.size_toArray, List.length_cons, List.length_nil, Nat.reduceAdd, Nat.reduceSub, Array.replicate_succ, Array.replicate_zero, List.push_toArray, List.append_toArray, List.nil_append, List.cons_append]
  gi_wp2
  gi_loopw [4] (fun i wr => ∃ k : Nat, k ≤ N ∧ i = .int .i64 ((k * c : Nat) : Int) ∧ J ((List.finRange N).take k) wr ∧ Kept2 Bs Bn W wr)
    (fun i _ => len - (intOf i).toNat)
  case atStart => exact ⟨0, Nat.zero_le _, by simp, by simpa using h0, Kept2.refl _ _ _⟩
  case round =>
    obtain ⟨k, hk, rfl, hJs, hnx⟩ := hrel
    have hs1 := hnx.cell_s hBs
    have hs2 := hnx.cell_n hBn
    have hkc : k * c ≤ len := by rw [hlen]; exact Nat.mul_le_mul_right c hk
    by_cases hlt : k < N
    · obtain ⟨b, off, rfl⟩ := hA (by omega)
      have hkc1 : k * c + c ≤ len := by rw [hlen, ← Nat.succ_mul]; exact Nat.mul_le_mul_right c hlt
      have hkc2 : (k + 1) * c = k * c + c := Nat.succ_mul k c
      have hjs2 : J ((List.finRange N).take k) wr → ∀ m, J ((List.finRange N).take k) (wr.drewN m) := fun h m => hJ _ wr _ none h ⟨rfl, rfl, rfl, Nat.le_refl _, fun _ _ _ => rfl⟩ (fun r e => by cases e)
      have hYk : ∀ m, YieldAt Fence.wide (n - 1) Tryd.prog l #[chunkV 32 (some ⟨b, off, none⟩) c k] (wr.drewN m) fun e W' => (e = .returned (.bool true) ∧ J ((List.finRange N).take (k + 1)) W' ∧ Kept2 Bs Bn wr W') ∨ (e = .returned (.bool false) ∧ ∃ pre, Jx pre W') := fun m => by
        obtain ⟨fn, tmps, assign, body, hy, hR⟩ := hY _ ⟨k, hlt⟩ (wr.drewN m) (hjs2 hJs m) (by simp; omega)
        refine ⟨fn, tmps, assign, body, hy, hR.mono fun e W' h => ?_⟩
        rcases h with ⟨he, hj, hk2⟩ | ⟨he, hj⟩
        · refine .inl ⟨he, ?_, hk2⟩
          rw [take_fin hlt]
          exact hj
        · exact .inr ⟨he, _, hj⟩
      have hk1 : k + 1 ≤ N := hlt
      replace hlt := Lib.hid hlt
      clear hY
      obtain ⟨N', hN'⟩ : ∃ N', N' = N := ⟨_, rfl⟩
      obtain ⟨q, hq⟩ : ∃ q, q = k * c := ⟨_, rfl⟩
      rw [← hq] at hkc hkc1 hkc2 ⊢
      simp only [chunkV, Option.map, ← hq] at hYk
      replace hkc2 := Lib.hid hkc2
      replace hk1 := Lib.hid hk1
      clear hq
      replace hlen := Lib.hid hlen
      have hql : (q : Int) < (len : Int) := by omega
      gi_wp2
      refine wpIn_wide.2 ?_
      go_quiet (fail)
      obtain ⟨fn, tmps, assign, body, hy, hR⟩ := hYk nq
      have hs1b : (wr.drewN nq).cell? ⟨Bs, 0, none⟩ = some (.slice (some ⟨b, off, none⟩) len cap) := hs1
      clear hs1 hYk hjs2
      generalize wr.drewN nq = wr2 at *
      gi_wp2
      refine ⟨fun h => by simp [Fence.wide] at h, hR.mono ?_⟩
      rintro e W3 (⟨rfl, hJ3, hk3⟩ | ⟨rfl, pre3, hJx3⟩)
      · have hs3 := hk3.cell_n hs2
        gi_wp2
        go_roundw
        case rel => exact ⟨k + 1, hk1.out, by rw [hkc2.out]; simp, hJ3, hnx.trans hk3⟩
        case measure => simp [intOf]; omega
      · gi_wp2
        refine bodyPost_ret (results_none rfl _ _ _) rfl ?_
        exact ⟨⟨_, rfl⟩, .inr ⟨_, trivial, hJx3⟩⟩
    · obtain rfl : k = N := by omega
      have hge : ¬ ((len : Int) < (len : Int)) := by omega
      rw [← hlen]
      replace hlen := Lib.hid hlen
      gi_wp2
      go_end0
      exact ⟨⟨_, rfl⟩, .inl (by rwa [List.take_of_length_le (by simp)] at hJs)⟩

set_option maxRecDepth 100000 in
theorem chunkD_any (A : Option Addr) (len cap c : Nat) (w : World) (hc : 1 ≤ c) :
    Calls Tryd.prog 29 #[.slice A len cap, .int .i64 (c : Int)] w fun e w' => ∃ Bs Bn, e = .returned (.func (.func 39) #[] #[.pointer (some ⟨Bs, 0, none⟩), .pointer (some ⟨Bn, 0, none⟩)]) ∧
      w.heap.size ≤ Bs ∧ Bs < Bn ∧ Blk w' Bs 22 #[.slice A len cap] ∧ Blk w' Bn 3 #[.int .i64 (c : Int)] ∧ Ext w w' := by
  have h1 : (1 : Int) ≤ (c : Int) := by omega
  go_enter Tryd.func29, Tryd.ntmps29
  go_wp2
  go_ret
  refine ⟨w.heap.size, w.heap.size + 1, rfl, Nat.le_refl _, by omega, (Blk.new w _ _).alloc _, ?_, ((Ext.refl w).alloc _).alloc _⟩
  have := Blk.new (w.alloc (.cells #[.slice A len cap] 22)) 3 #[.int .i64 (c : Int)]
  simpa using this

theorem chunkD_stops (n Bs Bn N c len cap : Nat) (A : Option Addr) (hlen : len = N * c) (hc0 : 1 ≤ c) (hcap : len ≤ cap) (hreach : len ≤ 1073741824) (hA : 1 ≤ N → ∃ b o, A = some ⟨b, o, none⟩) (w : World)
    (hBs : Blk w Bs 22 #[.slice A len cap]) (hBn : Blk w Bn 3 #[.int .i64 (c : Int)]) :
    SeqStopsK Fence.wide n Tryd.prog 39 #[.pointer (some ⟨Bs, 0, none⟩), .pointer (some ⟨Bn, 0, none⟩)] (fun x : Fin N => #[chunkV 32 A c x.1]) (Kept2 Bs Bn) (fun xs => xs = List.finRange N) (fun _ => True) N w :=
  fun l J Jx W hW hJ _ hY h0 => chunkD1_in l Bs Bn N c len cap A hlen hc0 hcap hreach hA J Jx n hY W hJ ((hBs.ext hW).cell 0) ((hBn.ext hW).cell 0) h0
end Go.Proofs.YtafjnlikmjahfaaDoor
