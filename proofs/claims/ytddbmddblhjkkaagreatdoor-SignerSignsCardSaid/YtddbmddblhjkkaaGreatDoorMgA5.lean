/- Part 5 of the texts: SigO ChunkB LamJ SigP LamK MerF SigQ LivesS RegCall LivesT Join JoinB JoinC JoinD. -/
import Derived.Test.YtddbmddblhjkkaaGreatDoorMgA4
import Derived.Test.YtddbmddblhjkkaaGreatDoorMgA2
import Derived.Test.YtddbmddblhjkkaaGreatDoorProg
import Derived.Test.YtddbmddblhjkkaaGreatDoorMgA3
import Derived.Laws.StructEq
import Derived.BigCall
import Derived.Test.YtddbmddblhjkkaaGreatDoorMgA1
import Derived.WalkKit
import Derived.ProofKit
import Derived.OpenShut
import Derived.Carry
import Derived.Deep.DeepHandedRow
import Derived.Lib.LaidTab
import Derived.Test.YtddbmddblhjkkaaGreatDoorRows
import Derived.Deep.Slices
import Derived.Lib.SmallJoins
/- signer.Decode where a code may not be. -/
namespace Go.Proofs.YtddbmddblhjkkaaGreatDoor
open Go.RowKit Go.Maps

/-- a reader behind so many bytes -/
def rdS (s : List UInt8 × Bool) (n : Nat) : List UInt8 × Bool := if rdOk s.1 s.2 n = true then (s.1.drop n, false) else ([], true)
def rdB (s : List UInt8 × Bool) (n : Nat) : List UInt8 := if rdOk s.1 s.2 n = true then s.1.take n else []
def intV (bs : List UInt8) : Nat := if 4 ≤ bs.length then numB (bs.take 4) else 0
theorem intV_le (bs : List UInt8) : intV bs ≤ 4294967296 := by
  unfold intV
  split
  · exact numB_le4 _ (by simp; omega)
  · omega
def dEnd (bs : List UInt8) (b h : Nat) : List UInt8 × Bool := rdS (rdS (rdS (bs, false) 4) (64 * b)) (32 * h)
theorem rdS_ok {r : List UInt8} {n : Nat} (h : n ≤ r.length) : rdS (r, false) n = (r.drop n, false) := if_pos ((rdOk_iff _ _ _).2 ⟨rfl, h⟩)
theorem rdS_no {r : List UInt8} {n : Nat} (h : ¬ n ≤ r.length) : rdS (r, false) n = ([], true) := if_neg (fun e => h ((rdOk_iff _ _ _).1 e).2)
theorem rdS_bad (n : Nat) : rdS ([], true) n = ([], true) := if_neg (fun e => by have := ((rdOk_iff _ _ _).1 e).1; cases this)
theorem dEnd_ok (bs : List UInt8) (b h : Nat) : (dEnd bs b h = ([], false)) ↔ bs.length = 4 + 64 * b + 32 * h := by
  unfold dEnd
  by_cases h1 : 4 ≤ bs.length
  · rw [rdS_ok h1]
    by_cases h2 : 64 * b ≤ (bs.drop 4).length
    · rw [rdS_ok h2]
      rw [List.length_drop] at h2
      by_cases h3 : 32 * h ≤ ((bs.drop 4).drop (64 * b)).length
      · rw [rdS_ok h3]
        simp only [List.length_drop] at h3
        simp only [Prod.mk.injEq, List.drop_eq_nil_iff, List.length_drop, and_true]
        omega
      · rw [rdS_no h3]
        simp only [List.length_drop] at h3
        simp only [Prod.mk.injEq, Bool.true_eq_false, and_false, false_iff]
        omega
    · rw [rdS_no h2, rdS_bad]
      simp only [List.length_drop] at h2
      simp only [Prod.mk.injEq, Bool.true_eq_false, and_false, false_iff]
      omega
  · rw [rdS_no h1, rdS_bad, rdS_bad]
    simp only [Prod.mk.injEq, Bool.true_eq_false, and_false, false_iff]
    omega
def decOk (bs : List UInt8) (b h : Nat) : Bool := decide (bs.length = 4 + 64 * b + 32 * h) && decide (numB (bs.take 4) ≤ 1073741824)
theorem decOk_iff (bs : List UInt8) (b h : Nat) : decOk bs b h = true ↔ bs.length = 4 + 64 * b + 32 * h ∧ numB (bs.take 4) ≤ 1073741824 := by simp [decOk]

def lfC (i : Int) : Array Value := sigC i (.slice none 0 0) (.slice none 0 0) (.slice none 0 0)
theorem lfC_one (i : Int) : (lfC i).all (·.oneCell') = true := by simp [lfC, sigC, Value.oneCell']
theorem oInt_all (g : Nat) (bs : List UInt8) (w : World) (h : Rd 117 w g bs false) (hm : bs.length ≤ 1073741824) :
    Calls Tryz.prog 43 #[.pointer (some ⟨g, 0, none⟩), .int .i64 4] w fun e w' => e = .returned (.int .i64 (intV bs)) ∧ Rd 117 w' g (rdS (bs, false) 4).1 (rdS (bs, false) 4).2 ∧ w.grownBy w' (some g) := by
  unfold intV rdS
  by_cases h4 : 4 ≤ bs.length
  · have e1 : rdOk (bs, false).1 (bs, false).2 4 = true := (rdOk_iff _ _ _).2 ⟨rfl, h4⟩
    rw [if_pos h4, if_pos e1]
    exact oInt_yes g bs w h h4 hm
  · rw [if_neg h4, if_neg (by rw [rdOk_iff]; simp; omega)]
    exact oInt_no g bs false w h (by omega)
theorem oBytes_all (g : Nat) (s : List UInt8 × Bool) (z : Int) (n : Nat) (hz : z = n) (w : World) (h : Rd 117 w g s.1 s.2) (hm : s.1.length ≤ 1073741824) :
    Calls Tryz.prog 44 #[.pointer (some ⟨g, 0, none⟩), .int .i64 z] w fun e w' => ∃ v, e = .returned v ∧ Sl w' v (rdB s n) ∧ Rd 117 w' g (rdS s n).1 (rdS s n).2 ∧ w.grownBy w' (some g) := by
  subst hz
  unfold rdB rdS
  by_cases h1 : rdOk s.1 s.2 n = true
  · rw [if_pos h1, if_pos h1]
    obtain ⟨e, h2⟩ := (rdOk_iff _ _ _).1 h1
    rw [e] at h
    exact oBytes_yes g s.1 n w h h2 hm
  · rw [if_neg h1, if_neg h1]
    refine (oBytes_no g s.1 s.2 n w h (by simpa using h1)).mono ?_
    rintro e w' ⟨rfl, h2, h3⟩
    exact ⟨_, rfl, SlR.none_ _ _ _ _, h2, h3⟩
theorem rdS_len (s : List UInt8 × Bool) (n : Nat) : (rdS s n).1.length ≤ s.1.length := by
  unfold rdS
  split
  · simp
  · simp

set_option maxRecDepth 100000 in
set_option maxHeartbeats 400000 in
theorem sDecode_no1 (b h : Int) (r : List UInt8) (v : Value) (w : World) (hr : r.length = 32) (hno : mayK b h = false) :
    Calls Tryz.prog 22 #[.agg (pkC b h r), v] w fun e w' => e = .returned (.tuple #[.agg noSig, .int .i64 1]) ∧ Ext w w' := by
  have hi := info_pkC b h r hr
  have hB := Blk.new w 35 (pkC b h r)
  have E0 : Ext w (w.alloc (.cells (pkC b h r) 35)) := (Ext.refl w).alloc _
  have Hm := fun w => Lib.hid (sMay_any b h r w)
  rw [hno] at Hm
  obtain ⟨P, hP⟩ : ∃ P, P = pkC b h r := ⟨_, rfl⟩
  rw [← hP] at hB E0 hi ⊢
  simp only [← hP] at Hm
  clear hno hP
  go_enter Tryz.func22, Tryz.ntmps22
  go_wp2_with (first | (refine wpList_alloc_blk rfl 44 rfl (.agg noSig) zero_sig ?_; intro w1 hs1 hb1 he1; clear hs1) | (refine wpList_load_blk (hB.ext he1) rfl 35 _ rfl rfl Tryz.underlying35 rfl hi ?_))
  with_reducible refine (Hm _).out.mono ?_
  rintro e w2 ⟨rfl, E2⟩
  have F2 := (E0.trans he1).trans E2
  have hb2 := hb1.ext E2
  simp only [World.size_alloc] at hb2
  go_wp2_with (first | (refine wpList_build_to rfl 44 _ rfl noSig (by kernel_rfl) ?_) | (refine wpList_store_blk rfl 44 _ _ rfl (w.heap.size + 1) noSig rfl rfl 44 noSig hb2 info_sig rfl noSig_one ?_; intro w7 hs7 hb7 hg7))
  refine bodyPost_ret (v := .tuple #[.agg noSig, .int .i64 1]) (ret2_blk hb7 rfl rfl Tryz.underlying44 rfl info_sig rfl) rfl ?_
  exact ⟨rfl, F2.grown hg7 (by simp)⟩

set_option maxRecDepth 100000 in
set_option maxHeartbeats 1000000 in
theorem sDecode_no2 (b h : Nat) (r : List UInt8) (v : Value) (bs : List UInt8) (w : World) (hr : r.length = 32) (hm : mayK b h = true) (hv : Sl w v bs) (hlen : bs.length ≤ 1073741824) (hno : decOk bs b h = false) :
    Calls Tryz.prog 22 #[.agg (pkC b h r), v] w fun e w' => e = .returned (.tuple #[.agg noSig, .int .i64 11]) ∧ Ext w w' := by
  have hi := info_pkC b h r hr
  obtain ⟨hm1, hh0, hh6⟩ := (mayK_iff _ _).1 hm
  obtain ⟨hb1', hb2', _⟩ := (mayB_iff _).1 hm1
  have hB := Blk.new w 35 (pkC b h r)
  have E0 : Ext w (w.alloc (.cells (pkC b h r) 35)) := (Ext.refl w).alloc _
  have Hm := fun w => Lib.hid (sMay_any b h r w)
  rw [hm] at Hm
  have Hf := Lib.hid (fun w' (E : Ext w w') => oFrom_any v bs w' (hv.ext E) hlen)
  have wb : IntKind.i64.wrap (64 * (b : Int)) = 64 * (b : Int) := IntWalk.i64_in _ (by omega)
  have wh : IntKind.i64.wrap (32 * (h : Int)) = 32 * (h : Int) := IntWalk.i64_in _ (by omega)
  have pc := fun (w' : World) (hb : Blk w' w.heap.size 35 (pkC b h r)) => Lib.hid (pkC_cells hb)
  obtain ⟨P, hP⟩ : ∃ P, P = pkC b h r := ⟨_, rfl⟩
  rw [← hP] at hB E0 hi ⊢
  simp only [← hP] at Hm pc
  clear hm hP hm1 hv
  go_enter Tryz.func22, Tryz.ntmps22
  go_wp2_with (first | (refine wpList_alloc_blk rfl 44 rfl (.agg noSig) zero_sig ?_; intro w1 hs1 hb1 he1; clear hs1) | (refine wpList_load_blk (hB.ext he1) rfl 35 _ rfl rfl Tryz.underlying35 rfl hi ?_))
  with_reducible refine (Hm _).out.mono ?_
  rintro e w2 ⟨rfl, E2⟩
  have F2 := (E0.trans he1).trans E2
  have hb2 := hb1.ext E2
  simp only [World.size_alloc] at hb2
  have hB2 := (hB.ext he1).ext E2
  clear he1 E2 E0 hB hb1 Hm
  go_wp2_with fail
  with_reducible refine (Hf.out _ F2).mono ?_
  rintro e w3 ⟨g, rfl, R3, hg, E3⟩
  have F3 := F2.trans E3
  have hlt : w.heap.size + 1 < g := Nat.lt_of_lt_of_le hb2.lt hg
  replace hb2 := hb2.ext E3
  replace hB2 := hB2.ext E3
  have Hi := Lib.hid (oInt_all g bs w3 R3 hlen)
  clear Hf F2 E3 R3
  go_wp2_with fail
  with_reducible refine Hi.out.mono ?_
  rintro e w4 ⟨rfl, R4, g4⟩
  have F4 := F3.grown g4 (fun k e => by injection e with e; omega)
  replace hb2 := hb2.grown g4 (by intro e; injection e with e; omega)
  replace hB2 := hB2.grown g4 (by intro e; injection e with e; omega)
  clear Hi F3 g4
  go_wp2_with (refine wpList_var rfl rfl 44 rfl _ _ rfl (.agg noSig) zero_sig (lfC (intV bs)) rfl rfl info_sig rfl (lfC_one _) ?_; intro w5 D5 E5; have R5 := R4.ext E5; have F5 := F4.trans E5; have hb5 := hb2.ext E5; have hB5 := hB2.ext E5; have c5 := (pc _ hB5).out.1)
  have hlt5 : g < w4.heap.size := by obtain ⟨_, _, hBg, _⟩ := R4; exact hBg.lt
  clear F4 R4 hb2 hB2
  have Hb := Lib.hid (oBytes_all g (rdS (bs, false) 4) (64 * (b : Int)) (64 * b) (by omega) w5 R5 (Nat.le_trans (rdS_len _ _) hlen))
  with_reducible refine Hb.out.mono ?_
  rintro e w6 ⟨v6, rfl, _, R6, g6⟩
  have F6 := F5.grown g6 (fun k e => by injection e with e; omega)
  have hb6 := hb5.grown g6 (by intro e; injection e with e; omega)
  have hB6 := hB5.grown g6 (by intro e; injection e with e; omega)
  have D6 := D5.grown g6 (by intro e; injection e with e; omega)
  have c6 := (pc _ hB6).out.2
  clear Hb F5 g6 hb5 hB5 D5 c5 R5
  have Hb := Lib.hid (oBytes_all g (rdS (rdS (bs, false) 4) (64 * b)) (32 * (h : Int)) (32 * h) (by omega) w6 R6 (Nat.le_trans (rdS_len _ _) (Nat.le_trans (rdS_len _ _) hlen)))
  go_wp2_with fail
  with_reducible refine Hb.out.mono ?_
  rintro e w7 ⟨v7, rfl, _, R7, g7⟩
  have F7 := F6.grown g7 (fun k e => by injection e with e; omega)
  have hb7 := hb6.grown g7 (by intro e; injection e with e; omega)
  have D7 := D6.grown g7 (by intro e; injection e with e; omega)
  clear Hb F6 g7 hb6 hB6 D6 c6 R6 pc
  have Hd := Lib.hid (oDone_any g _ _ w7 R7)
  have hfin : (dEnd bs b h).2 = true ∨ (dEnd bs b h).1 ≠ [] ∨ ((dEnd bs b h = ([], false)) ∧ intV bs > 1073741824) := by
    by_cases h2 : (dEnd bs b h).2 = true
    · exact .inl h2
    · by_cases h1 : (dEnd bs b h).1 = []
      · refine .inr (.inr ?_)
        have he : dEnd bs b h = ([], false) := Prod.ext h1 (by simpa using h2)
        refine ⟨he, ?_⟩
        have hl := (dEnd_ok bs b h).1 he
        by_cases h3 : intV bs ≤ 1073741824
        · unfold intV at h3
          rw [if_pos (by omega)] at h3
          have := (decOk_iff bs b h).2 ⟨hl, h3⟩
          rw [this] at hno
          cases hno
        · omega
      · exact .inr (.inl h1)
  change Hid (Calls _ _ _ _ fun e w' => e = .returned (.int .i64 (if (dEnd bs b h).2 = true ∨ (dEnd bs b h).1 ≠ [] then 11 else 0)) ∧ Ext w7 w') at Hd
  clear R7 hno
  by_cases hbad : (dEnd bs b h).2 = true ∨ (dEnd bs b h).1 ≠ []
  · rw [if_pos hbad] at Hd
    clear hfin hbad
    go_wp2_with fail
    with_reducible refine Hd.out.mono ?_
    rintro e w8 ⟨rfl, E8⟩
    have F8 := F7.trans E8
    have hb8 := hb7.ext E8
    have D8 := (sigC_cells (D7.ext E8)).1
    clear Hd hb7 D7 F7 E8
    go_wp2_with (first | (refine wpList_build_to rfl 44 _ rfl noSig (by kernel_rfl) ?_) | (refine wpList_store_blk rfl 44 _ _ rfl (w.heap.size + 1) noSig rfl rfl 44 noSig hb8 info_sig rfl noSig_one ?_; intro w9 hs9 hb9 hg9))
    refine bodyPost_ret (v := .tuple #[.agg noSig, .int .i64 11]) (ret2_blk hb9 rfl rfl Tryz.underlying44 rfl info_sig rfl) rfl ?_
    exact ⟨rfl, F8.grown hg9 (by simp)⟩
  · rw [if_neg hbad] at Hd
    have hgt : (intV bs : Int) > 1073741824 := by
      rcases hfin with h | h | ⟨_, h⟩
      · exact absurd (.inl h) hbad
      · exact absurd (.inr h) hbad
      · omega
    clear hfin hbad
    go_wp2_with fail
    with_reducible refine Hd.out.mono ?_
    rintro e w8 ⟨rfl, E8⟩
    have F8 := F7.trans E8
    have hb8 := hb7.ext E8
    have D8 := (sigC_cells (D7.ext E8)).1
    clear Hd hb7 D7 F7 E8
    go_wp2_with (first | (refine wpList_build_to rfl 44 _ rfl noSig (by kernel_rfl) ?_) | (refine wpList_store_blk rfl 44 _ _ rfl (w.heap.size + 1) noSig rfl rfl 44 noSig hb8 info_sig rfl noSig_one ?_; intro w9 hs9 hb9 hg9))
    refine bodyPost_ret (v := .tuple #[.agg noSig, .int .i64 11]) (ret2_blk hb9 rfl rfl Tryz.underlying44 rfl info_sig rfl) rfl ?_
    exact ⟨rfl, F8.grown hg9 (by simp)⟩
end Go.Proofs.YtddbmddblhjkkaaGreatDoor
/- slices.Chunk of bytes: the maker, and its iterator's contract, where the length is N times the chunk's. -/
namespace Go.Proofs.YtddbmddblhjkkaaGreatDoor
open Go.RowKit Go.Shelf
attribute [local go_sem] Oper.semAt_some


set_option maxRecDepth 100000 in
set_option maxHeartbeats 2000000 in
theorem chunkB1_in (l Bs Bn N c len cap : Nat) (A : Option Addr) (hlen : len = N * c) (hc0 : 1 ≤ c) (hcap : len ≤ cap) (hreach : len ≤ 1073741824) (hA : 1 ≤ N → ∃ b o, A = some ⟨b, o, none⟩) (J Jx : List (Fin N) → World → Prop) (n : Nat)
    (hY : ∀ (pre : List (Fin N)) (x : Fin N) W, J pre W → pre.length < N → YieldAt Fence.wide (n - 1) Tryz.prog l #[chunkV 1 A c x.1] W fun e W' =>
      (e = .returned (.bool true) ∧ J (pre ++ [x]) W' ∧ Kept2 Bs Bn W W') ∨ (e = .returned (.bool false) ∧ Jx (pre ++ [x]) W'))
    (W : World) (hJ : AbidesFrom W.heap.size J) (hBs : W.cell? ⟨Bs, 0, none⟩ = some (.slice A len cap)) (hBn : W.cell? ⟨Bn, 0, none⟩ = some (.int .i64 (c : Int))) (h0 : J [] W) :
    CallsIn Fence.wide n Tryz.prog 70 #[.func (.yield l) #[] #[], .pointer (some ⟨Bs, 0, none⟩), .pointer (some ⟨Bn, 0, none⟩)] W fun e W' => (∃ v, e = .returned v) ∧
      ((∃ ys, ys = List.finRange N ∧ J ys W') ∨ (∃ pre, True ∧ Jx pre W')) := by
  refine callsIn_of_wp Tryz.func70 rfl trivial ?_ rfl
  simp only [Tryz.ntmps70, List.size_toArray, List.length_cons, List.length_nil, Nat.reduceAdd, Nat.reduceSub, Array.replicate_succ, Array.replicate_zero, List.push_toArray, List.append_toArray, List.nil_append, List.cons_append]
  gi_wp2
  gi_loopw [4] (fun i wr => ∃ k : Nat, k ≤ N ∧ i = .int .i64 ((k * c : Nat) : Int) ∧ J ((List.finRange N).take k) wr ∧ Kept2 Bs Bn W wr)
    (fun i _ => len - (intOf i).toNat)
  case atStart => exact ⟨0, Nat.zero_le _, by simp, by simpa using h0, Kept2.refl _ _ _⟩
  case round =>
    obtain ⟨k, hk, rfl, hJs, hnx⟩ := hrel
    have hs1 := hnx.cell_s hBs
    have hs2 := hnx.cell_n hBn
    have hkc : k * c ≤ len := by rw [hlen]; exact Nat.mul_le_mul_right c hk
    by_cases hlt : k < N
    · obtain ⟨b, off, rfl⟩ := hA (by omega)
      have hkc1 : k * c + c ≤ len := by rw [hlen, ← Nat.succ_mul]; exact Nat.mul_le_mul_right c hlt
      have hkc2 : (k + 1) * c = k * c + c := Nat.succ_mul k c
      have hjs2 : J ((List.finRange N).take k) wr → ∀ m, J ((List.finRange N).take k) (wr.drewN m) := fun h m => hJ _ wr _ none h ⟨rfl, rfl, rfl, Nat.le_refl _, fun _ _ _ => rfl⟩ (fun r e => by cases e)
      have hYk : ∀ m, YieldAt Fence.wide (n - 1) Tryz.prog l #[chunkV 1 (some ⟨b, off, none⟩) c k] (wr.drewN m) fun e W' => (e = .returned (.bool true) ∧ J ((List.finRange N).take (k + 1)) W' ∧ Kept2 Bs Bn wr W') ∨ (e = .returned (.bool false) ∧ ∃ pre, Jx pre W') := fun m => by
        obtain ⟨fn, tmps, assign, body, hy, hR⟩ := hY _ ⟨k, hlt⟩ (wr.drewN m) (hjs2 hJs m) (by simp; omega)
        refine ⟨fn, tmps, assign, body, hy, hR.mono fun e W' h => ?_⟩
        rcases h with ⟨he, hj, hk2⟩ | ⟨he, hj⟩
        · refine .inl ⟨he, ?_, hk2⟩
          rw [take_fin hlt]
          exact hj
        · exact .inr ⟨he, _, hj⟩
      have hk1 : k + 1 ≤ N := hlt
      replace hlt := Lib.hid hlt
      clear hY
      obtain ⟨N', hN'⟩ : ∃ N', N' = N := ⟨_, rfl⟩
      obtain ⟨q, hq⟩ : ∃ q, q = k * c := ⟨_, rfl⟩
      rw [← hq] at hkc hkc1 hkc2 ⊢
      simp only [chunkV, Option.map, ← hq, Nat.mul_one] at hYk
      replace hkc2 := Lib.hid hkc2
      replace hk1 := Lib.hid hk1
      clear hq
      replace hlen := Lib.hid hlen
      have hql : (q : Int) < (len : Int) := by omega
      gi_wp2
      refine wpIn_wide.2 ?_
      go_quiet (fail)
      obtain ⟨fn, tmps, assign, body, hy, hR⟩ := hYk nq
      have hs1b : (wr.drewN nq).cell? ⟨Bs, 0, none⟩ = some (.slice (some ⟨b, off, none⟩) len cap) := hs1
      clear hs1 hYk hjs2
      generalize wr.drewN nq = wr2 at *
      gi_wp2
      refine ⟨fun h => by simp [Fence.wide] at h, hR.mono ?_⟩
      rintro e W3 (⟨rfl, hJ3, hk3⟩ | ⟨rfl, pre3, hJx3⟩)
      · have hs3 := hk3.cell_n hs2
        gi_wp2
        go_roundw
        case rel => exact ⟨k + 1, hk1.out, by rw [hkc2.out]; simp, hJ3, hnx.trans hk3⟩
        case measure => simp [intOf]; omega
      · gi_wp2
        refine bodyPost_ret (results_none rfl _ _ _) rfl ?_
        exact ⟨⟨_, rfl⟩, .inr ⟨_, trivial, hJx3⟩⟩
    · obtain rfl : k = N := by omega
      have hge : ¬ ((len : Int) < (len : Int)) := by omega
      rw [← hlen]
      replace hlen := Lib.hid hlen
      gi_wp2
      go_end0
      exact ⟨⟨_, rfl⟩, .inl (by rwa [List.take_of_length_le (by simp)] at hJs)⟩

set_option maxRecDepth 100000 in
theorem chunkB_any (A : Option Addr) (len cap c : Nat) (w : World) (hc : 1 ≤ c) :
    Calls Tryz.prog 46 #[.slice A len cap, .int .i64 (c : Int)] w fun e w' => ∃ Bs Bn, e = .returned (.func (.func 70) #[] #[.pointer (some ⟨Bs, 0, none⟩), .pointer (some ⟨Bn, 0, none⟩)]) ∧
      w.heap.size ≤ Bs ∧ Bs < Bn ∧ Blk w' Bs 22 #[.slice A len cap] ∧ Blk w' Bn 3 #[.int .i64 (c : Int)] ∧ Ext w w' := by
  have h1 : (1 : Int) ≤ (c : Int) := by omega
  go_enter Tryz.func46, Tryz.ntmps46
  go_wp2
  go_ret
  refine ⟨w.heap.size, w.heap.size + 1, rfl, Nat.le_refl _, by omega, (Blk.new w _ _).alloc _, ?_, ((Ext.refl w).alloc _).alloc _⟩
  have := Blk.new (w.alloc (.cells #[.slice A len cap] 22)) 3 #[.int .i64 (c : Int)]
  simpa using this

theorem chunkB_stops (n Bs Bn N c len cap : Nat) (A : Option Addr) (hlen : len = N * c) (hc0 : 1 ≤ c) (hcap : len ≤ cap) (hreach : len ≤ 1073741824) (hA : 1 ≤ N → ∃ b o, A = some ⟨b, o, none⟩) (w : World)
    (hBs : Blk w Bs 22 #[.slice A len cap]) (hBn : Blk w Bn 3 #[.int .i64 (c : Int)]) :
    SeqStopsK Fence.wide n Tryz.prog 70 #[.pointer (some ⟨Bs, 0, none⟩), .pointer (some ⟨Bn, 0, none⟩)] (fun x : Fin N => #[chunkV 1 A c x.1]) (Kept2 Bs Bn) (fun xs => xs = List.finRange N) (fun _ => True) N w :=
  fun l J Jx W hW hJ _ hY h0 => chunkB1_in l Bs Bn N c len cap A hlen hc0 hcap hreach hA J Jx n hY W hJ ((hBs.ext hW).cell 0) ((hBn.ext hW).cell 0) h0
end Go.Proofs.YtddbmddblhjkkaaGreatDoor
/- lamport.Decode of bytes that are a code. -/
namespace Go.Proofs.YtddbmddblhjkkaaGreatDoor
open Go.RowKit Go.Shelf
attribute [local go_sem] Oper.semAt_some

def dR (bs : List UInt8) (k : Nat) : List UInt8 := (bs.drop (k * 64)).take 32
def dO (bs : List UInt8) (k : Nat) : List UInt8 := (bs.drop (k * 64 + 32)).take 32
def decR (bs : List UInt8) (n : Nat) : List (List UInt8) := (List.range n).map (dR bs)
def decO (bs : List UInt8) (n : Nat) : List (List UInt8) := (List.range n).map (dO bs)
theorem dR_length {bs : List UInt8} {N k : Nat} (hl : bs.length = N * 64) (hk : k < N) : (dR bs k).length = 32 := by simp only [dR, List.length_take, List.length_drop]; omega
theorem dO_length {bs : List UInt8} {N k : Nat} (hl : bs.length = N * 64) (hk : k < N) : (dO bs k).length = 32 := by simp only [dO, List.length_take, List.length_drop]; omega


set_option maxRecDepth 100000 in
set_option maxHeartbeats 400000 in
theorem lDecode_yes (v : Value) (bs : List UInt8) (N : Nat) (w : World) (hv : Sl w v bs) (hl : bs.length = N * 64) (hm : mayB N = true) :
    Calls Tryz.prog 47 #[v] w fun e w' => ∃ vr vo, e = .returned (.tuple #[.agg #[vr, vo], .int .i64 0]) ∧ SlD w' vr (decR bs N) ∧ SlD w' vo (decO bs N) ∧ Ext w w' := by
  obtain ⟨hm1, hm2, _⟩ := (mayB_iff _).1 hm
  obtain ⟨A, c, rfl, hc⟩ := SlR.form hv
  obtain ⟨b, o, rfl, hcs⟩ := SlR.here hv (by omega)
  have Hcs := Lib.hid hcs
  clear hcs hv
  have Hm := fun w => Lib.hid (lMay_any ((bs.length : Int) / 64) w)
  rw [show ((bs.length : Int) / 64) = ((N : Nat) : Int) by omega, hm] at Hm
  have hN : (bs.length : Int) / 64 = (N : Int) := by omega
  have hb : (((bs.length : Int) % 64) != 0) = false := by rw [bne_eq_false_iff_eq]; omega
  have Hl := Lib.hid hl
  have hbl : bs.length ≤ 1073741824 := by omega
  clear hm hl
  refine (callsIn_wide (n := 8)).1 ?_
  refine callsIn_of_wp_marks Tryz.func47 rfl trivial ?_ rfl
  refine wpIn_wide.2 ?_
  simp only [Tryz.ntmps47, List.size_toArray, List.length_cons, List.length_nil, Nat.reduceAdd, Nat.reduceSub, Array.replicate_succ, Array.replicate_zero, List.push_toArray, List.append_toArray, List.nil_append, List.cons_append]
  go_wp2_with (first | (refine wpList_alloc_blk rfl 42 rfl (.agg noOne) zero_one ?_; intro w1 hs1 hb1 he1; clear hs1))
  with_reducible refine (Hm _).out.mono ?_
  rintro e w2 ⟨rfl, rfl⟩
  clear Hm hb
  go_wp2_with (first | (refine wpList_alloc_blk rfl 42 rfl (.agg noOne) zero_one ?_; intro w3 hs3 hb3 he3; clear hs3) | (go_at_call 46; refine (chunkB_any _ _ _ 64 w3 (by omega)).mono ?_; rintro e w4 ⟨Bs, Bn, rfl, hBs, hBn, bS, bN, E4⟩))
  have E14 := he3.trans E4
  have h13 := he3.size
  have h34 := E4.size
  have h01 := he1.size
  have hb3' : Blk w4 w1.heap.size 42 #[.slice none 0 0, .slice none 0 0] := hb3.ext E4
  have hg3 : w1.heap.size < w3.heap.size := hb3.lt
  have HbN := Lib.hid bN
  have HbS := Lib.hid bS
  have Hb3 := Lib.hid hb3'
  have hcap := Lib.hid hc
  have Hbl := Lib.hid hbl
  clear hb3 hb3'
  have Hseq := Lib.hid (chunkB_stops (8 - 1) Bs Bn N 64 bs.length c (some ⟨b, o, none⟩) Hl.out (by omega) hcap.out Hbl.out (fun _ => ⟨_, _, rfl⟩) w4 HbS.out HbN.out)
  have Hkb := Lib.hid (kept2_b (w := w4) bS.lt bN.lt)
  obtain ⟨I, hI⟩ : ∃ I : List (Fin N) → World → Prop, I = fun pre W => (∃ vr vo, Blk W w1.heap.size 42 #[vr, vo] ∧ OwnD W w1.heap.size vr (pre.map fun x => dR bs x.1) ∧ OwnD W w1.heap.size vo (pre.map fun x => dO bs x.1) ∧ (∀ j, vr.ownBlock = some j → vo.ownBlock ≠ some j)) ∧
      Blk W Bs 22 #[.slice (some ⟨b, o, none⟩) bs.length c] ∧ Blk W Bn 3 #[.int .i64 ((64 : Nat) : Int)] ∧ Ext w1 W := ⟨_, rfl⟩
  have Hown : Hid (OwnFrom w4.heap.size I) := by
    have hle : w1.heap.size ≤ w4.heap.size := by omega
    rw [hI]
    exact ownFrom_of fun s W W' ⟨⟨vr, vo, h1, h2, h3, h4⟩, h5, h6, h7⟩ t => ⟨⟨vr, vo, t.blk h1, ⟨t.own h2.1, h2.2⟩, ⟨t.own h3.1, h3.2⟩, h4⟩, t.blk h5, t.blk h6, t.ext h7 hle⟩
  have H0 : Hid (I [] w4) := by
    rw [hI]
    exact ⟨⟨_, _, Hb3.out, OwnD.none_ _ _, OwnD.none_ _ _, fun j hj => by cases hj⟩, HbS.out, HbN.out, E14⟩
  have Heg := Lib.hid (fun args w => enters_of (P := Tryz.prog) Tryz.func70 (by kernel_rfl) rfl args w)
  refine (wpIn_wide (n := 8)).1 ?_
  refine wpIn_rangeFunc_ownG (gf := 70) (lb := #[.pointer (some ⟨Bs, 0, none⟩), .pointer (some ⟨Bn, 0, none⟩)]) rfl (by decide) rfl trivial Heg.out Hseq.out Kept2.trans Hkb.out (Below.refl _ _) (fun _ => rfl)
    I (fun _ _ _ => False) Hown.out (fun _ => ownFrom_of fun _ _ _ h _ => h) H0.out
    ?a1 ?assign ?body ?done ?stop
  case assign =>
    intro l x W K hK
    gi_wp2
    exact hK
  case body =>
    intro l pre x W hi hlt
    rw [hI] at hi
    obtain ⟨⟨vr, vo, hB, hR, hO, hap⟩, bS', bN', E⟩ := hi
    obtain ⟨k, hk⟩ := x
    have hl1 := dR_length Hl.out hk
    have hl2 := dO_length Hl.out hk
    have hw0 : Ext w W := he1.trans E
    have hc1 : Cells W b (o + k * 64) (bytesV (dR bs k)) := (cells_part Hcs.out (k * 64) 32).ext hw0
    have hc2 : Cells w b (o + k * 64 + 32) (bytesV (dO bs k)) := by
      have := cells_part Hcs.out (k * 64 + 32) 32
      rw [← Nat.add_assoc] at this
      exact this
    have hRs : pre.map (fun x => dR bs x.1) ++ [dR bs k] = (pre ++ [(⟨k, hk⟩ : Fin N)]).map (fun x => dR bs x.1) := by simp
    have hOs : pre.map (fun x => dO bs x.1) ++ [dO bs k] = (pre ++ [(⟨k, hk⟩ : Fin N)]).map (fun x => dO bs x.1) := by simp
    have hRn : (pre.map (fun x => dR bs x.1)).length = pre.length := by simp
    have hOn : (pre.map (fun x => dO bs x.1)).length = pre.length := by simp
    obtain ⟨x, hx⟩ : ∃ x, x = dR bs k := ⟨_, rfl⟩
    obtain ⟨t, ht⟩ : ∃ t, t = dO bs k := ⟨_, rfl⟩
    obtain ⟨rs, hrs⟩ : ∃ rs, rs = pre.map (fun x => dR bs x.1) := ⟨_, rfl⟩
    obtain ⟨os, hos⟩ : ∃ os, os = pre.map (fun x => dO bs x.1) := ⟨_, rfl⟩
    obtain ⟨q, hq⟩ : ∃ q, q = o + k * 64 := ⟨_, rfl⟩
    have hqv : chunkV 1 (some ⟨b, o, none⟩) 64 k = .slice (some ⟨b, q, none⟩) 64 64 := by simp [chunkV, hq]
    rw [← hx] at hl1 hc1 hRs
    rw [← ht] at hl2 hc2 hOs
    rw [← hrs] at hR hRs hRn
    rw [← hos] at hO hOs hOn
    rw [← hq] at hc1 hc2
    obtain ⟨m, hm⟩ : ∃ m, m = pre.length := ⟨_, rfl⟩
    rw [← hm] at hRn hOn hlt
    dsimp only
    rw [hqv]
    have hN256 : N ≤ 256 := by omega
    obtain ⟨Q, hQ⟩ : ∃ Q, Q = ownPostG w4.heap.size (Kept2 Bs Bn) I (fun _ _ _ => False) (pre ++ [⟨k, hk⟩]) W := ⟨_, rfl⟩
    have hQn : ¬ LetsOut Q := by rw [hQ]; rintro ⟨_, _, h⟩; exact h
    have hQok : Hid (∀ a W', KeepsFrom w4.heap.size W W' → Kept2 Bs Bn W W' → I (pre ++ [⟨k, hk⟩]) W' → Q .normal a W') := by
      show ∀ a W', _ → _ → _ → _
      rw [hQ]; exact fun a W' h1 h2 h3 => ⟨h1, h2, h3⟩
    rw [← hQ]
    clear hQ hx ht hrs hos hq hqv hm Hseq Hkb Hown H0 Heg Hcs
    have HRs := Lib.hid hRs
    have HOs := Lib.hid hOs
    have hII := Lib.hid hI
    clear hRs hOs hI
    obtain ⟨Ar, cr, rfl, hcr⟩ := hR.form
    obtain ⟨Ao, co, rfl, hco⟩ := hO.form
    rw [hRn] at hcr hB hR
    rw [hOn] at hco hB hO
    rw [hRn, hOn] at hap
    have HB := Lib.hid hB
    have HR := Lib.hid hR
    have HO := Lib.hid hO
    have Hap := Lib.hid hap
    have HbS' := Lib.hid bS'
    have HbN' := Lib.hid bN'
    have L1 := Lib.hid hl1
    have L2 := Lib.hid hl2
    clear hB hR hO hap bS' bN' hl1 hl2 bS bN HbS HbN Hb3
    have hc0 : W.drew.cell? ⟨w1.heap.size, 0, none⟩ = some (.slice Ar m cr) := HB.out.cell 0
    refine wpIn_block ?_
    refine wpIn_seq ?_
    refine wpIn_region_chain 7 [(true, 0), (true, 1), (true, 2), (true, 3), (true, 4), (true, 5), (false, 6)] (fun w' => w'.cell? ⟨w1.heap.size, 0, none⟩ = some (.slice Ar m cr) ∧ Cells w' b q (bytesV x)) (by kernel_rfl) (by kernel_rfl) (fun ⟨a, w, h⟩ => hQn ⟨a, w, h⟩) (by kernel_rfl) ⟨hc0, hc1⟩ ?_
    iterate 5
      refine wpTake_read _ _ ?_ rfl rfl ?_ ?_
      rotate_left 1
      focus
        intro wS hS
        have hS1 := hS.1
        have har := run_arr32 (some ⟨b, q, none⟩) 32 64 (by omega) wS
        try dsimp only at hS1
        go_simp
        first | done | with_reducible rfl
      simp only [Act.put, List.setIfInBounds_toArray, List.set_cons_zero, List.set_cons_succ]
    refine wpTake_load _ _ rfl rfl 33 _ rfl (.agg (bytesV x).toArray) (fun wS hS => run_load_dg hS.2 L1.out) ?_
    simp only [Act.put, List.setIfInBounds_toArray, List.set_cons_zero, List.set_cons_succ]
    refine wpTake_do _ _ rfl rfl (fun K hK' => ?_)
    refine wp_build_dg x L1.out _ rfl rfl ?_
    intro w6 E56 hs6 hnew
    have E6 : Ext W w6 := (Ext.refl W).drew.trans E56
    refine hK' _ _ ⟨E56.cell hc0, hc1.ext E6⟩ ?_
    clear hK' K
    refine wpTake_nil ?_
    simp only [Act.put, List.setIfInBounds_toArray, List.set_cons_zero, List.set_cons_succ, List.drop_succ_cons, List.drop_zero]
    have HR6 := Lib.hid (HR.out.ext E6)
    have Hnew := Lib.hid hnew
    have HB6 := Lib.hid (HB.out.ext E6)
    have HO6 := Lib.hid (HO.out.ext E6)
    have HS6 := Lib.hid (HbS'.out.ext E6)
    have HN6 := Lib.hid (HbN'.out.ext E6)
    have Ew6 := E.trans E6
    clear hnew HR HO HB hc0 E56 hs6
    go_wp2_with (at_builtin; refine wpList_appD HR6.out L1.out Hnew.out rfl _ _ rfl rfl rfl (by omega) (by have := Ew6.size; exact this) ?_; intro v7 w7 ho7 hg7 hq7; have hn7 := HR6.out.ne HB6.out (by decide); have hB7 := HB6.out.grown hg7 (Ne.symm hn7); have hc7 : w7.cell? ⟨w1.heap.size, 0, none⟩ = some (.slice Ar m cr) := hB7.cell 0; have hf7 := hB7.frozen 0; obtain ⟨A7, c7, e7, hc7'⟩ := ho7.form; rw [List.length_append, hRn, List.length_singleton] at e7; subst e7; have HB7 := Lib.hid hB7; have HO7 := Lib.hid ho7; have Hg7 := Lib.hid hg7; have Hq7 := Lib.hid hq7; clear hB7 ho7 hg7 hq7 hn7)
    refine NoPanic.normal ?_
    have hneS : Bs ≠ w1.heap.size := by omega
    have hneN : Bn ≠ w1.heap.size := by omega
    obtain ⟨w8, hw8⟩ : ∃ w8, w8 = w7.setCell ⟨w1.heap.size, 0, none⟩ (.slice A7 (m + 1) c7) := ⟨_, rfl⟩
    have HR8 : Hid (OwnD w8 w1.heap.size (.slice A7 (m + 1) c7) (rs ++ [x])) := by rw [hw8]; exact HO7.out.set HB7.out (by decide)
    have HO8 : Hid (OwnD w8 w1.heap.size (.slice Ao m co) os) := by rw [hw8]; exact (HO6.out.apart Hg7.out (fun j hj e => Hap.out j e hj)).set HB7.out (by decide)
    have HB8 : Hid (Blk w8 w1.heap.size 42 #[.slice A7 (m + 1) c7, .slice Ao m co]) := by rw [hw8]; exact HB7.out.set 0 _
    have HS8 : Hid (Blk w8 Bs 22 #[.slice (some ⟨b, o, none⟩) bs.length c]) := by rw [hw8]; exact (HS6.out.grown Hg7.out (Ne.symm (HR6.out.ne HS6.out (by decide)))).far hneS _
    have HN8 : Hid (Blk w8 Bn 3 #[.int .i64 ((64 : Nat) : Int)]) := by rw [hw8]; exact (HN6.out.grown Hg7.out (Ne.symm (HR6.out.ne HN6.out (by decide)))).far hneN _
    have Hap8 : Hid (∀ j, (Value.slice A7 (m + 1) c7).ownBlock = some j → (Value.slice Ao m co).ownBlock ≠ some j) := Lib.hid (apart_app Hap.out HO6.out.lt Hq7.out)
    have E8 : Ext w1 w8 := by rw [hw8]; exact (Ew6.grown Hg7.out HR6.out.from).setCell (by simp) _
    have HK8 : Hid (KeepsOthers W w8) := by rw [hw8]; exact (keeps_ext E6).trans ((keeps_own HR6.out.1 Hg7.out).trans (KeepsOthers.setCell _ _ _))
    simp only [← hw8]
    clear hf7 hc7 hc7' HB7 HO7 Hg7 Hq7 HR6 HO6 HB6 Hnew HS6 HN6 Ew6 E6 Hap hw8
    have hc0 : w8.drew.cell? ⟨w1.heap.size, 1, none⟩ = some (.slice Ao m co) := HB8.out.cell 1
    have hcb : Cells w8.drew b (q + 32) (bytesV t) := hc2.ext ((he1.trans E8).drew)
    refine wpIn_region_chain 7 [(true, 0), (true, 1), (true, 2), (true, 3), (true, 4), (true, 5), (false, 6)] (fun w' => w'.cell? ⟨w1.heap.size, 1, none⟩ = some (.slice Ao m co) ∧ Cells w' b (q + 32) (bytesV t)) (by kernel_rfl) (by kernel_rfl) (fun ⟨a, w, h⟩ => hQn ⟨a, w, h⟩) (by kernel_rfl) ⟨hc0, hcb⟩ ?_
    iterate 5
      refine wpTake_read _ _ ?_ rfl rfl ?_ ?_
      rotate_left 1
      focus
        intro wS hS
        have hS1 := hS.1
        have har := run_arr32 (some ⟨b, q + 32, none⟩) 32 32 (by omega) wS
        try dsimp only at hS1
        go_simp
        first | done | with_reducible rfl
      simp only [Act.put, List.setIfInBounds_toArray, List.set_cons_zero, List.set_cons_succ]
    refine wpTake_load _ _ rfl rfl 33 _ rfl (.agg (bytesV t).toArray) (fun wS hS => run_load_dg hS.2 L2.out) ?_
    simp only [Act.put, List.setIfInBounds_toArray, List.set_cons_zero, List.set_cons_succ]
    refine wpTake_do _ _ rfl rfl (fun K hK' => ?_)
    refine wp_build_dg t L2.out _ rfl rfl ?_
    intro w9 E89 hs9 hnew
    have E9 : Ext w8 w9 := (Ext.refl w8).drew.trans E89
    refine hK' _ _ ⟨E89.cell hc0, hcb.ext E89⟩ ?_
    clear hK' K
    refine wpTake_nil ?_
    simp only [Act.put, List.setIfInBounds_toArray, List.set_cons_zero, List.set_cons_succ, List.drop_succ_cons, List.drop_zero]
    have HR9 := Lib.hid (HR8.out.ext E9)
    have Hnew := Lib.hid hnew
    have HB9 := Lib.hid (HB8.out.ext E9)
    have HO9 := Lib.hid (HO8.out.ext E9)
    have HS9 := Lib.hid (HS8.out.ext E9)
    have HN9 := Lib.hid (HN8.out.ext E9)
    have Ew9 := E8.trans E9
    clear hnew HR8 HO8 HB8 HS8 HN8 hc0 hcb E89 hs9
    go_wp2_with (at_builtin; refine wpList_appD HO9.out L2.out Hnew.out rfl _ _ rfl rfl rfl (by omega) (by have := Ew9.size; exact this) ?_; intro v7 w7 ho7 hg7 hq7; have hn7 := HO9.out.ne HB9.out (by decide); have hB7 := HB9.out.grown hg7 (Ne.symm hn7); have hc7 : w7.cell? ⟨w1.heap.size, 1, none⟩ = some (.slice Ao m co) := hB7.cell 1; have hf7 := hB7.frozen 1; obtain ⟨A9, c9, e9, hc9'⟩ := ho7.form; rw [List.length_append, hOn, List.length_singleton] at e9; subst e9; have HB7 := Lib.hid hB7; have HO7 := Lib.hid ho7; have Hg7 := Lib.hid hg7; have Hq7 := Lib.hid hq7; clear hB7 ho7 hg7 hq7 hn7)
    refine NoPanic.normal ?_
    obtain ⟨w10, hw10⟩ : ∃ w10, w10 = w7.setCell ⟨w1.heap.size, 1, none⟩ (.slice A9 (m + 1) c9) := ⟨_, rfl⟩
    have HO10 : Hid (OwnD w10 w1.heap.size (.slice A9 (m + 1) c9) (os ++ [t])) := by rw [hw10]; exact HO7.out.set HB7.out (by decide)
    have HR10 : Hid (OwnD w10 w1.heap.size (.slice A7 (m + 1) c7) (rs ++ [x])) := by rw [hw10]; exact (HR9.out.apart Hg7.out (fun j hj e => Hap8.out j hj e)).set HB7.out (by decide)
    have HB10 : Hid (Blk w10 w1.heap.size 42 #[.slice A7 (m + 1) c7, .slice A9 (m + 1) c9]) := by rw [hw10]; exact HB7.out.set 1 _
    have HS10 : Hid (Blk w10 Bs 22 #[.slice (some ⟨b, o, none⟩) bs.length c]) := by rw [hw10]; exact (HS9.out.grown Hg7.out (Ne.symm (HO9.out.ne HS9.out (by decide)))).far hneS _
    have HN10 : Hid (Blk w10 Bn 3 #[.int .i64 ((64 : Nat) : Int)]) := by rw [hw10]; exact (HN9.out.grown Hg7.out (Ne.symm (HO9.out.ne HN9.out (by decide)))).far hneN _
    have Hap10 : Hid (∀ j, (Value.slice A9 (m + 1) c9).ownBlock = some j → (Value.slice A7 (m + 1) c7).ownBlock ≠ some j) := Lib.hid (apart_app (fun j hj e => Hap8.out j e hj) HR9.out.lt Hq7.out)
    have E10 : Ext w1 w10 := by rw [hw10]; exact (Ew9.grown Hg7.out HO9.out.from).setCell (by simp) _
    have HK10 : Hid (KeepsOthers W w10) := by rw [hw10]; exact HK8.out.trans ((keeps_ext E9).trans ((keeps_own HO9.out.1 Hg7.out).trans (KeepsOthers.setCell _ _ _)))
    simp only [← hw10]
    refine hQok.out _ _ (HK10.out.from _) ⟨HS10.out.trans HbS'.out.symm, HN10.out.trans HbN'.out.symm⟩ ?_
    rw [hII.out]
    refine ⟨⟨_, _, HB10.out, ?_, ?_, fun j hj e => Hap10.out j e hj⟩, HS10.out, HN10.out, E10⟩
    · rw [← HRs.out]; exact HR10.out
    · rw [← HOs.out]; exact HO10.out
  case done =>
    rintro D ys W hD rfl hi hK
    rw [hI] at hi
    obtain ⟨⟨vr, vo, hB, hR, hO, hap⟩, bS', bN', E⟩ := hi
    dsimp only
    rw [finMap (dR bs)] at hR
    rw [finMap (dO bs)] at hO
    have hl01 : w.heap.size < w1.heap.size := hb1.lt
    obtain ⟨Ar, cr, rfl, hcr⟩ := hR.form
    obtain ⟨Ao, co, rfl, hco⟩ := hO.form
    have hb1' : Blk W w.heap.size 42 noOne := hb1.ext E
    have HB := Lib.hid hB
    have HR := Lib.hid hR
    have HO := Lib.hid hO
    clear hB hR hO
    go_wp2_with (first | (refine wpList_load_blk HB.out rfl 42 _ rfl rfl Tryz.underlying42 rfl info_one ?_) | (refine wpList_store_blk rfl 42 _ _ rfl w.heap.size _ rfl rfl 42 noOne hb1' info_one rfl (by simp [Value.oneCell']) ?_; intro w7 hs7 hb7 hg7))
    have hlD : D < W.heap.size := (Array.getElem?_eq_some_iff.1 hK).1
    have hK7 : w7.heap[D]? = some (.deferred (some [])) := (hg7.block D hlD (by simp; omega)).trans hK
    refine ⟨by simp, .inl ⟨_, _, rfl, run_takeDeferred hK7, ?_⟩⟩
    have tn : Turn w4.heap.size w7 (w7.putObj D (.deferred none)) := ⟨some D, grownBy_putObj' w7 D _, fun r e => by cases e; exact ⟨hD, _, hK7, rfl⟩⟩
    have hne : ∀ (u : Value) (ds : List (List UInt8)), OwnD W w1.heap.size u ds → SlD (w7.putObj D (.deferred none)) u ds := fun u ds h => by
      have h7 : OwnD w7 w1.heap.size u ds := h.apart hg7 (fun j hj e => by have := h.from j hj; injection e with e; omega)
      exact OwnD.sl (base := w1.heap.size) ⟨tn.own h7.1, h7.2⟩
    have hE : Ext w (w7.putObj D (.deferred none)) := tn.ext ((he1.trans E).grown hg7 (by simp)) (by omega)
    refine ⟨_, ret2_blk (tn.blk hb7) rfl rfl Tryz.underlying42 rfl info_one rfl, ?_⟩
    have hr1 := hne _ _ HR.out
    have ho1 := hne _ _ HO.out
    exact ⟨_, _, rfl, hr1, ho1, hE⟩
  case stop =>
    rintro D c pre W _ _ h _
    exact h.elim
end Go.Proofs.YtddbmddblhjkkaaGreatDoor
/- signer.Decode of bytes that are a code. -/
namespace Go.Proofs.YtddbmddblhjkkaaGreatDoor
open Go.RowKit Go.Shelf Go.Maps
attribute [local go_sem] Oper.semAt_some

def dW (ws : List UInt8) (k : Nat) : List UInt8 := (ws.drop (k * 32)).take 32
def decW (ws : List UInt8) (h : Nat) : List (List UInt8) := (List.range h).map (dW ws)
theorem dW_length {ws : List UInt8} {h k : Nat} (hl : ws.length = h * 32) (hk : k < h) : (dW ws k).length = 32 := by simp only [dW, List.length_take, List.length_drop]; omega

theorem grown_far {a b c : World} {q : Nat} {r : Option Nat} (h : a.grownBy b (some q)) (hg : b.grownBy c r) (hr : ∀ k, r = some k → a.heap.size ≤ k) : a.grownBy c (some q) :=
  ⟨hg.os.trans h.os, hg.tape.trans h.tape, hg.output.trans h.output, Nat.le_trans h.size hg.size, fun j hj hne => (hg.block j (Nat.lt_of_lt_of_le hj h.size) (fun e => by have := hr j e.symm; omega)).trans (h.block j hj hne)⟩
theorem Turn.grown {B : Nat} {a W W' : World} {q : Nat} (t : Turn B W W') (h : a.grownBy W (some q)) (hB : a.heap.size ≤ B) : a.grownBy W' (some q) := by
  obtain ⟨row, hg, hr⟩ := t
  exact grown_far h hg fun k e => Nat.le_trans hB (hr k e).1
theorem Turn.cell {B : Nat} {W W' : World} (t : Turn B W W') {a : Addr} {v : Value} (h : W.cell? a = some v) : W'.cell? a = some v := by
  obtain ⟨row, hg, hr⟩ := t
  exact cell_kept h hg (fun r e => (hr r e).2)
theorem Turn.slD {B : Nat} {W W' : World} (t : Turn B W W') {v : Value} {ds : List (List UInt8)} (h : SlD W v ds) : SlD W' v ds := ⟨SlR.kept h.1 (fun _ _ _ hu _ => t.cell hu), h.2⟩
theorem SlD.grown {w w' : World} {v : Value} {ds : List (List UInt8)} {g : Nat} (h : SlD w v ds) (hg : w.grownBy w' (some g)) (hk : ∀ o (k : Int), w.cell? ⟨g, o, none⟩ ≠ some (.int .u8 k)) : SlD w' v ds := by
  refine ⟨SlR.kept h.1 (fun b o u hu hm => ?_), h.2⟩
  obtain ⟨k, rfl⟩ := bytesV_kind _ u hm
  by_cases hbg : b = g
  · subst hbg; exact absurd hu (hk o k)
  · exact hg.cell hu (by simpa using hbg)
theorem Sl.part {w : World} {A : Option Addr} {c : Nat} {ws : List UInt8} (h : Sl w (.slice A ws.length c) ws) {k n : Nat} (hk : k + n ≤ ws.length) (hn : 0 < n) : ∃ b o, A = some ⟨b, o, none⟩ ∧ Cells w b (o + k) (bytesV ((ws.drop k).take n)) := by
  obtain ⟨b, o, e, hc⟩ := SlR.here h (by omega)
  exact ⟨b, o, e, cells_part hc k n⟩

set_option maxRecDepth 100000 in
set_option maxHeartbeats 2000000 in
theorem sDecode_yes (b h : Nat) (r : List UInt8) (v : Value) (bs : List UInt8) (w : World) (hr : r.length = 32) (hm : mayK b h = true) (hv : Sl w v bs) (hlen : bs.length ≤ 1073741824) (hok : decOk bs b h = true) :
    Calls Tryz.prog 22 #[.agg (pkC b h r), v] w fun e w' => ∃ rv ov wv, e = .returned (.tuple #[.agg (sigC (numB (bs.take 4)) rv ov wv), .int .i64 0]) ∧
      SlD w' rv (decR ((bs.drop 4).take (64 * b)) b) ∧ SlD w' ov (decO ((bs.drop 4).take (64 * b)) b) ∧ SlD w' wv (decW ((bs.drop 4).drop (64 * b)) h) ∧ Ext w w' := by
  obtain ⟨hl, hleaf⟩ := (decOk_iff _ _ _).1 hok
  have hi := info_pkC b h r hr
  obtain ⟨hm1, hh0, hh6⟩ := (mayK_iff _ _).1 hm
  obtain ⟨hb1', hb2', _⟩ := (mayB_iff _).1 hm1
  have Hm1 := Lib.hid hm1
  have hB := Blk.new w 35 (pkC b h r)
  have E0 : Ext w (w.alloc (.cells (pkC b h r) 35)) := (Ext.refl w).alloc _
  have Hm := fun w => Lib.hid (sMay_any b h r w)
  rw [hm] at Hm
  have Hf := Lib.hid (fun w' (E : Ext w w') => oFrom_any v bs w' (hv.ext E) hlen)
  have wb : IntKind.i64.wrap (64 * (b : Int)) = 64 * (b : Int) := IntWalk.i64_in _ (by omega)
  have wh : IntKind.i64.wrap (32 * (h : Int)) = 32 * (h : Int) := IntWalk.i64_in _ (by omega)
  have pc := fun (w' : World) (hb : Blk w' w.heap.size 35 (pkC b h r)) => Lib.hid (pkC_cells hb)
  obtain ⟨P, hP⟩ : ∃ P, P = pkC b h r := ⟨_, rfl⟩
  rw [← hP] at hB E0 hi ⊢
  simp only [← hP] at Hm pc
  have Hi := Lib.hid (fun g w' (R : Rd 117 w' g bs false) => oInt_yes g bs w' R (by omega) hlen)
  have hl1 : (bs.drop 4).length = 64 * b + 32 * h := by simp; omega
  obtain ⟨x4, hx4⟩ : ∃ x, x = bs.drop 4 := ⟨_, rfl⟩
  obtain ⟨lf, hlf⟩ : ∃ x, x = numB (bs.take 4) := ⟨_, rfl⟩
  rw [← hx4] at hl1 ⊢
  rw [← hlf] at hleaf ⊢
  simp only [← hx4, ← hlf] at Hi
  have hone : (x4.take (64 * b)).length = b * 64 := by simp; omega
  have hway : (x4.drop (64 * b)).length = h * 32 := by simp; omega
  have H1 := Lib.hid (fun g w' (R : Rd 117 w' g x4 false) => oBytes_yes g x4 (64 * b) w' R (by omega) (by omega))
  have H2 := Lib.hid (fun g w' (R : Rd 117 w' g (x4.drop (64 * b)) false) => oBytes_yes g (x4.drop (64 * b)) (32 * h) w' R (by omega) (by omega))
  have hz : (x4.drop (64 * b)).drop (32 * h) = [] := List.eq_nil_of_length_eq_zero (by simp; omega)
  have hz2 : (x4.drop (64 * b)).take (32 * h) = x4.drop (64 * b) := List.take_of_length_le (by omega)
  rw [hz, hz2] at H2
  obtain ⟨on, hon⟩ : ∃ x, x = x4.take (64 * b) := ⟨_, rfl⟩
  obtain ⟨ws, hws⟩ : ∃ x, x = x4.drop (64 * b) := ⟨_, rfl⟩
  rw [← hon] at hone H1 ⊢
  rw [← hws] at hway H1 H2 ⊢
  rw [show ((64 * b : Nat) : Int) = 64 * (b : Int) by omega] at H1
  rw [show ((32 * h : Nat) : Int) = 32 * (h : Int) by omega] at H2
  have Hone := Lib.hid hone
  have Hway := Lib.hid hway
  have hws6 : ws.length ≤ 1073741824 := by omega
  have hgt : ¬ ((lf : Int) > 1073741824) := by omega
  clear hm hP hv hx4 hlf hon hws hz hz2 hl hl1 hok hone hm1
  refine (callsIn_wide (n := 8)).1 ?_
  refine callsIn_of_wp_marks Tryz.func22 rfl trivial ?_ rfl
  refine wpIn_wide.2 ?_
  simp only [Tryz.ntmps22, List.size_toArray, List.length_cons, List.length_nil, Nat.reduceAdd, Nat.reduceSub, Array.replicate_succ, Array.replicate_zero, List.push_toArray, List.append_toArray, List.nil_append, List.cons_append]
  go_wp2_with (first | (refine wpList_alloc_blk rfl 44 rfl (.agg noSig) zero_sig ?_; intro w1 hs1 hb1 he1; clear hs1) | (refine wpList_load_blk (hB.ext he1) rfl 35 _ rfl rfl Tryz.underlying35 rfl hi ?_))
  with_reducible refine (Hm _).out.mono ?_
  rintro e w2 ⟨rfl, E2⟩
  have F2 := (E0.trans he1).trans E2
  have hb2 := hb1.ext E2
  simp only [World.size_alloc] at hb2
  have hB2 := (hB.ext he1).ext E2
  clear he1 E2 E0 hB hb1 Hm
  go_wp2_with fail
  with_reducible refine (Hf.out _ F2).mono ?_
  rintro e w3 ⟨g, rfl, R3, hg, E3⟩
  have F3 := F2.trans E3
  have hlt : w.heap.size + 1 < g := Nat.lt_of_lt_of_le hb2.lt hg
  replace hb2 := hb2.ext E3
  replace hB2 := hB2.ext E3
  have Hj := Lib.hid (Hi.out g w3 R3)
  clear Hf F2 E3 R3 Hi
  go_wp2_with fail
  with_reducible refine Hj.out.mono ?_
  rintro e w4 ⟨rfl, R4, g4⟩
  have F4 := F3.grown g4 (fun k e => by injection e with e; omega)
  replace hb2 := hb2.grown g4 (by intro e; injection e with e; omega)
  replace hB2 := hB2.grown g4 (by intro e; injection e with e; omega)
  clear Hj F3 g4
  go_wp2_with (refine wpList_var rfl rfl 44 rfl _ _ rfl (.agg noSig) zero_sig (lfC lf) rfl rfl info_sig rfl (lfC_one _) ?_; intro w5 D5 E5; have R5 := R4.ext E5; have F5 := F4.trans E5; have hb5 := hb2.ext E5; have hB5 := hB2.ext E5; have c5 := (pc _ hB5).out.1)
  have hlt5 : g < w4.heap.size := by obtain ⟨_, _, hBg, _⟩ := R4; exact hBg.lt
  clear F4 R4 hb2 hB2
  have Hj := Lib.hid (H1.out g w5 R5)
  with_reducible refine Hj.out.mono ?_
  rintro e w6 ⟨v6, rfl, S6, R6, g6⟩
  have F6 := F5.grown g6 (fun k e => by injection e with e; omega)
  have hb6 := hb5.grown g6 (by intro e; injection e with e; omega)
  have hB6 := hB5.grown g6 (by intro e; injection e with e; omega)
  have D6 := D5.grown g6 (by intro e; injection e with e; omega)
  have c6 := (pc _ hB6).out.2
  clear Hj F5 g6 hb5 hB5 D5 c5 R5 H1
  have Hj := Lib.hid (H2.out g w6 R6)
  go_wp2_with fail
  with_reducible refine Hj.out.mono ?_
  rintro e w7 ⟨v7, rfl, S7, R7, g7⟩
  have F7 := F6.grown g7 (fun k e => by injection e with e; omega)
  have hb7 := hb6.grown g7 (by intro e; injection e with e; omega)
  have D7 := D6.grown g7 (by intro e; injection e with e; omega)
  have S67 := (R6.rv g7).sl S6
  clear Hj F6 g7 hb6 hB6 D6 c6 R6 pc H2 S6
  have Hd := Lib.hid (oDone_any g _ _ w7 R7)
  rw [if_neg (by simp)] at Hd
  go_wp2_with fail
  with_reducible refine Hd.out.mono ?_
  rintro e w8 ⟨rfl, E8⟩
  have F8 := F7.trans E8
  have hb8 := hb7.ext E8
  have D8 := D7.ext E8
  have c8 := (sigC_cells D8).1
  have HS1 := Lib.hid (S67.ext E8)
  have HS2 := Lib.hid (S7.ext E8)
  have h48 : w4.heap.size < w8.heap.size := D8.lt
  clear Hd hb7 D7 F7 E8 S67 S7 R7
  obtain ⟨A7, k7, rfl, hk7⟩ := HS2.out.form
  go_wp2_with (first | (go_at_call 46; refine (chunkB_any _ _ _ 32 w8 (by omega)).mono ?_; rintro e w9 ⟨Bs, Bn, rfl, hBs, hBn, bS, bN, E9⟩))
  have h89 := E9.size
  have hG : w.heap.size + 1 < w4.heap.size := by omega
  have D9 := D8.ext E9
  have HbN := Lib.hid bN
  have HbS := Lib.hid bS
  have HD9 := Lib.hid D9
  have hnu : Hid (∀ (o : Nat) (k : Int), w8.cell? ⟨w4.heap.size, o, none⟩ ≠ some (.int .u8 k)) := Lib.hid (fun o k e => by
    rw [D8.cell] at e
    match o with
    | 0 => simp [lfC, sigC] at e
    | 1 => simp [lfC, sigC] at e
    | 2 => simp [lfC, sigC] at e
    | 3 => simp [lfC, sigC] at e
    | o + 4 => simp [lfC, sigC] at e)
  have hsrc : Hid (∀ W, w8.grownBy W (some w4.heap.size) → Sl W (.slice A7 ws.length k7) ws) := Lib.hid (fun W hg => HS2.out.grown hg hnu.out)
  have hsrc1 : Hid (∀ W, w8.grownBy W (some w4.heap.size) → Sl W v6 on) := Lib.hid (fun W hg => HS1.out.grown hg hnu.out)
  have G9 : w8.grownBy w9 (some w4.heap.size) := ext_grown _ E9
  have hA1 : 1 ≤ h → ∃ b o, A7 = some ⟨b, o, none⟩ := fun h1 => by
    obtain ⟨b0, o0, e, _⟩ := SlR.here HS2.out (by rw [Hway.out]; omega)
    exact ⟨b0, o0, e⟩
  have hk7' : h * 32 ≤ k7 := by rw [← Hway.out]; exact hk7
  have Hseq := Lib.hid (chunkB_stops (8 - 1) Bs Bn h 32 (h * 32) k7 A7 rfl (by omega) hk7' (by omega) hA1 w9 HbS.out HbN.out)
  have Hkb := Lib.hid (kept2_b (w := w9) bS.lt bN.lt)
  have Hb8 := Lib.hid hb8
  have HF8 := Lib.hid F8
  clear D9 D8 hk7 hk7' hA1 E9 hb8 F8 HS1 HS2
  obtain ⟨I, hI⟩ : ∃ I : List (Fin h) → World → Prop, I = fun pre W => (∃ vp, Blk W w4.heap.size 44 #[.int .i64 lf, .slice none 0 0, .slice none 0 0, vp] ∧ OwnD W w8.heap.size vp (pre.map fun x => dW ws x.1)) ∧
      Blk W Bs 22 #[.slice A7 (h * 32) k7] ∧ Blk W Bn 3 #[.int .i64 ((32 : Nat) : Int)] ∧ w8.grownBy W (some w4.heap.size) := ⟨_, rfl⟩
  have Hown : Hid (OwnFrom w9.heap.size I) := by
    rw [hI]
    exact Lib.hid (ownFrom_of fun s W W' ⟨⟨vp, h1, h2⟩, h5, h6, h7⟩ t => ⟨⟨vp, t.blk h1, ⟨t.own h2.1, h2.2⟩⟩, t.blk h5, t.blk h6, t.grown h7 h89⟩)
  have H0 : Hid (I [] w9) := by
    rw [hI]
    exact Lib.hid ⟨⟨_, HD9.out, OwnD.none_ _ _⟩, HbS.out, HbN.out, G9⟩
  have Heg := Lib.hid (fun args w => enters_of (P := Tryz.prog) Tryz.func70 (by kernel_rfl) rfl args w)
  clear HD9 G9
  refine (wpIn_wide (n := 8)).1 ?_
  refine wpIn_rangeFunc_ownG (gf := 70) (lb := #[.pointer (some ⟨Bs, 0, none⟩), .pointer (some ⟨Bn, 0, none⟩)]) rfl (by decide) rfl trivial Heg.out Hseq.out Kept2.trans Hkb.out (Below.refl _ _) (fun _ => rfl)
    I (fun _ _ _ => False) Hown.out (fun _ => ownFrom_of fun _ _ _ h _ => h) H0.out
    ?a1 ?assign ?body ?done ?stop
  case assign =>
    intro l x W K hK
    gi_wp2
    exact hK
  case body =>
    intro l pre x W hi hlt
    rw [hI] at hi
    obtain ⟨⟨vp, hB, hR⟩, bS', bN', E⟩ := hi
    obtain ⟨k, hk⟩ := x
    have hl1 := dW_length Hway.out hk
    obtain ⟨b0, o0, rfl, hc1⟩ := (hsrc.out W E).part (k := k * 32) (n := 32) (by rw [Hway.out]; omega) (by omega)
    have hRs : pre.map (fun x => dW ws x.1) ++ [dW ws k] = (pre ++ [(⟨k, hk⟩ : Fin h)]).map (fun x => dW ws x.1) := by simp
    have hRn : (pre.map (fun x => dW ws x.1)).length = pre.length := by simp
    change Cells W b0 (o0 + k * 32) (bytesV (dW ws k)) at hc1
    obtain ⟨x, hx⟩ : ∃ x, x = dW ws k := ⟨_, rfl⟩
    obtain ⟨rs, hrs⟩ : ∃ rs, rs = pre.map (fun x => dW ws x.1) := ⟨_, rfl⟩
    obtain ⟨q, hq⟩ : ∃ q, q = o0 + k * 32 := ⟨_, rfl⟩
    have hqv : chunkV 1 (some ⟨b0, o0, none⟩) 32 k = .slice (some ⟨b0, q, none⟩) 32 32 := by simp [chunkV, hq]
    rw [← hx] at hl1 hc1 hRs
    rw [← hrs] at hR hRs hRn
    rw [← hq] at hc1
    obtain ⟨m, hm⟩ : ∃ m, m = pre.length := ⟨_, rfl⟩
    rw [← hm] at hRn hlt
    dsimp only
    rw [hqv]
    obtain ⟨Q, hQ⟩ : ∃ Q, Q = ownPostG w9.heap.size (Kept2 Bs Bn) I (fun _ _ _ => False) (pre ++ [⟨k, hk⟩]) W := ⟨_, rfl⟩
    have hQn : ¬ LetsOut Q := by rw [hQ]; rintro ⟨_, _, h⟩; exact h
    have hQok : Hid (∀ a W', KeepsFrom w9.heap.size W W' → Kept2 Bs Bn W W' → I (pre ++ [⟨k, hk⟩]) W' → Q .normal a W') := by
      show ∀ a W', _ → _ → _ → _
      rw [hQ]; exact fun a W' h1 h2 h3 => ⟨h1, h2, h3⟩
    rw [← hQ]
    clear hQ hx hrs hq hqv hm Hseq Hkb Hown H0 Heg hsrc hsrc1
    have HRs := Lib.hid hRs
    have HII := Lib.hid hI
    clear hRs hI
    obtain ⟨Ar, cr, rfl, hcr⟩ := hR.form
    rw [hRn] at hcr hB hR
    have HB := Lib.hid hB
    have HR := Lib.hid hR
    have HbS' := Lib.hid bS'
    have HbN' := Lib.hid bN'
    have L1 := Lib.hid hl1
    clear hB hR bS' bN' hl1 bS bN HbS HbN
    have hc0 : W.drew.cell? ⟨w4.heap.size, 3, none⟩ = some (.slice Ar m cr) := HB.out.cell 3
    refine wpIn_block ?_
    refine wpIn_region_chain 6 [(true, 0), (true, 1), (true, 2), (true, 3), (true, 4), (false, 5)] (fun w' => w'.cell? ⟨w4.heap.size, 3, none⟩ = some (.slice Ar m cr) ∧ Cells w' b0 q (bytesV x)) (by kernel_rfl) (by kernel_rfl) (fun ⟨a, w, h⟩ => hQn ⟨a, w, h⟩) (by kernel_rfl) ⟨hc0, hc1⟩ ?_
    iterate 4
      refine wpTake_read _ _ ?_ rfl rfl ?_ ?_
      rotate_left 1
      focus
        intro wS hS
        have hS1 := hS.1
        have har := run_arr32 (some ⟨b0, q, none⟩) 32 32 (by omega) wS
        try dsimp only at hS1
        go_simp
        first | done | with_reducible rfl
      simp only [Act.put, List.setIfInBounds_toArray, List.set_cons_zero, List.set_cons_succ]
    refine wpTake_load _ _ rfl rfl 33 _ rfl (.agg (bytesV x).toArray) (fun wS hS => run_load_dg hS.2 L1.out) ?_
    simp only [Act.put, List.setIfInBounds_toArray, List.set_cons_zero, List.set_cons_succ]
    refine wpTake_do _ _ rfl rfl (fun K hK' => ?_)
    refine wp_build_dg x L1.out _ rfl rfl ?_
    intro w10 E10' hs10 hnew
    have E10 : Ext W w10 := (Ext.refl W).drew.trans E10'
    refine hK' _ _ ⟨E10'.cell hc0, hc1.ext E10⟩ ?_
    clear hK' K
    refine wpTake_nil ?_
    simp only [Act.put, List.setIfInBounds_toArray, List.set_cons_zero, List.set_cons_succ, List.drop_succ_cons, List.drop_zero]
    have HR10 := Lib.hid (HR.out.ext E10)
    have Hnew := Lib.hid hnew
    have HB10 := Lib.hid (HB.out.ext E10)
    have HS10 := Lib.hid (HbS'.out.ext E10)
    have HN10 := Lib.hid (HbN'.out.ext E10)
    have G10 := grown_ext E E10
    have hz10 := G10.size
    clear hnew HR HB hc0 E10' hs10
    go_wp2_with (at_builtin; refine wpList_appD HR10.out L1.out Hnew.out rfl _ _ rfl rfl rfl (by omega) hz10 ?_; intro w7 w11 ho7 hg7 hq7; have hn7 := HR10.out.ne HB10.out (by decide); have hB7 := HB10.out.grown hg7 (Ne.symm hn7); have hc7 : w11.cell? ⟨w4.heap.size, 3, none⟩ = some (.slice Ar m cr) := hB7.cell 3; have hf7 := hB7.frozen 3; obtain ⟨A9, c9, e9, hc9'⟩ := ho7.form; rw [List.length_append, hRn, List.length_singleton] at e9; subst e9; have HB7 := Lib.hid hB7; have HO7 := Lib.hid ho7; have Hg7 := Lib.hid hg7; have Hq7 := Lib.hid hq7; clear hB7 ho7 hg7 hq7 hn7)
    refine NoPanic.normal ?_
    have hneS : Bs ≠ w4.heap.size := by omega
    have hneN : Bn ≠ w4.heap.size := by omega
    obtain ⟨w12, hw12⟩ : ∃ w12, w12 = w11.setCell ⟨w4.heap.size, 3, none⟩ (.slice A9 (m + 1) c9) := ⟨_, rfl⟩
    have HR12 : Hid (OwnD w12 w8.heap.size (.slice A9 (m + 1) c9) (rs ++ [x])) := by rw [hw12]; exact Lib.hid (HO7.out.set HB7.out (by decide))
    have HB12 : Hid (Blk w12 w4.heap.size 44 #[.int .i64 lf, .slice none 0 0, .slice none 0 0, .slice A9 (m + 1) c9]) := by rw [hw12]; exact Lib.hid (HB7.out.set 3 _)
    have HS12 : Hid (Blk w12 Bs 22 #[.slice (some ⟨b0, o0, none⟩) (h * 32) k7]) := by rw [hw12]; exact Lib.hid ((HS10.out.grown Hg7.out (Ne.symm (HR10.out.ne HS10.out (by decide)))).far hneS _)
    have HN12 : Hid (Blk w12 Bn 3 #[.int .i64 ((32 : Nat) : Int)]) := by rw [hw12]; exact Lib.hid ((HN10.out.grown Hg7.out (Ne.symm (HR10.out.ne HN10.out (by decide)))).far hneN _)
    have G12 : w8.grownBy w12 (some w4.heap.size) := by rw [hw12]; exact grown_trans (grown_far G10 Hg7.out HR10.out.from) (grown_setCell _ _ 3 _)
    have HK12 : Hid (KeepsOthers W w12) := by rw [hw12]; exact Lib.hid ((keeps_ext E10).trans ((keeps_own HR10.out.1 Hg7.out).trans (KeepsOthers.setCell _ _ _)))
    simp only [← hw12]
    refine hQok.out _ _ (HK12.out.from _) ⟨HS12.out.trans HbS'.out.symm, HN12.out.trans HbN'.out.symm⟩ ?_
    rw [HII.out]
    refine ⟨⟨_, HB12.out, ?_⟩, HS12.out, HN12.out, G12⟩
    rw [← HRs.out]; exact HR12.out
  case done =>
    rintro D ys W hD rfl hi hK
    rw [hI] at hi
    obtain ⟨⟨vp, hB, hR⟩, bS', bN', G⟩ := hi
    dsimp only
    rw [finMap (dW ws)] at hR
    have hR' : OwnD W w8.heap.size vp (decW ws h) := hR
    have HR := Lib.hid hR'
    obtain ⟨Ap, cp, rfl, hcp⟩ := HR.out.form
    have HB := Lib.hid hB
    have Hd := Lib.hid (lDecode_yes v6 on b W (hsrc1.out W G) Hone.out Hm1.out)
    have hbW := Lib.hid (Hb8.out.grown G (by intro e; injection e with e; omega))
    have EW : Ext w W := HF8.out.grown G (fun k e => by injection e with e; omega)
    clear hB hR hR' Hseq Hkb Hown H0 Heg hI hsrc hsrc1 bS' bN'
    have hlD : D < W.heap.size := (Array.getElem?_eq_some_iff.1 hK).1
    go_wp2_with fail
    with_reducible refine Hd.out.mono ?_
    rintro e w13 ⟨vr, vo, rfl, hvr, hvo, E13⟩
    obtain ⟨Ar, cr, rfl, hcr⟩ := hvr.form
    obtain ⟨Ao, co, rfl, hco⟩ := hvo.form
    have HB13 := Lib.hid (HB.out.ext E13)
    have HR13 := Lib.hid (HR.out.ext E13)
    have hb13 := Lib.hid (hbW.out.ext E13)
    have HVR := Lib.hid hvr
    have HVO := Lib.hid hvo
    have hK13 : w13.heap[D]? = some (.deferred (some [])) := (E13.block D hlD).trans hK
    have F13 := EW.trans E13
    clear hvr hvo Hd HB HR hbW
    have hi2 : (Tryz.prog.info? 42).map (·.size) = some 2 := info_one
    go_wp2_with (first | (refine wpList_store_part rfl 42 _ _ rfl w4.heap.size 44 [Value.int .i64 lf] [.slice none 0 0, .slice none 0 0] [.slice Ap (decW ws h).length cp] [.slice Ar (decR on b).length cr, .slice Ao (decO on b).length co] rfl rfl HB13.out rfl hi2 (by simp [Value.oneCell']) ?_; intro w14 hb14 hg14; have B14 := Lib.hid hb14; have R14 := Lib.hid (hb13.out.grown hg14 (by intro e; injection e with e; omega)); clear hb14) | (refine wpList_load_blk B14.out rfl 44 _ rfl rfl Tryz.underlying44 rfl info_sig ?_) | (refine wpList_store_blk rfl 44 _ _ rfl (w.heap.size + 1) _ rfl rfl 44 noSig R14.out info_sig rfl (by simp [Value.oneCell']) ?_; intro w15 hs15 hb15 hg15))
    have hwG : w8.grownBy w14 (some w4.heap.size) := grown_trans (grown_ext G E13) hg14
    have hK14 : w14.heap[D]? = some (.deferred (some [])) := (hg14.block D (Nat.lt_of_lt_of_le hlD E13.size) (by intro e; injection e with e; omega)).trans hK13
    have hK15 : w15.heap[D]? = some (.deferred (some [])) := (hg15.block D (Nat.lt_of_lt_of_le (Nat.lt_of_lt_of_le hlD E13.size) hg14.size) (by intro e; injection e with e; omega)).trans hK14
    refine ⟨by simp, .inl ⟨_, _, rfl, run_takeDeferred hK15, ?_⟩⟩
    have tn : Turn w9.heap.size w15 (w15.putObj D (.deferred none)) := ⟨some D, grownBy_putObj' w15 D _, fun r e => by cases e; exact ⟨hD, _, hK15, rfl⟩⟩
    have n13 : ∀ (o : Nat) (k : Int), w13.cell? ⟨w4.heap.size, o, none⟩ ≠ some (.int .u8 k) := fun o k e => by
      rw [HB13.out.cell] at e
      match o with
      | 0 => simp at e
      | 1 => simp at e
      | 2 => simp at e
      | 3 => simp at e
      | o + 4 => simp at e
    have n14 : ∀ (o : Nat) (k : Int), w14.cell? ⟨w.heap.size + 1, o, none⟩ ≠ some (.int .u8 k) := fun o k e => by
      rw [R14.out.cell] at e
      match o with
      | 0 => simp [noSig, Value.cells] at e
      | 1 => simp [noSig, Value.cells] at e
      | 2 => simp [noSig, Value.cells] at e
      | 3 => simp [noSig, Value.cells] at e
      | o + 4 => simp [noSig, Value.cells] at e
    have hfin : ∀ (u : Value) (ds : List (List UInt8)), SlD w13 u ds → SlD (w15.putObj D (.deferred none)) u ds := fun u ds hs => tn.slD ((hs.grown hg14 n13).grown hg15 n14)
    have hE : Ext w (w15.putObj D (.deferred none)) := tn.ext ((F13.grown hg14 (fun k e => by injection e with e; omega)).grown hg15 (fun k e => by injection e with e; omega)) (by omega)
    have r1 := hfin _ _ HVR.out
    have r2 := hfin _ _ HVO.out
    have r3 := hfin _ _ HR13.out.sl
    refine ⟨_, ret2_blk (tn.blk hb15) rfl rfl Tryz.underlying44 rfl info_sig rfl, ?_⟩
    exact ⟨_, _, _, rfl, r1, r2, r3, hE⟩
  case stop =>
    rintro D c pre W _ _ h _
    exact h.elim
end Go.Proofs.YtddbmddblhjkkaaGreatDoor
/- lamport: what is decoded of a signature's code is that signature. Plain. -/
namespace Go.Proofs.YtddbmddblhjkkaaGreatDoor
open Go.RowKit

def inter (rev oth : List (List UInt8)) (j : Nat) : List UInt8 := if j % 2 = 0 then dAt rev (j / 2) else dAt oth (j / 2)
def interL (rev oth : List (List UInt8)) (n : Nat) : List (List UInt8) := (List.range n).map (inter rev oth)
theorem interL_length (rev oth : List (List UInt8)) (n : Nat) : (interL rev oth n).length = n := by simp [interL]
theorem encS_inter (rev oth : List (List UInt8)) (n : Nat) : encS rev oth n = (interL rev oth (2 * n)).flatten := by
  induction n with
  | zero => rfl
  | succ n ih =>
    have h0 : inter rev oth (2 * n) = dAt rev n := by unfold inter; rw [if_pos (by omega), show 2 * n / 2 = n by omega]
    have h1 : inter rev oth (2 * n + 1) = dAt oth n := by unfold inter; rw [if_neg (by omega), show (2 * n + 1) / 2 = n by omega]
    rw [encS_succ, ih, show 2 * (n + 1) = 2 * n + 1 + 1 by omega]
    simp only [interL, List.range_succ, List.map_append, List.flatten_append, List.map_cons, List.map_nil, List.flatten_cons, List.flatten_nil, List.append_nil, h0, h1, List.append_assoc]
theorem interL_ok {rev oth : List (List UInt8)} {n : Nat} (hr : dsOk rev) (ho : dsOk oth) (h1 : n ≤ rev.length) (h2 : n ≤ oth.length) : dsOk (interL rev oth (2 * n)) := by
  intro d hd
  simp only [interL, List.mem_map, List.mem_range] at hd
  obtain ⟨j, hj, rfl⟩ := hd
  unfold inter
  split
  · exact dAt_length hr (by omega)
  · exact dAt_length ho (by omega)
theorem decR_enc {rev oth : List (List UInt8)} {n : Nat} (hr : dsOk rev) (ho : dsOk oth) (h1 : rev.length = n) (h2 : oth.length = n) : decR (encS rev oth n) n = rev := by
  have hok := interL_ok (n := n) hr ho (by omega) (by omega)
  apply List.ext_getElem
  · simp [decR, h1]
  · intro k hk1 hk2
    have hk : k < n := by omega
    have := dsOk_at hok (k := 2 * k) (by rw [interL_length]; omega)
    simp only [decR, List.getElem_map, List.getElem_range, dR]
    rw [encS_inter, show k * 64 = 2 * k * 32 by omega, this]
    simp only [interL, List.getElem_map, List.getElem_range, inter]
    rw [if_pos (by omega), show 2 * k / 2 = k by omega, dAt_eq hk2]
theorem decO_enc {rev oth : List (List UInt8)} {n : Nat} (hr : dsOk rev) (ho : dsOk oth) (h1 : rev.length = n) (h2 : oth.length = n) : decO (encS rev oth n) n = oth := by
  have hok := interL_ok (n := n) hr ho (by omega) (by omega)
  apply List.ext_getElem
  · simp [decO, h2]
  · intro k hk1 hk2
    have hk : k < n := by omega
    have := dsOk_at hok (k := 2 * k + 1) (by rw [interL_length]; omega)
    simp only [decO, List.getElem_map, List.getElem_range, dO]
    rw [encS_inter, show k * 64 + 32 = (2 * k + 1) * 32 by omega, this]
    simp only [interL, List.getElem_map, List.getElem_range, inter]
    rw [if_neg (by omega), show (2 * k + 1) / 2 = k by omega, dAt_eq hk2]
end Go.Proofs.YtddbmddblhjkkaaGreatDoor
/- pursuivantref08: Same of equal lists; Levels. -/
namespace Go.Proofs.YtddbmddblhjkkaaGreatDoor
open Go.RowKit

set_option maxRecDepth 100000 in
set_option maxHeartbeats 1000000 in
theorem r8Same_eq (va vb : Value) (rs : List (List UInt8)) (w : World) (ha : SlD w va rs) (hb : SlD w vb rs) (hl1 : rs.length ≤ 1073741824) :
    Calls Tryz.prog 36 #[va, vb] w fun e w' => e = .returned (.bool true) ∧ Ext w w' := by
  obtain ⟨Aa, ca, rfl, hca⟩ := ha.form
  obtain ⟨Ab, cb, rfl, hcb⟩ := hb.form
  have Ha := Lib.hid ha
  have Hb := Lib.hid hb
  clear ha hb
  go_enter Tryz.func36, Tryz.ntmps36
  go_wp2
  go_loopw [5] (fun i wr => ∃ k : Nat, k ≤ rs.length ∧ i = .int .i64 k ∧ Ext w wr) (fun i _ => rs.length - (intOf i).toNat)
  case atStart => exact ⟨0, by omega, rfl, Ext.refl _⟩
  case round =>
    obtain ⟨k, hkb, rfl, E⟩ := hrel
    by_cases hlt : k < rs.length
    · obtain ⟨b0, o0, rfl, hc0⟩ := (Ha.out.ext E).at_ hlt
      obtain ⟨b2, o2, rfl, hc2⟩ := (Hb.out.ext E).at_ hlt
      have hlx := Ha.out.len hlt
      obtain ⟨x, hx⟩ : ∃ x, x = rs[k] := ⟨_, rfl⟩
      rw [← hx] at hc0 hc2 hlx
      have Hlx := Lib.hid hlx
      have heq := eq_dg x hlx
      clear hx hlx
      go_wp2
      refine wp_region_chain 8 [(true, 0), (true, 1), (true, 2), (true, 3), (true, 4), (true, 5), (true, 6), (true, 7)] (fun w' => Ext wr w') (by kernel_rfl) (by kernel_rfl) (Ext.refl wr).drew ?_
      iterate 3
        refine wpTake_read _ _ ?_ rfl rfl ?_ ?_
        rotate_left 1
        focus
          intro wS hS
          clear hS
          go_simp
          first | done | with_reducible rfl
        simp only [Act.put, List.setIfInBounds_toArray, List.set_cons_zero, List.set_cons_succ]
      refine wpTake_load _ _ rfl rfl 33 _ rfl (.agg (bytesV x).toArray) (fun wS hS => run_load_dg (hc0.ext hS) Hlx.out) ?_
      simp only [Act.put, List.setIfInBounds_toArray, List.set_cons_zero, List.set_cons_succ]
      iterate 3
        refine wpTake_read _ _ ?_ rfl rfl ?_ ?_
        rotate_left 1
        focus
          intro wS hS
          clear hS
          go_simp
          first | done | with_reducible rfl
        simp only [Act.put, List.setIfInBounds_toArray, List.set_cons_zero, List.set_cons_succ]
      refine wpTake_load _ _ rfl rfl 33 _ rfl (.agg (bytesV x).toArray) (fun wS hS => run_load_dg (hc2.ext hS) Hlx.out) ?_
      simp only [Act.put, List.setIfInBounds_toArray, List.set_cons_zero, List.set_cons_succ]
      refine wpTake_nil ?_
      simp only [List.drop_succ_cons, List.drop_zero]
      clear hc0 hc2
      go_wp2
      refine NoPanic.normal ?_
      go_wp2
      go_roundw
      case rel => exact ⟨k + 1, hlt, by go_num, E.drew⟩
      case measure => simp [intOf]; omega
    · obtain rfl : k = rs.length := by omega
      go_wp2
      go_ret
      exact ⟨rfl, E⟩

set_option maxRecDepth 100000 in
set_option maxHeartbeats 400000 in
theorem r8Levels_no (A : Option Addr) (n c : Nat) (w : World) (hno : powB n = false) :
    Calls Tryz.prog 28 #[.slice A n c] w fun e w' => e = .returned (.tuple #[.slice none 0 0, .bool false]) ∧ w = w' := by
  have Hm := fun w => Lib.hid (r8may_any n w)
  rw [hno] at Hm
  clear hno
  go_enter Tryz.func28, Tryz.ntmps28
  go_wp2_with fail
  with_reducible refine (Hm _).out.mono ?_
  rintro e w1 ⟨rfl, rfl⟩
  go_wp2
  go_ret2
  exact ⟨rfl, rfl⟩

set_option maxRecDepth 100000 in
set_option maxHeartbeats 4000000 in
theorem r8Levels_yes (v : Value) (ds : List (List UInt8)) (H : Nat) (w : World) (hv : SlD w v ds) (hl : ds.length = 2 ^ H) (hH : H ≤ 6) :
    Calls Tryz.prog 28 #[v] w fun e w' => ∃ vo, e = .returned (.tuple #[vo, .bool true]) ∧ SlDs w' vo (levels ds (H + 1)) ∧ Ext w w' := by
  obtain ⟨A, c, rfl, hc⟩ := hv.form
  have hpow := powB_pow hH
  have hle := pow_le hH
  have h1 : 1 ≤ ds.length := by rw [hl]; exact Nat.one_le_two_pow
  have Hm := fun w => Lib.hid (r8may_any ds.length w)
  rw [hl, hpow] at Hm
  rw [← hl] at Hm
  have Hl := Lib.hid hl
  have hO2 := ownDs_one w _ ds hv (Apt.old hv h1 w) rfl
  have hS2 := hv.ext ((Ext.refl w).alloc (.cells #[.slice A ds.length c] 40))
  have E2 : Ext w (w.alloc (.cells #[.slice A ds.length c] 40)) := (Ext.refl w).alloc _
  have HO2 := Lib.hid hO2
  have HS2 := Lib.hid hS2
  have HV := Lib.hid hv
  clear hpow hl hv hO2 hS2
  go_enter Tryz.func28, Tryz.ntmps28
  go_wp2_with fail
  with_reducible refine (Hm _).out.mono ?_
  rintro e w1 ⟨rfl, rfl⟩
  clear Hm
  go_wp2
  go_loopw [4, 5] (fun out l wr => ∃ k : Nat, k ≤ H ∧ OwnDs wr w.heap.size out (levels ds (k + 1)) ∧ SlD wr l (lev ds k) ∧ Ext w wr) (fun _ l _ => slen l)
  case atStart => exact ⟨0, by omega, HO2.out, HS2.out, E2⟩
  case round =>
    obtain ⟨k, hk, hO, hS, E⟩ := hrel
    obtain ⟨wo, rfl⟩ : ∃ wo : World, wo = wr := ⟨_, rfl⟩
    have hll := lev_length Hl.out k hk
    have hlv := levels_length ds (k + 1)
    have hvs := levels_succ ds (k + 1)
    obtain ⟨Ao, co, rfl, hco⟩ := hO.form
    obtain ⟨Al, cl, rfl, hcl⟩ := hS.form
    have HO := Lib.hid hO
    have HS := Lib.hid hS
    clear HO2 HS2 E2
    by_cases hlt : k < H
    · obtain ⟨N, hN⟩ : ∃ N, N = 2 ^ (H - k - 1) := ⟨_, rfl⟩
      have hN1 : 2 ^ (H - k) = N * 2 := by rw [hN, show H - k = (H - k - 1) + 1 by omega, Nat.pow_succ]; simp
      have hNge : 1 ≤ N := by rw [hN]; exact Nat.one_le_two_pow
      have hNle : N ≤ 32 := by rw [hN]; have : 2 ^ (H - k - 1) ≤ 2 ^ 5 := Nat.pow_le_pow_right (by omega) (by omega); omega
      have hup : upT (lev ds k) N = lev ds (k + 1) := by rw [lev, upB, hll, hN1, Nat.mul_div_cancel _ (by omega)]
      have hln := lev_length Hl.out (k + 1) (by omega)
      rw [show H - (k + 1) = H - k - 1 by omega, ← hN] at hln
      obtain ⟨l, hlE⟩ : ∃ l, l = lev ds k := ⟨_, rfl⟩
      obtain ⟨n2, hn2⟩ : ∃ n2, n2 = 2 ^ (H - k) := ⟨_, rfl⟩
      have hNn : N < n2 := by omega
      have hn64 : n2 ≤ 64 := by omega
      rw [← hlE] at hll hup HS
      rw [← hlE] at hcl ⊢
      rw [hll, ← hn2] at hcl ⊢
      rw [hll, ← hn2] at HS
      rw [← hn2] at hll
      rw [hlv] at HO hco ⊢
      have Hn2N : Hid (n2 = N * 2) := by show _ = _; omega
      have Hll := Lib.hid hll
      have Hvs := Lib.hid hvs
      have Hln := Lib.hid hln
      have Hlv := Lib.hid hlv
      have Hup := Lib.hid hup
      have HE := Lib.hid E
      clear hO hS hll hup hln hvs hlv hN hN1 hlE hn2 E
      have t1 : (n2 : Int) > 1 := by omega
      go_wp2
      go_loopw [6, 7] (fun up i wr => ∃ j : Nat, j ≤ N ∧ i = .int .i64 ((2 * j : Nat) : Int) ∧ OwnD wr wo.heap.size up (upT l j) ∧ Ext wo wr) (fun _ i _ => n2 - (intOf i).toNat)
      case atStart => exact ⟨0, by omega, rfl, OwnD.none_ _ _, Ext.refl _⟩
      case round =>
        obtain ⟨j, hj, rfl, hU, E⟩ := hrel
        have hul := upT_length l j
        obtain ⟨Au, cu, rfl, hcu⟩ := hU.form
        rw [hul] at hU hcu ⊢
        have HU := Lib.hid hU
        clear hU
        by_cases hjN : j < N
        · have hS' : SlD wr (.slice Al l.length cl) l := by rw [Hll.out]; exact HS.out.ext E
          have hk2 : 2 * j + 1 < l.length := by rw [Hll.out, Hn2N.out]; omega
          obtain ⟨b, o, rfl, hc1⟩ := hS'.at_ (show 2 * j < l.length by omega)
          obtain ⟨_, _, hA2, hc2⟩ := hS'.at_ hk2
          obtain ⟨rfl, rfl⟩ : b = _ ∧ o = _ := by simpa using hA2
          have hl1 := hS'.len (show 2 * j < l.length by omega)
          have hl2 := hS'.len hk2
          have hnode : nodeAt l j = nodeB l[2 * j] l[2 * j + 1] := by unfold nodeAt; rw [dAt_eq (by omega), dAt_eq hk2]
          have hus := upT_succ l j
          obtain ⟨x, hx⟩ : ∃ x, x = l[2 * j] := ⟨_, rfl⟩
          obtain ⟨t, ht⟩ : ∃ t, t = l[2 * j + 1] := ⟨_, rfl⟩
          rw [← hx] at hl1 hc1 hnode
          rw [← ht] at hl2 hc2 hnode
          obtain ⟨q, hq⟩ : ∃ q, q = 2 * j := ⟨_, rfl⟩
          have hq2 : 2 * (j + 1) = q + 2 := by omega
          have hqn : q + 2 ≤ n2 := by rw [Hn2N.out]; omega
          rw [← hq] at hc1 hc2 ⊢
          rw [hnode] at hus
          have hnl := nodeB_length x t
          have L1 := Lib.hid hl1
          have L2 := Lib.hid hl2
          have Hnd := Lib.hid (fun w' => r8Node_any x t L1.out L2.out w')
          obtain ⟨z, hz⟩ : ∃ z, z = nodeB x t := ⟨_, rfl⟩
          rw [← hz] at Hnd hnl hus
          have Lz := Lib.hid hnl
          have Hus := Lib.hid hus
          have Hq2 := Lib.hid hq2
          have Hul := Lib.hid hul
          clear hz hnl hus hq2 hul hx ht hq hnode hl1 hl2 hS' hk2 hA2
          have e1 : IntKind.i64.wrap ((q : Int) + 1) = (q : Int) + 1 := IntWalk.i64_in _ (by omega)
          have e2 : ((q : Int) + 1).toNat = q + 1 := by omega
          have e3 : (q : Int) < (n2 : Int) := by omega
          have e4 : (q : Int) + 1 < (n2 : Int) := by omega
          have e5 : (0 : Int) ≤ (q : Int) + 1 := by omega
          go_wp2
          refine wp_region_chain 12 [(true, 0), (true, 1), (true, 2), (true, 3), (true, 4), (true, 5), (true, 6), (true, 7), (true, 8), (true, 9), (false, 10), (false, 11)] (fun w' => Cells w' b (o + q * 32) (bytesV x) ∧ Cells w' b (o + (q + 1) * 32) (bytesV t)) (by kernel_rfl) (by kernel_rfl) ⟨hc1, hc2⟩ ?_
          iterate 4
            refine wpTake_read _ _ ?_ rfl rfl ?_ ?_
            rotate_left 1
            focus
              intro wS hS
              clear hS
              go_simp
              first | done | with_reducible rfl
            simp only [Act.put, List.setIfInBounds_toArray, List.set_cons_zero, List.set_cons_succ]
          refine wpTake_load _ _ rfl rfl 33 _ rfl (.agg (bytesV x).toArray) (fun wS hS => run_load_dg hS.1 L1.out) ?_
          simp only [Act.put, List.setIfInBounds_toArray, List.set_cons_zero, List.set_cons_succ]
          iterate 4
            refine wpTake_read _ _ ?_ rfl rfl ?_ ?_
            rotate_left 1
            focus
              intro wS hS
              clear hS
              go_simp
              first | done | with_reducible rfl
            simp only [Act.put, List.setIfInBounds_toArray, List.set_cons_zero, List.set_cons_succ]
          refine wpTake_load _ _ rfl rfl 33 _ rfl (.agg (bytesV t).toArray) (fun wS hS => run_load_dg hS.2 L2.out) ?_
          simp only [Act.put, List.setIfInBounds_toArray, List.set_cons_zero, List.set_cons_succ]
          refine wpTake_do _ _ rfl rfl (fun K hK' => ?_)
          go_simp
          refine (Hnd.out _).mono ?_
          rintro e w5 ⟨rfl, E5⟩
          have E05 : Ext wr w5 := (Ext.refl wr).drew.trans E5
          refine hK' _ _ ⟨hc1.ext E05, hc2.ext E05⟩ ?_
          clear hK' K
          refine wpTake_do _ _ rfl rfl (fun K hK' => ?_)
          refine wp_build_dg z Lz.out _ rfl rfl ?_
          intro w6 E56 hs6 hnew
          have E6 : Ext wr w6 := E05.trans E56
          refine hK' _ _ ⟨hc1.ext E6, hc2.ext E6⟩ ?_
          clear hK' K
          refine wpTake_nil ?_
          simp only [Act.put, List.setIfInBounds_toArray, List.set_cons_zero, List.set_cons_succ, List.drop_succ_cons, List.drop_zero]
          have Hnew := Lib.hid hnew
          have HU6 := Lib.hid (HU.out.ext E6)
          have F6 := E.trans E6
          have hsz := F6.size
          clear hnew HU E05 E56 hs6 hc1 hc2 E5 E6
          go_wp2_with (at_builtin; refine wpList_appD HU6.out Lz.out Hnew.out rfl _ _ rfl rfl rfl (by rw [Hul.out]; omega) hsz ?_; intro v7 w7 ho7 hg7 hq7)
          have F7 := F6.grown hg7 HU6.out.from
          rw [← Hus.out] at ho7
          have HO7 := Lib.hid ho7
          clear ho7 hg7 hq7 HU6 Hnew
          refine NoPanic.normal ?_
          go_wp2
          go_roundw
          case rel => exact ⟨j + 1, hjN, by rw [Hq2.out]; go_num, HO7.out, F7⟩
          case measure => simp [intOf]; have := Hn2N.out; omega
        · obtain rfl : j = N := by omega
          rw [Hup.out] at HU
          have F5 := HE.out.trans E
          have HO5 := Lib.hid (HO.out.ext E)
          have S5 := HU.out.sl
          have AP5 := Lib.hid (Apt.of_own (base := w.heap.size) HU.out)
          have hS5 : SlD wr (.slice Au j cu) (lev ds (k + 1)) := S5
          have HO6 := Lib.hid (HO5.out.ext ((Ext.refl wr).alloc (.cells #[.slice Au j cu] 40)))
          have HS6 := Lib.hid (hS5.ext ((Ext.refl wr).alloc (.cells #[.slice Au j cu] 40)))
          have HA6 := Lib.hid (AP5.out.ext ((Ext.refl wr).alloc (.cells #[.slice Au j cu] 40)))
          have HR6 := Lib.hid (slR_one wr 40 (.slice Au j cu) _ rfl)
          have E6 := F5.alloc (.cells #[.slice Au j cu] 40)
          have hszw := E6.size
          have hge : ¬ (((2 * j : Nat) : Int) < (n2 : Int)) := by rw [Hn2N.out]; omega
          clear S5 AP5 HO5 hul HO HS F5 hS5
          go_wp2_with (at_builtin; refine wpList_appDs HO6.out HS6.out HA6.out rfl HR6.out rfl _ _ rfl rfl rfl (by rw [Hlv.out]; omega) hszw ?_; intro v7 w7 ho7 hg7 hs7 hq7)
          have E7 := E6.grown hg7 HO6.out.from
          rw [← Hvs.out] at ho7
          have HO7 := Lib.hid ho7
          have HS7 := Lib.hid hs7
          clear hg7 hq7 ho7 hs7 HO6 HS6 HA6 HR6 E6 Hvs
          go_wp2
          go_roundw
          case rel => exact ⟨k + 1, hlt, HO7.out, HS7.out, E7⟩
          case measure => exact hNn
    · obtain rfl : k = H := by omega
      rw [hll, Nat.sub_self] at HS hcl ⊢
      have E' := Lib.hid E
      clear hO hS hll hvs hlv
      go_wp2
      go_ret2
      exact ⟨_, rfl, HO.out.sl, E'.out⟩
end Go.Proofs.YtddbmddblhjkkaaGreatDoor
/- == of public keys; pursuivantref09.Same of a signature and itself; a signature's code is decoded to it (plain). -/
namespace Go.Proofs.YtddbmddblhjkkaaGreatDoor
open Go.RowKit Go.Maps

set_option maxRecDepth 100000 in
theorem equal_pk (b h : Int) (r : List UInt8) (hr : r.length = 32) (w : World) : (Op.equalIn 10000 35 (.agg (pkC b h r)) (.agg (pkC b h r))).run Tryz.prog w = .ok true w := by
  rw [run_equalIn_struct (P := Tryz.prog) w 9999 35 (pkC b h r) (pkC b h r) (by kernel_rfl) (by kernel_rfl)]
  have h1 : ∀ w, (part 3 (pkC b h r) 0).run Tryz.prog w = .ok (.int .i64 b) w := fun w => by
    simp [part, isAgg, run_underlying Tryz.underlying3, pkC]
  have h2 : ∀ w, (part 3 (pkC b h r) 1).run Tryz.prog w = .ok (.int .i64 h) w := fun w => by
    simp [part, isAgg, run_underlying Tryz.underlying3, pkC]
  have h3 : ∀ w, (part 33 (pkC b h r) 2).run Tryz.prog w = .ok (.agg (bytesV r).toArray) w := fun w => by
    simp [part, isAgg, run_underlying Tryz.underlying33, pkC]
    exact List.take_of_length_le (by rw [bytesV_length]; omega)
  have h4 : ∀ w, (Op.equalIn 9999 33 (.agg (bytesV r).toArray) (.agg (bytesV r).toArray)).run Tryz.prog w = .ok true w := fun w => by
    have := run_equalIn_bytes (P := Tryz.prog) w 9997 33 5 32 Tryz.underlying33 Tryz.underlying5 size_u8 r r hr hr
    rw [beq_self_eq_true] at this
    exact this
  have h5 : ∀ (x : Int) w, (Op.equalIn 9999 3 (.int .i64 x) (.int .i64 x)).run Tryz.prog w = .ok true w := fun x w => by
    rw [run_equalIn_int (P := Tryz.prog) w 9998 3 .i64 .i64 x x Tryz.underlying3]
    simp
  simp only [Program.fieldsOf, Tryz.underlying35, Op.eqFields]
  simp [Sem.run_bind, h1, h2, h3, h4, h5]

set_option maxRecDepth 100000 in
set_option maxHeartbeats 400000 in
theorem r9Same_eq (i : Int) (va vb vc ua ub uc : Value) (rs os ws : List (List UInt8)) (w : World) (ha : SlD w va rs) (hb : SlD w vb os) (hc : SlD w vc ws) (hua : SlD w ua rs) (hub : SlD w ub os) (huc : SlD w uc ws)
    (hl1 : rs.length ≤ 1073741824) (hl2 : os.length ≤ 1073741824) (hl3 : ws.length ≤ 1073741824) :
    Calls Tryz.prog 13 #[.agg (sigC i va vb vc), .agg (sigC i ua ub uc)] w fun e w' => e = .returned (.bool true) ∧ Ext w w' := by
  have H7 := fun w' (E : Ext w w') => Lib.hid (r7Same_eq va vb ua ub rs os w' (ha.ext E) (hb.ext E) (hua.ext E) (hub.ext E) hl1 hl2)
  have H8 := fun w' (E : Ext w w') => Lib.hid (r8Same_eq vc uc ws w' (hc.ext E) (huc.ext E) hl3)
  have hB0 := Blk.new w 44 (sigC i va vb vc)
  have hB1 := Blk.new (w.alloc (.cells (sigC i va vb vc) 44)) 44 (sigC i ua ub uc)
  have hB0' := hB0.alloc (.cells (sigC i ua ub uc) 44)
  rw [World.size_alloc] at hB1
  have E3 : Ext w ((w.alloc (.cells (sigC i va vb vc) 44)).alloc (.cells (sigC i ua ub uc) 44)) := ((Ext.refl w).alloc _).alloc _
  have hii : (i == i) = true := by simp
  have hi1 : (Tryz.prog.info? 42).map (·.size) = some 2 := info_one
  have pcs := fun (w' : World) (g : Nat) (a b c : Value) (hb : Blk w' g 44 (sigC i a b c)) => Lib.hid (And.intro (sigC_cells hb) (sigC_once hb))
  obtain ⟨P, hP⟩ : ∃ P, P = sigC i va vb vc := ⟨_, rfl⟩
  obtain ⟨S, hS⟩ : ∃ S, S = sigC i ua ub uc := ⟨_, rfl⟩
  have p0 := fun w' (hb : Blk w' w.heap.size 44 P) => pcs w' w.heap.size va vb vc (by rw [← hP]; exact hb)
  have p1 := fun w' (hb : Blk w' (w.heap.size + 1) 44 S) => pcs w' (w.heap.size + 1) ua ub uc (by rw [← hS]; exact hb)
  rw [← hS] at hB1 hB0' E3 ⊢
  rw [← hP] at hB0 hB1 hB0' E3 ⊢
  clear hP hS hB0 ha hb hc hua hub huc pcs
  have q0 := (p0 _ hB0').out
  have q1 := (p1 _ hB1).out
  have c0 := q0.1.1
  have c1 := q1.1.1
  have d0 := q0.1.2.2.2
  have d1 := q1.1.2.2.2
  have O0 := Lib.hid q0.2
  have O1 := Lib.hid q1.2
  clear q0 q1 hB0' hB1
  go_enter Tryz.func13, Tryz.ntmps13
  go_wp2_with (first | (refine wpList_unguard rfl ?_; refine wpList_load_mid O0.out rfl 42 _ rfl rfl Tryz.underlying42 rfl hi1 ?_) | (refine wpList_unguard rfl ?_; refine wpList_load_mid O1.out rfl 42 _ rfl rfl Tryz.underlying42 rfl hi1 ?_))
  have pack := And.intro d0 (And.intro d1 E3)
  clear d0 d1 E3 O0 O1 c0 c1 p0 p1
  revert pack
  generalize (w.alloc (.cells P 44)).alloc (.cells S 44) = w3
  rintro ⟨d0, d1, E3⟩
  with_reducible refine (H7 _ E3).out.mono ?_
  rintro e w4 ⟨rfl, E4⟩
  replace d0 := E4.cell d0
  replace d1 := E4.cell d1
  go_wp2_with fail
  with_reducible refine (H8 _ (E3.trans E4)).out.mono ?_
  rintro e w5 ⟨rfl, E5⟩
  go_wp2
  go_ret
  exact ⟨rfl, (E3.trans E4).trans E5⟩

theorem decW_flat {way : List (List UInt8)} (h : dsOk way) : decW way.flatten way.length = way := by
  apply List.ext_getElem
  · simp [decW]
  · intro k hk1 hk2
    simp only [decW, List.getElem_map, List.getElem_range, dW]
    exact dsOk_at h hk2
/-- a signature's code is decoded to it -/
theorem sig_back {i : Nat} {rev oth way : List (List UInt8)} {b : Nat} (hr : dsOk rev) (ho : dsOk oth) (hw : dsOk way) (h1 : rev.length = b) (h2 : oth.length = b) (hi : i ≤ 1073741824) :
    decOk (sigB i rev oth way) b way.length = true ∧ numB ((sigB i rev oth way).take 4) = i ∧ decR (((sigB i rev oth way).drop 4).take (64 * b)) b = rev ∧ decO (((sigB i rev oth way).drop 4).take (64 * b)) b = oth ∧
      decW (((sigB i rev oth way).drop 4).drop (64 * b)) way.length = way := by
  have e1 : sigB i rev oth way = putB i 4 ++ (encS rev oth b ++ way.flatten) := by rw [sigB, h1, List.append_assoc]
  have l1 := putB_length i 4
  have l2 := encS_length rev oth b hr ho (by omega) (by omega)
  have l3 := dsOk_length hw
  have t1 : (sigB i rev oth way).take 4 = putB i 4 := by rw [e1, List.take_append_of_le_length (by omega), List.take_of_length_le (by omega)]
  have t2 : (sigB i rev oth way).drop 4 = encS rev oth b ++ way.flatten := by rw [e1, List.drop_append, List.drop_of_length_le (by omega), List.nil_append, l1, Nat.sub_self, List.drop_zero]
  have t3 : ((sigB i rev oth way).drop 4).take (64 * b) = encS rev oth b := by rw [t2, List.take_append_of_le_length (by omega), List.take_of_length_le (by omega)]
  have t4 : ((sigB i rev oth way).drop 4).drop (64 * b) = way.flatten := by rw [t2, List.drop_append, List.drop_of_length_le (by omega), List.nil_append, l2, Nat.sub_self, List.drop_zero]
  rw [t1, t3, t4]
  have hn := numB_put4 i (by omega)
  refine ⟨(decOk_iff _ _ _).2 ⟨?_, by rw [t1, hn]; exact hi⟩, hn, decR_enc hr ho h1 h2, decO_enc hr ho h1 h2, decW_flat hw⟩
  rw [e1, List.length_append, List.length_append, l1, l2, l3]
  omega
theorem sigB_length {i : Nat} {rev oth way : List (List UInt8)} {b : Nat} (hr : dsOk rev) (ho : dsOk oth) (hw : dsOk way) (h1 : rev.length = b) (h2 : oth.length = b) : (sigB i rev oth way).length = 4 + 64 * b + 32 * way.length := by
  rw [sigB, h1, List.length_append, List.length_append, putB_length, encS_length rev oth b hr ho (by omega) (by omega), dsOk_length hw]
/-- what is signed holds -/
theorem sign_holds (seed m : List UInt8) (b h i : Nat) (hi : i < 2 ^ h) : climbB (impB m (signR seed i m b) (signO seed i m b)) i (sigWay seed b h i) = pubB seed b h := by
  rw [impB_sign, ← lvsB_at seed b h i hi]
  exact climb_way (lvsB_length seed b h) hi
theorem sigWay_length (seed : List UInt8) (b h i : Nat) : (sigWay seed b h i).length = h := wayT_length _ _ _
theorem sigWay_ok (seed : List UInt8) (b h i : Nat) (hi : i < 2 ^ h) : dsOk (sigWay seed b h i) := wayT_ok (lvsB_ok _ _ _) (lvsB_length _ _ _) hi (Nat.le_refl _)
end Go.Proofs.YtddbmddblhjkkaaGreatDoor
/- The contract of pursuivantlaw09.lives: it answers true. -/
namespace Go.Proofs.YtddbmddblhjkkaaGreatDoor
open Go.RowKit Go.Maps

def seedK : List UInt8 := [107]
def mM : List UInt8 := [109]
def mN : List UInt8 := [110]
def uOne : Int → Option (List UInt8) := fun j => if j = 0 then some mM else none
theorem uOne_0 : uOne 0 = some mM := rfl
theorem uOne_1 : uOne 1 = none := rfl

/-- what New, Sign and SignAt answer here -/
theorem new_lives (v : Value) (w : World) (hK : Kst w) (hv : Sl w v seedK) :
    Calls Tryz.prog 6 #[v, .int .i64 8, .int .i64 1] w fun e w' => ∃ S M, e = .returned (.tuple #[.pointer (some ⟨S, 0, none⟩), .int .i64 0]) ∧ Sgn w' S M seedK 8 1 (fun _ => none) 0 ∧ w.heap.size ≤ S ∧ w.heap.size ≤ M ∧ Ext w w' :=
  sNew_yes v seedK 8 1 w hK hv (by decide) (by decide)
theorem sign_lives (S M : Nat) (v : Value) (w : World) (hK : Kst w) (s : Sgn w S M seedK 8 1 (fun _ => none) 0) (hv : Sl w v mM) :
    Calls Tryz.prog 9 #[.pointer (some ⟨S, 0, none⟩), v] w fun e w' => ∃ rv ov pv, e = .returned (.tuple #[.agg #[.int .i64 0, rv, ov, pv], .int .i64 0]) ∧ SlD w' rv (signR seedK 0 mM 8) ∧ SlD w' ov (signO seedK 0 mM 8) ∧ SlD w' pv (sigWay seedK 8 1 0) ∧ Sgn w' S M seedK 8 1 uOne 1 ∧ Mv M w w' :=
  sSign_yes S M seedK 8 1 (fun _ => none) 0 w hK s v mM hv (by decide) 0 (by decide) (by decide) rfl (fun j hj => absurd hj (by omega))
theorem signN_lives (S M : Nat) (v : Value) (w : World) (hK : Kst w) (s : Sgn w S M seedK 8 1 uOne 1) (hv : Sl w v mN) :
    Calls Tryz.prog 11 #[.pointer (some ⟨S, 0, none⟩), .int .i64 0, v] w fun e w' => e = .returned (.tuple #[.agg noSig, .int .i64 90]) ∧ Ext w w' :=
  sSignAt_used S M seedK 8 1 uOne 1 w hK s 0 v mN mM hv (by decide) (by decide) rfl (by decide)
theorem signM_lives (S M : Nat) (v : Value) (w : World) (hK : Kst w) (s : Sgn w S M seedK 8 1 uOne 1) (hv : Sl w v mM) :
    Calls Tryz.prog 11 #[.pointer (some ⟨S, 0, none⟩), .int .i64 0, v] w fun e w' => ∃ rv ov pv, e = .returned (.tuple #[.agg #[.int .i64 0, rv, ov, pv], .int .i64 0]) ∧ SlD w' rv (signR seedK 0 mM 8) ∧ SlD w' ov (signO seedK 0 mM 8) ∧ SlD w' pv (sigWay seedK 8 1 0) ∧ Sgn w' S M seedK 8 1 uOne 1 ∧ Mv M w w' := by
  refine (sSignAt_yes S M seedK 8 1 uOne 1 w hK s 0 v mM hv (by decide) (by decide) (by decide) (.inr rfl)).mono ?_
  rintro e w' ⟨rv, ov, pv, rfl, h1, h2, h3, h4, h5⟩
  have hu : (fun j => if j = ((0 : Nat) : Int) then some mM else uOne j) = uOne := by
    funext j
    show (if j = 0 then some mM else uOne j) = uOne j
    unfold uOne
    split <;> rfl
  rw [hu] at h4
  exact ⟨rv, ov, pv, rfl, h1, h2, h3, h4, h5⟩
theorem public_lives (v : Value) (w : World) (hK : Kst w) (hv : Sl w v seedK) :
    Calls Tryz.prog 20 #[v, .int .i64 8, .int .i64 1] w fun e w' => e = .returned (.tuple #[.agg (pkC 8 1 (pubB seedK 8 1)), .int .i64 0]) ∧ Ext w w' :=
  public_yes v seedK 8 1 w hK hv (by decide) (by decide)
theorem pub_lives (S M : Nat) (w : World) (s : Sgn w S M seedK 8 1 uOne 1) :
    Calls Tryz.prog 18 #[.pointer (some ⟨S, 0, none⟩)] w fun e w' => e = .returned (.agg (pkC 8 1 (pubB seedK 8 1))) ∧ Ext w w' := sPublic_any S M seedK 8 1 uOne 1 w s
theorem left_lives (S M : Nat) (w : World) (s : Sgn w S M seedK 8 1 uOne 1) : Calls Tryz.prog 14 #[.pointer (some ⟨S, 0, none⟩)] w fun e w' => e = .returned (.int .i64 1) ∧ Ext w w' := sLeft_any S M seedK 8 1 uOne 1 w s (by decide)
theorem used0_lives (S M : Nat) (w : World) (s : Sgn w S M seedK 8 1 uOne 1) : Calls Tryz.prog 17 #[.pointer (some ⟨S, 0, none⟩), .int .i64 0] w fun e w' => e = .returned (.bool true) ∧ w = w' := sUsed_any S M seedK 8 1 uOne 1 0 w s (by decide)
theorem used1_lives (S M : Nat) (w : World) (s : Sgn w S M seedK 8 1 uOne 1) : Calls Tryz.prog 17 #[.pointer (some ⟨S, 0, none⟩), .int .i64 1] w fun e w' => e = .returned (.bool false) ∧ w = w' := sUsed_any S M seedK 8 1 uOne 1 1 w s (by decide)
theorem encode_lives (rv ov wv : Value) (rev oth way : List (List UInt8)) (w : World) (hrv : SlD w rv rev) (hov : SlD w ov oth) (hwv : SlD w wv way) (h1 : rev.length = 8) (h2 : oth.length = 8) (h3 : way.length = 1) :
    Calls Tryz.prog 21 #[.agg #[.int .i64 0, rv, ov, wv]] w fun e w' => ∃ v, e = .returned (.tuple #[v, .int .i64 0]) ∧ Sl w' v (sigB 0 rev oth way) ∧ Ext w w' :=
  sEncode_yes 0 rv ov wv rev oth way w hrv hov hwv (by rw [h1, h2, h3]; decide)
theorem decode_lives (r : List UInt8) (v : Value) (rev oth way : List (List UInt8)) (w : World) (hr : r.length = 32) (hv : Sl w v (sigB 0 rev oth way)) (o1 : dsOk rev) (o2 : dsOk oth) (o3 : dsOk way) (h1 : rev.length = 8) (h2 : oth.length = 8) (h3 : way.length = 1) :
    Calls Tryz.prog 22 #[.agg (pkC 8 1 r), v] w fun e w' => ∃ rv ov wv, e = .returned (.tuple #[.agg #[.int .i64 0, rv, ov, wv], .int .i64 0]) ∧ SlD w' rv rev ∧ SlD w' ov oth ∧ SlD w' wv way ∧ Ext w w' := by
  obtain ⟨p1, p2, p3, p4, p5⟩ := sig_back (i := 0) o1 o2 o3 h1 h2 (by omega)
  rw [h3] at p1 p5
  have hl := sigB_length (i := 0) o1 o2 o3 h1 h2
  have := sDecode_yes 8 1 r v (sigB 0 rev oth way) w hr (by decide) hv (by rw [hl, h3]; omega) p1
  rw [p2, p3, p4, p5] at this
  exact this
theorem verify_lives (r m : List UInt8) (mv rv ov wv : Value) (rev oth way : List (List UInt8)) (w : World) (hK : Kst w) (hr : r.length = 32) (hmv : Sl w mv m) (hlm : m.length ≤ 1048576) (hrv : SlD w rv rev) (hov : SlD w ov oth) (hwv : SlD w wv way)
    (h1 : rev.length = 8) (h2 : oth.length = 8) (h3 : way.length = 1) (hc : climbB (impB m rev oth) 0 way = r) :
    Calls Tryz.prog 16 #[.agg (pkC 8 1 r), mv, .agg #[.int .i64 0, rv, ov, wv]] w fun e w' => e = .returned (.bool true) ∧ Ext w w' := by
  have := verify_whole 0 r m mv rv ov wv rev oth way w hK hr hmv hlm hrv hov hwv (by rw [h1, h3]; decide)
  rw [h1, h2, h3, show (wholeB 8 8 && climbOk 1 0) = true by decide, Bool.true_and, show (0 : Int).toNat = 0 from rfl, hc, decide_eq_true rfl] at this
  exact this
end Go.Proofs.YtddbmddblhjkkaaGreatDoor
/- One operation of a region: a call by its callee's contract; a value; a load of a whole block. No program. -/
namespace Go.Proofs.YtddbmddblhjkkaaGreatDoor
open Go.RowKit

section
variable {P : Program} {o : Oper} {a : Act} {w : World} {K : Act → World → Prop} {Q : Exit → Act → World → Prop}
theorem wp_call {f : FuncId} {vals : Array Value} {R : Ending → World → Prop} (ho : execOp a.eval o = callFunc f vals) (he : (callFunc f vals).run P w = .ok (.enter f vals) w) (hc : Calls P f vals w R)
    (h : ∀ e w', R e w' → ∃ v, e = .returned v ∧ K (a.put o.dst v) w') : o.wp P a w K Q := by
  unfold Oper.wp
  rw [ho, he]
  refine Calls.mono hc ?_
  intro e w' hR
  obtain ⟨v, rfl, hk⟩ := h e w' hR
  exact hk
theorem wp_value {v : Value} {w' : World} (ho : (execOp a.eval o).run P w = .ok (.value v) w') (h : K (a.put o.dst v) w') : o.wp P a w K Q := by
  unfold Oper.wp
  rw [ho]
  exact h
theorem load_blk {g : Nat} {t ty : TypeId} {cs : Array Value} (h : Blk w g t cs) {d : TypeDesc} (hu : P.underlying ty = some d) (hd : d.isRow = true) (hi : (P.info? ty).map (·.size) = some cs.size) :
    (Instr.loadAt ty (.pointer (some ⟨g, 0, none⟩))).run P w = .ok (.agg cs) w := by
  have := run_loadAt_mid (P := P) w g 0 ty cs.toList _ (fun j v hv => by rw [Nat.zero_add, h.cell]; simpa using hv) hu hd (by simpa using hi)
  simpa using this
end
end Go.Proofs.YtddbmddblhjkkaaGreatDoor
/- The contract of pursuivantlaw09.lives: it answers true. -/
namespace Go.Proofs.YtddbmddblhjkkaaGreatDoor
open Go.RowKit Go.Maps

theorem sl_k (w : World) (H : Nat) (h : w.heap.size = H) (x : UInt8) : Sl (w.alloc (.cells #[.int .u8 (x.toNat : Int)] 5 (1, 2))) (.slice (some ⟨H, 0, none⟩) 1 1) [x] := sl_mark w 5 (1, 2) [x] H h

set_option maxRecDepth 100000 in
set_option maxHeartbeats 4000000 in
theorem lives9_any (w : World) (hK : Kst w) : Calls Tryz.prog 5 #[] w fun e w' => e = .returned (.bool true) ∧ Ext w w' := by
  have kc := conv_const
  obtain ⟨R, hR⟩ : ∃ R, R = signR seedK 0 mM 8 := ⟨_, rfl⟩
  obtain ⟨O, hO⟩ : ∃ O, O = signO seedK 0 mM 8 := ⟨_, rfl⟩
  obtain ⟨Y, hY⟩ : ∃ Y, Y = sigWay seedK 8 1 0 := ⟨_, rfl⟩
  obtain ⟨r, hr⟩ : ∃ r, r = pubB seedK 8 1 := ⟨_, rfl⟩
  have hRl : Hid (R.length = 8) := by rw [hR]; exact Lib.hid (signR_length _ _ _ _)
  have hOl : Hid (O.length = 8) := by rw [hO]; exact Lib.hid (signO_length _ _ _ _)
  have hYl : Hid (Y.length = 1) := by rw [hY]; exact Lib.hid (sigWay_length _ _ _ _)
  have hrl : Hid (r.length = 32) := by rw [hr]; exact Lib.hid (pubB_length _ _ _)
  have hhold : Hid (climbB (impB mM R O) 0 Y = r) := by rw [hR, hO, hY, hr]; exact Lib.hid (sign_holds seedK mM 8 1 0 (by decide))
  have Hnew := Lib.hid (new_lives (.slice (some ⟨w.heap.size, 0, none⟩) 1 1) (w.alloc (.cells #[.int .u8 107] 5 (1, 2))) (hK.ext ((Ext.refl w).alloc _)) (sl_k w _ rfl 107))
  have Hsign := fun S M v w' hK' s hv => Lib.hid (sign_lives S M v w' hK' s hv)
  have HsignN := fun S M v w' hK' s hv => Lib.hid (signN_lives S M v w' hK' s hv)
  have HsignM := fun S M v w' hK' s hv => Lib.hid (signM_lives S M v w' hK' s hv)
  have Hpublic := fun v w' hK' hv => Lib.hid (public_lives v w' hK' hv)
  have Hpub := fun S M w' s => Lib.hid (pub_lives S M w' s)
  rw [← hR, ← hO, ← hY] at Hsign HsignM
  rw [← hr] at Hpublic Hpub
  clear hR hO hY hr
  have ip : Hid ((Tryz.prog.info? 35).map (·.size) = some (pkC 8 1 r).size) := info_pkC 8 1 r hrl.out
  have sp : Hid (zeroPk.size = (pkC 8 1 r).size) := zeroPk_size 8 1 r hrl.out
  obtain ⟨P, hP⟩ : ∃ P, P = pkC 8 1 r := ⟨_, rfl⟩
  have op : Hid (P.all (·.oneCell') = true) := by rw [hP]; exact Lib.hid (pkC_one _ _ _)
  have heq : ∀ w, (Op.equalIn 10000 35 (.agg P) (.agg P)).run Tryz.prog w = .ok true w := by rw [hP]; exact equal_pk 8 1 r hrl.out
  simp only [← hP] at Hpublic Hpub ip sp
  have HP := Lib.hid hP
  clear hP
  go_enter Tryz.func5, Tryz.ntmps5
  go_wp2_with fail
  with_reducible refine Hnew.out.mono ?_
  rintro e w1 ⟨S, M, rfl, s1, hS, hM, E1'⟩
  have E1 : Ext w w1 := ((Ext.refl w).alloc _).trans E1'
  have hM1 : w.heap.size ≤ M := by simp at hM; omega
  clear E1' Hnew hS hM
  have Hs := Hsign S M (.slice (some ⟨w1.heap.size, 0, none⟩) 1 1) (w1.alloc (.cells #[.int .u8 109] 5 (1, 2))) (hK.ext (E1.alloc _)) (s1.ext ((Ext.refl _).alloc _)) (sl_k w1 _ rfl 109)
  go_wp2_with fail
  with_reducible refine Hs.out.mono ?_
  rintro e w2 ⟨rv, ov, pv, rfl, R2, O2, Y2, s2, V2⟩
  have F2 : Ext w w2 := (E1.alloc _).grown V2.1 (fun k e => by injection e with e; omega)
  clear Hs Hsign s1 E1 V2
  obtain ⟨Ar, cr, rfl, hcr⟩ := R2.form
  obtain ⟨Ao, co, rfl, hco⟩ := O2.form
  obtain ⟨Ap, cp, rfl, hcp⟩ := Y2.form
  rw [hRl.out] at R2 hcr ⊢
  rw [hOl.out] at O2 hco ⊢
  rw [hYl.out] at Y2 hcp ⊢
  obtain ⟨G, hG⟩ : ∃ G : Array Value, G = #[.int .i64 0, .slice Ar 8 cr, .slice Ao 8 co, .slice Ap 1 cp] := ⟨_, rfl⟩
  have og : Hid (G.all (·.oneCell') = true) := by rw [hG]; exact Lib.hid (sig_one _ _ _ _ _ _ _ _ _ _)
  have ig : Hid ((Tryz.prog.info? 44).map (·.size) = some G.size) := by rw [hG]; exact info_sig
  have ng : Hid (noSig.size = G.size) := by rw [hG]; exact Lib.hid rfl
  rw [← hG]
  have HG := Lib.hid hG
  clear hG
  go_wp2_with (first | (refine wpList_var rfl rfl 44 rfl _ _ rfl (.agg noSig) zero_sig G rfl rfl ig.out ng.out og.out ?_; intro w3 D3 E3))
  have F3 := F2.trans E3
  have s3 := s2.ext E3
  have R3 := Lib.hid (R2.ext E3)
  have O3 := Lib.hid (O2.ext E3)
  have Y3 := Lib.hid (Y2.ext E3)
  clear F2 E3 s2 R2 O2 Y2
  have Hp := Hpublic (.slice (some ⟨w3.heap.size, 0, none⟩) 1 1) (w3.alloc (.cells #[.int .u8 107] 5 (1, 2))) (hK.ext (F3.alloc _)) (sl_k w3 _ rfl 107)
  with_reducible refine Hp.out.mono ?_
  rintro e w4 ⟨rfl, E4'⟩
  have E4 : Ext w3 w4 := ((Ext.refl w3).alloc _).trans E4'
  have F4 := F3.trans E4
  have s4 := s3.ext E4
  replace D3 := D3.ext E4
  replace R3 := Lib.hid (R3.out.ext E4)
  replace O3 := Lib.hid (O3.out.ext E4)
  replace Y3 := Lib.hid (Y3.out.ext E4)
  clear E4 E4' F3 s3 Hp Hpublic
  go_wp2_with (first | (refine wpList_var rfl rfl 35 rfl _ _ rfl (.agg zeroPk) zero_pk P rfl rfl ip.out sp.out op.out ?_; intro w5 D5 E5; replace D3 := D3.ext E5) | (have _ := D5; refine wpList_load_blk D3 rfl 44 _ rfl rfl Tryz.underlying44 rfl ig.out ?_))
  have F5 := F4.trans E5
  have s5 := s4.ext E5
  have He := Lib.hid (encode_lives (.slice Ar 8 cr) (.slice Ao 8 co) (.slice Ap 1 cp) R O Y w5 (R3.out.ext E5) (O3.out.ext E5) (Y3.out.ext E5) hRl.out hOl.out hYl.out)
  rw [← HG.out] at He
  replace R3 := Lib.hid (R3.out.ext E5)
  replace O3 := Lib.hid (O3.out.ext E5)
  replace Y3 := Lib.hid (Y3.out.ext E5)
  clear F4 E5 s4
  with_reducible refine He.out.mono ?_
  rintro e w6 ⟨v6, rfl, S6, E6⟩
  have F6 := F5.trans E6
  have s6 := s5.ext E6
  replace D3 := D3.ext E6
  replace D5 := D5.ext E6
  have Hd := Lib.hid (decode_lives r v6 R O Y w6 hrl.out S6 R3.out.2 O3.out.2 Y3.out.2 hRl.out hOl.out hYl.out)
  have hbl := sigB_length (i := 0) R3.out.2 O3.out.2 Y3.out.2 hRl.out hOl.out
  rw [hYl.out] at hbl
  rw [← HP.out] at Hd
  replace R3 := Lib.hid (R3.out.ext E6)
  replace O3 := Lib.hid (O3.out.ext E6)
  replace Y3 := Lib.hid (Y3.out.ext E6)
  obtain ⟨A6, c6, rfl, hc6⟩ := S6.form
  rw [hbl] at hc6 ⊢
  rw [hbl] at Hd
  clear He F5 E6 s5 S6 hbl
  go_wp2_with (first | (have _ := D3; refine wpList_load_blk D5 rfl 35 _ rfl rfl Tryz.underlying35 rfl ip.out ?_))
  with_reducible refine Hd.out.mono ?_
  rintro e w7 ⟨r7, o7, y7, rfl, R7, O7, Y7, E7⟩
  have F7 := F6.trans E7
  have s7 := s6.ext E7
  replace D3 := D3.ext E7
  replace D5 := D5.ext E7
  replace R3 := Lib.hid (R3.out.ext E7)
  replace O3 := Lib.hid (O3.out.ext E7)
  replace Y3 := Lib.hid (Y3.out.ext E7)
  obtain ⟨Br, dr, rfl, _⟩ := R7.form
  obtain ⟨Bo, do', rfl, _⟩ := O7.form
  obtain ⟨Bp, dp, rfl, _⟩ := Y7.form
  clear Hd F6 E7 s6
  have o9 : Hid ((#[.int .i64 0, .slice Br R.length dr, .slice Bo O.length do', .slice Bp Y.length dp] : Array Value).all (·.oneCell') = true) := Lib.hid (sig_one _ _ _ _ _ _ _ _ _ _)
  go_wp2_with (first | (refine wpList_var rfl rfl 44 rfl _ _ rfl (.agg noSig) zero_sig #[.int .i64 0, .slice Br R.length dr, .slice Bo O.length do', .slice Bp Y.length dp] rfl rfl info_sig rfl o9.out ?_; intro w9 D9 E9; replace D3 := D3.ext E9; replace D5 := D5.ext E9))
  have F9 := F7.trans E9
  have s9 := s7.ext E9
  replace R3 := Lib.hid (R3.out.ext E9)
  replace O3 := Lib.hid (O3.out.ext E9)
  replace Y3 := Lib.hid (Y3.out.ext E9)
  replace R7 := Lib.hid (R7.ext E9)
  replace O7 := Lib.hid (O7.ext E9)
  replace Y7 := Lib.hid (Y7.ext E9)
  clear F7 E9 s7
  have Hn := HsignN S M (.slice (some ⟨w9.heap.size, 0, none⟩) 1 1) (w9.alloc (.cells #[.int .u8 110] 5 (1, 2))) (hK.ext (F9.alloc _)) (s9.ext ((Ext.refl _).alloc _)) (sl_k w9 _ rfl 110)
  with_reducible refine Hn.out.mono ?_
  rintro e w10 ⟨rfl, E10'⟩
  have E10 : Ext w9 w10 := ((Ext.refl w9).alloc _).trans E10'
  have F10 := F9.trans E10
  have s10 := s9.ext E10
  replace D3 := D3.ext E10
  replace D5 := D5.ext E10
  replace D9 := D9.ext E10
  replace R3 := Lib.hid (R3.out.ext E10)
  replace O3 := Lib.hid (O3.out.ext E10)
  replace Y3 := Lib.hid (Y3.out.ext E10)
  replace R7 := Lib.hid (R7.out.ext E10)
  replace O7 := Lib.hid (O7.out.ext E10)
  replace Y7 := Lib.hid (Y7.out.ext E10)
  clear F9 E10 E10' s9 Hn HsignN
  go_wp2_with (first | (refine wpList_var rfl rfl 44 rfl _ _ rfl (.agg noSig) zero_sig noSig rfl rfl info_sig rfl noSig_one ?_; intro w11 D11 E11; replace D3 := D3.ext E11; replace D5 := D5.ext E11; replace D9 := D9.ext E11; clear D11))
  have F11 := F10.trans E11
  have s11 := s10.ext E11
  replace R3 := Lib.hid (R3.out.ext E11)
  replace O3 := Lib.hid (O3.out.ext E11)
  replace Y3 := Lib.hid (Y3.out.ext E11)
  replace R7 := Lib.hid (R7.out.ext E11)
  replace O7 := Lib.hid (O7.out.ext E11)
  replace Y7 := Lib.hid (Y7.out.ext E11)
  clear F10 E11 s10
  have Hm := HsignM S M (.slice (some ⟨w11.heap.size, 0, none⟩) 1 1) (w11.alloc (.cells #[.int .u8 109] 5 (1, 2))) (hK.ext (F11.alloc _)) (s11.ext ((Ext.refl _).alloc _)) (sl_k w11 _ rfl 109)
  with_reducible refine Hm.out.mono ?_
  rintro e w12 ⟨r13, o13, y13, rfl, R13, O13, Y13, s12, V12⟩
  have F12 : Ext w w12 := (F11.alloc _).grown V12.1 (fun k e => by injection e with e; omega)
  replace D3 := V12.blk (D3.alloc _)
  replace D5 := V12.blk (D5.alloc _)
  replace D9 := V12.blk (D9.alloc _)
  replace R3 := Lib.hid (V12.slD (R3.out.ext ((Ext.refl _).alloc _)))
  replace O3 := Lib.hid (V12.slD (O3.out.ext ((Ext.refl _).alloc _)))
  replace Y3 := Lib.hid (V12.slD (Y3.out.ext ((Ext.refl _).alloc _)))
  replace R7 := Lib.hid (V12.slD (R7.out.ext ((Ext.refl _).alloc _)))
  replace O7 := Lib.hid (V12.slD (O7.out.ext ((Ext.refl _).alloc _)))
  replace Y7 := Lib.hid (V12.slD (Y7.out.ext ((Ext.refl _).alloc _)))
  obtain ⟨Cr, er, rfl, _⟩ := R13.form
  obtain ⟨Co, eo, rfl, _⟩ := O13.form
  obtain ⟨Cp, ep, rfl, _⟩ := Y13.form
  have o13 : Hid ((#[.int .i64 0, .slice Cr R.length er, .slice Co O.length eo, .slice Cp Y.length ep] : Array Value).all (·.oneCell') = true) := Lib.hid (sig_one _ _ _ _ _ _ _ _ _ _)
  clear Hm F11 V12 s11 HsignM
  go_wp2_with (first | (refine wpList_var rfl rfl 44 rfl _ _ rfl (.agg noSig) zero_sig #[.int .i64 0, .slice Cr R.length er, .slice Co O.length eo, .slice Cp Y.length ep] rfl rfl info_sig rfl o13.out ?_; intro w13 D13 E13; replace D3 := D3.ext E13; replace D5 := D5.ext E13; replace D9 := D9.ext E13))
  have F13 := F12.trans E13
  have s13 := s12.ext E13
  replace R3 := Lib.hid (R3.out.ext E13)
  replace O3 := Lib.hid (O3.out.ext E13)
  replace Y3 := Lib.hid (Y3.out.ext E13)
  replace R7 := Lib.hid (R7.out.ext E13)
  replace O7 := Lib.hid (O7.out.ext E13)
  replace Y7 := Lib.hid (Y7.out.ext E13)
  replace R13 := Lib.hid (R13.ext E13)
  replace O13 := Lib.hid (O13.ext E13)
  replace Y13 := Lib.hid (Y13.ext E13)
  clear F12 E13 s12
  have Hver := Lib.hid (fun w' (E : Ext w13 w') v (hv : Sl w' v mM) => verify_lives r mM v (.slice Ar 8 cr) (.slice Ao 8 co) (.slice Ap 1 cp) R O Y w' (hK.ext (F13.trans E)) hrl.out hv (by decide) (R3.out.ext E) (O3.out.ext E) (Y3.out.ext E) hRl.out hOl.out hYl.out hhold.out)
  rw [← HP.out, ← HG.out] at Hver
  have Hsm := Lib.hid (fun w' (E : Ext w13 w') => r9Same_eq 0 (.slice Ar 8 cr) (.slice Ao 8 co) (.slice Ap 1 cp) (.slice Br R.length dr) (.slice Bo O.length do') (.slice Bp Y.length dp) R O Y w' (R3.out.ext E) (O3.out.ext E) (Y3.out.ext E) (R7.out.ext E) (O7.out.ext E) (Y7.out.ext E) (by rw [hRl.out]; omega) (by rw [hOl.out]; omega) (by rw [hYl.out]; omega))
  have Hsn := Lib.hid (fun w' (E : Ext w13 w') => r9Same_eq 0 (.slice Ar 8 cr) (.slice Ao 8 co) (.slice Ap 1 cp) (.slice Cr R.length er) (.slice Co O.length eo) (.slice Cp Y.length ep) R O Y w' (R3.out.ext E) (O3.out.ext E) (Y3.out.ext E) (R13.out.ext E) (O13.out.ext E) (Y13.out.ext E) (by rw [hRl.out]; omega) (by rw [hOl.out]; omega) (by rw [hYl.out]; omega))
  simp only [sigC, ← HG.out] at Hsm Hsn
  have Hmay := Lib.hid (fun w' => sMay_any 8 1 r w')
  rw [← HP.out, show mayK 8 1 = true by decide] at Hmay
  have Hs13 := Lib.hid s13
  clear s13 R3 O3 Y3 R7 O7 Y7 R13 O13 Y13
  refine wp_region_chain 68 [(true, 0), (true, 1), (true, 2), (true, 3), (true, 4), (true, 5), (true, 6), (true, 7), (true, 9), (false, 8), (true, 10), (true, 11), (true, 12), (true, 13), (true, 16), (false, 14), (false, 15), (false, 17), (true, 18), (true, 19), (true, 20), (true, 21), (true, 22), (true, 23), (true, 24), (true, 25), (true, 26), (true, 27), (true, 28), (true, 29), (true, 30), (true, 31), (true, 32), (true, 33), (true, 34), (false, 35), (true, 36), (true, 37), (true, 38), (true, 39), (true, 40), (true, 41), (true, 42), (true, 43), (true, 44), (true, 45), (true, 46), (true, 47), (false, 48), (true, 49), (true, 50), (true, 51), (false, 52), (true, 53), (true, 54), (true, 55), (true, 56), (false, 57), (true, 58), (true, 59), (true, 60), (false, 61), (true, 62), (true, 63), (true, 64), (true, 65), (false, 66), (true, 67)] (fun w' => Ext w13 w') (by kernel_rfl) (by kernel_rfl) (Ext.refl w13).drew ?_
  have E13 : Ext w13 w13.drew := (Ext.refl w13).drew
  iterate 8
    refine wpTake_read _ _ ?_ rfl rfl ?_ ?_
    rotate_left 1
    focus
      intro wS hS
      go_simp
      first | done | with_reducible rfl
    simp only [Act.put, List.setIfInBounds_toArray, List.set_cons_zero, List.set_cons_succ]
  refine wpTake_load _ _ rfl rfl 35 _ rfl (.agg P) (fun wS hS => load_blk (D5.ext hS) Tryz.underlying35 rfl ip.out) ?_
  simp only [Act.put, List.setIfInBounds_toArray, List.set_cons_zero, List.set_cons_succ]
  refine wpTake_do _ _ rfl rfl (fun K hK' => ?_)
  refine wp_call ?_ (enters_of (P := Tryz.prog) Tryz.func18 (by kernel_rfl) rfl _ _) (Hpub S M _ (Hs13.out.ext E13)).out ?_
  focus
    rw [execOp_call_go]
    simp only [List.map_toArray, List.map_cons, List.map_nil, List.append_toArray, List.nil_append, List.append_nil]
    rfl
  rintro e w14 ⟨rfl, E14'⟩
  have E14 : Ext w13 w14 := E13.trans E14'
  clear E14'
  refine ⟨_, rfl, hK' _ _ E14 ?_⟩
  clear hK' K
  simp only [Act.put, List.setIfInBounds_toArray, List.set_cons_zero, List.set_cons_succ]
  iterate 3
    refine wpTake_read _ _ ?_ rfl rfl ?_ ?_
    rotate_left 1
    focus
      intro wS hS
      go_simp
      first | done | with_reducible rfl
    simp only [Act.put, List.setIfInBounds_toArray, List.set_cons_zero, List.set_cons_succ]
  refine wpTake_load _ _ rfl rfl 35 _ rfl (.agg P) (fun wS hS => load_blk (D5.ext hS) Tryz.underlying35 rfl ip.out) ?_
  simp only [Act.put, List.setIfInBounds_toArray, List.set_cons_zero, List.set_cons_succ]
  refine wpTake_load _ _ rfl rfl 44 _ rfl (.agg G) (fun wS hS => load_blk (D3.ext hS) Tryz.underlying44 rfl ig.out) ?_
  simp only [Act.put, List.setIfInBounds_toArray, List.set_cons_zero, List.set_cons_succ]
  refine wpTake_do _ _ rfl rfl (fun K hK' => ?_)
  refine wp_value (v := .slice (some ⟨w14.heap.size, 0, none⟩) 1 1) (w' := w14.alloc (.cells #[.int .u8 109] 5)) (by go_simp; first | done | with_reducible rfl) ?_
  refine hK' _ _ (E14.alloc _) ?_
  clear hK' K
  simp only [Act.put, List.setIfInBounds_toArray, List.set_cons_zero, List.set_cons_succ]
  refine wpTake_do _ _ rfl rfl (fun K hK' => ?_)
  refine wp_value (v := .slice (some ⟨w14.heap.size, 0, none⟩) 1 1) (w' := w14.alloc (.cells #[.int .u8 109] 5 (1, 2))) (by have kc' := kc w14 #[.int .u8 109] 1 1 w14.heap.size rfl; go_simp; first | done | with_reducible rfl) ?_
  refine hK' _ _ (E14.alloc _) ?_
  clear hK' K
  simp only [Act.put, List.setIfInBounds_toArray, List.set_cons_zero, List.set_cons_succ]
  have E14a : Ext w13 (w14.alloc (.cells #[.int .u8 109] 5 (1, 2))) := E14.alloc _
  refine wpTake_do _ _ rfl rfl (fun K hK' => ?_)
  refine wp_call ?_ (enters_of (P := Tryz.prog) Tryz.func16 (by kernel_rfl) rfl _ _) (Hver.out _ E14a _ (sl_k w14 _ rfl 109)) ?_
  focus
    rw [execOp_call_go]
    simp only [List.map_toArray, List.map_cons, List.map_nil, List.append_toArray, List.nil_append, List.append_nil]
    rfl
  rintro e w15 ⟨rfl, E15'⟩
  have E15 : Ext w13 w15 := E14a.trans E15'
  clear E15'
  refine ⟨_, rfl, hK' _ _ E15 ?_⟩
  clear hK' K
  simp only [Act.put, List.setIfInBounds_toArray, List.set_cons_zero, List.set_cons_succ]
  iterate 15
    refine wpTake_read _ _ ?_ rfl rfl ?_ ?_
    rotate_left 1
    focus
      intro wS hS
      go_simp
      first | done | with_reducible rfl
    simp only [Act.put, List.setIfInBounds_toArray, List.set_cons_zero, List.set_cons_succ]
  refine wpTake_load _ _ rfl rfl 44 _ rfl (.agg G) (fun wS hS => load_blk (D3.ext hS) Tryz.underlying44 rfl ig.out) ?_
  simp only [Act.put, List.setIfInBounds_toArray, List.set_cons_zero, List.set_cons_succ]
  refine wpTake_load _ _ rfl rfl 44 _ rfl (.agg #[.int .i64 0, .slice Br R.length dr, .slice Bo O.length do', .slice Bp Y.length dp]) (fun wS hS => load_blk (D9.ext hS) Tryz.underlying44 rfl info_sig) ?_
  simp only [Act.put, List.setIfInBounds_toArray, List.set_cons_zero, List.set_cons_succ]
  refine wpTake_do _ _ rfl rfl (fun K hK' => ?_)
  refine wp_call ?_ (enters_of (P := Tryz.prog) Tryz.func13 (by kernel_rfl) rfl _ _) (Hsm.out _ E15) ?_
  focus
    rw [execOp_call_go]
    simp only [List.map_toArray, List.map_cons, List.map_nil, List.append_toArray, List.nil_append, List.append_nil]
    rfl
  rintro e w16 ⟨rfl, E16'⟩
  have E16 : Ext w13 w16 := E15.trans E16'
  clear E16'
  refine ⟨_, rfl, hK' _ _ E16 ?_⟩
  clear hK' K
  simp only [Act.put, List.setIfInBounds_toArray, List.set_cons_zero, List.set_cons_succ]
  iterate 10
    refine wpTake_read _ _ ?_ rfl rfl ?_ ?_
    rotate_left 1
    focus
      intro wS hS
      go_simp
      first | done | with_reducible rfl
    simp only [Act.put, List.setIfInBounds_toArray, List.set_cons_zero, List.set_cons_succ]
  refine wpTake_load _ _ rfl rfl 44 _ rfl (.agg G) (fun wS hS => load_blk (D3.ext hS) Tryz.underlying44 rfl ig.out) ?_
  simp only [Act.put, List.setIfInBounds_toArray, List.set_cons_zero, List.set_cons_succ]
  refine wpTake_load _ _ rfl rfl 44 _ rfl (.agg #[.int .i64 0, .slice Cr R.length er, .slice Co O.length eo, .slice Cp Y.length ep]) (fun wS hS => load_blk (D13.ext hS) Tryz.underlying44 rfl info_sig) ?_
  simp only [Act.put, List.setIfInBounds_toArray, List.set_cons_zero, List.set_cons_succ]
  refine wpTake_do _ _ rfl rfl (fun K hK' => ?_)
  refine wp_call ?_ (enters_of (P := Tryz.prog) Tryz.func13 (by kernel_rfl) rfl _ _) (Hsn.out _ E16) ?_
  focus
    rw [execOp_call_go]
    simp only [List.map_toArray, List.map_cons, List.map_nil, List.append_toArray, List.nil_append, List.append_nil]
    rfl
  rintro e w17 ⟨rfl, E17'⟩
  have E17 : Ext w13 w17 := E16.trans E17'
  clear E17'
  refine ⟨_, rfl, hK' _ _ E17 ?_⟩
  clear hK' K
  simp only [Act.put, List.setIfInBounds_toArray, List.set_cons_zero, List.set_cons_succ]
  iterate 3
    refine wpTake_read _ _ ?_ rfl rfl ?_ ?_
    rotate_left 1
    focus
      intro wS hS
      go_simp
      first | done | with_reducible rfl
    simp only [Act.put, List.setIfInBounds_toArray, List.set_cons_zero, List.set_cons_succ]
  refine wpTake_do _ _ rfl rfl (fun K hK' => ?_)
  refine wp_call ?_ (enters_of (P := Tryz.prog) Tryz.func14 (by kernel_rfl) rfl _ _) (left_lives S M _ (Hs13.out.ext E17)) ?_
  focus
    rw [execOp_call_go]
    simp only [List.map_toArray, List.map_cons, List.map_nil, List.append_toArray, List.nil_append, List.append_nil]
    rfl
  rintro e w18 ⟨rfl, E18'⟩
  have E18 : Ext w13 w18 := E17.trans E18'
  clear E18'
  refine ⟨_, rfl, hK' _ _ E18 ?_⟩
  clear hK' K
  simp only [Act.put, List.setIfInBounds_toArray, List.set_cons_zero, List.set_cons_succ]
  iterate 4
    refine wpTake_read _ _ ?_ rfl rfl ?_ ?_
    rotate_left 1
    focus
      intro wS hS
      go_simp
      first | done | with_reducible rfl
    simp only [Act.put, List.setIfInBounds_toArray, List.set_cons_zero, List.set_cons_succ]
  refine wpTake_do _ _ rfl rfl (fun K hK' => ?_)
  refine wp_call ?_ (enters_of (P := Tryz.prog) Tryz.func17 (by kernel_rfl) rfl _ _) (used0_lives S M _ (Hs13.out.ext E18)) ?_
  focus
    rw [execOp_call_go]
    simp only [List.map_toArray, List.map_cons, List.map_nil, List.append_toArray, List.nil_append, List.append_nil]
    rfl
  rintro e w19 ⟨rfl, rfl⟩
  refine ⟨_, rfl, hK' _ _ E18 ?_⟩
  clear hK' K
  simp only [Act.put, List.setIfInBounds_toArray, List.set_cons_zero, List.set_cons_succ]
  iterate 3
    refine wpTake_read _ _ ?_ rfl rfl ?_ ?_
    rotate_left 1
    focus
      intro wS hS
      go_simp
      first | done | with_reducible rfl
    simp only [Act.put, List.setIfInBounds_toArray, List.set_cons_zero, List.set_cons_succ]
  refine wpTake_do _ _ rfl rfl (fun K hK' => ?_)
  refine wp_call ?_ (enters_of (P := Tryz.prog) Tryz.func17 (by kernel_rfl) rfl _ _) (used1_lives S M _ (Hs13.out.ext E18)) ?_
  focus
    rw [execOp_call_go]
    simp only [List.map_toArray, List.map_cons, List.map_nil, List.append_toArray, List.nil_append, List.append_nil]
    rfl
  rintro e w19 ⟨rfl, rfl⟩
  refine ⟨_, rfl, hK' _ _ E18 ?_⟩
  clear hK' K
  simp only [Act.put, List.setIfInBounds_toArray, List.set_cons_zero, List.set_cons_succ]
  iterate 3
    refine wpTake_read _ _ ?_ rfl rfl ?_ ?_
    rotate_left 1
    focus
      intro wS hS
      go_simp
      first | done | with_reducible rfl
    simp only [Act.put, List.setIfInBounds_toArray, List.set_cons_zero, List.set_cons_succ]
  refine wpTake_load _ _ rfl rfl 35 _ rfl (.agg P) (fun wS hS => load_blk (D5.ext hS) Tryz.underlying35 rfl ip.out) ?_
  simp only [Act.put, List.setIfInBounds_toArray, List.set_cons_zero, List.set_cons_succ]
  refine wpTake_do _ _ rfl rfl (fun K hK' => ?_)
  refine wp_call ?_ (enters_of (P := Tryz.prog) Tryz.func23 (by kernel_rfl) rfl _ _) (Hmay.out _) ?_
  focus
    rw [execOp_call_go]
    simp only [List.map_toArray, List.map_cons, List.map_nil, List.append_toArray, List.nil_append, List.append_nil]
    rfl
  rintro e w19 ⟨rfl, E19'⟩
  have E19 : Ext w13 w19 := E18.trans E19'
  clear E19'
  refine ⟨_, rfl, hK' _ _ E19 ?_⟩
  clear hK' K
  simp only [Act.put, List.setIfInBounds_toArray, List.set_cons_zero, List.set_cons_succ]
  iterate 1
    refine wpTake_read _ _ ?_ rfl rfl ?_ ?_
    rotate_left 1
    focus
      intro wS hS
      go_simp
      first | done | with_reducible rfl
    simp only [Act.put, List.setIfInBounds_toArray, List.set_cons_zero, List.set_cons_succ]
  refine wpTake_nil ?_
  go_wp2
  refine NoPanic.normal ?_
  go_wp2
  go_ret
  exact ⟨rfl, F13.trans E19⟩
end Go.Proofs.YtddbmddblhjkkaaGreatDoor
/- What every claim of this seat needs: 'post' of a law that answers true and leaves what was there, and the openers of its arguments. -/
namespace Go.Proofs.YtddbmddblhjkkaaGreatDoor
open Go.ChangeShapes Go.WideShapes Go.ChangeAt Go.RowKit

theorem laidOut : laidOutB Tryz.prog = true := by kernel_rfl
theorem own : ownKnob Tryz.prog.godebug = none := by kernel_rfl

section
variable {H : Type} {enc : TypeId × Value → H}

theorem trodAll_stays {P : Program} (hl : laidOutB P = true) {W W' : World} (hE : Ext W W') : ∀ (ts : List TypeId) (vs : List Value) (ds : List (DataW H)) (ps : List MemPlace), (∀ t ∈ ts, P.readableRec t = true ∧ t < P.types.size) →
    DataW.TrodAll enc P W 0 (fun _ => true) true ts vs ds ps → (∀ x ∈ ps, x.block < W.heap.size) → DataW.TrodAll enc P W' 0 (fun b => decide (b < W.heap.size)) true ts vs ds ps
  | [], vs, ds, ps, _, h, _ => by
    obtain ⟨rfl, rfl, rfl⟩ := trodAll_nil h
    exact trodAll_mk0
  | t :: ts, vs, ds, ps, ht, h, hlt => by
    obtain ⟨v, vs', d, ds', p, q, rfl, rfl, rfl, h0, h1⟩ := trodAll_cons h
    exact trodAll_cons_mk (Below.trod hl (ht t (by simp)).1 (ht t (by simp)).2 h0 hE (fun x hx => hlt x (by simp [hx]))) (trodAll_stays hl hE ts vs' ds' q (fun u hu => ht u (by simp [hu])) h1 (fun x hx => hlt x (by simp [hx])))

/-- a law that answers true and leaves all that was there -/
theorem post_true {P : Program} {f : Func} {s : ChangeSpec} {W W' : World} {args : Array Value} {ds gs : List (DataW H)} {before : List MemPlace} (t : TypeId) (hres : f.resultTypes = #[t]) (ht : P.underlying t = some .bool) (hvars : s.vars = []) (hl : laidOutB P = true)
    (hts : ∀ t ∈ f.params.toList, P.readableRec t = true ∧ t < P.types.size) (hW : DataW.Whole enc P f.params.toList s.vars false W args.toList ds gs before) (hfn : s.fn H ds = { results := [.lit (.bool true)], args := ds }) (hE : Ext W W') :
    s.post enc P f false true false false W args (.bool true) W' := by
  have hW0 := hW
  obtain ⟨p, q, hA, hV, rfl, _, _⟩ := hW
  rw [hvars] at hV
  obtain ⟨rfl, rfl⟩ := trodVars_none hV
  have hlt : ∀ x ∈ p, x.block < W.heap.size := fun x hx => by simpa using hW0.lt x (by simp [hx])
  refine ⟨ds, [], p ++ [], [], p, [], hW0, ?_, ?_, ?_, hE.frame _, fun h => by cases h⟩
  · rw [List.append_nil, hfn, hres]
    exact trodAll_cons_mk (shut_bool ht _) trodAll_mk0
  · rw [List.append_nil, hfn]
    exact trodAll_stays hl hE _ _ _ _ hts hA hlt
  · rw [List.append_nil, hfn, hvars]
    rfl

/-- an array of integers, read -/
theorem trod_ints {P : Program} {w : World} {base : Nat} {spare : Nat → Bool} {held : Bool} {t e : TypeId} {n : Nat} {k : IntKind} {fuel : Nat} {cs : List Value} {x : DataW H × List MemPlace} (ht : P.underlying t = some (.array n e)) (he : P.underlying e = some (.int k)) (hc : P.cellsOf e = 1) (hct : P.cellsOf t = n)
    (h : DataW.trod enc P w base spare held fuel t cs = some x) : ∃ zs : List Int, cs = zs.map (.int k) ∧ zs.length = n ∧ ∀ z ∈ zs, (Lit.int k z).wf = true := by
  cases fuel with
  | zero => simp [DataW.trod] at h
  | succ m =>
    unfold DataW.trod at h
    rw [ht] at h
    simp only [hc, hct, Nat.mul_one] at h
    split at h
    · next hlen =>
      obtain ⟨xs, hxs, _⟩ := Option.map_eq_some_iff.1 h
      have hg := mapM_some_get hxs
      have hxl := mapM_some_length hxs
      have key : ∀ i (hi : i < cs.length), ∃ z, cs[i] = .int k z ∧ (Lit.int k z).wf = true := by
        intro i hi
        have h1 := hg i i (by rw [List.getElem?_range (by omega)])
        have h2 : (cs.drop i).take 1 = [cs[i]] := by rw [List.drop_eq_getElem_cons hi]; rfl
        rw [h2, List.getElem?_eq_getElem (by simp at hxl; omega)] at h1
        cases m with
        | zero => simp [DataW.trod] at h1
        | succ m =>
          unfold DataW.trod at h1
          rw [he] at h1
          revert h1
          generalize cs[i] = c
          intro h1
          cases c <;> simp at h1
          next k' z => obtain ⟨⟨rfl, hw⟩, _⟩ := h1; exact ⟨z, rfl, hw⟩
      refine ⟨cs.map fun c => match c with | .int _ z => z | _ => 0, ?_, by simp [hlen], ?_⟩
      · refine List.ext_getElem (by simp) (fun i h1 h2 => ?_)
        obtain ⟨z, hz, _⟩ := key i h1
        simp [hz]
      · intro z hz
        obtain ⟨c, hc1, hc2⟩ := List.mem_map.1 hz
        obtain ⟨i, hi, rfl⟩ := List.getElem_of_mem hc1
        obtain ⟨z', hz', hw⟩ := key i hi
        rw [hz'] at hc2
        simp only at hc2
        subst hc2
        exact hw
    · cases h
end
end Go.Proofs.YtddbmddblhjkkaaGreatDoor
/- The table from the row's list; arguments of bytes and of the eight words opened; a world for the witness. -/
namespace Go.Proofs.YtddbmddblhjkkaaGreatDoor
open Go.ChangeShapes Go.WideShapes Go.ChangeAt Go.RowKit

theorem g_ks : Tryz.prog.globalNamed "pursuivant/sha.constants" = some 0 := by kernel_rfl
theorem g_ks_type : (Tryz.prog.globals[0]?).map (·.type) = some 140 := by kernel_rfl
theorem cells_a64 : Tryz.prog.cellsOf 140 = 64 := by kernel_rfl
theorem cells_u32 : Tryz.prog.cellsOf 125 = 1 := by kernel_rfl
theorem cells_u8 : Tryz.prog.cellsOf 5 = 1 := by kernel_rfl
theorem cells_a8 : Tryz.prog.cellsOf 126 = 8 := by kernel_rfl

/-- the row's list gives the table -/
theorem kst_of {W : World} (h : laidMetH Tryz.prog [("pursuivant/sha.constants", Rows.laid_pursuivant_sha_constants)] W) : Kst W := by
  have ht : Lib.TabIs Tryz.prog W "pursuivant/sha.constants" .u32 ks := Lib.tabIs_of_head (rest := []) g_ks g_ks_type Tryz.underlying140 Tryz.underlying125 cells_u32 cells_a64 h
  intro j v hv
  rw [Nat.zero_add]
  have hj : j < ks.length := by
    have := (List.getElem?_eq_some_iff.1 hv).1
    simpa [kvals] using this
  rw [ht.cell g_ks j hj, ← hv]
  simp [kvals, List.getElem?_eq_getElem hj]

section
variable {H : Type} {enc : TypeId × Value → H}
theorem u8_of {z : Int} (h : (Lit.int .u8 z).wf = true) : ((UInt8.ofNat z.toNat).toNat : Int) = z := by
  simp [Lit.wf, IntKind.min, IntKind.max, IntKind.signed, IntKind.bits] at h
  simp only [UInt8.toNat_ofNat']
  omega
theorem trod_bytes {w : World} {base : Nat} {spare : Nat → Bool} {held : Bool} {fuel : Nat} {v : Value} {x : DataW H × List MemPlace} (h : DataW.trod enc Tryz.prog w base spare held fuel 22 [v] = some x) : ∃ bs, Sl w v bs ∧ bs.length ≤ maxLen := by
  rcases open_ints Tryz.underlying22 Tryz.underlying5 cells_u8 h with ⟨hcs, _⟩ | ⟨a, len, cap, zs, hcs, _, hl, hm, hz, _, hcell, hwz⟩
  · simp at hcs
    subst hcs
    exact ⟨[], SlR.none_ _ _ _ _, by simp⟩
  · simp at hcs
    subst hcs
    have hlz : len ≤ zs.length := by rw [hz]; split <;> omega
    refine ⟨(zs.take len).map fun z => UInt8.ofNat z.toNat, ?_, by simp; omega⟩
    have hlen : ((zs.take len).map fun z => UInt8.ofNat z.toNat).length = len := by simp; omega
    unfold Sl
    rw [hlen]
    by_cases h0 : len = 0
    · subst h0
      exact ⟨by simp [bytesV], some a, cap, rfl, by omega, fun h => absurd h (by omega)⟩
    · obtain ⟨ab, ao, spot⟩ := a
      have hspot : spot = none := by simpa [Addr.add] using World.cell?_spot (hcell 0 (by omega))
      subst hspot
      refine SlR.of_cells (by rw [bytesV_length, hlen]; omega) hl (fun j u hu => ?_)
      have hj : j < len := by have := (List.getElem?_eq_some_iff.1 hu).1; rw [bytesV_length, hlen] at this; exact this
      have hc := hcell j (by omega)
      rw [Addr.add_lit] at hc
      rw [hc, ← hu]
      have hw := hwz zs[j] (List.getElem_mem _)
      have hw' := u8_of hw
      simp at hw'
      simp [bytesV, byteV, hj, List.getElem?_eq_getElem (show j < zs.length by omega)]
      omega
set_option maxRecDepth 100000 in
theorem open_bytes {w : World} {r : Reach} {b0 : Nat} {base : Nat} {spare : Nat → Bool} {held : Bool} {v : Value} {d : DataW H} {ps : List MemPlace} (hval : Value.okWide Tryz.prog w r b0 22 v) (h : DataW.Trod enc Tryz.prog w base spare held 22 v d ps) : ∃ bs, Sl w v bs ∧ bs.length ≤ maxLen := by
  obtain ⟨a1, len, cap, rfl⟩ := okWide_slice Tryz.underlying22 hval
  obtain ⟨fuel, hf⟩ := h
  exact trod_bytes hf
set_option maxRecDepth 100000 in
theorem open_a8 {w : World} {r : Reach} {b0 : Nat} {base : Nat} {spare : Nat → Bool} {held : Bool} {v : Value} {d : DataW H} {ps : List MemPlace} (hval : Value.okWide Tryz.prog w r b0 126 v) (h : DataW.Trod enc Tryz.prog w base spare held 126 v d ps) : ∃ s : St, v = .agg s.vals := by
  have hk := hval
  unfold Value.okWide at hk
  rw [Tryz.underlying126] at hk
  obtain ⟨cs, rfl, _, _⟩ := hk
  obtain ⟨fuel, hf⟩ := h
  obtain ⟨zs, hz, hl, _⟩ := trod_ints Tryz.underlying126 Tryz.underlying125 cells_u32 cells_a8 hf
  match zs, hl with
  | [a, b, c, d, e, f, g, h], _ =>
    refine ⟨⟨a, b, c, d, e, f, g, h⟩, ?_⟩
    have : cs = #[.int .u32 a, .int .u32 b, .int .u32 c, .int .u32 d, .int .u32 e, .int .u32 f, .int .u32 g, .int .u32 h] := by
      cases cs; simpa [Value.cells] using hz
    rw [this]; rfl
end

/-- a world for the witness: the table holds what its initialiser lays -/
noncomputable def laidWorld (os : Os) : World :=
  { World.holding Tryz.prog os ⟨#[], #[], []⟩ with heap := (World.holding Tryz.prog os ⟨#[], #[], []⟩).heap.modify 0 fun
      | .cells _ t frozen => .cells kvals.toArray t frozen
      | o => o }
end Go.Proofs.YtddbmddblhjkkaaGreatDoor
/- Arguments that are integers, strings, slices of slices of bytes, opened. -/
namespace Go.Proofs.YtddbmddblhjkkaaGreatDoor
open Go.ChangeShapes Go.WideShapes Go.ChangeAt Go.RowKit
open Go.ChangeMaps (open_string)

section
variable {H : Type} {enc : TypeId × Value → H}
set_option maxRecDepth 100000 in
theorem open_i64 {w : World} {r : Reach} {b0 : Nat} {base : Nat} {spare : Nat → Bool} {held : Bool} {v : Value} {d : DataW H} {ps : List MemPlace} (hval : Value.okWide Tryz.prog w r b0 3 v) (h : DataW.Trod enc Tryz.prog w base spare held 3 v d ps) : ∃ x : Int, v = .int .i64 x ∧ -9223372036854775808 ≤ x ∧ x ≤ 9223372036854775807 := by
  obtain ⟨x, rfl, rfl, rfl, wx⟩ := open_int Tryz.underlying3 hval h
  refine ⟨x, rfl, ?_⟩
  simp [Lit.wf, IntKind.min, IntKind.max, IntKind.signed, IntKind.bits] at wx
  omega
set_option maxRecDepth 100000 in
theorem open_str {w : World} {r : Reach} {b0 : Nat} {base : Nat} {spare : Nat → Bool} {held : Bool} {v : Value} {d : DataW H} {ps : List MemPlace} (hval : Value.okWide Tryz.prog w r b0 9 v) (h : DataW.Trod enc Tryz.prog w base spare held 9 v d ps) : ∃ s : ByteArray, v = .string s ∧ s.size ≤ maxLen := by
  obtain ⟨s, rfl, rfl, rfl, hs⟩ := open_string Tryz.underlying9 hval h
  exact ⟨s, rfl, hs⟩
theorem cells_bytes : Tryz.prog.cellsOf 22 = 1 := by kernel_rfl
theorem list_of {α : Type} (n : Nat) (f : Nat → α → Prop) (h : ∀ i, i < n → ∃ x, f i x) : ∃ l : List α, l.length = n ∧ ∀ i x, l[i]? = some x → f i x := by
  induction n with
  | zero => exact ⟨[], rfl, by intro i x h; simp at h⟩
  | succ n ih =>
    obtain ⟨l, hl, hx⟩ := ih (fun i hi => h i (by omega))
    obtain ⟨y, hy⟩ := h n (by omega)
    refine ⟨l ++ [y], by simp [hl], fun i x hi => ?_⟩
    by_cases hlt : i < l.length
    · rw [List.getElem?_append_left hlt] at hi
      exact hx i x hi
    · rw [List.getElem?_append_right (by omega)] at hi
      have h0 : i - l.length = 0 := by
        rcases Nat.eq_zero_or_pos (i - l.length) with h | h
        · exact h
        · rw [List.getElem?_eq_none (by simp; omega)] at hi; cases hi
      rw [h0] at hi
      simp at hi
      subst hi
      obtain rfl : i = n := by omega
      exact hy
set_option maxRecDepth 100000 in
theorem open_bb {w : World} {r : Reach} {b0 : Nat} {base : Nat} {spare : Nat → Bool} {held : Bool} {v : Value} {d : DataW H} {ps : List MemPlace} (hval : Value.okWide Tryz.prog w r b0 129 v) (h : DataW.Trod enc Tryz.prog w base spare held 129 v d ps) : ∃ bss, SlAll w v bss ∧ bss.length ≤ maxLen := by
  obtain ⟨a1, len, cap, rfl⟩ := okWide_slice Tryz.underlying129 hval
  obtain ⟨fuel, hf0⟩ := h
  have hf : DataW.trod enc Tryz.prog w base spare held fuel 129 [.slice a1 len cap] = some (d, ps) := hf0
  rcases Deep.open_slice1 Tryz.underlying129 cells_bytes hf with ⟨hcs, _⟩ | ⟨a, len', cap', m, n, V, D, Pl, hcs, _, hl, hm, hmm, _, hx⟩
  · simp at hcs
    obtain ⟨rfl, rfl, rfl⟩ := hcs
    exact ⟨[], ⟨[], SlR.none_ _ _ _ _, by intro i bs hi; simp at hi⟩, by simp⟩
  · simp at hcs
    obtain ⟨rfl, rfl, rfl⟩ := hcs
    have hlm : len ≤ m := by rw [hmm]; split <;> omega
    obtain ⟨bss, hbl, hbs⟩ := list_of len (fun i bs => Sl w (V i) bs) (fun i hi => by
      obtain ⟨bs, h1, _⟩ := trod_bytes (hx i (by omega)).2
      exact ⟨bs, h1⟩)
    refine ⟨bss, ⟨(List.range len).map V, ?_, fun i bs hi => ?_⟩, by omega⟩
    · rw [hbl]
      by_cases h0 : len = 0
      · subst h0
        exact ⟨by simp, some a, cap, rfl, by omega, fun h => absurd h (by omega)⟩
      · obtain ⟨ab, ao, spot⟩ := a
        have hspot : spot = none := by simpa [Addr.add] using World.cell?_spot (hx 0 (by omega)).1
        subst hspot
        refine SlR.of_cells (by simp) hl (fun j u hu => ?_)
        have hj : j < len := by have := (List.getElem?_eq_some_iff.1 hu).1; simpa using this
        have hc := (hx j (by omega)).1
        rw [Addr.add_lit] at hc
        rw [hc, ← hu]
        simp [hj]
    · have hi' : i < len := by have := (List.getElem?_eq_some_iff.1 hi).1; omega
      exact ⟨V i, by simp [hi'], hbs i bs hi⟩
end
end Go.Proofs.YtddbmddblhjkkaaGreatDoor
/- Arguments that are digests, slices of digests and one-time signatures, opened. -/
namespace Go.Proofs.YtddbmddblhjkkaaGreatDoor
open Go.ChangeShapes Go.WideShapes Go.ChangeAt Go.RowKit

section
variable {H : Type} {enc : TypeId × Value → H}
theorem cells_a32 : Tryz.prog.cellsOf 33 = 32 := by kernel_rfl
theorem cells_ds : Tryz.prog.cellsOf 40 = 1 := by kernel_rfl
/-- integers of bytes are bytes -/
theorem bytes_of {zs : List Int} (h : ∀ z ∈ zs, (Lit.int .u8 z).wf = true) : zs.map (Value.int .u8) = bytesV (zs.map fun z => UInt8.ofNat z.toNat) := by
  simp only [bytesV, List.map_map]
  refine List.map_congr_left (fun z hz => ?_)
  simp only [Function.comp, byteV]
  rw [u8_of (h z hz)]
theorem trod_a32 {w : World} {base : Nat} {spare : Nat → Bool} {held : Bool} {fuel : Nat} {cs : List Value} {x : DataW H × List MemPlace} (h : DataW.trod enc Tryz.prog w base spare held fuel 33 cs = some x) : ∃ d : List UInt8, cs = bytesV d ∧ d.length = 32 := by
  obtain ⟨zs, hz, hl, hw⟩ := trod_ints Tryz.underlying33 Tryz.underlying5 cells_u8 cells_a32 h
  exact ⟨zs.map fun z => UInt8.ofNat z.toNat, by rw [hz, bytes_of hw], by simp [hl]⟩
theorem trod_ds {w : World} {base : Nat} {spare : Nat → Bool} {held : Bool} {fuel : Nat} {v : Value} {x : DataW H × List MemPlace} (h : DataW.trod enc Tryz.prog w base spare held fuel 40 [v] = some x) : ∃ ds, SlD w v ds ∧ ds.length ≤ maxLen := by
  rcases Deep.open_slice Tryz.underlying40 h with ⟨hcs, _⟩ | ⟨a, len, cap, m, n, D, Pl, hcs, _, hl, hm, hmm, _, hx⟩
  · simp at hcs
    subst hcs
    exact ⟨[], SlD.none_ _ _ _, by simp⟩
  · simp at hcs
    subst hcs
    rw [cells_a32] at hx
    have hlm : len ≤ m := by rw [hmm]; split <;> omega
    obtain ⟨ds, hdl, hds⟩ := list_of len (fun i d => d.length = 32 ∧ ∀ j, j < 32 → w.cell? ((a.add (i * 32)).add j) = (bytesV d)[j]?) (fun i hi => by
      obtain ⟨cs', h1, h2⟩ := hx i (by omega)
      obtain ⟨d, rfl, hd⟩ := trod_a32 h2
      obtain ⟨_, _, h3⟩ := World.cells?_some h1
      exact ⟨d, hd, h3⟩)
    have hok : dsOk ds := fun d hd => by
      obtain ⟨i, hi, rfl⟩ := List.getElem_of_mem hd
      exact (hds i _ (List.getElem?_eq_getElem hi)).1
    refine ⟨ds, ⟨?_, hok⟩, by omega⟩
    rw [hdl]
    have hfl : (bytesV ds.flatten).length = len * 32 := by rw [bytesV_length, dsOk_length hok, hdl]; omega
    by_cases h0 : len = 0
    · subst h0
      exact ⟨hfl, some a, cap, rfl, by omega, fun h => absurd h (by omega)⟩
    · obtain ⟨ab, ao, spot⟩ := a
      have h00 := (hds 0 _ (List.getElem?_eq_getElem (by omega))).2 0 (by omega)
      have hd0 := (hds 0 _ (List.getElem?_eq_getElem (by omega))).1
      rw [bytesV_get _ 0 (by omega)] at h00
      have hspot : spot = none := by simpa [Addr.add] using World.cell?_spot h00
      subst hspot
      refine SlR.of_cells hfl hl (fun j u hu => ?_)
      have hj : j < 32 * ds.length := by have := (List.getElem?_eq_some_iff.1 hu).1; rw [bytesV_length, dsOk_length hok] at this; exact this
      have hk : j / 32 < ds.length := by omega
      have h1 := (hds (j / 32) _ (List.getElem?_eq_getElem hk)).2 (j % 32) (by omega)
      rw [Addr.add_lit, Addr.add_lit] at h1
      rw [show ao + j = ao + j / 32 * 32 + j % 32 by omega, h1, ← hu]
      have h2 := dsOk_get hok hk (show j % 32 < 32 by omega)
      rw [show j / 32 * 32 + j % 32 = j by omega] at h2
      simp only [bytesV, List.getElem?_map, h2]
set_option maxRecDepth 100000 in
theorem open_ds {w : World} {r : Reach} {b0 : Nat} {base : Nat} {spare : Nat → Bool} {held : Bool} {v : Value} {d : DataW H} {ps : List MemPlace} (hval : Value.okWide Tryz.prog w r b0 40 v) (h : DataW.Trod enc Tryz.prog w base spare held 40 v d ps) : ∃ ds, SlD w v ds ∧ ds.length ≤ maxLen := by
  obtain ⟨a1, len, cap, rfl⟩ := okWide_slice Tryz.underlying40 hval
  obtain ⟨fuel, hf⟩ := h
  exact trod_ds hf
set_option maxRecDepth 100000 in
theorem open_a32 {w : World} {r : Reach} {b0 : Nat} {base : Nat} {spare : Nat → Bool} {held : Bool} {v : Value} {d : DataW H} {ps : List MemPlace} (hval : Value.okWide Tryz.prog w r b0 33 v) (h : DataW.Trod enc Tryz.prog w base spare held 33 v d ps) : ∃ l : List UInt8, v = .agg (bytesV l).toArray ∧ l.length = 32 := by
  have hk := hval
  unfold Value.okWide at hk
  rw [Tryz.underlying33] at hk
  obtain ⟨cs, rfl, _, _⟩ := hk
  obtain ⟨fuel, hf⟩ := h
  obtain ⟨l, hl, h32⟩ := trod_a32 hf
  refine ⟨l, ?_, h32⟩
  have hcs : cs.toList = bytesV l := hl
  rw [← hcs]
end
end Go.Proofs.YtddbmddblhjkkaaGreatDoor
