/- PROVED: the law SignerPublics of package pursuivantlaw09 returns true at every input and leaves its arguments as they were: any key's public part, and whether it may be, are the reference's. CONDITION: the package-level variable sha.constants holds what its initialiser lays (the card ties it). -/
import Derived.Test.YtddbmddblhjkkaaDoorMgA5
import Derived.Test.YtddbmddblhjkkaaDoorMgA4
import Derived.Deep.Strs
import Derived.Test.YtddbmddblhjkkaaDoorMgA3
import Derived.Test.YtddbmddblhjkkaaDoorCards
import Derived.Test.YtddbmddblhjkkaaDoorTie
/- Arguments that are public keys, signatures and calls of a signer, opened. -/
namespace Go.Proofs.YtddbmddblhjkkaaDoor
open Go.ChangeShapes Go.WideShapes Go.ChangeAt Go.RowKit

section
variable {H : Type} {enc : TypeId × Value → H}
theorem cells_int : Tryd.prog.cellsOf 3 = 1 := by kernel_rfl
theorem i64_wf {x : Int} (wx : (Lit.int .i64 x).wf = true) : -9223372036854775808 ≤ x ∧ x ≤ 9223372036854775807 := by
  simp [Lit.wf, IntKind.min, IntKind.max, IntKind.signed, IntKind.bits] at wx
  omega
theorem cells_pk : Tryd.prog.cellsOf 45 = 34 := by kernel_rfl
set_option maxRecDepth 100000 in
theorem open_PubKey {w : World} {r : Reach} {b0 : Nat} {base : Nat} {spare : Nat → Bool} {held : Bool} {v : Value} {d : DataW H} {ps : List MemPlace} (hval : Value.okWide Tryd.prog w r b0 45 v) (h : DataW.Trod enc Tryd.prog w base spare held 45 v d ps) :
    ∃ (b h : Int) (r : List UInt8), v = .agg (pkC b h r) ∧ r.length = 32 ∧ (-9223372036854775808 ≤ b ∧ b ≤ 9223372036854775807) ∧ (-9223372036854775808 ≤ h ∧ h ≤ 9223372036854775807) := by
  obtain ⟨cs, rfl, hsz⟩ := okWide_struct Tryd.underlying45 hval
  obtain ⟨fuel, hf⟩ := h
  obtain ⟨y0, y1, y2, n, _, _, h0, h1, h2⟩ := Deep.trod_struct3 Tryd.underlying45 hf
  rw [cells_pk] at hsz
  obtain ⟨l⟩ := cs
  match l, hsz with
  | u0 :: u1 :: rest, hsz =>
    have hr : rest.length = 32 := by simpa using hsz
    dsimp only at h0 h1 h2
    rw [cells_int] at h0 h1
    rw [cells_a32] at h2
    obtain ⟨i0, e0, _, w0⟩ := DataW.trod_int Tryd.underlying3 h0
    obtain ⟨i1, e1, _, w1⟩ := DataW.trod_int Tryd.underlying3 h1
    obtain ⟨r, e2, hl⟩ := trod_a32 h2
    simp [Value.cells] at e0 e1 e2
    rw [List.take_of_length_le (by omega)] at e2
    subst e0 e1 e2
    exact ⟨i0, i1, r, rfl, hl, i64_wf w0, i64_wf w1⟩
theorem cells_once : Tryd.prog.cellsOf 35 = 2 := by kernel_rfl
theorem cells_sig : Tryd.prog.cellsOf 37 = 4 := by kernel_rfl
set_option maxRecDepth 100000 in
theorem open_Sig {w : World} {r : Reach} {b0 : Nat} {base : Nat} {spare : Nat → Bool} {held : Bool} {v : Value} {d : DataW H} {ps : List MemPlace} (hval : Value.okWide Tryd.prog w r b0 37 v) (h : DataW.Trod enc Tryd.prog w base spare held 37 v d ps) :
    ∃ (i : Int) (rv ov wv : Value) (rev oth way : List (List UInt8)), v = .agg (sigC i rv ov wv) ∧ (-9223372036854775808 ≤ i ∧ i ≤ 9223372036854775807) ∧ SlD w rv rev ∧ SlD w ov oth ∧ SlD w wv way := by
  obtain ⟨cs, rfl, hsz⟩ := okWide_struct Tryd.underlying37 hval
  obtain ⟨fuel, hf⟩ := h
  obtain ⟨y0, y1, y2, n, _, _, h0, h1, h2⟩ := Deep.trod_struct3 Tryd.underlying37 hf
  rw [cells_sig] at hsz
  obtain ⟨l⟩ := cs
  match l, hsz with
  | [u0, u1, u2, u3], _ =>
    dsimp only at h0 h1 h2
    rw [cells_int] at h0
    rw [cells_once] at h1
    rw [cells_ds] at h2
    obtain ⟨i0, e0, _, w0⟩ := DataW.trod_int Tryd.underlying3 h0
    obtain ⟨y3, y4, n', _, _, h3, h4⟩ := trod_struct2 Tryd.underlying35 h1
    dsimp only at h3 h4
    rw [cells_ds] at h3 h4
    obtain ⟨rev, hr, _⟩ := trod_ds h3
    obtain ⟨oth, ho, _⟩ := trod_ds h4
    obtain ⟨way, hw, _⟩ := trod_ds h2
    simp [Value.cells] at e0
    subst e0
    exact ⟨i0, u1, u2, u3, rev, oth, way, rfl, i64_wf w0, hr, ho, hw⟩
theorem cells_Op : Tryd.prog.cellsOf 32 = 3 := by kernel_rfl
set_option maxRecDepth 100000 in
theorem open_Op {w : World} {r : Reach} {b0 : Nat} {base : Nat} {spare : Nat → Bool} {held : Bool} {v : Value} {d : DataW H} {ps : List MemPlace} (hval : Value.okWide Tryd.prog w r b0 32 v) (h : DataW.Trod enc Tryd.prog w base spare held 32 v d ps) :
    ∃ (k l : Int) (mv : Value), v = .agg #[.int .i64 k, .int .i64 l, mv] := by
  obtain ⟨v0, v1, v2, y0, y1, y2, n, rfl, _, _, h0, h1, _⟩ := Joins.open_agg3 Tryd.underlying32 (by kernel_rfl) cells_Op hval h
  obtain ⟨i0, e0, _, _⟩ := DataW.trod_int Tryd.underlying3 h0
  obtain ⟨i1, e1, _, _⟩ := DataW.trod_int Tryd.underlying3 h1
  simp at e0 e1
  subst e0 e1
  exact ⟨i0, i1, v2, rfl⟩
end
end Go.Proofs.YtddbmddblhjkkaaDoor
/- pursuivantref08: Way of a leaf that is there; Climb. -/
namespace Go.Proofs.YtddbmddblhjkkaaDoor
open Go.RowKit

theorem cells_blk {w : World} {g : Nat} {t : TypeId} {d : List UInt8} (h : Blk w g t (bytesV d).toArray) : Cells w g 0 (bytesV d) := fun j v hv => by
  rw [Nat.zero_add, h.cell]
  simpa using hv


set_option maxRecDepth 100000 in
set_option maxHeartbeats 400000 in
theorem r8Climb_no (x : List UInt8) (i : Int) (A : Option Addr) (n c : Nat) (w : World) (hno : climbOk n i = false) :
    Calls Tryd.prog 45 #[dgV x, .int .i64 i, .slice A n c] w fun e w' => e = .returned (.tuple #[.agg zb32, .int .i64 1]) ∧ Ext w w' := by
  have E0 : Ext w (w.alloc (.cells (bytesV x).toArray 43)) := (Ext.refl w).alloc _
  by_cases h6 : n ≤ 6
  · by_cases h0 : 0 ≤ i
    · have hi : (2 : Int) ^ n ≤ i := by simpa [climbOk, h6, h0] using hno
      obtain ⟨p, hp⟩ : ∃ p, p = (2 : Int) ^ n := ⟨_, rfl⟩
      have hw : wrap64 ((2 : Int) ^ n) = p := by rw [hp]; exact wrap_pow h6
      rw [← hp] at hi
      clear hno hp
      go_enter Tryd.func45, Tryd.ntmps45
      go_wp2_with (first | (refine wpList_alloc_blk rfl 43 rfl (.agg zb32) zero_a32 ?_; intro w1 hs1 hb1 he1; clear hs1; simp only [World.size_alloc] at hb1) | (refine wpList_build_to rfl 43 _ rfl zb32 (by kernel_rfl) ?_) | (refine wpList_store_blk rfl 43 _ _ rfl (w.heap.size + 1) zb32 rfl rfl 43 zb32 hb1 info_a32 rfl zb32_one ?_; intro w7 hs7 hb7 hg7))
      refine bodyPost_ret (v := .tuple #[.agg zb32, .int .i64 1]) (ret2_blk hb7 rfl rfl Tryd.underlying43 rfl info_a32 rfl) rfl ?_
      exact ⟨rfl, (E0.trans he1).grown hg7 (by simp)⟩
    · have hi : i < 0 := by omega
      clear hno
      go_enter Tryd.func45, Tryd.ntmps45
      go_wp2_with (first | (refine wpList_alloc_blk rfl 43 rfl (.agg zb32) zero_a32 ?_; intro w1 hs1 hb1 he1; clear hs1; simp only [World.size_alloc] at hb1) | (refine wpList_build_to rfl 43 _ rfl zb32 (by kernel_rfl) ?_) | (refine wpList_store_blk rfl 43 _ _ rfl (w.heap.size + 1) zb32 rfl rfl 43 zb32 hb1 info_a32 rfl zb32_one ?_; intro w7 hs7 hb7 hg7))
      refine bodyPost_ret (v := .tuple #[.agg zb32, .int .i64 1]) (ret2_blk hb7 rfl rfl Tryd.underlying43 rfl info_a32 rfl) rfl ?_
      exact ⟨rfl, (E0.trans he1).grown hg7 (by simp)⟩
  · have hi : (6 : Int) < (n : Int) := by omega
    clear hno
    go_enter Tryd.func45, Tryd.ntmps45
    go_wp2_with (first | (refine wpList_alloc_blk rfl 43 rfl (.agg zb32) zero_a32 ?_; intro w1 hs1 hb1 he1; clear hs1; simp only [World.size_alloc] at hb1) | (refine wpList_build_to rfl 43 _ rfl zb32 (by kernel_rfl) ?_) | (refine wpList_store_blk rfl 43 _ _ rfl (w.heap.size + 1) zb32 rfl rfl 43 zb32 hb1 info_a32 rfl zb32_one ?_; intro w7 hs7 hb7 hg7))
    refine bodyPost_ret (v := .tuple #[.agg zb32, .int .i64 1]) (ret2_blk hb7 rfl rfl Tryd.underlying43 rfl info_a32 rfl) rfl ?_
    exact ⟨rfl, (E0.trans he1).grown hg7 (by simp)⟩

set_option maxRecDepth 100000 in
set_option maxHeartbeats 1000000 in
theorem r8Climb_yes (x : List UInt8) (i : Nat) (v : Value) (ds : List (List UInt8)) (w : World) (hx : x.length = 32) (hv : SlD w v ds) (hn : ds.length ≤ 6) (hi : i < 2 ^ ds.length) :
    Calls Tryd.prog 45 #[dgV x, .int .i64 (i : Int), v] w fun e w' => e = .returned (.tuple #[dgV (climbB x i ds), .int .i64 0]) ∧ Ext w w' := by
  obtain ⟨A, c, rfl, hc⟩ := hv.form
  have hB0 := Blk.new w 43 (bytesV x).toArray
  have E0 : Ext w (w.alloc (.cells (bytesV x).toArray 43)) := (Ext.refl w).alloc _
  have hle := pow_le hn
  obtain ⟨p, hp⟩ : ∃ p, p = (2 : Int) ^ ds.length := ⟨_, rfl⟩
  have hw : wrap64 ((2 : Int) ^ ds.length) = p := by rw [hp]; exact wrap_pow hn
  have hip : (i : Int) < p := by rw [hp]; exact_mod_cast hi
  have Hx := Lib.hid hx
  have HV := Lib.hid hv
  have H64 := Lib.hid (Nat.lt_of_lt_of_le hi hle)
  have ix : Hid ((Tryd.prog.info? 43).map (·.size) = some (bytesV x).toArray.size) := dg_i x Hx.out
  have sx : Hid (zb32.size = (bytesV x).toArray.size) := zb32_size _ Hx.out
  clear hv hx hp hi hle
  go_enter Tryd.func45, Tryd.ntmps45
  go_wp2_with (first | (refine wpList_load_blk (hB0.ext he1) rfl 43 _ rfl rfl Tryd.underlying43 rfl ix.out ?_) | (have _ := he1; refine wpList_var rfl rfl 43 rfl _ _ rfl (.agg zb32) zero_a32 (bytesV x).toArray rfl rfl ix.out sx.out (bytes_one _) ?_; intro w4 D4 E4) | (refine wpList_alloc_blk rfl 43 rfl (.agg zb32) zero_a32 ?_; intro w1 hs1 hb1 he1; simp only [World.size_alloc] at hb1 hs1))
  rw [hs1] at D4
  have HX4 := Lib.hid D4
  have HZ4 := Lib.hid (hb1.ext E4)
  have F4 := (E0.trans he1).trans E4
  clear hb1 hB0 he1 hip hw D4 E4 E0
  go_wp2
  go_loopw [1, 9] (fun j n wr => ∃ k : Nat, k ≤ ds.length ∧ n = .int .i64 (k : Int) ∧ j = .int .i64 ((i / 2 ^ k : Nat) : Int) ∧ Blk wr (w.heap.size + 1 + 1) 43 (bytesV (climbB x i (ds.take k))).toArray ∧ Blk wr (w.heap.size + 1) 43 zb32 ∧ Ext w wr) (fun _ n _ => ds.length - (intOf n).toNat)
  case atStart => exact ⟨0, by omega, rfl, by simp, by simpa [climbB] using HX4.out, HZ4.out, F4⟩
  case round =>
    obtain ⟨k, hk, rfl, rfl, hB, hZ, E⟩ := hrel
    clear HX4 HZ4 F4
    have hcl := climbB_length (ds.take k) x i Hx.out
    by_cases hlt : k < ds.length
    · obtain ⟨b, o, rfl, hcd⟩ := (HV.out.ext E).at_ hlt
      have hld := HV.out.len hlt
      have hstep := climb_take (x := x) (i := i) hlt
      have hp2 : i / 2 ^ (k + 1) = i / 2 ^ k / 2 := by rw [Nat.pow_succ, ← Nat.div_div_eq_div_mul]
      obtain ⟨q, hq⟩ : ∃ q, q = i / 2 ^ k := ⟨_, rfl⟩
      obtain ⟨z, hz⟩ : ∃ z, z = ds[k] := ⟨_, rfl⟩
      obtain ⟨y, hy⟩ : ∃ y, y = climbB x i (ds.take k) := ⟨_, rfl⟩
      have hqb : q ≤ 64 := by have := Nat.div_le_self i (2 ^ k); have := H64.out; omega
      rw [← hq, ← hz, ← hy] at hstep
      rw [← hz] at hcd hld
      rw [← hy] at hB hcl
      rw [← hq] at hp2 ⊢
      have Hcd := Lib.hid hcd
      have Hld := Lib.hid hld
      have Hcl := Lib.hid hcl
      have Hst := Lib.hid hstep
      have Hp2 := Lib.hid hp2
      have HB := Lib.hid hB
      have HZ := Lib.hid hZ
      clear hcd hld hcl hstep hq hz hy hp2 hB hZ
      by_cases h2 : q % 2 = 0
      · have hb : (((q : Int) % 2) == 0) = true := by rw [beq_iff_eq]; omega
        have Hnd := Lib.hid (fun w' => r8Node_any y z Hcl.out Hld.out w')
        have hnl := nodeB_length y z
        rw [if_pos h2] at Hst
        obtain ⟨r, hr⟩ : ∃ r, r = nodeB y z := ⟨_, rfl⟩
        rw [← hr] at Hnd hnl Hst
        have ir : Hid ((Tryd.prog.info? 43).map (·.size) = some (bytesV r).toArray.size) := dg_i r hnl
        have sr : Hid ((bytesV y).toArray.size = (bytesV r).toArray.size) := by show _ = _; simp [bytesV_length, Hcl.out, hnl]
        clear hr hnl
        go_wp2
        refine wp_region_chain 6 [(true, 0), (true, 1), (true, 2), (true, 3), (true, 4), (false, 5)] (fun w' => Ext wr w') (by kernel_rfl) (by kernel_rfl) (Ext.refl wr).drew ?_
        refine wpTake_load _ _ rfl rfl 43 _ rfl (.agg (bytesV y).toArray) (fun wS hS => run_load_dg (cells_blk (HB.out.ext hS)) Hcl.out) ?_
        simp only [Act.put, List.setIfInBounds_toArray, List.set_cons_zero, List.set_cons_succ]
        iterate 3
          refine wpTake_read _ _ ?_ rfl rfl ?_ ?_
          rotate_left 1
          focus
            intro wS hS
            clear hS
            go_simp
            first | done | with_reducible rfl
          simp only [Act.put, List.setIfInBounds_toArray, List.set_cons_zero, List.set_cons_succ]
        refine wpTake_load _ _ rfl rfl 43 _ rfl (.agg (bytesV z).toArray) (fun wS hS => run_load_dg (Hcd.out.ext hS) Hld.out) ?_
        simp only [Act.put, List.setIfInBounds_toArray, List.set_cons_zero, List.set_cons_succ]
        refine wpTake_do _ _ rfl rfl (fun K hK' => ?_)
        go_simp
        refine (Hnd.out _).mono ?_
        rintro e w5 ⟨rfl, E5⟩
        have E05 : Ext wr w5 := (Ext.refl wr).drew.trans E5
        refine hK' _ _ E05 ?_
        clear hK' K
        refine wpTake_nil ?_
        simp only [List.drop_succ_cons, List.drop_zero]
        have HB5 := Lib.hid (HB.out.ext E05)
        have HZ5 := Lib.hid (HZ.out.ext E05)
        have F5 := E.trans E05
        clear HB HZ E5 E05
        go_wp2_with (first | (refine wpList_store_blk rfl 43 _ _ rfl (w.heap.size + 1 + 1) (bytesV r).toArray rfl rfl 43 _ HB5.out ir.out sr.out (bytes_one _) ?_; intro w7 hs7 hb7 hg7))
        refine NoPanic.normal ?_
        go_wp2
        go_roundw
        case rel => exact ⟨k + 1, hlt, by go_num, by rw [Hp2.out]; go_num, by rw [Hst.out]; exact hb7, HZ5.out.grown hg7 (by simp), F5.grown hg7 (by simp; omega)⟩
        case measure => simp [intOf]; omega
      · have hb : (((q : Int) % 2) == 0) = false := by rw [beq_eq_false_iff_ne]; omega
        have Hnd := Lib.hid (fun w' => r8Node_any z y Hld.out Hcl.out w')
        have hnl := nodeB_length z y
        rw [if_neg h2] at Hst
        obtain ⟨r, hr⟩ : ∃ r, r = nodeB z y := ⟨_, rfl⟩
        rw [← hr] at Hnd hnl Hst
        have ir : Hid ((Tryd.prog.info? 43).map (·.size) = some (bytesV r).toArray.size) := dg_i r hnl
        have sr : Hid ((bytesV y).toArray.size = (bytesV r).toArray.size) := by show _ = _; simp [bytesV_length, Hcl.out, hnl]
        clear hr hnl
        go_wp2
        refine wp_region_chain 6 [(true, 0), (true, 1), (true, 2), (true, 3), (true, 4), (false, 5)] (fun w' => Ext wr w') (by kernel_rfl) (by kernel_rfl) (Ext.refl wr).drew ?_
        iterate 3
          refine wpTake_read _ _ ?_ rfl rfl ?_ ?_
          rotate_left 1
          focus
            intro wS hS
            clear hS
            go_simp
            first | done | with_reducible rfl
          simp only [Act.put, List.setIfInBounds_toArray, List.set_cons_zero, List.set_cons_succ]
        refine wpTake_load _ _ rfl rfl 43 _ rfl (.agg (bytesV z).toArray) (fun wS hS => run_load_dg (Hcd.out.ext hS) Hld.out) ?_
        simp only [Act.put, List.setIfInBounds_toArray, List.set_cons_zero, List.set_cons_succ]
        refine wpTake_load _ _ rfl rfl 43 _ rfl (.agg (bytesV y).toArray) (fun wS hS => run_load_dg (cells_blk (HB.out.ext hS)) Hcl.out) ?_
        simp only [Act.put, List.setIfInBounds_toArray, List.set_cons_zero, List.set_cons_succ]
        refine wpTake_do _ _ rfl rfl (fun K hK' => ?_)
        go_simp
        refine (Hnd.out _).mono ?_
        rintro e w5 ⟨rfl, E5⟩
        have E05 : Ext wr w5 := (Ext.refl wr).drew.trans E5
        refine hK' _ _ E05 ?_
        clear hK' K
        refine wpTake_nil ?_
        simp only [List.drop_succ_cons, List.drop_zero]
        have HB5 := Lib.hid (HB.out.ext E05)
        have HZ5 := Lib.hid (HZ.out.ext E05)
        have F5 := E.trans E05
        clear HB HZ E5 E05
        go_wp2_with (first | (refine wpList_store_blk rfl 43 _ _ rfl (w.heap.size + 1 + 1) (bytesV r).toArray rfl rfl 43 _ HB5.out ir.out sr.out (bytes_one _) ?_; intro w7 hs7 hb7 hg7))
        refine NoPanic.normal ?_
        go_wp2
        go_roundw
        case rel => exact ⟨k + 1, hlt, by go_num, by rw [Hp2.out]; go_num, by rw [Hst.out]; exact hb7, HZ5.out.grown hg7 (by simp), F5.grown hg7 (by simp; omega)⟩
        case measure => simp [intOf]; omega
    · obtain rfl : k = ds.length := by omega
      rw [List.take_length] at hB hcl
      obtain ⟨y, hy⟩ : ∃ y, y = climbB x i ds := ⟨_, rfl⟩
      rw [← hy] at hB hcl
      have Hy := Lib.hid hy
      have iy : Hid ((Tryd.prog.info? 43).map (·.size) = some (bytesV y).toArray.size) := dg_i y hcl
      have sy : Hid (zb32.size = (bytesV y).toArray.size) := zb32_size _ hcl
      clear hy
      go_wp2_with (first | (refine wpList_load_blk hB rfl 43 _ rfl rfl Tryd.underlying43 rfl iy.out ?_) | (refine wpList_store_blk rfl 43 _ _ rfl (w.heap.size + 1) (bytesV y).toArray rfl rfl 43 zb32 hZ iy.out sy.out (bytes_one _) ?_; intro w7 hs7 hb7 hg7))
      refine bodyPost_ret (v := .tuple #[dgV y, .int .i64 0]) (ret2_blk hb7 rfl rfl Tryd.underlying43 rfl iy.out rfl) rfl ?_
      exact ⟨by rw [Hy.out], E.grown hg7 (by simp)⟩
end Go.Proofs.YtddbmddblhjkkaaDoor
/- The reference's May and Verify of a signer. -/
namespace Go.Proofs.YtddbmddblhjkkaaDoor
open Go.RowKit Go.Maps

set_option maxRecDepth 100000 in
set_option maxHeartbeats 400000 in
theorem r9May_any (b h : Int) (r : List UInt8) (w : World) : Calls Tryd.prog 20 #[.agg (pkC b h r)] w fun e w' => e = .returned (.bool (mayK b h)) ∧ Ext w w' := by
  have E0 : Ext w (w.alloc (.cells (pkC b h r) 45)) := (Ext.refl w).alloc _
  have hB := Blk.new w 45 (pkC b h r)
  have c0 : (w.alloc (.cells (pkC b h r) 45)).cell? ⟨w.heap.size, 0, none⟩ = some (.int .i64 b) := hB.cell 0
  have c1 : (w.alloc (.cells (pkC b h r) 45)).cell? ⟨w.heap.size, 1, none⟩ = some (.int .i64 h) := hB.cell 1
  have Hm := fun w => Lib.hid (r7May_any b w)
  have p0 := pkC_0 b h r
  have p1 := pkC_1 b h r
  clear hB
  have Hk : Hid (mayK b h = (mayB b && (decide (0 ≤ h) && decide (h ≤ 6)))) := Lib.hid rfl
  cases hm : mayB b with
  | false =>
    rw [hm] at Hm Hk
    go_enter Tryd.func20, Tryd.ntmps20
    go_wp2_with fail
    with_reducible refine (Hm _).out.mono ?_
    rintro e w2 ⟨rfl, rfl⟩
    go_wp2
    go_ret
    exact ⟨by rw [Hk.out]; rfl, E0⟩
  | true =>
    rw [hm] at Hm Hk
    by_cases h0 : 0 ≤ h
    · by_cases h6 : h ≤ 6
      all_goals
        go_enter Tryd.func20, Tryd.ntmps20
        go_wp2_with fail
        with_reducible refine (Hm _).out.mono ?_
        rintro e w2 ⟨rfl, rfl⟩
        go_wp2
        go_ret
        exact ⟨by rw [Hk.out]; simp [h0, h6], E0⟩
    · go_enter Tryd.func20, Tryd.ntmps20
      go_wp2_with fail
      with_reducible refine (Hm _).out.mono ?_
      rintro e w2 ⟨rfl, rfl⟩
      go_wp2
      go_ret
      exact ⟨by rw [Hk.out]; simp; omega, E0⟩

set_option maxRecDepth 100000 in
set_option maxHeartbeats 1000000 in
theorem r9verify_no1 (b h i : Int) (r : List UInt8) (mv : Value) (Ar Ao Aw : Option Addr) (nr no nw cr co cw : Nat) (m : List UInt8) (w : World) (hr : r.length = 32) (hmv : Sl w mv m) (hlm : m.length ≤ 1048576)
    (hno : mayK b h = false ∨ (mayK b h = true ∧ (nr : Int) ≠ b) ∨ (mayK b h = true ∧ (nr : Int) = b ∧ (nw : Int) ≠ h)) :
    Calls Tryd.prog 23 #[.agg (pkC b h r), mv, .agg (sigC i (.slice Ar nr cr) (.slice Ao no co) (.slice Aw nw cw))] w fun e w' => e = .returned (.bool false) ∧ Ext w w' := by
  obtain ⟨Am, cm, rfl, _⟩ := SlR.form hmv
  clear hmv
  have hgm : ¬ ((m.length : Int) > 1048576) := by omega
  have hi := info_pkC b h r hr
  have hB0 := Blk.new w 45 (pkC b h r)
  have hB1 := Blk.new (w.alloc (.cells (pkC b h r) 45)) 37 (sigC i (.slice Ar nr cr) (.slice Ao no co) (.slice Aw nw cw))
  have hB0' := hB0.alloc (.cells (sigC i (.slice Ar nr cr) (.slice Ao no co) (.slice Aw nw cw)) 37)
  rw [World.size_alloc] at hB1
  have Ew3 : Ext w ((w.alloc (.cells (pkC b h r) 45)).alloc (.cells (sigC i (.slice Ar nr cr) (.slice Ao no co) (.slice Aw nw cw)) 37)) := ((Ext.refl w).alloc _).alloc _
  have Hm := fun w => Lib.hid (r9May_any b h r w)
  obtain ⟨P, hP⟩ : ∃ P, P = pkC b h r := ⟨_, rfl⟩
  obtain ⟨S, hS⟩ : ∃ S, S = sigC i (.slice Ar nr cr) (.slice Ao no co) (.slice Aw nw cw) := ⟨_, rfl⟩
  rw [← hS] at hB1 hB0' Ew3 ⊢
  rw [← hP] at hB0 hB1 hB0' Ew3 hi ⊢
  simp only [← hP] at Hm
  have HP := Lib.hid hP
  have HS := Lib.hid hS
  clear hP hS hB0
  go_enter Tryd.func23, Tryd.ntmps23
  go_wp2_with (refine wpList_load_blk hB0' rfl 45 _ rfl rfl Tryd.underlying45 rfl hi ?_)
  have pack := And.intro hB0' (And.intro hB1 Ew3)
  clear hB0' hB1 Ew3
  revert pack
  generalize (w.alloc (.cells P 45)).alloc (.cells S 37) = w3
  rintro ⟨hB0', hB1, Ew3⟩
  with_reducible refine (Hm _).out.mono ?_
  rintro e w4 ⟨rfl, E4⟩
  have E := Ew3.trans E4
  replace hB0' := hB0'.ext E4
  replace hB1 := hB1.ext E4
  rw [HP.out] at hB0'
  rw [HS.out] at hB1
  have c0 := (pkC_cells hB0').1
  have c1 := (pkC_cells hB0').2
  have d1 := (sigC_cells hB1).2.1
  have d3 := (sigC_cells hB1).2.2.2
  clear Hm hB0' hB1 Ew3 E4
  rcases hno with hm | ⟨hm, hn⟩ | ⟨hm, hn, hn2⟩
  · rw [hm]
    go_wp2
    go_ret
    exact ⟨rfl, E⟩
  · rw [hm]
    have hb1 : (((nr : Int)) != b) = true := by rw [bne_iff_ne]; exact hn
    go_wp2
    go_ret
    exact ⟨rfl, E⟩
  · rw [hm]
    have hb1 : (((nr : Int)) != b) = false := by rw [bne_eq_false_iff_eq]; exact hn
    have hb2 : (((nw : Int)) != h) = true := by rw [bne_iff_ne]; exact hn2
    go_wp2
    go_ret
    exact ⟨rfl, E⟩

set_option maxRecDepth 100000 in
set_option maxHeartbeats 2000000 in
theorem r9verify_whole (i : Int) (r m : List UInt8) (mv : Value) (rv ov wv : Value) (rev oth way : List (List UInt8)) (w : World) (hr : r.length = 32) (hmv : Sl w mv m) (hlm : m.length ≤ 1048576)
    (hrv : SlD w rv rev) (hov : SlD w ov oth) (hwv : SlD w wv way) (hm : mayK rev.length way.length = true) :
    Calls Tryd.prog 23 #[.agg (pkC rev.length way.length r), mv, .agg (sigC i rv ov wv)] w fun e w' => e = .returned (.bool (wholeB rev.length oth.length && climbOk way.length i && decide (climbB (impB m rev oth) i.toNat way = r))) ∧ Ext w w' := by
  obtain ⟨Am, cm, rfl, hcm⟩ := SlR.form hmv
  obtain ⟨Ar, cr, rfl, hcr⟩ := hrv.form
  obtain ⟨Ao, co, rfl, hco⟩ := hov.form
  obtain ⟨Aw, cw, rfl, hcw⟩ := hwv.form
  have hi := info_pkC rev.length way.length r hr
  have hB0 := Blk.new w 45 (pkC rev.length way.length r)
  have hB1 := Blk.new (w.alloc (.cells (pkC rev.length way.length r) 45)) 37 (sigC i (.slice Ar rev.length cr) (.slice Ao oth.length co) (.slice Aw way.length cw))
  have hB0' := hB0.alloc (.cells (sigC i (.slice Ar rev.length cr) (.slice Ao oth.length co) (.slice Aw way.length cw)) 37)
  rw [World.size_alloc] at hB1
  have Ew3 : Ext w ((w.alloc (.cells (pkC rev.length way.length r) 45)).alloc (.cells (sigC i (.slice Ar rev.length cr) (.slice Ao oth.length co) (.slice Aw way.length cw)) 37)) := ((Ext.refl w).alloc _).alloc _
  have Hm := fun w => Lib.hid (r9May_any rev.length way.length r w)
  rw [hm] at Hm
  have Hno := fun w => Lib.hid (r7Implied_no (.slice Am m.length cm) Ar Ao rev.length oth.length cr co w)
  have Hyes := fun w' (E : Ext w w') => Lib.hid (r7Implied_yes (.slice Am m.length cm) (.slice Ar rev.length cr) (.slice Ao oth.length co) m rev oth w' (hmv.ext E) (hrv.ext E) (hov.ext E))
  have Hcno := fun x w => Lib.hid (r8Climb_no x i Aw way.length cw w)
  have Hcyes := fun x k w' (E : Ext w w') => Lib.hid (r8Climb_yes x k (.slice Aw way.length cw) way w')
  have HW := Lib.hid hwv
  obtain ⟨P, hP⟩ : ∃ P, P = pkC rev.length way.length r := ⟨_, rfl⟩
  obtain ⟨S, hS⟩ : ∃ S, S = sigC i (.slice Ar rev.length cr) (.slice Ao oth.length co) (.slice Aw way.length cw) := ⟨_, rfl⟩
  rw [← hS] at hB1 hB0' Ew3 ⊢
  rw [← hP] at hB0 hB1 hB0' Ew3 hi ⊢
  simp only [← hP] at Hm
  have HP := Lib.hid hP
  have HS := Lib.hid hS
  have Hlm := Lib.hid hlm
  have hgm : ¬ ((m.length : Int) > 1048576) := by omega
  clear hP hS hB0 hmv hrv hov hwv hlm
  obtain ⟨B, hB⟩ : ∃ B, B = (wholeB rev.length oth.length && climbOk way.length i && decide (climbB (impB m rev oth) i.toNat way = r)) := ⟨_, rfl⟩
  rw [← hB]
  have HB := Lib.hid hB
  clear hB
  go_enter Tryd.func23, Tryd.ntmps23
  go_wp2_with (refine wpList_load_blk hB0' rfl 45 _ rfl rfl Tryd.underlying45 rfl hi ?_)
  have pack := And.intro hB0' (And.intro hB1 Ew3)
  clear hB0' hB1 Ew3
  revert pack
  generalize (w.alloc (.cells P 45)).alloc (.cells S 37) = w3
  rintro ⟨hB0', hB1, Ew3⟩
  with_reducible refine (Hm _).out.mono ?_
  rintro e w4 ⟨rfl, E4⟩
  have E := Ew3.trans E4
  replace hB0' := hB0'.ext E4
  replace hB1 := hB1.ext E4
  rw [HP.out] at hB0'
  rw [HS.out] at hB1
  have c0 := (pkC_cells hB0').1
  have c1 := (pkC_cells hB0').2
  have d0 := (sigC_cells hB1).1
  have d1 := (sigC_cells hB1).2.1
  have d3 := (sigC_cells hB1).2.2.2
  have HO := Lib.hid (sigC_once hB1)
  have HR := Lib.hid (pkC_root hB0')
  clear Hm hB0' hB1 Ew3 E4
  have hi1 : (Tryd.prog.info? 35).map (·.size) = some 2 := info_one
  by_cases hwh : wholeB rev.length oth.length = true
  · go_wp2_with (refine wpList_load_mid HO.out rfl 35 _ rfl rfl Tryd.underlying35 rfl hi1 ?_)
    have Hyes' := fun w' (E : Ext w w') => Lib.hid ((Hyes w' E).out hwh Hlm.out)
    have lz := impB_length m rev oth
    obtain ⟨z, hz⟩ : ∃ z, z = impB m rev oth := ⟨_, rfl⟩
    simp only [← hz] at Hyes' lz
    have iz := dg_i z lz
    have sz := zb32_size z lz
    have Lz := Lib.hid lz
    have Hz := Lib.hid hz
    have Hwh := Lib.hid hwh
    clear hz Hno Hyes hwh lz
    with_reducible refine (Hyes' _ E).out.mono ?_
    rintro e w5 ⟨rfl, E5⟩
    clear Hyes'
    go_wp2_with (first | (have _ := D1; refine wpList_load_blk D1 rfl 43 _ rfl rfl Tryd.underlying43 rfl iz ?_) | (refine wpList_var rfl rfl 43 rfl _ _ rfl (.agg zb32) zero_a32 (bytesV z).toArray rfl rfl iz sz (bytes_one _) ?_; intro w6 D1 E6; replace d0 := E6.cell (E5.cell d0); replace d3 := E6.cell (E5.cell d3)))
    have F := E.trans (E5.trans E6)
    replace HR := Lib.hid ((HR.out.ext E5).ext E6)
    clear c0 c1 d1 E5 E6 E HO
    by_cases hok : climbOk way.length i = true
    · obtain ⟨h6, h0, hlt⟩ := (climbOk_iff _ _).1 hok
      obtain ⟨k, rfl⟩ : ∃ k : Nat, i = (k : Int) := ⟨i.toNat, by omega⟩
      have hk : k < 2 ^ way.length := by exact_mod_cast hlt
      have Hc := fun w' (E : Ext w w') => Lib.hid ((Hcyes z k w' E).out Lz.out (HW.out.ext E) h6 hk)
      have ly := climbB_length way z k Lz.out
      have HB2 : Hid (B = decide (climbB z k way = r)) := Lib.hid (by rw [HB.out, Hwh.out, hok, Hz.out]; simp)
      clear Hcyes Hcno hok h0 hlt
      obtain ⟨y, hy⟩ : ∃ y, y = climbB z k way := ⟨_, rfl⟩
      rw [← hy] at ly HB2
      simp only [← hy] at Hc
      have iy := dg_i y ly
      have sy := zb32_size y ly
      have Ly := Lib.hid ly
      clear hy ly
      with_reducible refine (Hc _ F).out.mono ?_
      rintro e w7 ⟨rfl, E7⟩
      clear Hc
      have heq : ∀ w, (Op.equalIn 10000 43 (.agg (bytesV y).toArray) (.agg (bytesV r).toArray)).run Tryd.prog w = .ok (decide (y = r)) w := fun w => by rw [equal_dg y r Ly.out hr w, Bool.beq_eq_decide_eq]
      go_wp2_with (first | (have _ := D2; refine wpList_unguard rfl ?_; refine wpList_load_blk D2 rfl 43 _ rfl rfl Tryd.underlying43 rfl iy ?_) | (have _ := D2; refine wpList_unguard rfl ?_; refine wpList_load_dg HR8.out hr rfl _ rfl rfl ?_) | (refine wpList_var rfl rfl 43 rfl _ _ rfl (.agg zb32) zero_a32 (bytesV y).toArray rfl rfl iy sy (bytes_one _) ?_; intro w8 D2 E8; have HR8 := Lib.hid ((HR.out.ext E7).ext E8); have G := F.trans (E7.trans E8)))
      go_ret
      refine ⟨?_, G⟩
      rw [HB2.out]
      rfl
    · have hokf : climbOk way.length i = false := by simpa using hok
      have Hc := fun w => Lib.hid ((Hcno z w).out hokf)
      have HBf : Hid (B = false) := Lib.hid (by rw [HB.out, hokf]; simp)
      clear Hcyes Hcno hok hokf
      with_reducible refine (Hc _).out.mono ?_
      rintro e w7 ⟨rfl, E7⟩
      clear Hc
      go_wp2_with (refine wpList_var rfl rfl 43 rfl _ _ rfl (.agg zb32) zero_a32 zb32 rfl rfl info_a32 rfl zb32_one ?_; intro w8 D2 E8)
      have G := F.trans (E7.trans E8)
      go_wp2
      go_ret
      refine ⟨?_, G⟩
      show Ending.returned (.bool false) = _
      rw [HBf.out]
  · have hwf : wholeB rev.length oth.length = false := by simpa using hwh
    have HBf : Hid (B = false) := Lib.hid (by rw [HB.out, hwf]; rfl)
    have Hno' := fun w => Lib.hid ((Hno w).out hwf)
    clear hwh hwf
    go_wp2_with (refine wpList_load_mid HO.out rfl 35 _ rfl rfl Tryd.underlying35 rfl hi1 ?_)
    with_reducible refine (Hno' _).out.mono ?_
    rintro e w5 ⟨rfl, E5⟩
    go_wp2_with (refine wpList_var rfl rfl 43 rfl _ _ rfl (.agg zb32) zero_a32 zb32 rfl rfl info_a32 rfl zb32_one ?_; intro w6 D1 E6)
    go_ret
    refine ⟨?_, E.trans (E5.trans E6)⟩
    show Ending.returned (.bool false) = _
    rw [HBf.out]
end Go.Proofs.YtddbmddblhjkkaaDoor
/- The reference's public part of a signer. -/
namespace Go.Proofs.YtddbmddblhjkkaaDoor
open Go.RowKit Go.Maps

set_option maxRecDepth 100000 in
set_option maxHeartbeats 400000 in
theorem r9may_any (A : Option Addr) (n c : Nat) (b h : Int) (w : World) : Calls Tryd.prog 37 #[.slice A n c, .int .i64 b, .int .i64 h] w fun e w' => e = .returned (.bool (decide (n ≤ 64) && mayK b h)) ∧ w = w' := by
  have Hm := fun w => Lib.hid (r7May_any b w)
  have Hk : Hid (mayK b h = (mayB b && (decide (0 ≤ h) && decide (h ≤ 6)))) := Lib.hid rfl
  by_cases hn : (n : Int) ≤ 64
  · have hd : decide (n ≤ 64) = true := decide_eq_true (by omega)
    rw [hd, Bool.true_and]
    clear hd
    cases hm : mayB b with
    | false =>
      rw [hm] at Hm Hk
      go_enter Tryd.func37, Tryd.ntmps37
      go_wp2_with fail
      with_reducible refine (Hm _).out.mono ?_
      rintro e w2 ⟨rfl, rfl⟩
      go_wp2
      go_ret
      exact ⟨by rw [Hk.out]; rfl, rfl⟩
    | true =>
      rw [hm] at Hm Hk
      by_cases h0 : 0 ≤ h
      · by_cases h6 : h ≤ 6
        all_goals
          go_enter Tryd.func37, Tryd.ntmps37
          go_wp2_with fail
          with_reducible refine (Hm _).out.mono ?_
          rintro e w2 ⟨rfl, rfl⟩
          go_wp2
          go_ret
          exact ⟨by rw [Hk.out]; simp [h0, h6], rfl⟩
      · go_enter Tryd.func37, Tryd.ntmps37
        go_wp2_with fail
        with_reducible refine (Hm _).out.mono ?_
        rintro e w2 ⟨rfl, rfl⟩
        go_wp2
        go_ret
        exact ⟨by rw [Hk.out]; simp; omega, rfl⟩
  · have hd : decide (n ≤ 64) = false := decide_eq_false (by omega)
    rw [hd, Bool.false_and]
    clear hd Hm Hk
    go_enter Tryd.func37, Tryd.ntmps37
    go_wp2
    go_ret
    exact ⟨rfl, rfl⟩

set_option maxRecDepth 100000 in
set_option maxHeartbeats 1000000 in
theorem r9Leaves_any (v : Value) (seed : List UInt8) (b h : Nat) (w : World) (hv : Sl w v seed) (hl : seed.length ≤ 64) (hm : mayK b h = true) :
    Calls Tryd.prog 39 #[v, .int .i64 (b : Int), .int .i64 (h : Int)] w fun e w' => ∃ v', e = .returned v' ∧ SlD w' v' (lvsB seed b h) ∧ Ext w w' := by
  obtain ⟨hmb, h0, h6⟩ := (mayK_iff _ _).1 hm
  have hle := pow_le (show h ≤ 6 by omega)
  obtain ⟨N, hN⟩ : ∃ N, N = 2 ^ h := ⟨_, rfl⟩
  have hw : wrap64 ((2 : Int) ^ h) = (N : Int) := by rw [wrap_pow (by omega), hN]; simp
  rw [← hN] at hle
  have Hlf := Lib.hid (fun (k : Nat) w' (E : Ext w w') (hk : k ≤ 64) => r7Leaf_yes v seed (k : Int) (b : Int) w' (hv.ext E) hmb ((keyB_iff _ _).2 ⟨hl, by omega, by omega⟩))
  simp only [Int.toNat_natCast] at Hlf
  have HN := Lib.hid hN
  clear hm hmb hN hv
  go_enter Tryd.func39, Tryd.ntmps39
  go_wp2
  go_loopw [7, 8] (fun o i wr => ∃ k : Nat, k ≤ N ∧ i = .int .i64 k ∧ OwnD wr w.heap.size o (lvsT seed b k) ∧ Ext w wr) (fun _ i _ => N - (intOf i).toNat)
  case atStart => exact ⟨0, by omega, rfl, OwnD.none_ _ _, by first | exact Ext.refl _ | exact (Ext.refl _).alloc _⟩
  case round =>
    obtain ⟨k, hk, rfl, hO, E⟩ := hrel
    have hll := lvsT_length seed b k
    obtain ⟨Al, cl, rfl, hcl⟩ := hO.form
    rw [hll] at hcl hO ⊢
    by_cases hlt : k < N
    · have hlti : (k : Int) < (N : Int) := by omega
      have Hc := Lib.hid (Hlf.out k wr E (by omega))
      have hzl := leafB_length seed k b
      have hst := lvsT_succ seed b k
      obtain ⟨z, hz⟩ : ∃ z, z = leafB seed k b := ⟨_, rfl⟩
      rw [← hz] at Hc hzl hst
      have Hz := Lib.hid hzl
      have Hst := Lib.hid hst
      have HO := Lib.hid hO
      have Hll := Lib.hid hll
      have iz := dg_i z hzl
      have sz := zb32_size z hzl
      clear hz hzl hst hO hll
      go_wp2_with fail
      with_reducible refine Hc.out.mono ?_
      rintro e w2 ⟨rfl, E2⟩
      have HO2 := Lib.hid (HO.out.ext E2)
      have F2 := E.trans E2
      clear Hc HO E2 E
      go_wp2_with (first | (have _ := D3; refine wpList_load_blk D3 rfl 43 _ rfl rfl Tryd.underlying43 rfl iz ?_) | (have _ := D3; refine wpList_build_dg z Hz.out rfl _ rfl rfl ?_; intro w4 E4 hs4 hnew; have HO4 := Lib.hid (HO3.out.ext E4); have Hnew := Lib.hid hnew; have F4 := F3.trans E4; clear hnew hs4) | (have _ := D3; at_builtin; refine wpList_appD HO4.out Hz.out Hnew.out rfl _ _ rfl rfl rfl (by rw [Hll.out]; omega) F4.size ?_; intro v5 w5 ho5 hg5 hq5) | (refine wpList_var rfl rfl 43 rfl _ _ rfl (.agg zb32) zero_a32 (bytesV z).toArray rfl rfl iz sz (bytes_one _) ?_; intro w3 D3 E3; have HO3 := Lib.hid (HO2.out.ext E3); have F3 := F2.trans E3))
      have O5 : OwnD w5 w.heap.size v5 (lvsT seed b (k + 1)) := by rw [Hst.out]; exact ho5
      have F5 := F4.grown hg5 HO4.out.from
      exact ⟨⟨k + 1, by omega, by go_num, O5, F5⟩, by simp [intOf]; omega⟩
    · obtain rfl : k = N := by omega
      have e1 : lvsT seed b k = lvsB seed b h := by rw [HN.out]; exact lvsT_full seed b h
      have hS : SlD wr (.slice Al k cl) (lvsB seed b h) := by rw [← e1]; exact hO.sl
      clear hO hll
      go_wp2
      go_ret
      exact ⟨_, rfl, hS, E⟩

set_option maxRecDepth 100000 in
theorem pk_full' (b h : Int) (x0 x1 x2 x3 x4 x5 x6 x7 x8 x9 x10 x11 x12 x13 x14 x15 x16 x17 x18 x19 x20 x21 x22 x23 x24 x25 x26 x27 x28 x29 x30 x31 : UInt8) : Tryd.prog.built 45 [(0, .int .i64 b), (1, .int .i64 h), (2, .agg (bytesV [x0, x1, x2, x3, x4, x5, x6, x7, x8, x9, x10, x11, x12, x13, x14, x15, x16, x17, x18, x19, x20, x21, x22, x23, x24, x25, x26, x27, x28, x29, x30, x31]).toArray)] = some (pkC b h [x0, x1, x2, x3, x4, x5, x6, x7, x8, x9, x10, x11, x12, x13, x14, x15, x16, x17, x18, x19, x20, x21, x22, x23, x24, x25, x26, x27, x28, x29, x30, x31]) := by kernel_rfl
theorem pk_full (b h : Int) (r : List UInt8) (hr : r.length = 32) : Tryd.prog.built 45 [(0, .int .i64 b), (1, .int .i64 h), (2, .agg (bytesV r).toArray)] = some (pkC b h r) :=
  match r, hr with
  | [x0, x1, x2, x3, x4, x5, x6, x7, x8, x9, x10, x11, x12, x13, x14, x15, x16, x17, x18, x19, x20, x21, x22, x23, x24, x25, x26, x27, x28, x29, x30, x31], _ => pk_full' b h x0 x1 x2 x3 x4 x5 x6 x7 x8 x9 x10 x11 x12 x13 x14 x15 x16 x17 x18 x19 x20 x21 x22 x23 x24 x25 x26 x27 x28 x29 x30 x31

set_option maxRecDepth 100000 in
set_option maxHeartbeats 400000 in
theorem r9Public_no (A : Option Addr) (n c : Nat) (b h : Int) (w : World) (hno : (decide (n ≤ 64) && mayK b h) = false) :
    Calls Tryd.prog 18 #[.slice A n c, .int .i64 b, .int .i64 h] w fun e w' => e = .returned (.tuple #[.agg zeroPk, .int .i64 1]) ∧ Ext w w' := by
  have hi := info_pkC 0 0 (List.replicate 32 0) (by simp)
  have Hm := fun w => Lib.hid (r9may_any A n c b h w)
  rw [hno] at Hm
  clear hno
  go_enter Tryd.func18, Tryd.ntmps18
  go_wp2_with (first | (refine wpList_alloc_blk rfl 45 rfl (.agg zeroPk) zero_pk ?_; intro w1 hs1 hb1 he1; clear hs1))
  with_reducible refine (Hm _).out.mono ?_
  rintro e w2 ⟨rfl, rfl⟩
  go_wp2_with (first | (refine wpList_build_to rfl 45 _ rfl zeroPk (by kernel_rfl) ?_) | (refine wpList_store_blk rfl 45 _ _ rfl w.heap.size zeroPk rfl rfl 45 zeroPk hb1 hi rfl (pkC_one _ _ _) ?_; intro w7 hs7 hb7 hg7))
  refine bodyPost_ret (v := .tuple #[.agg zeroPk, .int .i64 1]) (ret2_blk hb7 rfl rfl Tryd.underlying45 rfl hi rfl) rfl ?_
  exact ⟨rfl, he1.grown hg7 (by simp)⟩

set_option maxRecDepth 100000 in
set_option maxHeartbeats 1000000 in
theorem r9Public_yes (v : Value) (seed : List UInt8) (b h : Nat) (w : World) (hv : Sl w v seed) (hl : seed.length ≤ 64) (hm : mayK b h = true) :
    Calls Tryd.prog 18 #[v, .int .i64 (b : Int), .int .i64 (h : Int)] w fun e w' => e = .returned (.tuple #[.agg (pkC b h (pubB seed b h)), .int .i64 0]) ∧ Ext w w' := by
  obtain ⟨A, c, rfl, hc⟩ := SlR.form hv
  obtain ⟨hmb, h0, h6⟩ := (mayK_iff _ _).1 hm
  have Hm := fun w => Lib.hid (r9may_any A seed.length c b h w)
  rw [hm, decide_eq_true hl] at Hm
  have Hlv := Lib.hid (fun w' (E : Ext w w') => r9Leaves_any (.slice A seed.length c) seed b h w' (hv.ext E) hl hm)
  have Hle := Lib.hid (fun v' w' (hs : SlD w' v' (lvsB seed b h)) => r8Levels_yes v' (lvsB seed b h) h w' hs (lvsB_length _ _ _) (by omega))
  have hr := pubB_length seed b h
  have hrd : pubB seed b h = dAt (lev (lvsB seed b h) h) 0 := rfl
  have hlv := levels_length (lvsB seed b h) (h + 1)
  have hlg := levels_get (lvsB seed b h) (h + 1) h (by omega)
  have hll := lev_length (lvsB_length seed b h) h (Nat.le_refl _)
  rw [Nat.sub_self] at hll
  obtain ⟨r, hre⟩ : ∃ r, r = pubB seed b h := ⟨_, rfl⟩
  obtain ⟨lss, hls⟩ : ∃ l, l = levels (lvsB seed b h) (h + 1) := ⟨_, rfl⟩
  obtain ⟨lh, hlh⟩ : ∃ l, l = lev (lvsB seed b h) h := ⟨_, rfl⟩
  rw [← hre] at hr hrd ⊢
  rw [← hls] at hlv hlg Hle
  rw [← hlh] at hlg hrd hll
  have hi := info_pkC b h r hr
  have hs := zeroPk_size b h r hr
  have hf := pk_full b h r hr
  have Hrd := Lib.hid hrd
  have Hr := Lib.hid hr
  have Hlv2 := Lib.hid hlv
  have Hlg := Lib.hid hlg
  have Hll := Lib.hid hll
  have hh6 : h ≤ 6 := by omega
  clear hv hm hmb h0 h6 hre hls hlh hrd hr hlv hlg hll
  go_enter Tryd.func18, Tryd.ntmps18
  go_wp2_with (first | (refine wpList_alloc_blk rfl 45 rfl (.agg zeroPk) zero_pk ?_; intro w1 hs1 hb1 he1; clear hs1))
  with_reducible refine (Hm _).out.mono ?_
  rintro e w2 ⟨rfl, rfl⟩
  go_wp2_with fail
  with_reducible refine (Hlv.out _ he1).mono ?_
  rintro e w3 ⟨v3, rfl, hS3, E3⟩
  have F3 := he1.trans E3
  replace hb1 := hb1.ext E3
  have Hle3 := Lib.hid (Hle.out _ _ hS3)
  clear he1 E3 Hlv Hm Hle hS3
  go_wp2_with fail
  with_reducible refine Hle3.out.mono ?_
  rintro e w4 ⟨v4, rfl, hS4, E4⟩
  have F4 := F3.trans E4
  replace hb1 := hb1.ext E4
  obtain ⟨A4, c4, rfl, hc4⟩ := hS4.form
  rw [Hlv2.out] at hS4 hc4 ⊢
  obtain ⟨b4, o4, u4, rfl, hcu, hSu⟩ := hS4.at_ Hlv2.out.symm (k := h) (by rw [Hlv2.out]; omega)
  have hge : lss[h]'(by rw [Hlv2.out]; omega) = lh := by
    have := Hlg.out
    rw [List.getElem?_eq_getElem (by rw [Hlv2.out]; omega)] at this
    injection this
  rw [hge] at hSu
  obtain ⟨Au, cu, rfl, hcu'⟩ := hSu.form
  rw [show lh.length = 1 from Hll.out] at hcu hcu'
  obtain ⟨b5, o5, rfl, hcd⟩ := hSu.at_ (k := 0) (by rw [Hll.out]; decide)
  rw [← dAt_eq, ← Hrd.out, Nat.zero_mul, Nat.add_zero] at hcd
  have Hcd := Lib.hid hcd
  clear Hle3 F3 E4 hS4 hSu hcd hge
  have hsub : IntKind.i64.wrap (((h + 1 : Nat) : Int) - 1) = (h : Int) := by rw [show (((h + 1 : Nat) : Int) - 1) = (h : Int) by omega]; exact IntWalk.i64_in _ (by omega)
  go_wp2_with (first | (refine wpList_load_dg Hcd.out Hr.out rfl _ rfl rfl ?_; refine wpList_build_to rfl 45 _ rfl (pkC b h r) (by simp only [List.map_toArray, List.map_cons, List.map_nil]; exact hf) ?_) | (refine wpList_store_blk rfl 45 _ _ rfl w.heap.size (pkC b h r) rfl rfl 45 zeroPk hb1 hi hs (pkC_one _ _ _) ?_; intro w7 hs7 hb7 hg7))
  refine bodyPost_ret (v := .tuple #[.agg (pkC b h r), .int .i64 0]) (ret2_blk hb7 rfl rfl Tryd.underlying45 rfl hi rfl) rfl ?_
  exact ⟨rfl, F4.grown hg7 (by simp)⟩
end Go.Proofs.YtddbmddblhjkkaaDoor
/- The walk of the law SignerPublics. -/
namespace Go.Proofs.YtddbmddblhjkkaaDoor
open Go.RowKit Go.Maps

def SomeB (e : Ending) : Prop := ∃ B, e = .returned (.bool B)

set_option maxRecDepth 100000 in
set_option maxHeartbeats 400000 in
theorem small_any (b h : Int) (w : World) : Calls Tryd.prog 16 #[.int .i64 b, .int .i64 h] w fun e w' => SomeB e ∧ w = w' := by
  have Hm := fun w => Lib.hid (r7May_any b w)
  cases hm : mayB b
  all_goals
    rw [hm] at Hm
    go_enter Tryd.func16, Tryd.ntmps16
    go_wp2_with fail
    with_reducible refine (Hm _).out.mono ?_
    rintro e w2 ⟨rfl, rfl⟩
    go_wp2
    all_goals go_ret
    all_goals exact ⟨⟨_, rfl⟩, rfl⟩

/-- what both Public answer -/
theorem public_two (v : Value) (seed : List UInt8) (b h : Int) (w : World) (hK : Kst w) (hv : Sl w v seed) :
    ∃ (b' h' : Int) (r : List UInt8) (ec : Int), r.length = 32 ∧
      (∀ w', Ext w w' → Calls Tryd.prog 17 #[v, .int .i64 b, .int .i64 h] w' fun e w'' => e = .returned (.tuple #[.agg (pkC b' h' r), .int .i64 ec]) ∧ Ext w' w'') ∧
      (∀ w', Ext w w' → Calls Tryd.prog 18 #[v, .int .i64 b, .int .i64 h] w' fun e w'' => e = .returned (.tuple #[.agg (pkC b' h' r), .int .i64 ec]) ∧ Ext w' w'') := by
  by_cases hm : mayK b h = true ∧ seed.length ≤ 64
  · obtain ⟨hm, hl⟩ := hm
    obtain ⟨hmb, h0, h6⟩ := (mayK_iff _ _).1 hm
    obtain ⟨h8, _, _⟩ := (mayB_iff _).1 hmb
    obtain ⟨bn, rfl⟩ : ∃ n : Nat, b = n := ⟨b.toNat, by omega⟩
    obtain ⟨hn, rfl⟩ : ∃ n : Nat, h = n := ⟨h.toNat, by omega⟩
    exact ⟨bn, hn, pubB seed bn hn, 0, pubB_length _ _ _, fun w' E => public_yes v seed bn hn w' (hK.ext E) (hv.ext E) hl hm, fun w' E => r9Public_yes v seed bn hn w' (hv.ext E) hl hm⟩
  · obtain ⟨A, c, rfl, _⟩ := SlR.form hv
    refine ⟨0, 0, List.replicate 32 0, 1, by simp, fun w' _ => public_no A seed.length c b h w' ?_, fun w' _ => r9Public_no A seed.length c b h w' ?_⟩
    · cases hk : mayK b h with
      | false => exact .inl rfl
      | true => exact .inr ⟨rfl, by
          by_cases hl : seed.length ≤ 64
          · exact absurd ⟨hk, hl⟩ hm
          · omega⟩
    · cases hk : mayK b h with
      | false => simp
      | true =>
        rw [Bool.and_true, decide_eq_false_iff_not]
        exact fun hl => hm ⟨hk, hl⟩

set_option maxRecDepth 100000 in
set_option maxHeartbeats 1000000 in
theorem signerPublics_any (v : Value) (seed : List UInt8) (b h kb kh : Int) (r : List UInt8) (w : World) (hK : Kst w) (hv : Sl w v seed) (_ : -9223372036854775808 ≤ b ∧ b ≤ 9223372036854775807) (_ : -9223372036854775808 ≤ h ∧ h ≤ 9223372036854775807)
    (hr : r.length = 32) (_ : -9223372036854775808 ≤ kb ∧ kb ≤ 9223372036854775807) (_ : -9223372036854775808 ≤ kh ∧ kh ≤ 9223372036854775807) :
    Calls Tryd.prog 5 #[v, .int .i64 b, .int .i64 h, .agg (pkC kb kh r)] w fun e w' => e = .returned (.bool true) ∧ Ext w w' := by
  obtain ⟨b', h', r', ec, hr', p1, p2⟩ := public_two v seed b h w hK hv
  obtain ⟨A, c, rfl, _⟩ := SlR.form hv
  have hi := info_pkC kb kh r hr
  have hB := Blk.new w 45 (pkC kb kh r)
  have E0 : Ext w (w.alloc (.cells (pkC kb kh r) 45)) := (Ext.refl w).alloc _
  have M1 := fun w' => Lib.hid (sMay_any kb kh r w')
  have M2 := fun w' => Lib.hid (r9May_any kb kh r w')
  have Hsm := fun w' => Lib.hid (small_any b h w')
  have Hlv := Lib.hid (fun w' (E : Ext w w') => lives9_any w' (hK.ext E))
  have ip : Hid ((Tryd.prog.info? 45).map (·.size) = some (pkC b' h' r').size) := info_pkC b' h' r' hr'
  have sp : Hid (zeroPk.size = (pkC b' h' r').size) := zeroPk_size b' h' r' hr'
  have op : Hid ((pkC b' h' r').all (·.oneCell') = true) := Lib.hid (pkC_one _ _ _)
  have heq : ∀ w, (Op.equalIn 10000 45 (.agg (pkC b' h' r')) (.agg (pkC b' h' r'))).run Tryd.prog w = .ok true w := equal_pk b' h' r' hr'
  obtain ⟨P, hP⟩ : ∃ P, P = pkC kb kh r := ⟨_, rfl⟩
  obtain ⟨G, hG⟩ : ∃ G, G = pkC b' h' r' := ⟨_, rfl⟩
  simp only [← hP] at hB E0 hi M1 M2 ⊢
  simp only [← hG] at p1 p2 ip sp op heq
  have P1 := Lib.hid p1
  have P2 := Lib.hid p2
  have hee : (ec == ec) = true := by simp
  clear hP hG p1 p2 hv hr hr'
  by_cases h2 : (seed.length : Int) > 200
  · go_enter Tryd.func5, Tryd.ntmps5
    go_wp2_with fail
    with_reducible refine (Hlv.out _ E0).mono ?_
    rintro e w1 ⟨rfl, E1⟩
    go_wp2
    go_ret
    exact ⟨rfl, E0.trans E1⟩
  · go_enter Tryd.func5, Tryd.ntmps5
    go_wp2_with fail
    with_reducible refine (Hsm _).out.mono ?_
    rintro e w1 ⟨⟨B, rfl⟩, rfl⟩
    cases B with
    | false =>
      go_wp2_with fail
      with_reducible refine (Hlv.out _ E0).mono ?_
      rintro e w1 ⟨rfl, E1⟩
      go_wp2
      go_ret
      exact ⟨rfl, E0.trans E1⟩
    | true =>
      go_wp2_with fail
      with_reducible refine (P1.out _ E0).mono ?_
      rintro e w1 ⟨rfl, E1⟩
      have F1 := E0.trans E1
      have B1 := hB.ext E1
      clear E0 E1 hB Hsm P1
      go_wp2_with (first | (refine wpList_var rfl rfl 45 rfl _ _ rfl (.agg zeroPk) zero_pk G rfl rfl ip.out sp.out op.out ?_; intro w2 D2 E2))
      have F2 := F1.trans E2
      have B2 := B1.ext E2
      clear F1 E2 B1
      with_reducible refine (P2.out _ F2).mono ?_
      rintro e w3 ⟨rfl, E3⟩
      have F3 := F2.trans E3
      have B3 := B2.ext E3
      have D3 := D2.ext E3
      clear F2 E3 B2 D2 P2
      go_wp2_with (first | (refine wpList_var rfl rfl 45 rfl _ _ rfl (.agg zeroPk) zero_pk G rfl rfl ip.out sp.out op.out ?_; intro w4 D4 E4))
      have F4 := F3.trans E4
      have B4 := B3.ext E4
      have C4 := D3.ext E4
      clear F3 E4 B3 D3
      refine wp_region_chain 18 [(false, 0), (true, 1), (true, 2), (true, 3), (true, 4), (true, 5), (true, 6), (true, 7), (true, 8), (true, 9), (true, 10), (true, 11), (true, 12), (true, 14), (false, 13), (false, 15), (true, 16), (true, 17)] (fun w' => Ext w4 w') (by kernel_rfl) (by kernel_rfl) (Ext.refl w4).drew ?_
      have E4 : Ext w4 w4.drew := (Ext.refl w4).drew
      refine wpTake_do _ _ rfl rfl (fun K hK' => ?_)
      refine wp_call ?_ (enters_of (P := Tryd.prog) Tryd.func9 (by kernel_rfl) rfl _ _) (Hlv.out _ (F4.trans E4)) ?_
      focus
        rw [execOp_call_go]
        simp only [List.map_toArray, List.map_nil, List.append_toArray, List.append_nil]
      rintro e w5 ⟨rfl, E5'⟩
      have E5 := E4.trans E5'
      refine ⟨_, rfl, hK' _ _ E5 ?_⟩
      clear hK' K
      simp only [Act.put, List.setIfInBounds_toArray, List.set_cons_zero, List.set_cons_succ]
      iterate 1
        refine wpTake_read _ _ ?_ rfl rfl ?_ ?_
        rotate_left 1
        focus
          intro wS hS
          go_simp
          first | done | with_reducible rfl
        simp only [Act.put, List.setIfInBounds_toArray, List.set_cons_zero, List.set_cons_succ]
      refine wpTake_load _ _ rfl rfl 45 _ rfl (.agg G) (fun wS hS => load_blk (C4.ext hS) Tryd.underlying45 rfl ip.out) ?_
      simp only [Act.put, List.setIfInBounds_toArray, List.set_cons_zero, List.set_cons_succ]
      refine wpTake_load _ _ rfl rfl 45 _ rfl (.agg G) (fun wS hS => load_blk (D4.ext hS) Tryd.underlying45 rfl ip.out) ?_
      simp only [Act.put, List.setIfInBounds_toArray, List.set_cons_zero, List.set_cons_succ]
      iterate 8
        refine wpTake_read _ _ ?_ rfl rfl ?_ ?_
        rotate_left 1
        focus
          intro wS hS
          go_simp
          first | done | with_reducible rfl
        simp only [Act.put, List.setIfInBounds_toArray, List.set_cons_zero, List.set_cons_succ]
      iterate 2
        refine wpTake_load _ _ rfl rfl 45 _ rfl (.agg P) (fun wS hS => load_blk (B4.ext hS) Tryd.underlying45 rfl hi) ?_
        simp only [Act.put, List.setIfInBounds_toArray, List.set_cons_zero, List.set_cons_succ]
      refine wpTake_do _ _ rfl rfl (fun K hK' => ?_)
      refine wp_call ?_ (enters_of (P := Tryd.prog) Tryd.func19 (by kernel_rfl) rfl _ _) (M1 _).out ?_
      focus
        rw [execOp_call_go]
        simp only [List.map_toArray, List.map_cons, List.map_nil, List.append_toArray, List.nil_append, List.append_nil]
        rfl
      rintro e w6 ⟨rfl, E6'⟩
      have E6 := E5.trans E6'
      refine ⟨_, rfl, hK' _ _ E6 ?_⟩
      clear hK' K
      simp only [Act.put, List.setIfInBounds_toArray, List.set_cons_zero, List.set_cons_succ]
      refine wpTake_do _ _ rfl rfl (fun K hK' => ?_)
      refine wp_call ?_ (enters_of (P := Tryd.prog) Tryd.func20 (by kernel_rfl) rfl _ _) (M2 _).out ?_
      focus
        rw [execOp_call_go]
        simp only [List.map_toArray, List.map_cons, List.map_nil, List.append_toArray, List.nil_append, List.append_nil]
        rfl
      rintro e w7 ⟨rfl, E7'⟩
      have E7 := E6.trans E7'
      refine ⟨_, rfl, hK' _ _ E7 ?_⟩
      clear hK' K
      simp only [Act.put, List.setIfInBounds_toArray, List.set_cons_zero, List.set_cons_succ]
      iterate 2
        refine wpTake_read _ _ ?_ rfl rfl ?_ ?_
        rotate_left 1
        focus
          intro wS hS
          go_simp
          first | done | with_reducible rfl
        simp only [Act.put, List.setIfInBounds_toArray, List.set_cons_zero, List.set_cons_succ]
      refine wpTake_nil ?_
      go_wp2
      refine NoPanic.normal ?_
      go_wp2
      go_ret
      exact ⟨rfl, F4.trans E7⟩
end Go.Proofs.YtddbmddblhjkkaaDoor
/- PROVED: the law SignerPublics of package pursuivantlaw09 returns true at every input and leaves its arguments as they were: any key's public part, and whether it may be, are the reference's. CONDITION: the package-level variable sha.constants holds what its initialiser lays (the card ties it). -/
namespace Go.Proofs.YtddbmddblhjkkaaDoor.signerPublics
open Go.ChangeShapes Go.WideShapes Go.ChangeAt Go.RowKit

set_option maxRecDepth 100000 in
set_option maxHeartbeats 1000000 in
theorem contract (H : Type) (enc : TypeId × Value → H) (W : World) (base : Nat) (args : Array Value) (ds gs : List (DataW H)) (before : List MemPlace)
    (hval : ∀ (j : Nat) t v, Tryd.f5.params[j]? = some t → args[j]? = some v → Value.okWide Tryd.prog W .any base t v)
    (hW : DataW.Whole enc Tryd.prog Tryd.f5.params.toList Rows.signerPublicsSpec.vars false W args.toList ds gs before) (hL : laidMetH Tryd.prog Rows.signerPublicsRow.laid W) :
    Calls Tryd.prog 5 args W fun e W' => ∃ v, e = .returned v ∧ Rows.signerPublicsSpec.post enc Tryd.prog Tryd.f5 false true false false W args v W' := by
  have hW' := hW
  obtain ⟨p, q, hA0, hV, rfl, hfz, hnd⟩ := hW
  have hA : DataW.TrodAll enc Tryd.prog W 0 (fun _ => true) true Tryd.f5.params.toList args.toList ds p := hA0
  rw [Tryd.params5] at hA hval
  obtain ⟨v0, vs0, d0, ds0, p0, q0, hargs, rfl, rfl, h0, r0⟩ := trodAll_cons hA
  obtain ⟨v1, vs1, d1, ds1, p1, q1, rfl, rfl, rfl, h1, r1⟩ := trodAll_cons r0
  obtain ⟨v2, vs2, d2, ds2, p2, q2, rfl, rfl, rfl, h2, r2⟩ := trodAll_cons r1
  obtain ⟨v3, vs3, d3, ds3, p3, q3, rfl, rfl, rfl, h3, r3⟩ := trodAll_cons r2
  obtain ⟨rfl, rfl, rfl⟩ := trodAll_nil r3
  obtain rfl : args = #[v0, v1, v2, v3] := by cases args; simp_all
  have hts : ∀ t ∈ Tryd.f5.params.toList, Tryd.prog.readableRec t = true ∧ t < Tryd.prog.types.size := by
    rw [Tryd.params5]
    intro t ht
    simp at ht
    rcases ht with rfl | rfl | rfl
    · exact ⟨by kernel_rfl, of_decide_eq_true (by kernel_rfl)⟩
    · exact ⟨by kernel_rfl, of_decide_eq_true (by kernel_rfl)⟩
    · exact ⟨by kernel_rfl, of_decide_eq_true (by kernel_rfl)⟩
  obtain ⟨x0, hx0, hm0⟩ := open_bytes (hval 0 22 v0 rfl rfl) h0
  obtain ⟨x1, rfl, hx1⟩ := open_i64 (hval 1 3 v1 rfl rfl) h1
  obtain ⟨x2, rfl, hx2⟩ := open_i64 (hval 2 3 v2 rfl rfl) h2
  obtain ⟨x3, y3, g3, rfl, hr3, hx3, hy3⟩ := open_PubKey (hval 3 45 v3 rfl rfl) h3
  refine (signerPublics_any v0 x0 x1 x2 x3 y3 g3 W (kst_of hL) hx0 hx1 hx2 hr3 hx3 hy3).mono fun e W' ⟨he, hE⟩ => ?_
  subst he
  exact ⟨_, rfl, post_true 4 (by kernel_rfl) Tryd.underlying4 rfl laidOut hts hW' rfl hE⟩

noncomputable def args0 : Array Value := #[.slice none 0 0, .int .i64 0, .int .i64 0, .agg #[.int .i64 0, .int .i64 0, .int .u8 0, .int .u8 0, .int .u8 0, .int .u8 0, .int .u8 0, .int .u8 0, .int .u8 0, .int .u8 0, .int .u8 0, .int .u8 0, .int .u8 0, .int .u8 0, .int .u8 0, .int .u8 0, .int .u8 0, .int .u8 0, .int .u8 0, .int .u8 0, .int .u8 0, .int .u8 0, .int .u8 0, .int .u8 0, .int .u8 0, .int .u8 0, .int .u8 0, .int .u8 0, .int .u8 0, .int .u8 0, .int .u8 0, .int .u8 0, .int .u8 0, .int .u8 0]]
theorem laid_met (os : Os) : laidMet Tryd.prog Rows.signerPublicsRow.laid ((laidWorld os).forCall (fun _ _ => 0) ⟨#[], args0, []⟩).memory :=
  laidMet_of_run' 8 (by kernel_rfl) (by kernel_rfl)
theorem reads (os : Os) {H : Type} (enc : TypeId × Value → H) : DataW.whole enc Tryd.prog ((laidWorld os).forCall (fun _ _ => 0) ⟨#[], args0, []⟩).memory Tryd.f5.params.toList Rows.signerPublicsSpec.vars false args0.toList 8 = some ([.nil, .lit (.int .i64 0), .lit (.int .i64 0), .agg [.lit (.int .i64 0), .lit (.int .i64 0), .agg [.lit (.int .u8 0), .lit (.int .u8 0), .lit (.int .u8 0), .lit (.int .u8 0), .lit (.int .u8 0), .lit (.int .u8 0), .lit (.int .u8 0), .lit (.int .u8 0), .lit (.int .u8 0), .lit (.int .u8 0), .lit (.int .u8 0), .lit (.int .u8 0), .lit (.int .u8 0), .lit (.int .u8 0), .lit (.int .u8 0), .lit (.int .u8 0), .lit (.int .u8 0), .lit (.int .u8 0), .lit (.int .u8 0), .lit (.int .u8 0), .lit (.int .u8 0), .lit (.int .u8 0), .lit (.int .u8 0), .lit (.int .u8 0), .lit (.int .u8 0), .lit (.int .u8 0), .lit (.int .u8 0), .lit (.int .u8 0), .lit (.int .u8 0), .lit (.int .u8 0), .lit (.int .u8 0), .lit (.int .u8 0)]]], [], []) := by kernel_rfl

set_option maxRecDepth 100000 in
theorem lifted (os : Os) (started : os.Started) (H : Type) (enc : TypeId × Value → H) (F : Stop.Interp) :
    ReturnsInHanded {} Tryd.checked os 5 .any ((OpenSpec.ofChange Rows.signerPublicsSpec).preRow enc Tryd.prog Tryd.f5 Rows.signerPublicsRow.domain false Rows.signerPublicsRow.laid) (((OpenSpec.ofChange Rows.signerPublicsSpec).at F).post enc Tryd.prog Tryd.f5 false true false false) := by
  refine returnsInHanded_of_row (C := Tryd.checked) (s := OpenSpec.ofChange Rows.signerPublicsSpec) own started (by kernel_rfl) Tryd.func5
    (witness_row_at (enc := enc) (C := Tryd.checked) false (laidWorld os) args0 rfl (by kernel_rfl) (by kernel_rfl) (by kernel_rfl)
      (OpenSpec.preRow_of_cond 8 (reads os enc) (by kernel_rfl) (fun k hk => by cases hk) (by kernel_rfl) (laid_met os))) ?_
  intro W base args ds gs before hval hW _ _ _ hL _ _
  exact contract H enc W base args ds gs before hval hW hL

theorem named : Tryd.prog.funcNamed "pursuivant/pursuivantlaw09.SignerPublics" = some 5 := by kernel_rfl
theorem facts : joinedFacts Tryd.prog 5 Tryd.f5 (OpenSpec.ofChange Rows.signerPublicsSpec).bare Rows.signerPublicsRow = true := by kernel_rfl
theorem inst : Tryd.f5.isInstance Tryd.prog Rows.signerPublicsRow.origin Rows.signerPublicsRow.targs := of_decide_eq_true (by kernel_rfl)
theorem wrap : Tryd.f5.isWrapper Tryd.prog Rows.signerPublicsRow.wrapper Rows.signerPublicsRow.mainSum := by unfold Func.isWrapper; first | (rw [if_pos (by decide +kernel)]; kernel_rfl) | (rw [if_neg (by decide +kernel)]; exact ⟨rfl, rfl⟩)
theorem said : Rows.SignerPublicsSaid :=
  OpenClaim.holds_of_cond 5 Tryd.f5 rfl rfl rfl rfl rfl rfl rfl ⟨rfl, rfl, rfl, rfl, rfl⟩ rfl rfl rfl rfl rfl named Tryd.func5 facts inst wrap
    (fun os started H enc _ F => by rw [OpenClaim.pre_eq_preRow]; exact lifted os started H enc F)

theorem plain (f : FuncId) (fn : Func) (hf : Tryd.pinned.checked.prog.funcNamed "pursuivant/pursuivantlaw09.SignerPublics" = some f) (hfn : Tryd.pinned.checked.prog.funcs[f]? = some fn) :
    false = Tryd.pinned.checked.prog.looks [] ∧ ∀ (j : Nat) t, fn.params[j]? = some t → Tryd.pinned.checked.prog.wantsStandIn t = false := by
  obtain rfl : f = 5 := Option.some.inj ((show Tryd.prog.funcNamed "pursuivant/pursuivantlaw09.SignerPublics" = some 5 by kernel_rfl).symm.trans hf) |>.symm
  obtain rfl : fn = Tryd.f5 := (Option.some.inj (Tryd.func5.symm.trans hfn)).symm
  refine ⟨by kernel_rfl, fun j t ht => ?_⟩
  rw [Tryd.params5] at ht
  have ht' := Array.mem_of_getElem? ht
  simp at ht'
  rcases ht' with rfl | rfl | rfl
  · exact (show Tryd.prog.wantsStandIn 22 = false by kernel_rfl)
  · exact (show Tryd.prog.wantsStandIn 3 = false by kernel_rfl)
  · exact (show Tryd.prog.wantsStandIn 45 = false by kernel_rfl)

theorem card : Rows.SignerPublicsCardSaid :=
  Claim7.holds_tied_plain_at .later [] _ _ _ _ said (fun _ h => by cases h) (by kernel_rfl) (fun _ h => by cases h) signerPublics_row_tie rfl ⟨rfl, rfl⟩ (by kernel_rfl) rfl plain (by kernel_rfl)
#print axioms card
end Go.Proofs.YtddbmddblhjkkaaDoor.signerPublics
