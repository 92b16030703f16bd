/- PROVED: the law SignerVerifies of package pursuivantlaw09 returns true at every input and leaves its arguments as they were: whether any signature of any message holds for any public part is what the reference says. CONDITION: the package-level variable sha.constants holds what its initialiser lays (the card ties it). -/
import Derived.Test.YtddbmddblhjkkaaDoorMgA5
import Derived.Test.YtddbmddblhjkkaaDoorMgA4
import Derived.Deep.Strs
import Derived.Test.YtddbmddblhjkkaaDoorMgA3
import Derived.Test.YtddbmddblhjkkaaDoorCards
import Derived.Test.YtddbmddblhjkkaaDoorTie
/- Arguments that are public keys, signatures and calls of a signer, opened. -/
namespace Go.Proofs.YtddbmddblhjkkaaDoor
open Go.ChangeShapes Go.WideShapes Go.ChangeAt Go.RowKit

section
variable {H : Type} {enc : TypeId × Value → H}
theorem cells_int : Tryd.prog.cellsOf 3 = 1 := by kernel_rfl
theorem i64_wf {x : Int} (wx : (Lit.int .i64 x).wf = true) : -9223372036854775808 ≤ x ∧ x ≤ 9223372036854775807 := by
  simp [Lit.wf, IntKind.min, IntKind.max, IntKind.signed, IntKind.bits] at wx
  omega
theorem cells_pk : Tryd.prog.cellsOf 45 = 34 := by kernel_rfl
set_option maxRecDepth 100000 in
theorem open_PubKey {w : World} {r : Reach} {b0 : Nat} {base : Nat} {spare : Nat → Bool} {held : Bool} {v : Value} {d : DataW H} {ps : List MemPlace} (hval : Value.okWide Tryd.prog w r b0 45 v) (h : DataW.Trod enc Tryd.prog w base spare held 45 v d ps) :
    ∃ (b h : Int) (r : List UInt8), v = .agg (pkC b h r) ∧ r.length = 32 ∧ (-9223372036854775808 ≤ b ∧ b ≤ 9223372036854775807) ∧ (-9223372036854775808 ≤ h ∧ h ≤ 9223372036854775807) := by
  obtain ⟨cs, rfl, hsz⟩ := okWide_struct Tryd.underlying45 hval
  obtain ⟨fuel, hf⟩ := h
  obtain ⟨y0, y1, y2, n, _, _, h0, h1, h2⟩ := Deep.trod_struct3 Tryd.underlying45 hf
  rw [cells_pk] at hsz
  obtain ⟨l⟩ := cs
  match l, hsz with
  | u0 :: u1 :: rest, hsz =>
    have hr : rest.length = 32 := by simpa using hsz
    dsimp only at h0 h1 h2
    rw [cells_int] at h0 h1
    rw [cells_a32] at h2
    obtain ⟨i0, e0, _, w0⟩ := DataW.trod_int Tryd.underlying3 h0
    obtain ⟨i1, e1, _, w1⟩ := DataW.trod_int Tryd.underlying3 h1
    obtain ⟨r, e2, hl⟩ := trod_a32 h2
    simp [Value.cells] at e0 e1 e2
    rw [List.take_of_length_le (by omega)] at e2
    subst e0 e1 e2
    exact ⟨i0, i1, r, rfl, hl, i64_wf w0, i64_wf w1⟩
theorem cells_once : Tryd.prog.cellsOf 35 = 2 := by kernel_rfl
theorem cells_sig : Tryd.prog.cellsOf 37 = 4 := by kernel_rfl
set_option maxRecDepth 100000 in
theorem open_Sig {w : World} {r : Reach} {b0 : Nat} {base : Nat} {spare : Nat → Bool} {held : Bool} {v : Value} {d : DataW H} {ps : List MemPlace} (hval : Value.okWide Tryd.prog w r b0 37 v) (h : DataW.Trod enc Tryd.prog w base spare held 37 v d ps) :
    ∃ (i : Int) (rv ov wv : Value) (rev oth way : List (List UInt8)), v = .agg (sigC i rv ov wv) ∧ (-9223372036854775808 ≤ i ∧ i ≤ 9223372036854775807) ∧ SlD w rv rev ∧ SlD w ov oth ∧ SlD w wv way := by
  obtain ⟨cs, rfl, hsz⟩ := okWide_struct Tryd.underlying37 hval
  obtain ⟨fuel, hf⟩ := h
  obtain ⟨y0, y1, y2, n, _, _, h0, h1, h2⟩ := Deep.trod_struct3 Tryd.underlying37 hf
  rw [cells_sig] at hsz
  obtain ⟨l⟩ := cs
  match l, hsz with
  | [u0, u1, u2, u3], _ =>
    dsimp only at h0 h1 h2
    rw [cells_int] at h0
    rw [cells_once] at h1
    rw [cells_ds] at h2
    obtain ⟨i0, e0, _, w0⟩ := DataW.trod_int Tryd.underlying3 h0
    obtain ⟨y3, y4, n', _, _, h3, h4⟩ := trod_struct2 Tryd.underlying35 h1
    dsimp only at h3 h4
    rw [cells_ds] at h3 h4
    obtain ⟨rev, hr, _⟩ := trod_ds h3
    obtain ⟨oth, ho, _⟩ := trod_ds h4
    obtain ⟨way, hw, _⟩ := trod_ds h2
    simp [Value.cells] at e0
    subst e0
    exact ⟨i0, u1, u2, u3, rev, oth, way, rfl, i64_wf w0, hr, ho, hw⟩
theorem cells_Op : Tryd.prog.cellsOf 32 = 3 := by kernel_rfl
set_option maxRecDepth 100000 in
theorem open_Op {w : World} {r : Reach} {b0 : Nat} {base : Nat} {spare : Nat → Bool} {held : Bool} {v : Value} {d : DataW H} {ps : List MemPlace} (hval : Value.okWide Tryd.prog w r b0 32 v) (h : DataW.Trod enc Tryd.prog w base spare held 32 v d ps) :
    ∃ (k l : Int) (mv : Value), v = .agg #[.int .i64 k, .int .i64 l, mv] := by
  obtain ⟨v0, v1, v2, y0, y1, y2, n, rfl, _, _, h0, h1, _⟩ := Joins.open_agg3 Tryd.underlying32 (by kernel_rfl) cells_Op hval h
  obtain ⟨i0, e0, _, _⟩ := DataW.trod_int Tryd.underlying3 h0
  obtain ⟨i1, e1, _, _⟩ := DataW.trod_int Tryd.underlying3 h1
  simp at e0 e1
  subst e0 e1
  exact ⟨i0, i1, v2, rfl⟩
end
end Go.Proofs.YtddbmddblhjkkaaDoor
/- pursuivantref08: Way of a leaf that is there; Climb. -/
namespace Go.Proofs.YtddbmddblhjkkaaDoor
open Go.RowKit

theorem cells_blk {w : World} {g : Nat} {t : TypeId} {d : List UInt8} (h : Blk w g t (bytesV d).toArray) : Cells w g 0 (bytesV d) := fun j v hv => by
  rw [Nat.zero_add, h.cell]
  simpa using hv


set_option maxRecDepth 100000 in
set_option maxHeartbeats 400000 in
theorem r8Climb_no (x : List UInt8) (i : Int) (A : Option Addr) (n c : Nat) (w : World) (hno : climbOk n i = false) :
    Calls Tryd.prog 45 #[dgV x, .int .i64 i, .slice A n c] w fun e w' => e = .returned (.tuple #[.agg zb32, .int .i64 1]) ∧ Ext w w' := by
  have E0 : Ext w (w.alloc (.cells (bytesV x).toArray 43)) := (Ext.refl w).alloc _
  by_cases h6 : n ≤ 6
  · by_cases h0 : 0 ≤ i
    · have hi : (2 : Int) ^ n ≤ i := by simpa [climbOk, h6, h0] using hno
      obtain ⟨p, hp⟩ : ∃ p, p = (2 : Int) ^ n := ⟨_, rfl⟩
      have hw : wrap64 ((2 : Int) ^ n) = p := by rw [hp]; exact wrap_pow h6
      rw [← hp] at hi
      clear hno hp
      go_enter Tryd.func45, Tryd.ntmps45
      go_wp2_with (first | (refine wpList_alloc_blk rfl 43 rfl (.agg zb32) zero_a32 ?_; intro w1 hs1 hb1 he1; clear hs1; simp only [World.size_alloc] at hb1) | (refine wpList_build_to rfl 43 _ rfl zb32 (by kernel_rfl) ?_) | (refine wpList_store_blk rfl 43 _ _ rfl (w.heap.size + 1) zb32 rfl rfl 43 zb32 hb1 info_a32 rfl zb32_one ?_; intro w7 hs7 hb7 hg7))
      refine bodyPost_ret (v := .tuple #[.agg zb32, .int .i64 1]) (ret2_blk hb7 rfl rfl Tryd.underlying43 rfl info_a32 rfl) rfl ?_
      exact ⟨rfl, (E0.trans he1).grown hg7 (by simp)⟩
    · have hi : i < 0 := by omega
      clear hno
      go_enter Tryd.func45, Tryd.ntmps45
      go_wp2_with (first | (refine wpList_alloc_blk rfl 43 rfl (.agg zb32) zero_a32 ?_; intro w1 hs1 hb1 he1; clear hs1; simp only [World.size_alloc] at hb1) | (refine wpList_build_to rfl 43 _ rfl zb32 (by kernel_rfl) ?_) | (refine wpList_store_blk rfl 43 _ _ rfl (w.heap.size + 1) zb32 rfl rfl 43 zb32 hb1 info_a32 rfl zb32_one ?_; intro w7 hs7 hb7 hg7))
      refine bodyPost_ret (v := .tuple #[.agg zb32, .int .i64 1]) (ret2_blk hb7 rfl rfl Tryd.underlying43 rfl info_a32 rfl) rfl ?_
      exact ⟨rfl, (E0.trans he1).grown hg7 (by simp)⟩
  · have hi : (6 : Int) < (n : Int) := by omega
    clear hno
    go_enter Tryd.func45, Tryd.ntmps45
    go_wp2_with (first | (refine wpList_alloc_blk rfl 43 rfl (.agg zb32) zero_a32 ?_; intro w1 hs1 hb1 he1; clear hs1; simp only [World.size_alloc] at hb1) | (refine wpList_build_to rfl 43 _ rfl zb32 (by kernel_rfl) ?_) | (refine wpList_store_blk rfl 43 _ _ rfl (w.heap.size + 1) zb32 rfl rfl 43 zb32 hb1 info_a32 rfl zb32_one ?_; intro w7 hs7 hb7 hg7))
    refine bodyPost_ret (v := .tuple #[.agg zb32, .int .i64 1]) (ret2_blk hb7 rfl rfl Tryd.underlying43 rfl info_a32 rfl) rfl ?_
    exact ⟨rfl, (E0.trans he1).grown hg7 (by simp)⟩

set_option maxRecDepth 100000 in
set_option maxHeartbeats 1000000 in
theorem r8Climb_yes (x : List UInt8) (i : Nat) (v : Value) (ds : List (List UInt8)) (w : World) (hx : x.length = 32) (hv : SlD w v ds) (hn : ds.length ≤ 6) (hi : i < 2 ^ ds.length) :
    Calls Tryd.prog 45 #[dgV x, .int .i64 (i : Int), v] w fun e w' => e = .returned (.tuple #[dgV (climbB x i ds), .int .i64 0]) ∧ Ext w w' := by
  obtain ⟨A, c, rfl, hc⟩ := hv.form
  have hB0 := Blk.new w 43 (bytesV x).toArray
  have E0 : Ext w (w.alloc (.cells (bytesV x).toArray 43)) := (Ext.refl w).alloc _
  have hle := pow_le hn
  obtain ⟨p, hp⟩ : ∃ p, p = (2 : Int) ^ ds.length := ⟨_, rfl⟩
  have hw : wrap64 ((2 : Int) ^ ds.length) = p := by rw [hp]; exact wrap_pow hn
  have hip : (i : Int) < p := by rw [hp]; exact_mod_cast hi
  have Hx := Lib.hid hx
  have HV := Lib.hid hv
  have H64 := Lib.hid (Nat.lt_of_lt_of_le hi hle)
  have ix : Hid ((Tryd.prog.info? 43).map (·.size) = some (bytesV x).toArray.size) := dg_i x Hx.out
  have sx : Hid (zb32.size = (bytesV x).toArray.size) := zb32_size _ Hx.out
  clear hv hx hp hi hle
  go_enter Tryd.func45, Tryd.ntmps45
  go_wp2_with (first | (refine wpList_load_blk (hB0.ext he1) rfl 43 _ rfl rfl Tryd.underlying43 rfl ix.out ?_) | (have _ := he1; refine wpList_var rfl rfl 43 rfl _ _ rfl (.agg zb32) zero_a32 (bytesV x).toArray rfl rfl ix.out sx.out (bytes_one _) ?_; intro w4 D4 E4) | (refine wpList_alloc_blk rfl 43 rfl (.agg zb32) zero_a32 ?_; intro w1 hs1 hb1 he1; simp only [World.size_alloc] at hb1 hs1))
  rw [hs1] at D4
  have HX4 := Lib.hid D4
  have HZ4 := Lib.hid (hb1.ext E4)
  have F4 := (E0.trans he1).trans E4
  clear hb1 hB0 he1 hip hw D4 E4 E0
  go_wp2
  go_loopw [1, 9] (fun j n wr => ∃ k : Nat, k ≤ ds.length ∧ n = .int .i64 (k : Int) ∧ j = .int .i64 ((i / 2 ^ k : Nat) : Int) ∧ Blk wr (w.heap.size + 1 + 1) 43 (bytesV (climbB x i (ds.take k))).toArray ∧ Blk wr (w.heap.size + 1) 43 zb32 ∧ Ext w wr) (fun _ n _ => ds.length - (intOf n).toNat)
  case atStart => exact ⟨0, by omega, rfl, by simp, by simpa [climbB] using HX4.out, HZ4.out, F4⟩
  case round =>
    obtain ⟨k, hk, rfl, rfl, hB, hZ, E⟩ := hrel
    clear HX4 HZ4 F4
    have hcl := climbB_length (ds.take k) x i Hx.out
    by_cases hlt : k < ds.length
    · obtain ⟨b, o, rfl, hcd⟩ := (HV.out.ext E).at_ hlt
      have hld := HV.out.len hlt
      have hstep := climb_take (x := x) (i := i) hlt
      have hp2 : i / 2 ^ (k + 1) = i / 2 ^ k / 2 := by rw [Nat.pow_succ, ← Nat.div_div_eq_div_mul]
      obtain ⟨q, hq⟩ : ∃ q, q = i / 2 ^ k := ⟨_, rfl⟩
      obtain ⟨z, hz⟩ : ∃ z, z = ds[k] := ⟨_, rfl⟩
      obtain ⟨y, hy⟩ : ∃ y, y = climbB x i (ds.take k) := ⟨_, rfl⟩
      have hqb : q ≤ 64 := by have := Nat.div_le_self i (2 ^ k); have := H64.out; omega
      rw [← hq, ← hz, ← hy] at hstep
      rw [← hz] at hcd hld
      rw [← hy] at hB hcl
      rw [← hq] at hp2 ⊢
      have Hcd := Lib.hid hcd
      have Hld := Lib.hid hld
      have Hcl := Lib.hid hcl
      have Hst := Lib.hid hstep
      have Hp2 := Lib.hid hp2
      have HB := Lib.hid hB
      have HZ := Lib.hid hZ
      clear hcd hld hcl hstep hq hz hy hp2 hB hZ
      by_cases h2 : q % 2 = 0
      · have hb : (((q : Int) % 2) == 0) = true := by rw [beq_iff_eq]; omega
        have Hnd := Lib.hid (fun w' => r8Node_any y z Hcl.out Hld.out w')
        have hnl := nodeB_length y z
        rw [if_pos h2] at Hst
        obtain ⟨r, hr⟩ : ∃ r, r = nodeB y z := ⟨_, rfl⟩
        rw [← hr] at Hnd hnl Hst
        have ir : Hid ((Tryd.prog.info? 43).map (·.size) = some (bytesV r).toArray.size) := dg_i r hnl
        have sr : Hid ((bytesV y).toArray.size = (bytesV r).toArray.size) := by show _ = _; simp [bytesV_length, Hcl.out, hnl]
        clear hr hnl
        go_wp2
        refine wp_region_chain 6 [(true, 0), (true, 1), (true, 2), (true, 3), (true, 4), (false, 5)] (fun w' => Ext wr w') (by kernel_rfl) (by kernel_rfl) (Ext.refl wr).drew ?_
        refine wpTake_load _ _ rfl rfl 43 _ rfl (.agg (bytesV y).toArray) (fun wS hS => run_load_dg (cells_blk (HB.out.ext hS)) Hcl.out) ?_
        simp only [Act.put, List.setIfInBounds_toArray, List.set_cons_zero, List.set_cons_succ]
        iterate 3
          refine wpTake_read _ _ ?_ rfl rfl ?_ ?_
          rotate_left 1
          focus
            intro wS hS
            clear hS
            go_simp
            first | done | with_reducible rfl
          simp only [Act.put, List.setIfInBounds_toArray, List.set_cons_zero, List.set_cons_succ]
        refine wpTake_load _ _ rfl rfl 43 _ rfl (.agg (bytesV z).toArray) (fun wS hS => run_load_dg (Hcd.out.ext hS) Hld.out) ?_
        simp only [Act.put, List.setIfInBounds_toArray, List.set_cons_zero, List.set_cons_succ]
        refine wpTake_do _ _ rfl rfl (fun K hK' => ?_)
        go_simp
        refine (Hnd.out _).mono ?_
        rintro e w5 ⟨rfl, E5⟩
        have E05 : Ext wr w5 := (Ext.refl wr).drew.trans E5
        refine hK' _ _ E05 ?_
        clear hK' K
        refine wpTake_nil ?_
        simp only [List.drop_succ_cons, List.drop_zero]
        have HB5 := Lib.hid (HB.out.ext E05)
        have HZ5 := Lib.hid (HZ.out.ext E05)
        have F5 := E.trans E05
        clear HB HZ E5 E05
        go_wp2_with (first | (refine wpList_store_blk rfl 43 _ _ rfl (w.heap.size + 1 + 1) (bytesV r).toArray rfl rfl 43 _ HB5.out ir.out sr.out (bytes_one _) ?_; intro w7 hs7 hb7 hg7))
        refine NoPanic.normal ?_
        go_wp2
        go_roundw
        case rel => exact ⟨k + 1, hlt, by go_num, by rw [Hp2.out]; go_num, by rw [Hst.out]; exact hb7, HZ5.out.grown hg7 (by simp), F5.grown hg7 (by simp; omega)⟩
        case measure => simp [intOf]; omega
      · have hb : (((q : Int) % 2) == 0) = false := by rw [beq_eq_false_iff_ne]; omega
        have Hnd := Lib.hid (fun w' => r8Node_any z y Hld.out Hcl.out w')
        have hnl := nodeB_length z y
        rw [if_neg h2] at Hst
        obtain ⟨r, hr⟩ : ∃ r, r = nodeB z y := ⟨_, rfl⟩
        rw [← hr] at Hnd hnl Hst
        have ir : Hid ((Tryd.prog.info? 43).map (·.size) = some (bytesV r).toArray.size) := dg_i r hnl
        have sr : Hid ((bytesV y).toArray.size = (bytesV r).toArray.size) := by show _ = _; simp [bytesV_length, Hcl.out, hnl]
        clear hr hnl
        go_wp2
        refine wp_region_chain 6 [(true, 0), (true, 1), (true, 2), (true, 3), (true, 4), (false, 5)] (fun w' => Ext wr w') (by kernel_rfl) (by kernel_rfl) (Ext.refl wr).drew ?_
        iterate 3
          refine wpTake_read _ _ ?_ rfl rfl ?_ ?_
          rotate_left 1
          focus
            intro wS hS
            clear hS
            go_simp
            first | done | with_reducible rfl
          simp only [Act.put, List.setIfInBounds_toArray, List.set_cons_zero, List.set_cons_succ]
        refine wpTake_load _ _ rfl rfl 43 _ rfl (.agg (bytesV z).toArray) (fun wS hS => run_load_dg (Hcd.out.ext hS) Hld.out) ?_
        simp only [Act.put, List.setIfInBounds_toArray, List.set_cons_zero, List.set_cons_succ]
        refine wpTake_load _ _ rfl rfl 43 _ rfl (.agg (bytesV y).toArray) (fun wS hS => run_load_dg (cells_blk (HB.out.ext hS)) Hcl.out) ?_
        simp only [Act.put, List.setIfInBounds_toArray, List.set_cons_zero, List.set_cons_succ]
        refine wpTake_do _ _ rfl rfl (fun K hK' => ?_)
        go_simp
        refine (Hnd.out _).mono ?_
        rintro e w5 ⟨rfl, E5⟩
        have E05 : Ext wr w5 := (Ext.refl wr).drew.trans E5
        refine hK' _ _ E05 ?_
        clear hK' K
        refine wpTake_nil ?_
        simp only [List.drop_succ_cons, List.drop_zero]
        have HB5 := Lib.hid (HB.out.ext E05)
        have HZ5 := Lib.hid (HZ.out.ext E05)
        have F5 := E.trans E05
        clear HB HZ E5 E05
        go_wp2_with (first | (refine wpList_store_blk rfl 43 _ _ rfl (w.heap.size + 1 + 1) (bytesV r).toArray rfl rfl 43 _ HB5.out ir.out sr.out (bytes_one _) ?_; intro w7 hs7 hb7 hg7))
        refine NoPanic.normal ?_
        go_wp2
        go_roundw
        case rel => exact ⟨k + 1, hlt, by go_num, by rw [Hp2.out]; go_num, by rw [Hst.out]; exact hb7, HZ5.out.grown hg7 (by simp), F5.grown hg7 (by simp; omega)⟩
        case measure => simp [intOf]; omega
    · obtain rfl : k = ds.length := by omega
      rw [List.take_length] at hB hcl
      obtain ⟨y, hy⟩ : ∃ y, y = climbB x i ds := ⟨_, rfl⟩
      rw [← hy] at hB hcl
      have Hy := Lib.hid hy
      have iy : Hid ((Tryd.prog.info? 43).map (·.size) = some (bytesV y).toArray.size) := dg_i y hcl
      have sy : Hid (zb32.size = (bytesV y).toArray.size) := zb32_size _ hcl
      clear hy
      go_wp2_with (first | (refine wpList_load_blk hB rfl 43 _ rfl rfl Tryd.underlying43 rfl iy.out ?_) | (refine wpList_store_blk rfl 43 _ _ rfl (w.heap.size + 1) (bytesV y).toArray rfl rfl 43 zb32 hZ iy.out sy.out (bytes_one _) ?_; intro w7 hs7 hb7 hg7))
      refine bodyPost_ret (v := .tuple #[dgV y, .int .i64 0]) (ret2_blk hb7 rfl rfl Tryd.underlying43 rfl iy.out rfl) rfl ?_
      exact ⟨by rw [Hy.out], E.grown hg7 (by simp)⟩
end Go.Proofs.YtddbmddblhjkkaaDoor
/- The reference's May and Verify of a signer. -/
namespace Go.Proofs.YtddbmddblhjkkaaDoor
open Go.RowKit Go.Maps

set_option maxRecDepth 100000 in
set_option maxHeartbeats 400000 in
theorem r9May_any (b h : Int) (r : List UInt8) (w : World) : Calls Tryd.prog 20 #[.agg (pkC b h r)] w fun e w' => e = .returned (.bool (mayK b h)) ∧ Ext w w' := by
  have E0 : Ext w (w.alloc (.cells (pkC b h r) 45)) := (Ext.refl w).alloc _
  have hB := Blk.new w 45 (pkC b h r)
  have c0 : (w.alloc (.cells (pkC b h r) 45)).cell? ⟨w.heap.size, 0, none⟩ = some (.int .i64 b) := hB.cell 0
  have c1 : (w.alloc (.cells (pkC b h r) 45)).cell? ⟨w.heap.size, 1, none⟩ = some (.int .i64 h) := hB.cell 1
  have Hm := fun w => Lib.hid (r7May_any b w)
  have p0 := pkC_0 b h r
  have p1 := pkC_1 b h r
  clear hB
  have Hk : Hid (mayK b h = (mayB b && (decide (0 ≤ h) && decide (h ≤ 6)))) := Lib.hid rfl
  cases hm : mayB b with
  | false =>
    rw [hm] at Hm Hk
    go_enter Tryd.func20, Tryd.ntmps20
    go_wp2_with fail
    with_reducible refine (Hm _).out.mono ?_
    rintro e w2 ⟨rfl, rfl⟩
    go_wp2
    go_ret
    exact ⟨by rw [Hk.out]; rfl, E0⟩
  | true =>
    rw [hm] at Hm Hk
    by_cases h0 : 0 ≤ h
    · by_cases h6 : h ≤ 6
      all_goals
        go_enter Tryd.func20, Tryd.ntmps20
        go_wp2_with fail
        with_reducible refine (Hm _).out.mono ?_
        rintro e w2 ⟨rfl, rfl⟩
        go_wp2
        go_ret
        exact ⟨by rw [Hk.out]; simp [h0, h6], E0⟩
    · go_enter Tryd.func20, Tryd.ntmps20
      go_wp2_with fail
      with_reducible refine (Hm _).out.mono ?_
      rintro e w2 ⟨rfl, rfl⟩
      go_wp2
      go_ret
      exact ⟨by rw [Hk.out]; simp; omega, E0⟩

set_option maxRecDepth 100000 in
set_option maxHeartbeats 1000000 in
theorem r9verify_no1 (b h i : Int) (r : List UInt8) (mv : Value) (Ar Ao Aw : Option Addr) (nr no nw cr co cw : Nat) (m : List UInt8) (w : World) (hr : r.length = 32) (hmv : Sl w mv m) (hlm : m.length ≤ 1048576)
    (hno : mayK b h = false ∨ (mayK b h = true ∧ (nr : Int) ≠ b) ∨ (mayK b h = true ∧ (nr : Int) = b ∧ (nw : Int) ≠ h)) :
    Calls Tryd.prog 23 #[.agg (pkC b h r), mv, .agg (sigC i (.slice Ar nr cr) (.slice Ao no co) (.slice Aw nw cw))] w fun e w' => e = .returned (.bool false) ∧ Ext w w' := by
  obtain ⟨Am, cm, rfl, _⟩ := SlR.form hmv
  clear hmv
  have hgm : ¬ ((m.length : Int) > 1048576) := by omega
  have hi := info_pkC b h r hr
  have hB0 := Blk.new w 45 (pkC b h r)
  have hB1 := Blk.new (w.alloc (.cells (pkC b h r) 45)) 37 (sigC i (.slice Ar nr cr) (.slice Ao no co) (.slice Aw nw cw))
  have hB0' := hB0.alloc (.cells (sigC i (.slice Ar nr cr) (.slice Ao no co) (.slice Aw nw cw)) 37)
  rw [World.size_alloc] at hB1
  have Ew3 : Ext w ((w.alloc (.cells (pkC b h r) 45)).alloc (.cells (sigC i (.slice Ar nr cr) (.slice Ao no co) (.slice Aw nw cw)) 37)) := ((Ext.refl w).alloc _).alloc _
  have Hm := fun w => Lib.hid (r9May_any b h r w)
  obtain ⟨P, hP⟩ : ∃ P, P = pkC b h r := ⟨_, rfl⟩
  obtain ⟨S, hS⟩ : ∃ S, S = sigC i (.slice Ar nr cr) (.slice Ao no co) (.slice Aw nw cw) := ⟨_, rfl⟩
  rw [← hS] at hB1 hB0' Ew3 ⊢
  rw [← hP] at hB0 hB1 hB0' Ew3 hi ⊢
  simp only [← hP] at Hm
  have HP := Lib.hid hP
  have HS := Lib.hid hS
  clear hP hS hB0
  go_enter Tryd.func23, Tryd.ntmps23
  go_wp2_with (refine wpList_load_blk hB0' rfl 45 _ rfl rfl Tryd.underlying45 rfl hi ?_)
  have pack := And.intro hB0' (And.intro hB1 Ew3)
  clear hB0' hB1 Ew3
  revert pack
  generalize (w.alloc (.cells P 45)).alloc (.cells S 37) = w3
  rintro ⟨hB0', hB1, Ew3⟩
  with_reducible refine (Hm _).out.mono ?_
  rintro e w4 ⟨rfl, E4⟩
  have E := Ew3.trans E4
  replace hB0' := hB0'.ext E4
  replace hB1 := hB1.ext E4
  rw [HP.out] at hB0'
  rw [HS.out] at hB1
  have c0 := (pkC_cells hB0').1
  have c1 := (pkC_cells hB0').2
  have d1 := (sigC_cells hB1).2.1
  have d3 := (sigC_cells hB1).2.2.2
  clear Hm hB0' hB1 Ew3 E4
  rcases hno with hm | ⟨hm, hn⟩ | ⟨hm, hn, hn2⟩
  · rw [hm]
    go_wp2
    go_ret
    exact ⟨rfl, E⟩
  · rw [hm]
    have hb1 : (((nr : Int)) != b) = true := by rw [bne_iff_ne]; exact hn
    go_wp2
    go_ret
    exact ⟨rfl, E⟩
  · rw [hm]
    have hb1 : (((nr : Int)) != b) = false := by rw [bne_eq_false_iff_eq]; exact hn
    have hb2 : (((nw : Int)) != h) = true := by rw [bne_iff_ne]; exact hn2
    go_wp2
    go_ret
    exact ⟨rfl, E⟩

set_option maxRecDepth 100000 in
set_option maxHeartbeats 2000000 in
theorem r9verify_whole (i : Int) (r m : List UInt8) (mv : Value) (rv ov wv : Value) (rev oth way : List (List UInt8)) (w : World) (hr : r.length = 32) (hmv : Sl w mv m) (hlm : m.length ≤ 1048576)
    (hrv : SlD w rv rev) (hov : SlD w ov oth) (hwv : SlD w wv way) (hm : mayK rev.length way.length = true) :
    Calls Tryd.prog 23 #[.agg (pkC rev.length way.length r), mv, .agg (sigC i rv ov wv)] w fun e w' => e = .returned (.bool (wholeB rev.length oth.length && climbOk way.length i && decide (climbB (impB m rev oth) i.toNat way = r))) ∧ Ext w w' := by
  obtain ⟨Am, cm, rfl, hcm⟩ := SlR.form hmv
  obtain ⟨Ar, cr, rfl, hcr⟩ := hrv.form
  obtain ⟨Ao, co, rfl, hco⟩ := hov.form
  obtain ⟨Aw, cw, rfl, hcw⟩ := hwv.form
  have hi := info_pkC rev.length way.length r hr
  have hB0 := Blk.new w 45 (pkC rev.length way.length r)
  have hB1 := Blk.new (w.alloc (.cells (pkC rev.length way.length r) 45)) 37 (sigC i (.slice Ar rev.length cr) (.slice Ao oth.length co) (.slice Aw way.length cw))
  have hB0' := hB0.alloc (.cells (sigC i (.slice Ar rev.length cr) (.slice Ao oth.length co) (.slice Aw way.length cw)) 37)
  rw [World.size_alloc] at hB1
  have Ew3 : Ext w ((w.alloc (.cells (pkC rev.length way.length r) 45)).alloc (.cells (sigC i (.slice Ar rev.length cr) (.slice Ao oth.length co) (.slice Aw way.length cw)) 37)) := ((Ext.refl w).alloc _).alloc _
  have Hm := fun w => Lib.hid (r9May_any rev.length way.length r w)
  rw [hm] at Hm
  have Hno := fun w => Lib.hid (r7Implied_no (.slice Am m.length cm) Ar Ao rev.length oth.length cr co w)
  have Hyes := fun w' (E : Ext w w') => Lib.hid (r7Implied_yes (.slice Am m.length cm) (.slice Ar rev.length cr) (.slice Ao oth.length co) m rev oth w' (hmv.ext E) (hrv.ext E) (hov.ext E))
  have Hcno := fun x w => Lib.hid (r8Climb_no x i Aw way.length cw w)
  have Hcyes := fun x k w' (E : Ext w w') => Lib.hid (r8Climb_yes x k (.slice Aw way.length cw) way w')
  have HW := Lib.hid hwv
  obtain ⟨P, hP⟩ : ∃ P, P = pkC rev.length way.length r := ⟨_, rfl⟩
  obtain ⟨S, hS⟩ : ∃ S, S = sigC i (.slice Ar rev.length cr) (.slice Ao oth.length co) (.slice Aw way.length cw) := ⟨_, rfl⟩
  rw [← hS] at hB1 hB0' Ew3 ⊢
  rw [← hP] at hB0 hB1 hB0' Ew3 hi ⊢
  simp only [← hP] at Hm
  have HP := Lib.hid hP
  have HS := Lib.hid hS
  have Hlm := Lib.hid hlm
  have hgm : ¬ ((m.length : Int) > 1048576) := by omega
  clear hP hS hB0 hmv hrv hov hwv hlm
  obtain ⟨B, hB⟩ : ∃ B, B = (wholeB rev.length oth.length && climbOk way.length i && decide (climbB (impB m rev oth) i.toNat way = r)) := ⟨_, rfl⟩
  rw [← hB]
  have HB := Lib.hid hB
  clear hB
  go_enter Tryd.func23, Tryd.ntmps23
  go_wp2_with (refine wpList_load_blk hB0' rfl 45 _ rfl rfl Tryd.underlying45 rfl hi ?_)
  have pack := And.intro hB0' (And.intro hB1 Ew3)
  clear hB0' hB1 Ew3
  revert pack
  generalize (w.alloc (.cells P 45)).alloc (.cells S 37) = w3
  rintro ⟨hB0', hB1, Ew3⟩
  with_reducible refine (Hm _).out.mono ?_
  rintro e w4 ⟨rfl, E4⟩
  have E := Ew3.trans E4
  replace hB0' := hB0'.ext E4
  replace hB1 := hB1.ext E4
  rw [HP.out] at hB0'
  rw [HS.out] at hB1
  have c0 := (pkC_cells hB0').1
  have c1 := (pkC_cells hB0').2
  have d0 := (sigC_cells hB1).1
  have d1 := (sigC_cells hB1).2.1
  have d3 := (sigC_cells hB1).2.2.2
  have HO := Lib.hid (sigC_once hB1)
  have HR := Lib.hid (pkC_root hB0')
  clear Hm hB0' hB1 Ew3 E4
  have hi1 : (Tryd.prog.info? 35).map (·.size) = some 2 := info_one
  by_cases hwh : wholeB rev.length oth.length = true
  · go_wp2_with (refine wpList_load_mid HO.out rfl 35 _ rfl rfl Tryd.underlying35 rfl hi1 ?_)
    have Hyes' := fun w' (E : Ext w w') => Lib.hid ((Hyes w' E).out hwh Hlm.out)
    have lz := impB_length m rev oth
    obtain ⟨z, hz⟩ : ∃ z, z = impB m rev oth := ⟨_, rfl⟩
    simp only [← hz] at Hyes' lz
    have iz := dg_i z lz
    have sz := zb32_size z lz
    have Lz := Lib.hid lz
    have Hz := Lib.hid hz
    have Hwh := Lib.hid hwh
    clear hz Hno Hyes hwh lz
    with_reducible refine (Hyes' _ E).out.mono ?_
    rintro e w5 ⟨rfl, E5⟩
    clear Hyes'
    go_wp2_with (first | (have _ := D1; refine wpList_load_blk D1 rfl 43 _ rfl rfl Tryd.underlying43 rfl iz ?_) | (refine wpList_var rfl rfl 43 rfl _ _ rfl (.agg zb32) zero_a32 (bytesV z).toArray rfl rfl iz sz (bytes_one _) ?_; intro w6 D1 E6; replace d0 := E6.cell (E5.cell d0); replace d3 := E6.cell (E5.cell d3)))
    have F := E.trans (E5.trans E6)
    replace HR := Lib.hid ((HR.out.ext E5).ext E6)
    clear c0 c1 d1 E5 E6 E HO
    by_cases hok : climbOk way.length i = true
    · obtain ⟨h6, h0, hlt⟩ := (climbOk_iff _ _).1 hok
      obtain ⟨k, rfl⟩ : ∃ k : Nat, i = (k : Int) := ⟨i.toNat, by omega⟩
      have hk : k < 2 ^ way.length := by exact_mod_cast hlt
      have Hc := fun w' (E : Ext w w') => Lib.hid ((Hcyes z k w' E).out Lz.out (HW.out.ext E) h6 hk)
      have ly := climbB_length way z k Lz.out
      have HB2 : Hid (B = decide (climbB z k way = r)) := Lib.hid (by rw [HB.out, Hwh.out, hok, Hz.out]; simp)
      clear Hcyes Hcno hok h0 hlt
      obtain ⟨y, hy⟩ : ∃ y, y = climbB z k way := ⟨_, rfl⟩
      rw [← hy] at ly HB2
      simp only [← hy] at Hc
      have iy := dg_i y ly
      have sy := zb32_size y ly
      have Ly := Lib.hid ly
      clear hy ly
      with_reducible refine (Hc _ F).out.mono ?_
      rintro e w7 ⟨rfl, E7⟩
      clear Hc
      have heq : ∀ w, (Op.equalIn 10000 43 (.agg (bytesV y).toArray) (.agg (bytesV r).toArray)).run Tryd.prog w = .ok (decide (y = r)) w := fun w => by rw [equal_dg y r Ly.out hr w, Bool.beq_eq_decide_eq]
      go_wp2_with (first | (have _ := D2; refine wpList_unguard rfl ?_; refine wpList_load_blk D2 rfl 43 _ rfl rfl Tryd.underlying43 rfl iy ?_) | (have _ := D2; refine wpList_unguard rfl ?_; refine wpList_load_dg HR8.out hr rfl _ rfl rfl ?_) | (refine wpList_var rfl rfl 43 rfl _ _ rfl (.agg zb32) zero_a32 (bytesV y).toArray rfl rfl iy sy (bytes_one _) ?_; intro w8 D2 E8; have HR8 := Lib.hid ((HR.out.ext E7).ext E8); have G := F.trans (E7.trans E8)))
      go_ret
      refine ⟨?_, G⟩
      rw [HB2.out]
      rfl
    · have hokf : climbOk way.length i = false := by simpa using hok
      have Hc := fun w => Lib.hid ((Hcno z w).out hokf)
      have HBf : Hid (B = false) := Lib.hid (by rw [HB.out, hokf]; simp)
      clear Hcyes Hcno hok hokf
      with_reducible refine (Hc _).out.mono ?_
      rintro e w7 ⟨rfl, E7⟩
      clear Hc
      go_wp2_with (refine wpList_var rfl rfl 43 rfl _ _ rfl (.agg zb32) zero_a32 zb32 rfl rfl info_a32 rfl zb32_one ?_; intro w8 D2 E8)
      have G := F.trans (E7.trans E8)
      go_wp2
      go_ret
      refine ⟨?_, G⟩
      show Ending.returned (.bool false) = _
      rw [HBf.out]
  · have hwf : wholeB rev.length oth.length = false := by simpa using hwh
    have HBf : Hid (B = false) := Lib.hid (by rw [HB.out, hwf]; rfl)
    have Hno' := fun w => Lib.hid ((Hno w).out hwf)
    clear hwh hwf
    go_wp2_with (refine wpList_load_mid HO.out rfl 35 _ rfl rfl Tryd.underlying35 rfl hi1 ?_)
    with_reducible refine (Hno' _).out.mono ?_
    rintro e w5 ⟨rfl, E5⟩
    go_wp2_with (refine wpList_var rfl rfl 43 rfl _ _ rfl (.agg zb32) zero_a32 zb32 rfl rfl info_a32 rfl zb32_one ?_; intro w6 D1 E6)
    go_ret
    refine ⟨?_, E.trans (E5.trans E6)⟩
    show Ending.returned (.bool false) = _
    rw [HBf.out]
end Go.Proofs.YtddbmddblhjkkaaDoor
/- The walk of the law SignerVerifies. -/
namespace Go.Proofs.YtddbmddblhjkkaaDoor
open Go.RowKit Go.Maps

def largeB (nr no nw : Nat) : Bool := decide (300 < nr) || (decide (300 < no) || decide (50 < nw))
theorem sigC_one_cells {w : World} {g : Nat} {i : Int} {rv ov wv : Value} (h : Blk w g 37 (sigC i rv ov wv)) : w.cell? ⟨g, 1, none⟩ = some rv ∧ w.cell? ⟨g, 2, none⟩ = some ov ∧ w.cell? ⟨g, 3, none⟩ = some wv := ⟨h.cell 1, h.cell 2, h.cell 3⟩

set_option maxRecDepth 100000 in
set_option maxHeartbeats 400000 in
theorem r9Large_any (i : Int) (Ar Ao Aw : Option Addr) (nr no nw cr co cw : Nat) (w : World) :
    Calls Tryd.prog 21 #[.agg (sigC i (.slice Ar nr cr) (.slice Ao no co) (.slice Aw nw cw))] w fun e w' => e = .returned (.bool (largeB nr no nw)) ∧ Ext w w' := by
  have hB := Blk.new w 37 (sigC i (.slice Ar nr cr) (.slice Ao no co) (.slice Aw nw cw))
  have E0 : Ext w (w.alloc (.cells (sigC i (.slice Ar nr cr) (.slice Ao no co) (.slice Aw nw cw)) 37)) := (Ext.refl w).alloc _
  have c1 := (sigC_one_cells hB).1
  have c2 := (sigC_one_cells hB).2.1
  have c3 := (sigC_one_cells hB).2.2
  obtain ⟨S, hS⟩ : ∃ S, S = sigC i (.slice Ar nr cr) (.slice Ao no co) (.slice Aw nw cw) := ⟨_, rfl⟩
  rw [← hS] at E0 c1 c2 c3 ⊢
  clear hB hS
  by_cases h1 : (nr : Int) > 300
  · have hb : largeB nr no nw = true := by unfold largeB; rw [decide_eq_true (show 300 < nr by omega)]; rfl
    rw [hb]
    clear hb
    go_enter Tryd.func21, Tryd.ntmps21
    go_wp2
    go_ret
    exact ⟨rfl, E0⟩
  · by_cases h2 : (no : Int) > 300
    · have hb : largeB nr no nw = true := by unfold largeB; rw [decide_eq_true (show 300 < no by omega)]; simp
      rw [hb]
      clear hb
      go_enter Tryd.func21, Tryd.ntmps21
      go_wp2
      go_ret
      exact ⟨rfl, E0⟩
    · by_cases h3 : (nw : Int) > 50
      · have hb : largeB nr no nw = true := by unfold largeB; rw [decide_eq_true (show 50 < nw by omega)]; simp
        rw [hb]
        clear hb
        go_enter Tryd.func21, Tryd.ntmps21
        go_wp2
        go_ret
        exact ⟨rfl, E0⟩
      · have hb : largeB nr no nw = false := by unfold largeB; rw [decide_eq_false (show ¬ 300 < nr by omega), decide_eq_false (show ¬ 300 < no by omega), decide_eq_false (show ¬ 50 < nw by omega)]; rfl
        rw [hb]
        clear hb
        go_enter Tryd.func21, Tryd.ntmps21
        go_wp2
        go_ret
        exact ⟨rfl, E0⟩

/-- what both Verify answer -/
theorem verify_two (b h i : Int) (r m : List UInt8) (mv rv ov wv : Value) (rev oth way : List (List UInt8)) (w : World) (hK : Kst w) (hr : r.length = 32) (hmv : Sl w mv m) (hlm : m.length ≤ 1048576) (hrv : SlD w rv rev) (hov : SlD w ov oth) (hwv : SlD w wv way) :
    ∃ B, (∀ w', Ext w w' → Calls Tryd.prog 22 #[.agg (pkC b h r), mv, .agg (sigC i rv ov wv)] w' fun e w'' => e = .returned (.bool B) ∧ Ext w' w'') ∧
      (∀ w', Ext w w' → Calls Tryd.prog 23 #[.agg (pkC b h r), mv, .agg (sigC i rv ov wv)] w' fun e w'' => e = .returned (.bool B) ∧ Ext w' w'') := by
  by_cases hall : mayK b h = true ∧ (rev.length : Int) = b ∧ (way.length : Int) = h
  · obtain ⟨hm, rfl, rfl⟩ := hall
    exact ⟨_, fun w' E => verify_whole i r m mv rv ov wv rev oth way w' (hK.ext E) hr (hmv.ext E) hlm (hrv.ext E) (hov.ext E) (hwv.ext E) hm,
      fun w' E => r9verify_whole i r m mv rv ov wv rev oth way w' hr (hmv.ext E) hlm (hrv.ext E) (hov.ext E) (hwv.ext E) hm⟩
  · have hno : mayK b h = false ∨ (mayK b h = true ∧ (rev.length : Int) ≠ b) ∨ (mayK b h = true ∧ (rev.length : Int) = b ∧ (way.length : Int) ≠ h) := by
      cases hm : mayK b h with
      | false => exact .inl rfl
      | true =>
        by_cases h1 : (rev.length : Int) = b
        · exact .inr (.inr ⟨rfl, h1, fun h2 => hall ⟨hm, h1, h2⟩⟩)
        · exact .inr (.inl ⟨rfl, h1⟩)
    obtain ⟨Ar, cr, rfl, _⟩ := hrv.form
    obtain ⟨Ao, co, rfl, _⟩ := hov.form
    obtain ⟨Aw, cw, rfl, _⟩ := hwv.form
    exact ⟨false, fun w' _ => verify_no1 b h i r mv Ar Ao Aw _ _ _ cr co cw w' hr hno, fun w' E => r9verify_no1 b h i r mv Ar Ao Aw _ _ _ cr co cw m w' hr (hmv.ext E) hlm hno⟩

set_option maxRecDepth 100000 in
set_option maxHeartbeats 1000000 in
theorem signerVerifies_any (b h : Int) (r : List UInt8) (mv : Value) (m : List UInt8) (i : Int) (rv ov wv : Value) (rev oth way : List (List UInt8)) (w : World) (hK : Kst w) (hr : r.length = 32) (_ : -9223372036854775808 ≤ b ∧ b ≤ 9223372036854775807) (_ : -9223372036854775808 ≤ h ∧ h ≤ 9223372036854775807)
    (hmv : Sl w mv m) (_ : -9223372036854775808 ≤ i ∧ i ≤ 9223372036854775807) (hrv : SlD w rv rev) (hov : SlD w ov oth) (hwv : SlD w wv way) :
    Calls Tryd.prog 6 #[.agg (pkC b h r), mv, .agg (sigC i rv ov wv)] w fun e w' => e = .returned (.bool true) ∧ Ext w w' := by
  have hv2 : (m.length : Int) ≤ 3000 → ∃ B, (∀ w', Ext w w' → Calls Tryd.prog 22 #[.agg (pkC b h r), mv, .agg (sigC i rv ov wv)] w' fun e w'' => e = .returned (.bool B) ∧ Ext w' w'') ∧
      (∀ w', Ext w w' → Calls Tryd.prog 23 #[.agg (pkC b h r), mv, .agg (sigC i rv ov wv)] w' fun e w'' => e = .returned (.bool B) ∧ Ext w' w'') := fun hl => verify_two b h i r m mv rv ov wv rev oth way w hK hr hmv (by omega) hrv hov hwv
  obtain ⟨Am, cm, rfl, _⟩ := SlR.form hmv
  obtain ⟨Ar, cr, rfl, _⟩ := hrv.form
  obtain ⟨Ao, co, rfl, _⟩ := hov.form
  obtain ⟨Aw, cw, rfl, _⟩ := hwv.form
  have hi := info_pkC b h r hr
  have HL := fun w' => Lib.hid (r9Large_any i Ar Ao Aw rev.length oth.length way.length cr co cw w')
  have Hlv := Lib.hid (fun w' (E : Ext w w') => lives9_any w' (hK.ext E))
  have hB0 := Blk.new w 45 (pkC b h r)
  have hB1 := Blk.new (w.alloc (.cells (pkC b h r) 45)) 37 (sigC i (.slice Ar rev.length cr) (.slice Ao oth.length co) (.slice Aw way.length cw))
  have hB0' := hB0.alloc (.cells (sigC i (.slice Ar rev.length cr) (.slice Ao oth.length co) (.slice Aw way.length cw)) 37)
  rw [World.size_alloc] at hB1
  have Ew3 : Ext w ((w.alloc (.cells (pkC b h r) 45)).alloc (.cells (sigC i (.slice Ar rev.length cr) (.slice Ao oth.length co) (.slice Aw way.length cw)) 37)) := ((Ext.refl w).alloc _).alloc _
  have is0 : Hid ((Tryd.prog.info? 37).map (·.size) = some (sigC i (.slice Ar rev.length cr) (.slice Ao oth.length co) (.slice Aw way.length cw)).size) := info_sig
  obtain ⟨P, hP⟩ : ∃ P, P = pkC b h r := ⟨_, rfl⟩
  obtain ⟨S, hS⟩ : ∃ S, S = sigC i (.slice Ar rev.length cr) (.slice Ao oth.length co) (.slice Aw way.length cw) := ⟨_, rfl⟩
  simp only [← hS] at hB1 hB0' Ew3 HL hv2 is0 ⊢
  simp only [← hP] at hB1 hB0' Ew3 hi hv2 ⊢
  clear hP hS hB0 hmv hrv hov hwv
  by_cases h3 : (m.length : Int) > 3000
  · clear hv2
    go_enter Tryd.func6, Tryd.ntmps6
    go_wp2_with fail
    have pack := Ew3
    clear Ew3 hB0' hB1
    with_reducible refine (Hlv.out _ pack).mono ?_
    rintro e w1 ⟨rfl, E1⟩
    go_wp2
    go_ret
    exact ⟨rfl, pack.trans E1⟩
  · obtain ⟨B, hv1, hv2'⟩ := hv2 (by omega)
    have HV1 := Lib.hid hv1
    have HV2 := Lib.hid hv2'
    clear hv1 hv2' hv2
    cases hlg : largeB rev.length oth.length way.length with
    | true =>
      rw [hlg] at HL
      go_enter Tryd.func6, Tryd.ntmps6
      go_wp2_with (first | (refine wpList_unguard rfl ?_; refine wpList_load_blk hB1 rfl 37 _ rfl rfl Tryd.underlying37 rfl is0.out ?_))
      clear hB0' hB1
      with_reducible refine (HL _).out.mono ?_
      rintro e w1 ⟨rfl, E1⟩
      go_wp2_with fail
      with_reducible refine (Hlv.out _ (Ew3.trans E1)).mono ?_
      rintro e w2 ⟨rfl, E2⟩
      go_wp2
      go_ret
      exact ⟨rfl, (Ew3.trans E1).trans E2⟩
    | false =>
      rw [hlg] at HL
      go_enter Tryd.func6, Tryd.ntmps6
      go_wp2_with (first | (refine wpList_unguard rfl ?_; refine wpList_load_blk hB1 rfl 37 _ rfl rfl Tryd.underlying37 rfl is0.out ?_))
      with_reducible refine (HL _).out.mono ?_
      rintro e w1 ⟨rfl, E1⟩
      have F1 := Ew3.trans E1
      have B0 := hB0'.ext E1
      have B1 := hB1.ext E1
      clear hB0' hB1 Ew3 E1 HL
      go_wp2
      refine wp_region_chain 12 [(false, 0), (true, 1), (true, 2), (true, 3), (true, 4), (true, 6), (true, 7), (true, 8), (false, 5), (false, 9), (true, 10), (true, 11)] (fun w' => Ext w1 w') (by kernel_rfl) (by kernel_rfl) (Ext.refl w1).drew ?_
      have E1 : Ext w1 w1.drew := (Ext.refl w1).drew
      refine wpTake_do _ _ rfl rfl (fun K hK' => ?_)
      refine wp_call ?_ (enters_of (P := Tryd.prog) Tryd.func9 (by kernel_rfl) rfl _ _) (Hlv.out _ (F1.trans E1)) ?_
      focus
        rw [execOp_call_go]
        simp only [List.map_toArray, List.map_nil, List.append_toArray, List.append_nil]
      rintro e w2 ⟨rfl, E2'⟩
      have E2 := E1.trans E2'
      refine ⟨_, rfl, hK' _ _ E2 ?_⟩
      clear hK' K
      simp only [Act.put, List.setIfInBounds_toArray, List.set_cons_zero, List.set_cons_succ]
      iterate 1
        refine wpTake_read _ _ ?_ rfl rfl ?_ ?_
        rotate_left 1
        focus
          intro wS hS
          go_simp
          first | done | with_reducible rfl
        simp only [Act.put, List.setIfInBounds_toArray, List.set_cons_zero, List.set_cons_succ]
      iterate 2
        refine wpTake_load _ _ rfl rfl 45 _ rfl (.agg P) (fun wS hS => load_blk (B0.ext hS) Tryd.underlying45 rfl hi) ?_
        simp only [Act.put, List.setIfInBounds_toArray, List.set_cons_zero, List.set_cons_succ]
        refine wpTake_read _ _ ?_ rfl rfl ?_ ?_
        rotate_left 1
        focus
          intro wS hS
          go_simp
          first | done | with_reducible rfl
        simp only [Act.put, List.setIfInBounds_toArray, List.set_cons_zero, List.set_cons_succ]
        refine wpTake_load _ _ rfl rfl 37 _ rfl (.agg S) (fun wS hS => load_blk (B1.ext hS) Tryd.underlying37 rfl is0.out) ?_
        simp only [Act.put, List.setIfInBounds_toArray, List.set_cons_zero, List.set_cons_succ]
      refine wpTake_do _ _ rfl rfl (fun K hK' => ?_)
      refine wp_call ?_ (enters_of (P := Tryd.prog) Tryd.func22 (by kernel_rfl) rfl _ _) (HV1.out _ (F1.trans E2)) ?_
      focus
        rw [execOp_call_go]
        simp only [List.map_toArray, List.map_cons, List.map_nil, List.append_toArray, List.nil_append, List.append_nil]
        rfl
      rintro e w3 ⟨rfl, E3'⟩
      have E3 := E2.trans E3'
      refine ⟨_, rfl, hK' _ _ E3 ?_⟩
      clear hK' K
      simp only [Act.put, List.setIfInBounds_toArray, List.set_cons_zero, List.set_cons_succ]
      refine wpTake_do _ _ rfl rfl (fun K hK' => ?_)
      refine wp_call ?_ (enters_of (P := Tryd.prog) Tryd.func23 (by kernel_rfl) rfl _ _) (HV2.out _ (F1.trans E3)) ?_
      focus
        rw [execOp_call_go]
        simp only [List.map_toArray, List.map_cons, List.map_nil, List.append_toArray, List.nil_append, List.append_nil]
        rfl
      rintro e w4 ⟨rfl, E4'⟩
      have E4 := E3.trans E4'
      refine ⟨_, rfl, hK' _ _ E4 ?_⟩
      clear hK' K
      simp only [Act.put, List.setIfInBounds_toArray, List.set_cons_zero, List.set_cons_succ]
      iterate 2
        refine wpTake_read _ _ ?_ rfl rfl ?_ ?_
        rotate_left 1
        focus
          intro wS hS
          go_simp
          first | done | with_reducible rfl
        simp only [Act.put, List.setIfInBounds_toArray, List.set_cons_zero, List.set_cons_succ]
      refine wpTake_nil ?_
      go_wp2
      refine NoPanic.normal ?_
      go_wp2
      go_ret
      exact ⟨rfl, F1.trans E4⟩
end Go.Proofs.YtddbmddblhjkkaaDoor
/- PROVED: the law SignerVerifies of package pursuivantlaw09 returns true at every input and leaves its arguments as they were: whether any signature of any message holds for any public part is what the reference says. CONDITION: the package-level variable sha.constants holds what its initialiser lays (the card ties it). -/
namespace Go.Proofs.YtddbmddblhjkkaaDoor.signerVerifies
open Go.ChangeShapes Go.WideShapes Go.ChangeAt Go.RowKit

set_option maxRecDepth 100000 in
set_option maxHeartbeats 1000000 in
theorem contract (H : Type) (enc : TypeId × Value → H) (W : World) (base : Nat) (args : Array Value) (ds gs : List (DataW H)) (before : List MemPlace)
    (hval : ∀ (j : Nat) t v, Tryd.f6.params[j]? = some t → args[j]? = some v → Value.okWide Tryd.prog W .any base t v)
    (hW : DataW.Whole enc Tryd.prog Tryd.f6.params.toList Rows.signerVerifiesSpec.vars false W args.toList ds gs before) (hL : laidMetH Tryd.prog Rows.signerVerifiesRow.laid W) :
    Calls Tryd.prog 6 args W fun e W' => ∃ v, e = .returned v ∧ Rows.signerVerifiesSpec.post enc Tryd.prog Tryd.f6 false true false false W args v W' := by
  have hW' := hW
  obtain ⟨p, q, hA0, hV, rfl, hfz, hnd⟩ := hW
  have hA : DataW.TrodAll enc Tryd.prog W 0 (fun _ => true) true Tryd.f6.params.toList args.toList ds p := hA0
  rw [Tryd.params6] at hA hval
  obtain ⟨v0, vs0, d0, ds0, p0, q0, hargs, rfl, rfl, h0, r0⟩ := trodAll_cons hA
  obtain ⟨v1, vs1, d1, ds1, p1, q1, rfl, rfl, rfl, h1, r1⟩ := trodAll_cons r0
  obtain ⟨v2, vs2, d2, ds2, p2, q2, rfl, rfl, rfl, h2, r2⟩ := trodAll_cons r1
  obtain ⟨rfl, rfl, rfl⟩ := trodAll_nil r2
  obtain rfl : args = #[v0, v1, v2] := by cases args; simp_all
  have hts : ∀ t ∈ Tryd.f6.params.toList, Tryd.prog.readableRec t = true ∧ t < Tryd.prog.types.size := by
    rw [Tryd.params6]
    intro t ht
    simp at ht
    rcases ht with rfl | rfl | rfl
    · exact ⟨by kernel_rfl, of_decide_eq_true (by kernel_rfl)⟩
    · exact ⟨by kernel_rfl, of_decide_eq_true (by kernel_rfl)⟩
    · exact ⟨by kernel_rfl, of_decide_eq_true (by kernel_rfl)⟩
  obtain ⟨x0, y0, g0, rfl, hr0, hx0, hy0⟩ := open_PubKey (hval 0 45 v0 rfl rfl) h0
  obtain ⟨x1, hx1, hm1⟩ := open_bytes (hval 1 22 v1 rfl rfl) h1
  obtain ⟨i2, a2, b2, c2, x2, y2, z2, rfl, hi2, hx2, hy2, hz2⟩ := open_Sig (hval 2 37 v2 rfl rfl) h2
  refine (signerVerifies_any x0 y0 g0 v1 x1 i2 a2 b2 c2 x2 y2 z2 W (kst_of hL) hr0 hx0 hy0 hx1 hi2 hx2 hy2 hz2).mono fun e W' ⟨he, hE⟩ => ?_
  subst he
  exact ⟨_, rfl, post_true 4 (by kernel_rfl) Tryd.underlying4 rfl laidOut hts hW' rfl hE⟩

noncomputable def args0 : Array Value := #[.agg #[.int .i64 0, .int .i64 0, .int .u8 0, .int .u8 0, .int .u8 0, .int .u8 0, .int .u8 0, .int .u8 0, .int .u8 0, .int .u8 0, .int .u8 0, .int .u8 0, .int .u8 0, .int .u8 0, .int .u8 0, .int .u8 0, .int .u8 0, .int .u8 0, .int .u8 0, .int .u8 0, .int .u8 0, .int .u8 0, .int .u8 0, .int .u8 0, .int .u8 0, .int .u8 0, .int .u8 0, .int .u8 0, .int .u8 0, .int .u8 0, .int .u8 0, .int .u8 0, .int .u8 0, .int .u8 0], .slice none 0 0, .agg #[.int .i64 0, .slice none 0 0, .slice none 0 0, .slice none 0 0]]
theorem laid_met (os : Os) : laidMet Tryd.prog Rows.signerVerifiesRow.laid ((laidWorld os).forCall (fun _ _ => 0) ⟨#[], args0, []⟩).memory :=
  laidMet_of_run' 8 (by kernel_rfl) (by kernel_rfl)
theorem reads (os : Os) {H : Type} (enc : TypeId × Value → H) : DataW.whole enc Tryd.prog ((laidWorld os).forCall (fun _ _ => 0) ⟨#[], args0, []⟩).memory Tryd.f6.params.toList Rows.signerVerifiesSpec.vars false args0.toList 8 = some ([.agg [.lit (.int .i64 0), .lit (.int .i64 0), .agg [.lit (.int .u8 0), .lit (.int .u8 0), .lit (.int .u8 0), .lit (.int .u8 0), .lit (.int .u8 0), .lit (.int .u8 0), .lit (.int .u8 0), .lit (.int .u8 0), .lit (.int .u8 0), .lit (.int .u8 0), .lit (.int .u8 0), .lit (.int .u8 0), .lit (.int .u8 0), .lit (.int .u8 0), .lit (.int .u8 0), .lit (.int .u8 0), .lit (.int .u8 0), .lit (.int .u8 0), .lit (.int .u8 0), .lit (.int .u8 0), .lit (.int .u8 0), .lit (.int .u8 0), .lit (.int .u8 0), .lit (.int .u8 0), .lit (.int .u8 0), .lit (.int .u8 0), .lit (.int .u8 0), .lit (.int .u8 0), .lit (.int .u8 0), .lit (.int .u8 0), .lit (.int .u8 0), .lit (.int .u8 0)]], .nil, .agg [.lit (.int .i64 0), .agg [.nil, .nil], .nil]], [], []) := by kernel_rfl

set_option maxRecDepth 100000 in
theorem lifted (os : Os) (started : os.Started) (H : Type) (enc : TypeId × Value → H) (F : Stop.Interp) :
    ReturnsInHanded {} Tryd.checked os 6 .any ((OpenSpec.ofChange Rows.signerVerifiesSpec).preRow enc Tryd.prog Tryd.f6 Rows.signerVerifiesRow.domain false Rows.signerVerifiesRow.laid) (((OpenSpec.ofChange Rows.signerVerifiesSpec).at F).post enc Tryd.prog Tryd.f6 false true false false) := by
  refine returnsInHanded_of_row (C := Tryd.checked) (s := OpenSpec.ofChange Rows.signerVerifiesSpec) own started (by kernel_rfl) Tryd.func6
    (witness_row_at (enc := enc) (C := Tryd.checked) false (laidWorld os) args0 rfl (by kernel_rfl) (by kernel_rfl) (by kernel_rfl)
      (OpenSpec.preRow_of_cond 8 (reads os enc) (by kernel_rfl) (fun k hk => by cases hk) (by kernel_rfl) (laid_met os))) ?_
  intro W base args ds gs before hval hW _ _ _ hL _ _
  exact contract H enc W base args ds gs before hval hW hL

theorem named : Tryd.prog.funcNamed "pursuivant/pursuivantlaw09.SignerVerifies" = some 6 := by kernel_rfl
theorem facts : joinedFacts Tryd.prog 6 Tryd.f6 (OpenSpec.ofChange Rows.signerVerifiesSpec).bare Rows.signerVerifiesRow = true := by kernel_rfl
theorem inst : Tryd.f6.isInstance Tryd.prog Rows.signerVerifiesRow.origin Rows.signerVerifiesRow.targs := of_decide_eq_true (by kernel_rfl)
theorem wrap : Tryd.f6.isWrapper Tryd.prog Rows.signerVerifiesRow.wrapper Rows.signerVerifiesRow.mainSum := by unfold Func.isWrapper; first | (rw [if_pos (by decide +kernel)]; kernel_rfl) | (rw [if_neg (by decide +kernel)]; exact ⟨rfl, rfl⟩)
theorem said : Rows.SignerVerifiesSaid :=
  OpenClaim.holds_of_cond 6 Tryd.f6 rfl rfl rfl rfl rfl rfl rfl ⟨rfl, rfl, rfl, rfl, rfl⟩ rfl rfl rfl rfl rfl named Tryd.func6 facts inst wrap
    (fun os started H enc _ F => by rw [OpenClaim.pre_eq_preRow]; exact lifted os started H enc F)

theorem plain (f : FuncId) (fn : Func) (hf : Tryd.pinned.checked.prog.funcNamed "pursuivant/pursuivantlaw09.SignerVerifies" = some f) (hfn : Tryd.pinned.checked.prog.funcs[f]? = some fn) :
    false = Tryd.pinned.checked.prog.looks [] ∧ ∀ (j : Nat) t, fn.params[j]? = some t → Tryd.pinned.checked.prog.wantsStandIn t = false := by
  obtain rfl : f = 6 := Option.some.inj ((show Tryd.prog.funcNamed "pursuivant/pursuivantlaw09.SignerVerifies" = some 6 by kernel_rfl).symm.trans hf) |>.symm
  obtain rfl : fn = Tryd.f6 := (Option.some.inj (Tryd.func6.symm.trans hfn)).symm
  refine ⟨by kernel_rfl, fun j t ht => ?_⟩
  rw [Tryd.params6] at ht
  have ht' := Array.mem_of_getElem? ht
  simp at ht'
  rcases ht' with rfl | rfl | rfl
  · exact (show Tryd.prog.wantsStandIn 45 = false by kernel_rfl)
  · exact (show Tryd.prog.wantsStandIn 22 = false by kernel_rfl)
  · exact (show Tryd.prog.wantsStandIn 37 = false by kernel_rfl)

theorem card : Rows.SignerVerifiesCardSaid :=
  Claim7.holds_tied_plain_at .later [] _ _ _ _ said (fun _ h => by cases h) (by kernel_rfl) (fun _ h => by cases h) signerVerifies_row_tie rfl ⟨rfl, rfl⟩ (by kernel_rfl) rfl plain (by kernel_rfl)
#print axioms card
end Go.Proofs.YtddbmddblhjkkaaDoor.signerVerifies
