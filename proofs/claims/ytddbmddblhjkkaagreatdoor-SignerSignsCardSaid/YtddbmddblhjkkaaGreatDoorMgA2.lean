/- Part 2 of the texts: OfB Guard Small Chain Digs TextA TagA Gen RangeA RangeB SigA MerO MerA MerP ChunkK ChunkD MerB. -/
import Derived.Test.YtddbmddblhjkkaaGreatDoorMgA1
import Derived.Stop.BytesEq
import Derived.ChangeKeysEq
import Derived.Lib.SlBytesConst
import Derived.OrdersHeld
import Derived.Deep.RegionHeld3
import Derived.Great.BuildSlice
import Derived.Lib.AppendStr
import Derived.Lib.ConvBytes
import Derived.Laws.BytesArg
import Derived.RangeFuncNested
import Derived.RangeFuncBound
import Derived.RangeFuncCalls
import Derived.RangeFuncLeaves
import Derived.Shelf.Abstract
import Derived.Shelf.RegionOpen
import Derived.WalkKit
import Derived.OwnWalkIn
import Derived.TacticsInMore
import Derived.LoopNIn
import Derived.LoopIn
import Derived.Maps.OwnSet
import Derived.Maps.StringElems
import Derived.Test.YtddbmddblhjkkaaGreatDoorProg
/- The contract of pursuivantref02.Of. -/
namespace Go.Proofs.YtddbmddblhjkkaaGreatDoor
open Go.RowKit
attribute [local go_sem] Later.cell?

theorem Own.ne {w : World} {base g : Nat} {v : Value} {bs : List UInt8} {t : TypeId} {cs : Array Value} (h : Own w base v bs) (hb : Blk w g t cs) (hne : t ≠ 5) : v.ownBlock ≠ some g := by
  rcases h.2 with ⟨rfl, _⟩ | ⟨g', cap, cur, rfl, _, hh, _⟩
  · simp [Value.ownBlock]
  · intro he
    simp only [Value.ownBlock, Option.some.injEq] at he
    subst he
    have h3 := hb.symm.trans hh
    injection h3 with h3
    injection h3 with _ h3
    exact hne h3

/-- as many zeros as are laid -/
def zpad (text : List UInt8) (j : Nat) : List UInt8 := text ++ 128 :: List.replicate j 0
theorem zpad_length (text : List UInt8) (j : Nat) : (zpad text j).length = text.length + 1 + j := by simp [zpad]; omega
theorem zpad_succ (text : List UInt8) (j : Nat) : zpad text j ++ [0] = zpad text (j + 1) := by simp [zpad, List.replicate_succ']
theorem zpad_end (text : List UInt8) : zpad text ((119 - text.length % 64) % 64) ++ putB (8 * text.length) 8 = text ++ padB text.length := by simp [zpad, padB]

theorem feed_step (s : St) (l : List UInt8) (k : Nat) (h : 64 * (k + 1) ≤ l.length) :
    (feed s (l.take (64 * (k + 1)))).1 = blk (feed s (l.take (64 * k))).1 ((l.drop (64 * k)).take 64) := by
  have h1 : l.take (64 * (k + 1)) = l.take (64 * k) ++ (l.drop (64 * k)).take 64 := by
    rw [show 64 * (k + 1) = 64 * k + 64 by omega, List.take_add]
  rw [h1, feed_append]
  have h2 : (feed s (l.take (64 * k))).2 = [] := List.eq_nil_of_length_eq_zero (by rw [feed_rest_mod]; simp; omega)
  have h3 : ((l.drop (64 * k)).take 64).length = 64 := by simp; omega
  rw [h2, List.nil_append]
  generalize (l.drop (64 * k)).take 64 = m at h3 ⊢
  rw [feed_more _ m (by omega), List.drop_of_length_le (l := m) (i := 64) (by omega), List.take_of_length_le (l := m) (i := 64) (by omega), feed_less _ _ (by simp)]

set_option maxRecDepth 100000 in
set_option maxHeartbeats 2000000 in
theorem rOf_any (v : Value) (text : List UInt8) (w : World) (hv : Sl w v text) (hlen : text.length ≤ 1073730000) :
    Calls Tryz.prog 64 #[v] w fun e w' => e = .returned (dgV (sumB text)) ∧ Ext w w' := by
  obtain ⟨A, c, rfl, hc⟩ := SlR.form hv
  have HV := Lib.hid hv
  clear hv
  go_enter Tryz.func64, Tryz.ntmps64
  go_wp2_with (first | (refine wpList_alloc_blk rfl 33 rfl (.agg zb32) zero_a32 ?_; intro w1 hs1 hb1 he1; clear hs1) | (at_builtin; have _ := ho3; refine wpList_appB (ho3.ext ((Ext.refl w3).alloc _)) (sl_one 128 rfl) rfl _ _ rfl rfl rfl (by simp; omega) (by have := E3.size; simp; omega) ?_; intro v4 w4 ho4 hg4 _) | (at_builtin; refine wpList_appB (Own.empty w1 w1.heap.size (Nat.le_refl _)) (HV.out.ext (he1.alloc _)) rfl _ _ rfl rfl rfl (by simp; omega) (by simp) ?_; intro v3 w3 ho3 hg3 _; have E3 : Ext w1 w3 := ((Ext.refl w1).alloc _).grown hg3 (by simp [Value.ownBlock])))
  have hlt1 : w.heap.size < w1.heap.size := hb1.lt
  have E4 : Ext w1 w4 := (E3.alloc _).grown hg4 ho3.from
  have O4 : Own w4 w1.heap.size v4 (zpad text 0) := by simpa [zpad] using ho4
  have B4 := hb1.ext E4
  have E14 := he1.trans E4
  clear ho3 hg3 ho4 hg4 E3 hb1 E14
  obtain ⟨zz, hzz⟩ : ∃ zz, zz = (119 - text.length % 64) % 64 := ⟨_, rfl⟩
  have hzl : zz < 64 := by omega
  have Hzz := Lib.hid hzz
  clear hzz
  go_loopw [3] (fun v wr => ∃ j : Nat, j ≤ zz ∧ Own wr w1.heap.size v (zpad text j) ∧ Blk wr w.heap.size 33 zb32 ∧ Ext w1 wr) (fun v _ => text.length + 1 + zz - lenV v)
  case atStart => exact ⟨0, by omega, O4, B4, E4⟩
  case round =>
    clear O4 B4 E4
    obtain ⟨j, hj, O, B, E⟩ := hrel
    obtain ⟨A5, c5, rfl, hc5⟩ := O.form
    have hzp := zpad_length text j
    have HO := Lib.hid O
    clear O
    rw [hzp]
    by_cases hlt : j < zz
    · have ht : (((text.length + 1 + j : Nat) : Int) % 64 != 56) = true := by rw [bne_iff_ne]; have := Hzz.out; omega
      go_wp2_with (at_builtin; refine wpList_appB (HO.out.ext ((Ext.refl wr).alloc _)) (sl_one 0 rfl) rfl _ _ rfl (by rw [hzp]; rfl) rfl (by simp; omega) (by have := E.size; simp; omega) ?_; intro v6 w6 ho6 hg6 _; obtain ⟨A6, c6, rfl, hc6⟩ := ho6.form)
      have E6 := (E.alloc _).grown hg6 HO.out.from
      have B6 := (B.alloc _).grown hg6 (by intro e; have := HO.out.from _ e.symm; omega)
      go_roundw
      case rel => exact ⟨j + 1, by omega, by rw [← zpad_succ]; rw [List.length_append, hzp] at ho6; exact ho6, B6, E6⟩
      case measure => simp [lenV]; omega
    · obtain rfl : j = zz := by omega
      have ht : (((text.length + 1 + j : Nat) : Int) % 64 != 56) = false := by rw [bne_eq_false_iff_eq]; have := Hzz.out; omega
      go_wp2_with fail
      refine (rPut_int _ _ (8 * text.length) 8 (by omega) rfl (by omega) (by omega) (by omega) (fit8 _ (by omega)) _).mono ?_
      rintro e w7 ⟨v7, rfl, O7, E7⟩
      have O7' : Own w7 wr.heap.size v7 (putB (8 * text.length) 8) := own_mk O7 (putB_length _ _).symm rfl
      have HO7 := Lib.hid O7'
      clear O7 O7'
      go_wp2_with (at_builtin; refine wpList_appB (HO.out.ext E7) HO7.out.sl rfl _ _ rfl (by rw [hzp]; rfl) rfl (by rw [hzp, putB_length]; omega) (by have := (E.trans E7).size; exact this) ?_; intro v8 w8 ho8 hg8 _)
      have E8 := (E.trans E7).grown hg8 HO.out.from
      have B8 := (B.ext E7).grown hg8 (by intro e; have := HO.out.from _ e.symm; omega)
      have O8 : Own w8 w1.heap.size v8 (text ++ padB text.length) := by rw [← zpad_end, ← Hzz.out]; exact ho8
      clear ho8 hg8 HO7 E7 B E ht hzp HO
      obtain ⟨all, hall⟩ : ∃ all, all = text ++ padB text.length := ⟨_, rfl⟩
      rw [← hall] at O8
      have hm : all.length % 64 = 0 := by rw [hall, List.length_append]; exact padB_length text.length
      obtain ⟨nb, hnb⟩ : ∃ nb, all.length = 64 * nb := ⟨all.length / 64, by omega⟩
      have hsmall : all.length ≤ 1073730100 := by rw [hall, List.length_append]; have := padB_small text.length; omega
      have Hall := Lib.hid hall
      clear hall hm
      obtain ⟨A8, c8, rfl, hc8⟩ := O8.form
      have HO8 := Lib.hid O8
      clear O8
      rw [hnb]
      have hnb' : 64 * nb ≤ 1073730100 := by omega
      have Hnb := Lib.hid hnb
      clear hnb
      refine (first_any _).mono ?_
      rintro e w9 ⟨rfl, E9⟩
      go_wp2_with (first | (refine wpList_alloc_blk rfl 126 rfl (.agg (cells32 zeroSt.list)) zero_a8 ?_; intro w10 hs10 hb10 he10; clear hs10) | (refine wpList_store_blk rfl 126 _ _ rfl w9.heap.size (cells32 start.list) rfl rfl 126 (cells32 zeroSt.list) hb10 info_a8 rfl (cells32_one _) ?_; intro w11 hs11 hb11 hg11))
      have hl9 : w1.heap.size ≤ w9.heap.size := (E8.trans E9).size
      have E11 : Ext w1 w11 := ((E8.trans E9).trans he10).grown hg11 (by simp; omega)
      have E811 : Ext w8 w11 := (E9.trans he10).grown hg11 (by simp; have := E9.size; omega)
      have B11 := B8.ext E811
      have O11 := HO8.out.ext E811
      have HO11 := Lib.hid O11
      clear O11 HO8 E811 hb10 he10 hg11 hs11 E9 E8 B8
      go_loopw [7] (fun i wr => ∃ k : Nat, k ≤ nb ∧ i = .int .i64 (64 * (k : Int)) ∧ Blk wr w9.heap.size 126 (cells32 (feed start (all.take (64 * k))).1.list) ∧ Blk wr w.heap.size 33 zb32 ∧ Own wr w1.heap.size (.slice A8 (64 * nb) c8) all ∧ Ext w1 wr) (fun i _ => nb * 64 - (intOf i).toNat)
      case atStart => exact ⟨0, by omega, rfl, by rw [Nat.mul_zero, List.take_zero, feed_less start [] (by simp)]; exact hb11, B11, by have := HO11.out; rw [Hnb.out] at this; exact this, E11⟩
      case round =>
        clear hb11 B11 HO11 E11
        obtain ⟨k, hk, rfl, D, B, O, E⟩ := hrel
        have HO := Lib.hid O
        clear O
        obtain ⟨st, hst⟩ : ∃ st, st = (feed start (all.take (64 * k))).1 := ⟨_, rfl⟩
        rw [← hst] at D
        have Hst := Lib.hid hst
        clear hst
        by_cases hlt : k < nb
        · have hsl : SlR wr 1 (.slice A8 (64 * nb) c8) (64 * nb) (bytesV all) := by have := HO.out.sl; rw [Sl, Hnb.out] at this; exact this
          obtain ⟨b, o, rfl, hcl⟩ := hsl.here (by omega)
          have hcap := hsl.len_le
          have hblk : ∀ x : Later wr, Calls Tryz.prog 80 #[.agg st.vals, .slice (some ⟨b, o + 64 * k, none⟩) 64 (c8 - 64 * k)] x.w fun e w' => e = .returned (.agg (blk st ((all.drop (64 * k)).take 64)).vals) ∧ Ext x.w w' := fun x =>
            rblock_yes st ((all.drop (64 * k)).take 64) b (o + 64 * k) (c8 - 64 * k) x.w (fun j hj => by
              have := x.ext.cell (hcl (64 * k + j) _ (bytesV_get all (64 * k + j) (by rw [Hnb.out]; omega)))
              rw [Nat.add_assoc, this]; simp [hj])
          have Hblk := Lib.hid hblk
          clear hblk hcl hsl
          have a0 : wr.cell? ⟨w9.heap.size, 0, none⟩ = some (.int .u32 st.a) := D.cell 0
          have a1 : wr.cell? ⟨w9.heap.size, 1, none⟩ = some (.int .u32 st.b) := D.cell 1
          have a2 : wr.cell? ⟨w9.heap.size, 2, none⟩ = some (.int .u32 st.c) := D.cell 2
          have a3 : wr.cell? ⟨w9.heap.size, 3, none⟩ = some (.int .u32 st.d) := D.cell 3
          have a4 : wr.cell? ⟨w9.heap.size, 4, none⟩ = some (.int .u32 st.e) := D.cell 4
          have a5 : wr.cell? ⟨w9.heap.size, 5, none⟩ = some (.int .u32 st.f) := D.cell 5
          have a6 : wr.cell? ⟨w9.heap.size, 6, none⟩ = some (.int .u32 st.g) := D.cell 6
          have a7 : wr.cell? ⟨w9.heap.size, 7, none⟩ = some (.int .u32 st.h) := D.cell 7
          have hgl : w9.heap.size < wr.heap.size := D.lt
          obtain ⟨z, hz⟩ : ∃ z, z = blk st ((all.drop (64 * k)).take 64) := ⟨_, rfl⟩
          rw [← hz] at Hblk
          have Hz := Lib.hid hz
          clear hz
          have e64 : 64 * k + 64 - 64 * k = 64 := by omega
          go_wp2
          refine wp_region_lat_tail 7 (by kernel_rfl) (by kernel_rfl) ?_
          simp only [List.take_succ_cons, List.take_zero, List.drop_succ_cons, List.drop_zero]
          repeat (go_big_quiet_step ((go_at_call 80; exact lat_call (Hblk.out _))))
          refine wpQuiet_nil ?_
          intro w12 E12
          clear a0 a1 a2 a3 a4 a5 a6 a7
          go_wp2_with (refine wpList_store_blk rfl 126 _ _ rfl w9.heap.size z.vals rfl rfl 126 _ (D.ext E12) info_a8 rfl (cells32_one z.list) ?_; intro w13 hs13 hb13 hg13)
          have O13 : Own w13 w1.heap.size (.slice (some ⟨b, o, none⟩) (64 * nb) c8) all := World.ownsRow.kept (HO.out.ext E12) hg13 (Or.inr ((HO.out.ext E12).ne (D.ext E12) (by decide)))
          have hlw : w.heap.size < w9.heap.size := by omega
          go_roundw
          case rel =>
            refine ⟨k + 1, by omega, by go_num, ?_, (B.ext E12).grown hg13 (by simp; omega), O13, (E.trans E12).grown hg13 (by simp; omega)⟩
            rw [feed_step start all k (by rw [Hnb.out]; omega), ← Hst.out, ← Hz.out]
            exact hb13
          case measure => simp [intOf]; omega
        · obtain rfl : k = nb := by omega
          have hfe : Hid (st = (feed start (text ++ padB text.length)).1) := by
            show st = _
            rw [Hst.out, ← Hall.out, List.take_of_length_le (by rw [Hnb.out]; omega)]
          clear HO Hst
          obtain ⟨wq, rfl⟩ : ∃ wq : World, wq = wr := ⟨_, rfl⟩
          go_wp2_with (first | (refine wpList_alloc_blk rfl 33 rfl (.agg zb32) zero_a32 ?_; intro w14 hs14 hb14 he14; clear hs14))
          have hl14 : w9.heap.size < wq.heap.size := D.lt
          have hlw : w.heap.size < w9.heap.size := by omega
          have D14 := D.ext he14
          have B14 := B.ext he14
          have E14 := E.trans he14
          have Hl : Hid ((outB st).length = 32) := outB_length st
          clear D B E he14
          go_loopw [9] (fun i wr => ∃ k : Nat, k ≤ 32 ∧ i = .int .i64 k ∧ Blk wr w.heap.size 33 zb32 ∧ Blk wr wq.heap.size 33 (headC (outB st) k) ∧ Blk wr w9.heap.size 126 (cells32 st.list) ∧ Ext w1 wr) (fun i _ => 32 - (intOf i).toNat)
          case atStart => exact ⟨0, by omega, rfl, B14, by rw [zb32_head _ Hl.out]; exact hb14, D14, E14⟩
          case round =>
            clear D14 B14 E14 hb14
            obtain ⟨k, hk, rfl, D1, D2, D3, E6⟩ := hrel
            by_cases hlt : k < 32
            · have hc : wr.cell? ⟨w9.heap.size, k / 4, none⟩ = some (.int .u32 (st.list[k / 4]?.getD 0)) := by rw [D3.cell]; exact cells32_get st.list _ (by rw [list_length]; omega)
              have c0 : ∃ u, wr.cell? ⟨wq.heap.size, k, none⟩ = some u := by rw [D2.cell]; exact ⟨_, Array.getElem?_eq_getElem (by rw [headC_size _ _ (by rw [Hl.out]; omega), Hl.out]; exact hlt)⟩
              obtain ⟨u0, c0⟩ := c0
              have f0 := D2.frozen k
              go_wp2
              go_roundw
              case rel =>
                refine ⟨k + 1, by omega, by go_num, D1.far (by simp; omega) _, ?_, D3.far (by simp; omega) _, E6.setCell (by simp; omega) _⟩
                rw [← headC_set _ _ (by rw [Hl.out]; exact hlt)]
                exact D2.set_ (by rw [outB_get _ _ hlt, Option.getD_some, u8_toNat])
              case measure => simp [intOf]; omega
            · obtain rfl : k = 32 := by omega
              have D2' : Blk wr wq.heap.size 33 (bytesV (outB st)).toArray := by have := headC_all (outB st); rw [Hl.out] at this; rw [← this]; exact D2
              have hz32 : Hid (zb32.size = (bytesV (outB st)).toArray.size) := zb32_size _ Hl.out
              have hi32 : Hid ((Tryz.prog.info? 33).map (·.size) = some (bytesV (outB st)).toArray.size) := by rw [List.size_toArray, bytesV_length, Hl.out]; exact info_a32
              go_wp2_with (first | (refine wpList_load_blk D2' rfl 33 _ rfl rfl Tryz.underlying33 rfl hi32.out ?_) | (refine wpList_store_blk rfl 33 _ _ rfl w.heap.size (bytesV (outB st)).toArray rfl rfl 33 zb32 D1 hi32.out hz32.out (bytes_one _) ?_; intro w17 hs17 hb17 hg17))
              refine bodyPost_ret (v := dgV (outB st)) (ret_blk hb17 rfl rfl Tryz.underlying33 rfl hi32.out) rfl ?_
              exact ⟨by rw [hfe.out]; rfl, (he1.trans E6).grown hg17 (by simp)⟩
end Go.Proofs.YtddbmddblhjkkaaGreatDoor
/- A guarded operation whose guard says yes is the operation without its guard. -/
namespace Go.Proofs.YtddbmddblhjkkaaGreatDoor
theorem wpList_unguard {P : Program} {ops : Array Oper} {Q : Exit → Act → World → Prop} {rest : List Oper} {a : Act} {w : World} {dst : Option Tmp} {op : Op} {ty : TypeId} {pos : String} {after : Array Edge} {g : Option (Nat × Bool)}
    (hw : Region.wanted ⟨dst, op, ty, pos, after, g⟩ (yielded ops a.tmps) = true) (h : wpList P ops Q (⟨dst, op, ty, pos, after, none⟩ :: rest) a w) : wpList P ops Q (⟨dst, op, ty, pos, after, g⟩ :: rest) a w := by
  unfold wpList at h ⊢
  rw [if_pos hw]
  rw [if_pos (by rfl)] at h
  exact h
end Go.Proofs.YtddbmddblhjkkaaGreatDoor
/- Small laws that many walks use: == of digests, constants as bytes, slices of slices just built, a whole array loaded in a region that draws its order. -/
namespace Go.Proofs.YtddbmddblhjkkaaGreatDoor
open Go.RowKit
attribute [local go_sem] Later.cell?
theorem info_u32 : (Tryz.prog.info? 125).map (fun i => (i.zero, i.size, i.bytes)) = some (some (.int .u32 0), 1, 4) := by kernel_rfl
theorem size_u8 (w : World) : (sizeOf 5).run Tryz.prog w = .ok 1 w := by kernel_rfl
/-- == of digests -/
theorem equal_dg (l m : List UInt8) (hl : l.length = 32) (hm : m.length = 32) (w : World) : (Op.equalIn 10000 33 (.agg (bytesV l).toArray) (.agg (bytesV m).toArray)).run Tryz.prog w = .ok (l == m) w :=
  run_equalIn_bytes (P := Tryz.prog) w 9998 33 5 32 Tryz.underlying33 Tryz.underlying5 size_u8 l m hl hm
/-- == of a state and itself -/
theorem equal_a8 (z : St) (w : World) : (Op.equalIn 10000 126 (.agg z.vals) (.agg z.vals)).run Tryz.prog w = .ok true w := by
  have hi := info_parts info_u32
  obtain ⟨i0, hi, hz0, hz1, hz2⟩ := hi
  rw [run_equalIn_array (P := Tryz.prog) w 9999 z.vals z.vals Tryz.underlying126 hi]
  have hc : Tryz.prog.cellsOf 125 = 1 := by kernel_rfl
  simp [List.range_succ, Op.eqItems, part, isAgg, run_underlying Tryz.underlying125, St.vals, hc, run_equalIn_int _ 9998 125 .u32 .u32 _ _ Tryz.underlying125]
theorem feed_one (s : St) (l : List UInt8) (h : l.length = 64) : feed s l = (blk s l, []) := by
  rw [feed_more s l (by omega), List.take_of_length_le (by omega), List.drop_of_length_le (by omega), feed_less _ _ (by simp)]
/-- []byte("constant"): the block is marked behind its end -/
theorem conv_const (w : World) (C : Array Value) (n c H : Nat) (h : w.heap.size = H) : (convert 22 22 (.slice (some ⟨H, 0, none⟩) n c)).run Tryz.prog (w.alloc (.cells C 5)) = .ok (.slice (some ⟨H, 0, none⟩) n c) (w.alloc (.cells C 5 (C.size, C.size + 1))) := by
  subst h
  exact Lib.run_convert_bytes_const (P := Tryz.prog) w 22 5 C n c Tryz.underlying22 Tryz.underlying5
theorem sl_mark (w : World) (t : TypeId) (fr : Nat × Nat) (l : List UInt8) (H : Nat) (h : w.heap.size = H) : Sl (w.alloc (.cells (bytesV l).toArray t fr)) (.slice (some ⟨H, 0, none⟩) l.length l.length) l := by
  subst h
  refine SlR.of_cells (by rw [bytesV_length]; omega) (Nat.le_refl _) (fun j v hv => ?_)
  rw [Nat.zero_add, cell_of_row _ w.heap.size j (bytesV l).toArray t fr (heap_alloc_new w _)]
  simpa using hv
theorem slAll_at (w : World) (t : TypeId) (vs : List Value) (bss : List (List UInt8)) (H : Nat) (hH : w.heap.size = H) (hl : vs.length = bss.length) (h : ∀ (i : Nat) (bs : List UInt8), bss[i]? = some bs → ∃ v, vs[i]? = some v ∧ Sl w v bs) :
    SlAll (w.alloc (.cells vs.toArray t)) (.slice (some ⟨H, 0, none⟩) bss.length bss.length) bss := by
  subst hH
  exact slAll_new w t vs bss hl h
theorem slAll_three {w : World} {v0 v1 v2 : Value} {b0 b1 b2 : List UInt8} (t : TypeId) (H : Nat) (hH : w.heap.size = H) (h0 : Sl w v0 b0) (h1 : Sl w v1 b1) (h2 : Sl w v2 b2) : SlAll (w.alloc (.cells #[v0, v1, v2] t)) (.slice (some ⟨H, 0, none⟩) 3 3) [b0, b1, b2] :=
  slAll_at w t [v0, v1, v2] [b0, b1, b2] H hH rfl (by
    intro i bs hi
    rcases i with _ | _ | _ | i
    · simp at hi; subst hi; exact ⟨_, rfl, h0⟩
    · simp at hi; subst hi; exact ⟨_, rfl, h1⟩
    · simp at hi; subst hi; exact ⟨_, rfl, h2⟩
    · simp at hi)
theorem slAll_two {w : World} {v0 v1 : Value} {b0 b1 : List UInt8} (t : TypeId) (H : Nat) (hH : w.heap.size = H) (h0 : Sl w v0 b0) (h1 : Sl w v1 b1) : SlAll (w.alloc (.cells #[v0, v1] t)) (.slice (some ⟨H, 0, none⟩) 2 2) [b0, b1] :=
  slAll_at w t [v0, v1] [b0, b1] H hH rfl (by
    intro i bs hi
    rcases i with _ | _ | i
    · simp at hi; subst hi; exact ⟨_, rfl, h0⟩
    · simp at hi; subst hi; exact ⟨_, rfl, h1⟩
    · simp at hi)
theorem slAll_one {w : World} {v0 : Value} {b0 : List UInt8} (t : TypeId) (H : Nat) (hH : w.heap.size = H) (h0 : Sl w v0 b0) : SlAll (w.alloc (.cells #[v0] t)) (.slice (some ⟨H, 0, none⟩) 1 1) [b0] :=
  slAll_at w t [v0] [b0] H hH rfl (by
    intro i bs hi
    rcases i with _ | i
    · simp at hi; subst hi; exact ⟨_, rfl, h0⟩
    · simp at hi)
/-- a load of many cells in a region that draws its order -/
theorem quiet_load {P : Program} {ops : Array Oper} {C : World → Prop} {Q : Act → Prop} {a : Act} {o : Oper} {rest : List Oper} (hw : Region.wanted o (yielded ops a.tmps) = true) (ty : TypeId) (x : Operand) (ho : o.op = .load ty x) (v : Value)
    (h : ∀ w, C w → (Instr.loadAt ty (a.eval x)).run P w = .ok v w) (hk : wpQuiet P ops C Q rest (a.put o.dst v)) : wpQuiet P ops C Q (o :: rest) a := by
  refine wpQuiet_step fun K hK => ?_
  rw [if_pos hw]
  refine ⟨v, fun w hC => ?_, hK _ hk⟩
  unfold Oper.quietAt execOp
  simp only [ho, Sem.run_bind, h w hC, Result.andThen_ok, Sem.run_pure]
  exact ⟨rfl, rfl⟩
theorem loadVar_dg {w : World} {g : Nat} {t : TypeId} {l : List UInt8} (h : Blk w g t (bytesV l).toArray) (hl : l.length = 32) : (loadVar 33 ⟨g, 0, none⟩).run Tryz.prog w = .ok (.agg (bytesV l).toArray) w :=
  run_loadVar_mid w g 0 33 (bytesV l) _ (fun j v hv => by rw [Nat.zero_add, h.cell]; simpa using hv) Tryz.underlying33 rfl (by rw [bytesV_length, hl]; exact info_a32)
theorem load_dg {w : World} {g : Nat} {t : TypeId} {l : List UInt8} (h : Blk w g t (bytesV l).toArray) (hl : l.length = 32) : (Instr.loadAt 33 (.pointer (some ⟨g, 0, none⟩))).run Tryz.prog w = .ok (.agg (bytesV l).toArray) w :=
  run_loadAt_mid w g 0 33 (bytesV l) _ (fun j v hv => by rw [Nat.zero_add, h.cell]; simpa using hv) Tryz.underlying33 rfl (by rw [bytesV_length, hl]; exact info_a32)
theorem eq_dg (z : List UInt8) (hl : z.length = 32) (w : World) : (Op.equalIn 10000 33 (.agg (bytesV z).toArray) (.agg (bytesV z).toArray)).run Tryz.prog w = .ok true w := by rw [equal_dg z z hl hl w]; simp
end Go.Proofs.YtddbmddblhjkkaaGreatDoor
/- A region that draws its order: operations that only read may be taken first (they yield one value in every world that meets S, and S is shown anew behind each of the others that may come before them); the others come one behind the other; behind them a tail that every order carries out last. -/
namespace Go.Proofs.YtddbmddblhjkkaaGreatDoor
open Go.RowKit

section
variable {P : Program} {ops : Array Oper} {Q : Exit → Act → World → Prop} {md : Region.Mode} {S : World → Prop}

/-- whatever order is picked, the head's operations come first, S holds behind each; L of where it ends -/
def headS (P : Program) (md : Region.Mode) (ops : Array Oper) (Q : Exit → Act → World → Prop) (S : World → Prop) (n : Nat) (L : Array Bool → Act → World → Prop) : Nat → Array Bool → Act → World → Prop
  | 0, listed, a, w => L listed a w
  | f + 1, listed, a, w =>
    Region.ready md ops listed ≠ [] ∧ ∀ i ∈ Region.ready md ops listed, i < n ∧ wpOp P ops Q i (fun a' w' => S w' ∧ headS P md ops Q S n L f (listed.setIfInBounds i true) a' w') a w

theorem wpAny_of_headS {n g : Nat} {L : Array Bool → Act → World → Prop} (hL : ∀ listed a w, L listed a w → wpAny P md ops Q g listed a w) :
    ∀ (f : Nat) (listed : Array Bool) (a : Act) (w : World), headS P md ops Q S n L f listed a w → wpAny P md ops Q (f + g) listed a w
  | 0, listed, a, w, h => by rw [Nat.zero_add]; exact hL _ _ _ h
  | f + 1, listed, a, w, h => by
    rw [show f + 1 + g = (f + g) + 1 by omega]
    exact ⟨fun h0 => absurd h0 h.1, fun i hi => wpOp_mono (fun a' w' h' => wpAny_of_headS hL f _ a' w' h'.2) (h.2 i hi).2⟩

theorem headS_first {n i : Nat} {oi : Oper} {v : Value} {L : Array Bool → Act → World → Prop} (hi : ops[i]? = some oi) (hsel : ∀ (j : Nat) (o : Oper) cs b, ops[j]? = some o → o.op ≠ .select cs b)
    (hs : Region.sinkB md ops n = true) (hc : Region.chainB md ops n = true) (hn : n < ops.size) (hin : i < n)
    (hdone : ∀ listed a w, L listed a w → ∀ j ∈ Region.ready md ops listed, n ≤ j)
    (hQ : ∀ c a w, Q (.panic c) (a.put oi.dst v) w → Q (.panic c) a w) :
    ∀ (f : Nat) (listed : Array Bool) (a : Act) (w : World), HeadInv md ops n listed →
      (∀ j oj, ops[j]? = some oj → j ≠ i → listed.getD j true = false → (∀ e ∈ oj.after, Region.binds md e = true → e.on ≠ i) → oi.apart ops oj = true) →
      i ∈ Region.ready md ops listed → YieldsIf P ops S oi v a → S w →
      headS P md ops Q S n L f (listed.setIfInBounds i true) (a.put oi.dst v) w → headS P md ops Q S n L (f + 1) listed a w := by
  intro f
  induction f with
  | zero =>
    intro listed a w inv _ hr hy hS H
    have hun := (mem_ready.1 hr).1
    refine ⟨fun h => (by rw [h] at hr; cases hr), fun j hj => ?_⟩
    have hjn : j < n := by
      rcases Nat.lt_or_ge j n with h | h
      · exact h
      · exact absurd hj (tail_waits hs hc hn inv _ i rfl hin hun j h)
    refine ⟨hjn, ?_⟩
    by_cases hji : j = i
    · subst hji; exact hy.wpOp hi hS ⟨hS, H⟩
    · have := hdone _ _ _ H j (ready_mono hj hji)
      omega
  | succ f ih =>
    intro listed a w inv hfree hr hy hS H
    have hun := (mem_ready.1 hr).1
    refine ⟨fun h => (by rw [h] at hr; cases hr), fun j hj => ?_⟩
    have hjn : j < n := by
      rcases Nat.lt_or_ge j n with h | h
      · exact h
      · exact absurd hj (tail_waits hs hc hn inv _ i rfl hin hun j h)
    refine ⟨hjn, ?_⟩
    by_cases hji : j = i
    · subst hji; exact hy.wpOp hi hS ⟨hS, H⟩
    · have h1 := (H.2 j (ready_mono hj hji)).2
      obtain ⟨hjun, oj, hoj, hall⟩ := mem_ready.1 hj
      have hnot : ∀ e ∈ oj.after, Region.binds md e = true → e.on ≠ i := fun e he hb heq => by
        have h1 := hall e he hb
        rw [heq, getD_both hun] at h1
        cases h1
      have h2 := wpOp_putIf hoj (hfree j oj hoj hji hjun hnot) (fun cs b => hsel i oi cs b hi) (fun cs b => hsel j oj cs b hoj) hQ hy h1
      have hfree' : ∀ k ok, ops[k]? = some ok → k ≠ i → (listed.setIfInBounds j true).getD k true = false →
          (∀ e ∈ ok.after, Region.binds md e = true → e.on ≠ i) → oi.apart ops ok = true := fun k ok hk hki hun hno => by
        refine hfree k ok hk hki ?_ hno
        by_cases hjk : j = k
        · subst hjk; exact hjun
        · rw [getD_set_ne true hjk] at hun; exact hun
      refine wpOp_mono (fun a' w' h3 => ⟨h3.2.1, ih (listed.setIfInBounds j true) a' w' (inv.set hj hjn) hfree' (ready_mono hr (Ne.symm hji)) h3.1 h3.2.1 ?_⟩) h2
      rw [Array.setIfInBounds_comm _ _ hji]
      exact h3.2.2

/-- one order: (true, i): i only reads and is taken; (false, i): i is carried out, S is shown anew -/
def wpTake (P : Program) (ops : Array Oper) (Q : Exit → Act → World → Prop) (S : World → Prop) (L : Act → World → Prop) : List (Bool × Nat) → Act → World → Prop
  | [], a, w => L a w
  | (true, i) :: rest, a, w => ∃ o v, ops[i]? = some o ∧ YieldsIf P ops S o v a ∧ wpTake P ops Q S L rest (a.put o.dst v) w
  | (false, i) :: rest, a, w => ∃ o, ops[i]? = some o ∧ Region.wanted o (yielded ops a.tmps) = true ∧ o.wp P a w (fun a' w' => S w' ∧ wpTake P ops Q S L rest a' w') Q
/-- that order stands for all -/
def chkT (md : Region.Mode) (ops : Array Oper) (n : Nat) : List (Bool × Nat) → Array Bool → Bool
  | [], listed => Region.seqB md ops (ops.size - n) n listed
  | (true, i) :: rest, listed => decide (i < n) && (Region.ready md ops listed).contains i && Region.free md ops listed i && chkT md ops n rest (listed.setIfInBounds i true)
  | (false, i) :: rest, listed => decide (i < n) && decide (Region.ready md ops listed = [i]) && chkT md ops n rest (listed.setIfInBounds i true)

theorem headS_of_take {n : Nat} {Lq : Act → World → Prop} (hsel : Region.noSelect ops = true) (hs : Region.sinkB md ops n = true) (hc : Region.chainB md ops n = true) (hn : n < ops.size)
    (hQ : ∀ c a a' w, Q (.panic c) a w → Q (.panic c) a' w) :
    ∀ (l : List (Bool × Nat)) (listed : Array Bool) (a : Act) (w : World), HeadInv md ops n listed → S w → chkT md ops n l listed = true → wpTake P ops Q S Lq l a w →
    headS P md ops Q S n (fun listed' a' w' => Region.seqB md ops (ops.size - n) n listed' = true ∧ Lq a' w') l.length listed a w
  | [], listed, a, w, _, _, hB, h => ⟨hB, h⟩
  | (true, i) :: l, listed, a, w, inv, hS, hB, h => by
    simp only [chkT, Bool.and_eq_true, decide_eq_true_eq] at hB
    obtain ⟨⟨⟨hin, hr⟩, hf⟩, hB'⟩ := hB
    obtain ⟨o, v, ho, hy, hk⟩ := h
    have hr' : i ∈ Region.ready md ops listed := by simpa using hr
    exact headS_first ho (Region.noSelect_spec hsel) hs hc hn hin (fun listed' a' w' hL => seqB_ready hL.1) (fun c a w => hQ c _ _ w) l.length listed a w inv (Region.free_spec ho hf) hr' hy hS
      (headS_of_take hsel hs hc hn hQ l _ _ _ (inv.set hr' hin) hS hB' hk)
  | (false, i) :: l, listed, a, w, inv, hS, hB, h => by
    simp only [chkT, Bool.and_eq_true, decide_eq_true_eq] at hB
    obtain ⟨⟨hin, hr⟩, hB'⟩ := hB
    obtain ⟨o, ho, hw, hk⟩ := h
    have hr' : i ∈ Region.ready md ops listed := by rw [hr]; simp
    refine ⟨by rw [hr]; simp, fun j hj => ?_⟩
    rw [hr] at hj
    obtain rfl : j = i := by simpa using hj
    refine ⟨hin, ?_⟩
    unfold wpOp
    simp only [ho, hw, if_true]
    exact .inl (Oper.wp_mono (fun a' w' h' => ⟨h'.1, headS_of_take hsel hs hc hn hQ l _ a' w' (inv.set hr' hin) h'.1 hB' h'.2⟩) hk)

/-- THE LAW -/
theorem wp_region_chain {id : Nat} {a : Act} {w : World} {l : List Oper} (n : Nat) (σ : List (Bool × Nat)) (S : World → Prop) (hm : P.follows .mixedOrders = true)
    (hB : (Region.noSelect l.toArray && decide (n < l.toArray.size) && decide (σ.length = n) && Region.sinkB .any l.toArray n && Region.chainB .any l.toArray n && chkT .any l.toArray n σ (Array.replicate l.toArray.size false)) = true)
    (hS : S w.drew) (h : wpTake P l.toArray (NoPanic Q) S (fun a' w' => wpList P l.toArray (NoPanic Q) (l.drop n) a' w') σ a w.drew) : (Code.region id l.toArray true).wp P Q a w := by
  refine wp_region_noPanic ?_
  simp only [Bool.and_eq_true, decide_eq_true_eq] at hB
  obtain ⟨⟨⟨⟨⟨hsel, hn⟩, hlen⟩, hs⟩, hc⟩, hchk⟩ := hB
  have hdl : (l.drop n).length = l.toArray.size - n := by simp
  have inv0 : HeadInv .any l.toArray n (Array.replicate l.toArray.size false) :=
    ⟨by simp, fun j oj _ hl => (by rw [getD_replicate_false] at hl; cases hl), fun t _ ht => getD_in (by simpa using ht) (getD_replicate_false _ _)⟩
  have H := headS_of_take (md := .any) (Q := NoPanic Q) hsel hs hc hn (fun _ _ _ _ h => h) σ _ a _ inv0 hS hchk h
  refine wp_region_any hm ?_
  have := wpAny_of_headS (Q := NoPanic Q) (g := l.toArray.size - n) (fun listed a' w' hL => by
    have := wpAny_of_seq (md := .any) (Q' := NoPanic Q) (l.drop n) n listed a' w' (fun j => by simp [List.getElem?_drop]) (by rw [hdl]; exact hL.1) hL.2
    rwa [hdl] at this) _ _ _ _ H
  rw [hlen, show n + (l.toArray.size - n) = l.toArray.size by omega] at this
  exact this

variable {L : Act → World → Prop}
theorem wpTake_nil {a : Act} {w : World} (h : L a w) : wpTake P ops Q S L [] a w := h
theorem at_of_drop {i : Nat} {o : Oper} {r : List Oper} (h : ops.toList.drop i = o :: r) : ops[i]? = some o := by
  have h0 := congrArg (fun l => l[0]?) h
  simpa using h0
theorem wpTake_read {i : Nat} {rest : List (Bool × Nat)} {a : Act} {w : World} (o : Oper) (r : List Oper) (v : Value) (ho : ops.toList.drop i = o :: r) (hw : Region.wanted o (yielded ops a.tmps) = true) (hy : ∀ w, S w → (execOp a.eval o).run P w = .ok (.value v) w)
    (h : wpTake P ops Q S L rest (a.put o.dst v) w) : wpTake P ops Q S L ((true, i) :: rest) a w := ⟨o, v, at_of_drop ho, .inl ⟨hw, hy⟩, h⟩
theorem wpTake_do {i : Nat} {rest : List (Bool × Nat)} {a : Act} {w : World} (o : Oper) (r : List Oper) (ho : ops.toList.drop i = o :: r) (hw : Region.wanted o (yielded ops a.tmps) = true)
    (h : ∀ K : Act → World → Prop, (∀ a' w', S w' → wpTake P ops Q S L rest a' w' → K a' w') → o.wp P a w K Q) : wpTake P ops Q S L ((false, i) :: rest) a w :=
  ⟨o, at_of_drop ho, hw, h _ (fun _ _ hs hk => ⟨hs, hk⟩)⟩
/-- a load of many cells -/
theorem wpTake_load {i : Nat} {rest : List (Bool × Nat)} {a : Act} {w : World} (o : Oper) (r : List Oper) (ho : ops.toList.drop i = o :: r) (hw : Region.wanted o (yielded ops a.tmps) = true) (ty : TypeId) (x : Operand) (hop : o.op = .load ty x) (v : Value)
    (hy : ∀ w, S w → (Instr.loadAt ty (a.eval x)).run P w = .ok v w) (h : wpTake P ops Q S L rest (a.put o.dst v) w) : wpTake P ops Q S L ((true, i) :: rest) a w := by
  refine wpTake_read o r v ho hw (fun w hS => ?_) h
  unfold execOp
  simp only [hop, Sem.run_bind, hy w hS, Result.andThen_ok, Sem.run_pure]
end
end Go.Proofs.YtddbmddblhjkkaaGreatDoor
/- Slices of digests: words, loads of one of them, a slice of one just built, append onto a row of the call's own. -/
namespace Go.Proofs.YtddbmddblhjkkaaGreatDoor
open Go.RowKit

def dsOk (ds : List (List UInt8)) : Prop := ∀ d ∈ ds, d.length = 32
theorem dsOk_nil : dsOk [] := fun _ h => by cases h
theorem dsOk_snoc {ds : List (List UInt8)} {d : List UInt8} (h : dsOk ds) (hd : d.length = 32) : dsOk (ds ++ [d]) := by
  intro x hx
  rcases List.mem_append.1 hx with hx | hx
  · exact h x hx
  · obtain rfl : x = d := by simpa using hx
    exact hd
theorem dsOk_length {ds : List (List UInt8)} (h : dsOk ds) : ds.flatten.length = 32 * ds.length := by
  induction ds with
  | nil => rfl
  | cons d ds ih =>
    have h1 := h d (by simp)
    have h2 := ih (fun x hx => h x (by simp [hx]))
    simp only [List.flatten_cons, List.length_append, List.length_cons, h1, h2]
    omega
theorem dsOk_at {ds : List (List UInt8)} (h : dsOk ds) {k : Nat} (hk : k < ds.length) : (ds.flatten.drop (k * 32)).take 32 = ds[k] := by
  induction ds generalizing k with
  | nil => simp at hk
  | cons d ds ih =>
    have h1 := h d (by simp)
    cases k with
    | zero => simp [List.take_append_of_le_length (show 32 ≤ d.length by omega), List.take_of_length_le (show d.length ≤ 32 by omega)]
    | succ k =>
      have h2 := ih (fun x hx => h x (by simp [hx])) (k := k) (by simpa using hk)
      rw [List.flatten_cons, show (k + 1) * 32 = d.length + k * 32 by omega, List.drop_append, List.drop_of_length_le (by omega), List.nil_append, Nat.add_sub_cancel_left]
      simpa using h2
theorem dsOk_get {ds : List (List UInt8)} (h : dsOk ds) {k j : Nat} (hk : k < ds.length) (hj : j < 32) : ds.flatten[k * 32 + j]? = ds[k][j]? := by
  rw [← dsOk_at h hk, List.getElem?_take, if_pos hj, List.getElem?_drop]

/-- a slice of digests that is read -/
def SlD (w : World) (v : Value) (ds : List (List UInt8)) : Prop := SlR w 32 v ds.length (bytesV ds.flatten) ∧ dsOk ds
/-- a row of digests of the call's own -/
def OwnD (w : World) (base : Nat) (v : Value) (ds : List (List UInt8)) : Prop := w.ownsRow base 33 32 v ds.length (bytesV ds.flatten) ∧ dsOk ds
section
variable {w w' : World} {base : Nat} {v : Value} {ds : List (List UInt8)}
theorem SlD.ext (h : SlD w v ds) (he : Ext w w') : SlD w' v ds := ⟨SlR.ext h.1 he, h.2⟩
theorem SlD.form (h : SlD w v ds) : ∃ A c, v = .slice A ds.length c ∧ ds.length ≤ c := h.1.form
theorem SlD.none_ (w : World) (A : Option Addr) (c : Nat) : SlD w (.slice A 0 c) [] := ⟨SlR.none_ _ _ _ _, dsOk_nil⟩
theorem SlD.at_ {A : Option Addr} {c k : Nat} (h : SlD w (.slice A ds.length c) ds) (hk : k < ds.length) : ∃ b o, A = some ⟨b, o, none⟩ ∧ Cells w b (o + k * 32) (bytesV ds[k]) := by
  obtain ⟨b, o, hA, hc⟩ := h.1.here (by omega)
  have hl : ds[k].length = 32 := h.2 _ (List.getElem_mem hk)
  refine ⟨b, o, hA, fun j u hu => ?_⟩
  have hj : j < 32 := by have := (List.getElem?_eq_some_iff.1 hu).1; rw [bytesV_length, hl] at this; exact this
  have := hc (k * 32 + j) u (by
    rw [← hu]
    simp only [bytesV, List.getElem?_map, dsOk_get h.2 hk hj])
  rw [Nat.add_assoc]
  exact this
theorem SlD.len (h : SlD w v ds) {k : Nat} (hk : k < ds.length) : ds[k].length = 32 := h.2 _ (List.getElem_mem hk)
theorem OwnD.sl (h : OwnD w base v ds) : SlD w v ds := ⟨SlR.of_own h.1, h.2⟩
theorem OwnD.ext (h : OwnD w base v ds) (he : Ext w w') : OwnD w' base v ds := ⟨own_kept h.1 he, h.2⟩
theorem OwnD.base_ {base' : Nat} (h : OwnD w base v ds) (hb : base' ≤ base) : OwnD w base' v ds := ⟨own_base h.1 hb, h.2⟩
theorem OwnD.form (h : OwnD w base v ds) : ∃ A c, v = .slice A ds.length c ∧ ds.length ≤ c := own_form h.1
theorem OwnD.from (h : OwnD w base v ds) : ∀ j, v.ownBlock = some j → base ≤ j := fun j hj => (World.ownsRow.lt h.1 j hj).1
theorem OwnD.lt (h : OwnD w base v ds) : ∀ j, v.ownBlock = some j → j < w.heap.size := fun j hj => (World.ownsRow.lt h.1 j hj).2
theorem OwnD.none_ (w : World) (base : Nat) : OwnD w base (.slice none 0 0) [] := ⟨World.ownsRow_nil w base _ _, dsOk_nil⟩
theorem OwnD.apart {q : Option Nat} (h : OwnD w base v ds) (hg : w.grownBy w' q) (hne : ∀ j, v.ownBlock = some j → q ≠ some j) : OwnD w' base v ds := by
  refine ⟨World.ownsRow.kept h.1 hg ?_, h.2⟩
  cases hv : v.ownBlock with
  | none => exact Or.inl rfl
  | some j => exact Or.inr (Ne.symm (hne j hv))
theorem OwnD.ne {g : Nat} {t : TypeId} {cs : Array Value} (h : OwnD w base v ds) (hb : Blk w g t cs) (hne : t ≠ 33) : v.ownBlock ≠ some g := by
  rcases h.1.2 with ⟨rfl, _⟩ | ⟨g', cap, cur, rfl, _, hh, _⟩
  · simp [Value.ownBlock]
  · intro he
    simp only [Value.ownBlock, Option.some.injEq] at he
    subst he
    have h3 := hb.symm.trans hh
    injection h3 with h3
    injection h3 with _ h3
    exact hne h3
end

theorem info_a32x : (Tryz.prog.info? 33).map (fun i => (i.zero, i.size, i.bytes)) = some (some (.agg zb32), 32, 32) := by kernel_rfl

/-- a digest out of the cells -/
theorem run_load_dg {w : World} {b o : Nat} {d : List UInt8} (h : Cells w b o (bytesV d)) (hd : d.length = 32) : (Instr.loadAt 33 (.pointer (some ⟨b, o, none⟩))).run Tryz.prog w = .ok (.agg (bytesV d).toArray) w :=
  run_loadAt_mid w b o 33 (bytesV d) _ (fun j v hv => h j v hv) Tryz.underlying33 rfl (by rw [bytesV_length, hd]; exact info_a32)
theorem wpList_load_dg {ops : Array Oper} {rest : List Oper} {op : Oper} {a : Act} {Q : Exit → Act → World → Prop} {w : World} {b o : Nat} {d : List UInt8} (hc : Cells w b o (bytesV d)) (hd : d.length = 32) (hgd : op.guard = none) (x : Operand) (ho : op.op = .load 33 x)
    (hx : a.eval x = .pointer (some ⟨b, o, none⟩)) (h : wpList Tryz.prog ops Q rest (a.put op.dst (.agg (bytesV d).toArray)) w) : wpList Tryz.prog ops Q (op :: rest) a w := by
  refine wpList_plain hgd fun K hK => ?_
  have hr := run_load_dg hc hd
  unfold Oper.wp execOp
  simp only [ho, hx, Sem.run_bind, hr, Result.andThen_ok, Sem.run_pure]
  exact hK _ _ h

/-- []T{d} of one digest -/
theorem run_build_dg (d : List UInt8) (hd : d.length = 32) (w : World) : (Instr.buildSlice 40 1 #[(0, .agg (bytesV d).toArray)]).run Tryz.prog w = .ok (.slice (some ⟨w.heap.size, 0, none⟩) 1 1) (w.alloc (.cells (bytesV d).toArray 33)) := by
  obtain ⟨i0, hi, hz0, hz1, hz2⟩ := info_parts info_a32x
  refine run_buildSlice (P := Tryz.prog) w 40 33 1 _ _ i0 (.agg zb32) Tryz.underlying40 hi hz0 (by rw [hz1]; decide) (by rw [hz1]; decide) ?_
  rw [hz1]
  have := Great.fill_whole (s := 32) (by omega) [.agg (bytesV d).toArray] ((Array.range (1 * 32)).map ((Value.agg zb32).cells[· % (Value.agg zb32).cells.size]!)) (by simp [Value.cells, bytesV_length, hd]) (by simp)
  simpa [Value.cells] using this

/-- append(s, d) of digests -/
theorem run_appD {w : World} {base : Nat} {v : Value} {ds : List (List UInt8)} {d : List UInt8} {A : Option Addr} {c : Nat} (ty : TypeId) (hown : OwnD w base v ds) (hd : d.length = 32) (hr : SlR w 32 (.slice A 1 c) 1 (bytesV d)) (hlen : ds.length ≤ 1073741824) (hbase : base ≤ w.heap.size) :
    ∃ v' w', (Builtin.append_ #[40, 40] ty #[v, .slice A 1 c]).run Tryz.prog w = .ok v' w' ∧ OwnD w' base v' (ds ++ [d]) ∧ w.grownBy w' v.ownBlock ∧ (v'.ownBlock = v.ownBlock ∨ v'.ownBlock = some w.heap.size) := by
  obtain ⟨i0, hi, hz0, hz1, hz2⟩ := info_parts info_a32x
  obtain ⟨v', w', hrun, h2, h3, h4⟩ := run_append_sl (P := Tryz.prog) w base 40 ty 33 i0 (.agg zb32) 32 32 Tryz.underlying40 hi hz0 hz1 hz2 (by decide) (by omega) v ds.length (bytesV ds.flatten) hown.1 A 1 c (bytesV d) hr (bytesV_one d) (by unfold maxLen; omega) (by omega) hbase
  refine ⟨v', w', hrun, ⟨?_, dsOk_snoc hown.2 hd⟩, h3, h4⟩
  rw [List.length_append, List.flatten_append, bytesV_append]
  simpa using h2
theorem wp_appD {o : Oper} {a : Act} {K : Act → World → Prop} {Q : Exit → Act → World → Prop} {w : World} {base : Nat} {v : Value} {ds : List (List UInt8)} {d : List UInt8} {A : Option Addr} {c : Nat} (hown : OwnD w base v ds) (hd : d.length = 32) (hr : SlR w 32 (.slice A 1 c) 1 (bytesV d)) (s x : Operand)
    (ho : o.op = .call { callee := .builtin .append, args := #[s, x], argTypes := #[40, 40] }) (hs : a.eval s = v) (hx : a.eval x = .slice A 1 c) (hlen : ds.length ≤ 1073741824) (hbase : base ≤ w.heap.size)
    (h : ∀ v' w', OwnD w' base v' (ds ++ [d]) → w.grownBy w' v.ownBlock → (v'.ownBlock = v.ownBlock ∨ v'.ownBlock = some w.heap.size) → K (a.put o.dst v') w') : o.wp Tryz.prog a w K Q := by
  obtain ⟨v', w', hrun, h2, h3, h4⟩ := run_appD o.type hown hd hr hlen hbase
  unfold Oper.wp execOp
  simp only [ho, resolve, invoke, builtin, Sem.run_bind, Sem.run_pure, Result.andThen_ok, List.map_toArray, List.map_cons, List.map_nil, hs, hx, hrun]
  exact h v' w' h2 h3 h4
theorem wpList_appD {ops : Array Oper} {rest : List Oper} {o : Oper} {a : Act} {Q : Exit → Act → World → Prop} {w : World} {base : Nat} {v : Value} {ds : List (List UInt8)} {d : List UInt8} {A : Option Addr} {c : Nat} (hown : OwnD w base v ds) (hd : d.length = 32) (hr : SlR w 32 (.slice A 1 c) 1 (bytesV d)) (hgd : o.guard = none) (s x : Operand)
    (ho : o.op = .call { callee := .builtin .append, args := #[s, x], argTypes := #[40, 40] }) (hs : a.eval s = v) (hx : a.eval x = .slice A 1 c) (hlen : ds.length ≤ 1073741824) (hbase : base ≤ w.heap.size)
    (h : ∀ v' w', OwnD w' base v' (ds ++ [d]) → w.grownBy w' v.ownBlock → (v'.ownBlock = v.ownBlock ∨ v'.ownBlock = some w.heap.size) → wpList Tryz.prog ops Q rest (a.put o.dst v') w') : wpList Tryz.prog ops Q (o :: rest) a w :=
  wpList_plain hgd fun _ hK => wp_appD hown hd hr s x ho hs hx hlen hbase fun v' w' h2 h3 h4 => hK _ _ (h v' w' h2 h3 h4)
theorem slD_new (w : World) (d : List UInt8) (hd : d.length = 32) : SlR (w.alloc (.cells (bytesV d).toArray 33)) 32 (.slice (some ⟨w.heap.size, 0, none⟩) 1 1) 1 (bytesV d) :=
  SlR.of_cells (by rw [bytesV_length, hd]) (Nat.le_refl _) (fun j v hv => by rw [Nat.zero_add, (Blk.new w 33 _).cell]; simpa using hv)
theorem wp_build_dg {o : Oper} {a : Act} {K : Act → World → Prop} {Q : Exit → Act → World → Prop} {w : World} (d : List UInt8) (hd : d.length = 32) (x : Operand) (ho : o.op = .buildSlice 40 1 #[(0, x)]) (hx : a.eval x = .agg (bytesV d).toArray)
    (h : ∀ w1, Ext w w1 → w1.heap.size = w.heap.size + 1 → SlR w1 32 (.slice (some ⟨w.heap.size, 0, none⟩) 1 1) 1 (bytesV d) → K (a.put o.dst (.slice (some ⟨w.heap.size, 0, none⟩) 1 1)) w1) : o.wp Tryz.prog a w K Q := by
  have hr := run_build_dg d hd w
  unfold Oper.wp execOp
  simp only [ho, List.map_toArray, List.map_cons, List.map_nil, hx, Sem.run_bind, hr, Result.andThen_ok, Sem.run_pure]
  exact h _ ((Ext.refl w).alloc _) (by simp) (slD_new w d hd)
theorem wpList_build_dg {ops : Array Oper} {rest : List Oper} {o : Oper} {a : Act} {Q : Exit → Act → World → Prop} {w : World} (d : List UInt8) (hd : d.length = 32) (hgd : o.guard = none) (x : Operand) (ho : o.op = .buildSlice 40 1 #[(0, x)]) (hx : a.eval x = .agg (bytesV d).toArray)
    (h : ∀ w1, Ext w w1 → w1.heap.size = w.heap.size + 1 → SlR w1 32 (.slice (some ⟨w.heap.size, 0, none⟩) 1 1) 1 (bytesV d) → wpList Tryz.prog ops Q rest (a.put o.dst (.slice (some ⟨w.heap.size, 0, none⟩) 1 1)) w1) : wpList Tryz.prog ops Q (o :: rest) a w :=
  wpList_plain hgd fun _ hK => wp_build_dg d hd x ho hx fun w1 h1 h2 h3 => hK _ _ (h w1 h1 h2 h3)
end Go.Proofs.YtddbmddblhjkkaaGreatDoor
/- Texts: string(b), []byte(s); contracts of octet.Text, pursuivantref01.Text, and of slices.Grow and slices.Concat of slices of bytes. -/
namespace Go.Proofs.YtddbmddblhjkkaaGreatDoor
open Go.RowKit

/-- bytes as a string -/
def strB (l : List UInt8) : ByteArray := ⟨l.toArray⟩
theorem strB_data (l : List UInt8) : (strB l).data.toList = l := by simp [strB]
theorem strB_size (l : List UInt8) : (strB l).size = l.length := by simp [strB, ByteArray.size]
theorem strB_of (s : ByteArray) : strB s.data.toList = s := by cases s; simp [strB]

theorem run_conv_none (w : World) (p : Option Addr) (c : Nat) : (convert 22 9 (.slice p 0 c)).run Tryz.prog w = .ok (.string ByteArray.empty) w := by
  rw [run_convert_bytes_string w 22 9 5 _ 0 c Tryz.underlying22 Tryz.underlying5 Tryz.underlying9]
  cases p <;> simp [Conv.bytesToString, loadCells]
  all_goals rfl
-- string(b)
set_option maxRecDepth 100000 in
theorem run_conv_str {w : World} {v : Value} {bs : List UInt8} (h : Sl w v bs) : (convert 22 9 v).run Tryz.prog w = .ok (.string (strB bs)) w := by
  obtain ⟨A, c, rfl, hc⟩ := SlR.form h
  by_cases h0 : bs.length = 0
  · obtain rfl : bs = [] := List.eq_nil_of_length_eq_zero h0
    exact run_conv_none w A c
  · obtain ⟨b, o, rfl, hx⟩ := SlR.here h (by omega)
    have := run_convert_bytes_arg (P := Tryz.prog) w 22 5 Tryz.underlying22 Tryz.underlying5 b o bs.length c (bs.map fun x => (x.toNat : Int)) (by simp) (fun i hi => by
      rw [hx i _ (bytesV_get bs i hi)]
      simp [List.getElem?_eq_getElem hi]) 9 Tryz.underlying9
    rw [this]
    have e : strOfNums (bs.map fun x => (x.toNat : Int)) = strB bs := by
      simp only [strOfNums, strB, List.map_map]
      congr 2
      refine (List.map_congr_left (fun x _ => ?_)).trans (List.map_id _)
      simp
    rw [e]

theorem ext_bytesWorld (w : World) (e : TypeId) (s : ByteArray) : Ext w (Lib.bytesWorld w e s) :=
  ⟨rfl, rfl, rfl, by rw [Lib.bytesWorld_size]; omega, fun k hk => Lib.bytesWorld_at_old w e s k hk⟩
/-- []byte(s) -/
theorem wpList_conv_bytes {ops : Array Oper} {rest : List Oper} {o : Oper} {a : Act} {Q : Exit → Act → World → Prop} {w : World} (hgd : o.guard = none) (x : Operand) (ho : o.op = .convert 9 22 x) (s : ByteArray) (hx : a.eval x = .string s)
    (h : ∀ w1 c, Sl w1 (.slice (some ⟨w.heap.size, 0, none⟩) s.size c) s.data.toList → w1.heap.size = w.heap.size + 1 → Ext w w1 → wpList Tryz.prog ops Q rest (a.put o.dst (.slice (some ⟨w.heap.size, 0, none⟩) s.size c)) w1) : wpList Tryz.prog ops Q (o :: rest) a w := by
  refine wpList_plain hgd fun K hK => ?_
  have hr := Lib.run_convert_string_bytes (P := Tryz.prog) w 9 22 5 s Tryz.underlying9 Tryz.underlying22 Tryz.underlying5
  unfold Oper.wp execOp
  simp only [ho, hx, Sem.run_bind, hr, Result.andThen_ok, Sem.run_pure]
  refine hK _ _ (h _ _ ?_ (Lib.bytesWorld_size w _ s) (ext_bytesWorld w _ s))
  have hl : s.data.toList.length = s.size := rfl
  have hge := grownCap_ge w s.size 0 5
  have hs : SlR (Lib.bytesWorld w 5 s) 1 (.slice (some ⟨w.heap.size, 0, none⟩) s.size (grownCap w s.size 0 5)) s.size (bytesV s.data.toList) :=
    SlR.of_cells (by rw [bytesV_length, hl, Nat.mul_one]) hge (fun j v hv => by
      have hj : j < s.size := by have := (List.getElem?_eq_some_iff.1 hv).1; rw [bytesV_length, hl] at this; exact this
      rw [Nat.zero_add, Lib.bytesWorld_cell w _ s j hj, ← hv, bytesV_get _ _ (by rw [hl]; exact hj)]
      simp)
  exact hs

/-- a text's bytes -/
def textB (l : List UInt8) : List UInt8 := putB l.length 4 ++ l
theorem textB_length (l : List UInt8) : (textB l).length = 4 + l.length := by simp [textB, putB_length]

set_option maxRecDepth 100000 in
set_option maxHeartbeats 400000 in
theorem oText_any (s : ByteArray) (hs : s.size ≤ 1048576) (w : World) :
    Calls Tryz.prog 85 #[.string s] w fun e w' => ∃ v', e = .returned (.tuple #[v', .int .i64 0]) ∧ Own w' w.heap.size v' (textB s.data.toList) ∧ Ext w w' := by
  obtain ⟨i0, hi, hz0, hz1, hz2⟩ := info_parts info_u8
  go_enter Tryz.func85, Tryz.ntmps85
  go_wp2_with fail
  refine (oPut_int _ _ s.size 4 rfl rfl (by omega) (by omega) (by omega) (fit4 _ (by omega)) _).mono ?_
  rintro e w1 ⟨v1, rfl, O1, E1⟩
  have HO := Lib.hid O1
  clear O1
  go_wp2_with (at_builtin; refine Lib.wpList_append_own_string _ rfl _ _ 22 9 rfl w.heap.size 5 i0 Tryz.underlying22 Tryz.underlying9 hi hz0 hz1 hz2 v1 4 _ rfl HO.out s rfl (by unfold maxLen; omega) (by omega) E1.size ?_; intro v2 w2 ho2 hg2 _)
  go_ret2
  refine ⟨v2, rfl, own_mk ho2 (by rw [textB_length]; rfl) (by rw [textB, bytesV_append]; rfl), E1.grown hg2 (fun j hj => (World.ownsRow.lt HO.out j hj).1)⟩

set_option maxRecDepth 100000 in
set_option maxHeartbeats 400000 in
theorem rText_any (s : ByteArray) (hs : s.size ≤ 1048576) (w : World) :
    Calls Tryz.prog 88 #[.string s] w fun e w' => ∃ v', e = .returned v' ∧ Own w' w.heap.size v' (textB s.data.toList) ∧ Ext w w' := by
  obtain ⟨i0, hi, hz0, hz1, hz2⟩ := info_parts info_u8
  go_enter Tryz.func88, Tryz.ntmps88
  go_wp2_with fail
  refine (rPut_int _ _ s.size 4 rfl rfl (by omega) (by omega) (by omega) (fit4 _ (by omega)) _).mono ?_
  rintro e w1 ⟨v1, rfl, O1, E1⟩
  have HO := Lib.hid O1
  clear O1
  go_wp2_with (at_builtin; refine Lib.wpList_append_own_string _ rfl _ _ 22 9 rfl w.heap.size 5 i0 Tryz.underlying22 Tryz.underlying9 hi hz0 hz1 hz2 v1 4 _ rfl HO.out s rfl (by unfold maxLen; omega) (by omega) E1.size ?_; intro v2 w2 ho2 hg2 _)
  go_ret
  refine ⟨v2, rfl, own_mk ho2 (by rw [textB_length]; rfl) (by rw [textB, bytesV_append]; rfl), E1.grown hg2 (fun j hj => (World.ownsRow.lt HO.out j hj).1)⟩

set_option maxRecDepth 100000 in
set_option maxHeartbeats 400000 in
theorem growBB_any (n : Nat) (hn : n ≤ 1073741824) (w : World) :
    Calls Tryz.prog 95 #[.slice none 0 0, .int .i64 (n : Int)] w fun e w' => ∃ v', e = .returned v' ∧ w'.ownsRow w.heap.size 22 1 v' 0 [] ∧ Ext w w' := by
  obtain ⟨i0, hi, hz0, hz1, hz2⟩ := info_parts info_bytes
  by_cases h0 : 0 < n
  · have hr := fun w => Lib.run_append_nil_zeros (P := Tryz.prog) w 129 3 129 22 i0 (.slice none 0 0) .i64 .i64 Tryz.underlying129 Tryz.underlying3 hi hz0 n h0 (by omega) (by omega) (by rw [hz2]; omega)
    have Hr := Lib.hid hr
    clear hr
    go_enter Tryz.func95, Tryz.ntmps95
    go_wp2_with (at_builtin; refine Lib.wpList_append_run _ rfl _ _ 129 3 rfl _ _ rfl rfl _ _ (Hr.out _) ?_)
    go_ret
    refine ⟨_, rfl, ?_, ?_⟩
    · have hge := grownCap_ge w n 0 22
      exact World.ownsRow_made w _ (grownCap w n 0 22) (Nat.le_refl _) (grownCap_le_maxLen w n 0 22 (by unfold maxLen; omega)) (by simp [size_zeroCells]; omega)
    · exact ((Ext.refl w).alloc _).drew
  · have hn0 : n = 0 := by omega
    subst hn0
    go_enter Tryz.func95, Tryz.ntmps95
    go_wp2
    go_ret
    exact ⟨_, rfl, World.ownsRow_nil w _ _ _, Ext.refl w⟩

/-- a slice of slices of slices of bytes, as cells -/
def SlSl (w : World) (pv : Value) (vss : List (List Value)) : Prop := ∃ vs : List Value, SlR w 1 pv vss.length vs ∧ ∀ (i : Nat) (xs : List Value), vss[i]? = some xs → ∃ v, vs[i]? = some v ∧ SlR w 1 v xs.length xs
theorem SlSl.form {w : World} {pv : Value} {vss : List (List Value)} (h : SlSl w pv vss) : ∃ A c, pv = .slice A vss.length c ∧ vss.length ≤ c := by
  obtain ⟨vs, h1, _⟩ := h
  exact h1.form
theorem SlSl.at_ {w : World} {A : Option Addr} {c k : Nat} {vss : List (List Value)} (h : SlSl w (.slice A vss.length c) vss) (hk : k < vss.length) :
    ∃ b o B d, A = some ⟨b, o, none⟩ ∧ w.cell? ⟨b, o + k, none⟩ = some (.slice B vss[k].length d) ∧ SlR w 1 (.slice B vss[k].length d) vss[k].length vss[k] := by
  obtain ⟨vs, h1, h2⟩ := h
  obtain ⟨b, o, hA, hc⟩ := h1.here (by omega)
  obtain ⟨v, hv, hs⟩ := h2 k vss[k] (List.getElem?_eq_getElem hk)
  obtain ⟨B, d, rfl, _⟩ := SlR.form hs
  exact ⟨b, o, B, d, hA, hc k _ hv, hs⟩
def totalV (vss : List (List Value)) : Nat := vss.flatten.length
theorem totalV_take_succ (vss : List (List Value)) (k : Nat) (h : k < vss.length) : totalV (vss.take (k + 1)) = totalV (vss.take k) + vss[k].length := by
  unfold totalV
  rw [List.take_succ_eq_append_getElem h, List.flatten_append, List.length_append]
  simp
theorem totalV_take_le (vss : List (List Value)) (k : Nat) : totalV (vss.take k) ≤ totalV vss := by
  unfold totalV
  conv => rhs; rw [← List.take_append_drop k vss]
  rw [List.flatten_append, List.length_append]
  omega
theorem flatV_take_succ (vss : List (List Value)) (k : Nat) (h : k < vss.length) : (vss.take (k + 1)).flatten = (vss.take k).flatten ++ vss[k] := by
  rw [List.take_succ_eq_append_getElem h, List.flatten_append]
  simp

set_option maxRecDepth 100000 in
set_option maxHeartbeats 1000000 in
theorem concatBB_any (pv : Value) (vss : List (List Value)) (w : World) (hv : SlSl w pv vss) (h1 : ∀ xs ∈ vss, ∀ u ∈ xs, u.oneCell' = true) (hn : vss.length ≤ 1073741824) (hlen : totalV vss ≤ 1073741824) :
    Calls Tryz.prog 84 #[pv] w fun e w' => ∃ v', e = .returned v' ∧ w'.ownsRow w.heap.size 22 1 v' vss.flatten.length vss.flatten ∧ Ext w w' := by
  obtain ⟨A, c, rfl, hc⟩ := hv.form
  obtain ⟨i0, hi, hz0, hz1, hz2⟩ := info_parts info_bytes
  have HV := Lib.hid hv
  have H1c := Lib.hid h1
  clear hv h1
  go_enter Tryz.func84, Tryz.ntmps84
  go_wp2
  go_loop [11, 3] (fun i s => ∃ k : Nat, k ≤ vss.length ∧ i = .int .i64 k ∧ s = .int .i64 (totalV (vss.take k) : Nat)) (fun i _ => vss.length - (intOf i).toNat)
  case atStart => exact ⟨0, by omega, rfl, rfl⟩
  case round =>
    obtain ⟨k, hk, rfl, rfl⟩ := hrel
    by_cases hlt : k < vss.length
    · obtain ⟨b, o, B, d, rfl, hcell, _⟩ := HV.out.at_ hlt
      have h1 := totalV_take_succ vss k hlt
      have h2 := totalV_take_le vss (k + 1)
      have H1 := Lib.hid h1
      have h3 : totalV (vss.take k) + vss[k].length ≤ 1073741824 := by omega
      clear h1 h2
      go_wp2
      go_round
      case rel => exact ⟨k + 1, by omega, by go_num, by rw [H1.out]; go_num⟩
      case measure => simp [intOf]; omega
    · obtain rfl : k = vss.length := by omega
      rw [List.take_length]
      go_wp2_with (go_at_call 95; refine (growBB_any (totalV vss) hlen _).mono ?_; rintro e w1 ⟨v0, rfl, hown, E1⟩; obtain ⟨A0, c0, rfl, hc0⟩ := own_form hown)
      go_loopw [27, 6] (fun i v wr => ∃ k : Nat, k ≤ vss.length ∧ i = .int .i64 k ∧ wr.ownsRow w.heap.size 22 1 v (totalV (vss.take k)) (vss.take k).flatten ∧ Ext w wr) (fun i _ _ => vss.length - (intOf i).toNat)
      case atStart => exact ⟨0, by omega, rfl, hown, E1⟩
      case round =>
        clear hown E1
        obtain ⟨k, hk, rfl, hown, E1⟩ := hrel
        by_cases hlt : k < vss.length
        · obtain ⟨b, o, B, d, rfl, hcell, hs⟩ := HV.out.at_ hlt
          have hcell1 := E1.cell hcell
          have H1 := Lib.hid (totalV_take_succ vss k hlt)
          have h2 := totalV_take_le vss (k + 1)
          have h3 : totalV (vss.take k) + vss[k].length ≤ 1073741824 := by have := H1.out; omega
          clear h2
          have Hs := Lib.hid (SlR.ext hs E1)
          have Hown := Lib.hid hown
          clear hs hown
          go_wp2_with (at_builtin; refine wpList_append_sl _ rfl _ _ 129 rfl w.heap.size 22 i0 (.slice none 0 0) 1 24 Tryz.underlying129 hi hz0 hz1 hz2 rfl (by omega) u6 _ _ rfl Hown.out B vss[k].length d vss[k] rfl Hs.out (H1c.out _ (List.getElem_mem _)) (by unfold maxLen; omega) (by omega) E1.size ?_; intro v' w2 h21 h22 h23)
          go_roundw
          case rel => exact ⟨k + 1, by omega, by go_num, by rw [H1.out, flatV_take_succ vss k hlt]; exact h21, E1.grown h22 (fun j hj => (Hown.out.lt j hj).1)⟩
          case measure => simp [intOf]; omega
        · obtain rfl : k = vss.length := by omega
          rw [List.take_length] at hown
          go_wp2
          go_ret
          exact ⟨_, rfl, hown, E1⟩
end Go.Proofs.YtddbmddblhjkkaaGreatDoor
/- Contracts of sha.Tagged and pursuivantref02.Tagged: the sum of a tag and parts, each with its length. -/
namespace Go.Proofs.YtddbmddblhjkkaaGreatDoor
open Go.RowKit

/-- a tag and parts, each with its length -/
def textsB (l : List (List UInt8)) : List UInt8 := (l.map textB).flatten
theorem textsB_nil : textsB [] = [] := rfl
theorem textsB_snoc (l : List (List UInt8)) (k : Nat) (h : k < l.length) : textsB (l.take (k + 1)) = textsB (l.take k) ++ textB l[k] := by
  unfold textsB
  rw [List.take_succ_eq_append_getElem h, List.map_append, List.flatten_append]
  simp
theorem textsB_length (l : List (List UInt8)) : (textsB l).length = 4 * l.length + total l := by
  induction l with
  | nil => rfl
  | cons x l ih =>
    have e : textsB (x :: l) = textB x ++ textsB l := by simp [textsB]
    rw [e, List.length_append, textB_length, ih]
    simp [total]
    omega
theorem total_le (l : List (List UInt8)) (m : Nat) (h : ∀ x ∈ l, x.length ≤ m) : total l ≤ l.length * m := by
  induction l with
  | nil => simp [total]
  | cons x l ih =>
    have h1 := h x (by simp)
    have h2 := ih (fun y hy => h y (by simp [hy]))
    simp only [total, List.flatten_cons, List.length_append, List.length_cons] at h2 ⊢
    rw [Nat.succ_mul]
    omega
theorem textsB_le (l : List (List UInt8)) (k : Nat) (h : ∀ x ∈ l, x.length ≤ 1048576) (hn : l.length ≤ 1001) : (textsB (l.take k)).length ≤ 1049628580 := by
  rw [textsB_length]
  have h1 := total_le (l.take k) 1048576 (fun x hx => h x (List.mem_of_mem_take hx))
  have h2 : (l.take k).length ≤ 1001 := by simp; omega
  omega
/-- THE TAGGED SUM -/
def tagB (tag : List UInt8) (parts : List (List UInt8)) : List UInt8 := sumB (textsB (tag :: parts))
theorem tagB_length (tag : List UInt8) (parts : List (List UInt8)) : (tagB tag parts).length = 32 := sumB_length _

/-- the slices' cells lie in a row that is not g, the bytes not in g -/
theorem slAll_row {w : World} {base : Nat} {v : Value} {vs : List Value} {all : List (List UInt8)} {n : Nat} (hown : w.ownsRow base 22 1 v n vs) (hn : n = all.length) (hs : ∀ (i : Nat) (bs : List UInt8), all[i]? = some bs → ∃ u, vs[i]? = some u ∧ Sl w u bs)
    {A : Option Addr} {c : Nat} (hv : v = .slice A n c) {k : Nat} (hk : k < all.length) :
    ∃ b o B d, A = some ⟨b, o, none⟩ ∧ base ≤ b ∧ w.cell? ⟨b, o + k, none⟩ = some (.slice B all[k].length d) ∧ Sl w (.slice B all[k].length d) all[k] := by
  subst hn hv
  obtain ⟨b, o, rfl, hc⟩ := (SlR.of_own hown).here (by omega)
  obtain ⟨u, hu, hs'⟩ := hs k all[k] (List.getElem?_eq_getElem hk)
  obtain ⟨B, d, rfl, _⟩ := SlR.form hs'
  refine ⟨b, o, B, d, rfl, ?_, hc k _ hu, hs'⟩
  rcases hown.2 with ⟨h, _⟩ | ⟨g, cap, cur, h, hb, _⟩
  · cases h
  · cases h; exact hb

set_option maxRecDepth 100000 in
set_option maxHeartbeats 1000000 in
theorem tagged_any (tag : ByteArray) (pv : Value) (bss : List (List UInt8)) (w : World) (hK : Kst w) (hv : SlAll w pv bss) (ht : tag.size ≤ 1048576) (hb : ∀ bs ∈ bss, bs.length ≤ 1048576) (hn : bss.length ≤ 1000) :
    Calls Tryz.prog 72 #[.string tag, pv] w fun e w' => e = .returned (dgV (tagB tag.data.toList bss)) ∧ Ext w w' := by
  obtain ⟨A, c, rfl, hc⟩ := hv.form
  have HV := Lib.hid hv
  have Hb := Lib.hid hb
  clear hv hb
  go_enter Tryz.func72, Tryz.ntmps72
  go_wp2_with (first | (refine wpList_alloc_blk rfl 33 rfl (.agg zb32) zero_a32 ?_; intro w1 hs1 hb1 he1))
  refine (new_any _).mono ?_
  rintro e w2 ⟨g, rfl, hg, H2, E2⟩
  have B2 := hb1.ext E2
  have E12 := he1.trans E2
  have hne : w.heap.size < g := by omega
  have hg2 : g < w2.heap.size := H2.lt
  clear hs1 hb1 he1 E2 hg
  obtain ⟨vs, hvs, hve⟩ := id HV.out
  have hvl : vs.length = bss.length := by simpa using hvs.1
  go_wp2_with (first | (refine wpList_conv_bytes rfl _ rfl tag rfl ?_; intro w3 c3 hs3 hz3 he3))
  have hone : SlR (w3.alloc (.cells #[.slice (some ⟨w2.heap.size, 0, none⟩) tag.size c3] 22)) 1 (.slice (some ⟨w2.heap.size + 1, 0, none⟩) 1 1) 1 [.slice (some ⟨w2.heap.size, 0, none⟩) tag.size c3] := by
    rw [← hz3]
    exact SlR.of_cells rfl (Nat.le_refl _) (fun j v hj => by rw [Nat.zero_add, (Blk.new w3 22 _).cell]; simpa using hj)
  have hss : SlSl ((w3.alloc (.cells #[.slice (some ⟨w2.heap.size, 0, none⟩) tag.size c3] 22)).alloc (.cells #[.slice (some ⟨w2.heap.size + 1, 0, none⟩) 1 1, .slice A bss.length c] 129)) (.slice (some ⟨w2.heap.size + 1 + 1, 0, none⟩) 2 2) [[.slice (some ⟨w2.heap.size, 0, none⟩) tag.size c3], vs] := by
    refine ⟨[.slice (some ⟨w2.heap.size + 1, 0, none⟩) 1 1, .slice A bss.length c], ?_, ?_⟩
    · rw [show w2.heap.size + 1 + 1 = (w3.alloc (.cells #[.slice (some ⟨w2.heap.size, 0, none⟩) tag.size c3] 22)).heap.size by simp [hz3]]
      exact SlR.of_cells rfl (Nat.le_refl _) (fun j v hj => by rw [Nat.zero_add, (Blk.new _ 129 _).cell]; simpa using hj)
    · intro i xs hi
      rcases i with _ | _ | i
      · simp at hi; subst hi; exact ⟨_, rfl, hone.ext ((Ext.refl _).alloc _)⟩
      · simp at hi; subst hi; exact ⟨_, rfl, by rw [hvl]; exact hvs.ext (((E12.trans he3).alloc _).alloc _)⟩
      · simp at hi
  have hoc : ∀ xs ∈ [[.slice (some ⟨w2.heap.size, 0, none⟩) tag.size c3], vs], ∀ u ∈ xs, u.oneCell' = true := by
    intro xs hxs u hu
    simp only [List.mem_cons, List.not_mem_nil, or_false] at hxs
    rcases hxs with rfl | rfl
    · simp only [List.mem_cons, List.not_mem_nil, or_false] at hu; subst hu; rfl
    · obtain ⟨i, hi, rfl⟩ := List.getElem_of_mem hu
      obtain ⟨v, hv1, hv2⟩ := hve i bss[i] (List.getElem?_eq_getElem (by omega))
      obtain ⟨B, d, rfl, _⟩ := SlR.form hv2
      rw [List.getElem?_eq_getElem hi] at hv1
      injection hv1 with hv1
      rw [hv1]; rfl
  have Hcall := Lib.hid (concatBB_any _ _ _ hss hoc (by simp) (by simp [totalV, hvl]; omega))
  have E3 : Ext w w3 := E12.trans he3
  have E23 := he3
  have hall : ∀ (i : Nat) (bs : List UInt8), (tag.data.toList :: bss)[i]? = some bs → ∃ u, (.slice (some ⟨w2.heap.size, 0, none⟩) tag.size c3 :: vs)[i]? = some u ∧ Sl w3 u bs := by
    intro i bs hi
    rcases i with _ | i
    · simp at hi; subst hi; exact ⟨_, rfl, hs3⟩
    · rw [List.getElem?_cons_succ] at hi ⊢
      obtain ⟨v, h1, h2⟩ := hve i bs hi
      exact ⟨v, h1, h2.ext E3⟩
  have Hall := Lib.hid hall
  have Hvl := Lib.hid hvl
  clear hss hoc hone hall hvs hve hvl hs3 he3 E12
  refine Hcall.out.mono ?_
  rintro e w5 ⟨v5, rfl, O5, E5⟩
  clear Hcall
  have O5' : Hid (w5.ownsRow (w2.heap.size + 1 + 1 + 1) 22 1 v5 (bss.length + 1) (.slice (some ⟨w2.heap.size, 0, none⟩) tag.size c3 :: vs)) := by
    have h5 := O5
    simp only [World.size_alloc, hz3, List.flatten_cons, List.flatten_nil, List.append_nil, List.cons_append, List.nil_append, List.length_cons, Hvl.out] at h5
    exact h5
  have E35 : Ext w3 w5 := (((Ext.refl w3).alloc _).alloc _).trans E5
  clear O5 E5
  have H5 := H2.ext (E23.trans E35)
  have B5 := B2.ext (E23.trans E35)
  have Ew5 := E3.trans E35
  have hfl : Hid ((([[.slice (some ⟨w2.heap.size, 0, none⟩) tag.size c3], vs] : List (List Value)).flatten).length = bss.length + 1) := by
    show _ = _
    simp [Hvl.out]
  obtain ⟨A5, c5, rfl, hc5⟩ := own_form O5'.out
  obtain ⟨all, hal⟩ : ∃ all, all = tag.data.toList :: bss := ⟨_, rfl⟩
  have hln : all.length = bss.length + 1 := by rw [hal]; rfl
  have hab : ∀ x ∈ all, x.length ≤ 1048576 := by
    rw [hal]
    intro x hx
    rcases List.mem_cons.1 hx with rfl | hx
    · exact ht
    · exact Hb.out x hx
  have Hab := Lib.hid hab
  have Hal := Lib.hid hal
  have Hln := Lib.hid hln
  rw [← hal] at Hall
  have Hall5 : Hid (∀ (i : Nat) (bs : List UInt8), all[i]? = some bs → ∃ u, (.slice (some ⟨w2.heap.size, 0, none⟩) tag.size c3 :: vs)[i]? = some u ∧ Sl w5 u bs) := by
    intro i bs hi
    obtain ⟨u, h1, h2⟩ := Hall.out i bs hi
    exact ⟨u, h1, h2.ext E35⟩
  obtain ⟨Ah, ch, Hbk, Hhs⟩ := id H5
  have hnb := hash_noByte Hbk
  have Hnb := Lib.hid hnb
  clear hab hal hln Hall H2 B2 E3 E23 E35 Hbk Hhs hnb
  go_wp2
  go_loopw [18] (fun i wr => ∃ k : Nat, k ≤ bss.length + 1 ∧ i = .int .i64 k ∧ Blk wr w.heap.size 33 zb32 ∧ HashAt wr g (feed start (textsB (all.take k))).1 (feed start (textsB (all.take k))).2 (textsB (all.take k)).length ∧ w5.grownBy wr (some g) ∧ Ext w wr) (fun i _ => bss.length + 1 - (intOf i).toNat)
  case atStart => exact ⟨0, by omega, rfl, B5, by rw [List.take_zero, textsB_nil, feed_less start [] (by simp)]; exact H5, ⟨rfl, rfl, rfl, Nat.le_refl _, fun _ _ _ => rfl⟩, Ew5⟩
  case round =>
    clear B5 H5 Ew5
    obtain ⟨k, hk, rfl, B, H, G, E⟩ := hrel
    by_cases hlt : k < bss.length + 1
    · obtain ⟨b, o, B', d, rfl, hbb, hcell, hs⟩ := slAll_row O5'.out Hln.out.symm Hall5.out rfl (show k < all.length by rw [Hln.out]; exact hlt)
      have hkl : k < all.length := by rw [Hln.out]; exact hlt
      have hcell2 := G.cell hcell (by simp; omega)
      have hs2 := hs.grown G Hnb.out
      have hcv := run_conv_str hs2
      have hkb := Hab.out all[k] (List.getElem_mem hkl)
      have h1 := textsB_snoc all k hkl
      have hsm := textsB_le all (k + 1) Hab.out (by rw [Hln.out]; omega)
      have hl1 : (textsB (all.take (k + 1))).length = (textsB (all.take k)).length + (textB all[k]).length := by rw [h1, List.length_append]
      have H1 := Lib.hid h1
      have HL1 := Lib.hid hl1
      have Hsm := Lib.hid hsm
      have HH := Lib.hid H
      have HB' := Lib.hid hbb
      clear h1 hsm hl1 H hs hcell hs2 hbb
      obtain ⟨x, hx⟩ : ∃ x, x = all[k] := ⟨_, rfl⟩
      rw [← hx] at hcv hkb H1 HL1 hcell2
      have Hx := Lib.hid hx
      clear hx
      go_wp2_with fail
      refine (oText_any (strB x) (by rw [strB_size]; exact hkb) _).mono ?_
      rintro e w6 ⟨v6, rfl, O6, E6⟩
      rw [strB_data] at O6
      have Hw := Lib.hid (write_any g _ _ (textB x) _ v6 w6 ((hK.ext E).ext E6) (HH.out.ext E6) O6.sl (feed_rest_lt _ _) (by have := HL1.out; have := Hsm.out; omega))
      clear O6 hcv
      go_wp2_with fail
      refine Hw.out.mono ?_
      rintro e w7 ⟨rfl, H7, G7⟩
      clear Hw
      have H7' : Hid (HashAt w7 g (feed start (textsB (all.take (k + 1)))).1 (feed start (textsB (all.take (k + 1)))).2 (textsB (all.take (k + 1))).length) := by
        rw [HL1.out, H1.out, feed_append start]; exact H7
      clear H7
      have B7 := (B.ext E6).grown G7 (by simp; omega)
      have E7 := (E.trans E6).grown G7 (by simp; omega)
      have G57 := grown_trans (grown_ext G E6) G7
      go_wp2
      go_roundw
      case rel => exact ⟨k + 1, by omega, by go_num, B7, H7'.out, G57, E7⟩
      case measure => simp [intOf]; omega
    · obtain rfl : k = bss.length + 1 := by omega
      rw [List.take_of_length_le (by rw [Hln.out]; omega)] at H
      have hsm := textsB_le all all.length Hab.out (by rw [Hln.out]; omega)
      rw [List.take_length] at hsm
      have Hs := Lib.hid (sum_any g _ _ _ wr (hK.ext E) H (feed_rest_lt _ _) (by rw [feed_rest_mod]) (by omega))
      have hsum : Hid (outB (feed (feed start (textsB all)).1 ((feed start (textsB all)).2 ++ padB (textsB all).length)).1 = tagB tag.data.toList bss) := by
        show _ = sumB (textsB (tag.data.toList :: bss))
        rw [← Hal.out]
        exact (sumB_of_rest _).symm
      rw [hsum.out] at Hs
      have hl := tagB_length tag.data.toList bss
      obtain ⟨z, hz⟩ : ∃ z, z = tagB tag.data.toList bss := ⟨_, rfl⟩
      rw [← hz] at Hs hl
      have Hz := Lib.hid hz
      have Hl := Lib.hid hl
      clear hz hl H hsum hsm
      have hz32 : Hid (zb32.size = (bytesV z).toArray.size) := zb32_size _ Hl.out
      have hi32 : Hid ((Tryz.prog.info? 33).map (·.size) = some (bytesV z).toArray.size) := by rw [List.size_toArray, bytesV_length, Hl.out]; exact info_a32
      go_wp2_with fail
      refine Hs.out.mono ?_
      rintro e w3 ⟨rfl, E3⟩
      have B3 := B.ext E3
      go_wp2_with (first | (refine wpList_store_blk rfl 33 _ _ rfl w.heap.size (bytesV z).toArray rfl rfl 33 zb32 B3 hi32.out hz32.out (bytes_one _) ?_; intro w7 hs7 hb7 hg7))
      refine bodyPost_ret (v := dgV z) (ret_blk hb7 rfl rfl Tryz.underlying33 rfl hi32.out) rfl ?_
      exact ⟨by rw [Hz.out], (E.trans E3).grown hg7 (by simp)⟩

set_option maxRecDepth 100000 in
set_option maxHeartbeats 1000000 in
theorem rTagged_any (tag : ByteArray) (pv : Value) (bss : List (List UInt8)) (w : World) (hv : SlAll w pv bss) (ht : tag.size ≤ 1048576) (hb : ∀ bs ∈ bss, bs.length ≤ 1048576) (hn : bss.length ≤ 1000) :
    Calls Tryz.prog 76 #[.string tag, pv] w fun e w' => e = .returned (dgV (tagB tag.data.toList bss)) ∧ Ext w w' := by
  obtain ⟨A, c, rfl, hc⟩ := hv.form
  have HV := Lib.hid hv
  have Hb := Lib.hid hb
  clear hv hb
  obtain ⟨all, hal⟩ : ∃ all, all = tag.data.toList :: bss := ⟨_, rfl⟩
  have hln : all.length = bss.length + 1 := by rw [hal]; rfl
  have hab : ∀ x ∈ all, x.length ≤ 1048576 := by
    rw [hal]
    intro x hx
    rcases List.mem_cons.1 hx with rfl | hx
    · exact ht
    · exact Hb.out x hx
  have Hab := Lib.hid hab
  have Hal := Lib.hid hal
  have Hln := Lib.hid hln
  clear hab hal hln
  go_enter Tryz.func76, Tryz.ntmps76
  go_wp2_with (first | (refine wpList_alloc_blk rfl 33 rfl (.agg zb32) zero_a32 ?_; intro w1 hs1 hb1 he1; clear hs1))
  refine (rText_any tag ht _).mono ?_
  rintro e w2 ⟨v2, rfl, O2, E2⟩
  have hl1 : w.heap.size < w1.heap.size := hb1.lt
  have O2' : Hid (Own w2 w1.heap.size v2 (textsB (all.take 1))) := by
    show Own _ _ _ _
    rw [Hal.out]
    simpa [textsB] using O2
  have B2 := hb1.ext E2
  clear O2 hb1
  go_wp2
  go_loopw [6, 5] (fun i v wr => ∃ k : Nat, k ≤ bss.length ∧ i = .int .i64 k ∧ Blk wr w.heap.size 33 zb32 ∧ Own wr w1.heap.size v (textsB (all.take (k + 1))) ∧ Ext w1 wr) (fun i _ _ => bss.length - (intOf i).toNat)
  case atStart => exact ⟨0, by omega, rfl, B2, O2'.out, E2⟩
  case round =>
    clear B2 O2' E2
    obtain ⟨k, hk, rfl, B, O, E⟩ := hrel
    have HO := Lib.hid O
    clear O
    by_cases hlt : k < bss.length
    · obtain ⟨b, o, B', d, rfl, hcell, hs⟩ := HV.out.at_ hlt
      have hkl : k + 1 < all.length := by rw [Hln.out]; omega
      have hcell2 := (he1.trans E).cell hcell
      have hcv := run_conv_str (hs.ext (he1.trans E))
      have hkb := Hb.out bss[k] (List.getElem_mem hlt)
      have h1 := textsB_snoc all (k + 1) hkl
      have hg : all[k + 1]'hkl = bss[k] := by simp [Hal.out]
      rw [hg] at h1
      have hsm := textsB_le all (k + 1 + 1) Hab.out (by rw [Hln.out]; omega)
      have hl1' : (textsB (all.take (k + 1 + 1))).length = (textsB (all.take (k + 1))).length + (textB bss[k]).length := by rw [h1, List.length_append]
      have H1 := Lib.hid h1
      have HL1 := Lib.hid hl1'
      have Hsm := Lib.hid hsm
      clear h1 hsm hl1' hs hcell hg
      obtain ⟨x, hx⟩ : ∃ x, x = bss[k] := ⟨_, rfl⟩
      rw [← hx] at hcv hkb H1 HL1 hcell2
      have Hx := Lib.hid hx
      clear hx
      go_wp2_with fail
      refine (rText_any (strB x) (by rw [strB_size]; exact hkb) _).mono ?_
      rintro e w6 ⟨v6, rfl, O6, E6⟩
      rw [strB_data] at O6
      have HO6 := Lib.hid O6
      clear O6 hcv
      go_wp2_with (at_builtin; refine wpList_appB (HO.out.ext E6) HO6.out.sl rfl _ _ rfl rfl rfl (by have := HL1.out; have := Hsm.out; omega) (by have := (E.trans E6).size; exact this) ?_; intro v8 w8 ho8 hg8 _)
      have O8 : Own w8 w1.heap.size v8 (textsB (all.take (k + 1 + 1))) := by rw [H1.out]; exact ho8
      have B8 := (B.ext E6).grown hg8 (by intro e; have := HO.out.from _ e.symm; omega)
      have E8 := (E.trans E6).grown hg8 HO.out.from
      clear ho8 hg8 HO6
      go_roundw
      case rel => exact ⟨k + 1, by omega, by go_num, B8, O8, E8⟩
      case measure => simp [intOf]; omega
    · obtain rfl : k = bss.length := by omega
      have hz : textsB (all.take (bss.length + 1)) = textsB (tag.data.toList :: bss) := by rw [List.take_of_length_le (by rw [Hln.out]; omega), Hal.out]
      have hsm := textsB_le all (bss.length + 1) Hab.out (by rw [Hln.out]; omega)
      rw [hz] at HO hsm
      have Hs := Lib.hid (rOf_any _ _ wr HO.out.sl (by omega))
      have hl := tagB_length tag.data.toList bss
      obtain ⟨z, hz'⟩ : ∃ z, z = tagB tag.data.toList bss := ⟨_, rfl⟩
      rw [show sumB (textsB (tag.data.toList :: bss)) = z from hz'.symm] at Hs
      rw [← hz'] at hl
      have Hz := Lib.hid hz'
      have Hl := Lib.hid hl
      clear hz hz' hl hsm
      have hz32 : Hid (zb32.size = (bytesV z).toArray.size) := zb32_size _ Hl.out
      have hi32 : Hid ((Tryz.prog.info? 33).map (·.size) = some (bytesV z).toArray.size) := by rw [List.size_toArray, bytesV_length, Hl.out]; exact info_a32
      go_wp2_with fail
      refine Hs.out.mono ?_
      rintro e w3 ⟨rfl, E3⟩
      have B3 := B.ext E3
      go_wp2_with (first | (refine wpList_store_blk rfl 33 _ _ rfl w.heap.size (bytesV z).toArray rfl rfl 33 zb32 B3 hi32.out hz32.out (bytes_one _) ?_; intro w7 hs7 hb7 hg7))
      refine bodyPost_ret (v := dgV z) (ret_blk hb7 rfl rfl Tryz.underlying33 rfl hi32.out) rfl ?_
      exact ⟨by rw [Hz.out], (he1.trans (E.trans E3)).grown hg7 (by simp)⟩
end Go.Proofs.YtddbmddblhjkkaaGreatDoor
/- Laws that more than one chapter uses: digests in slices, a variable of many cells, results; no function of the program. -/
namespace Go.Proofs.YtddbmddblhjkkaaGreatDoor
open Go.RowKit

theorem Ext.below {a b c : World} (h : Ext a b) (k : Below a.heap.size b c) : Ext a c := Below.trans h k
theorem ret2_blk {P : Program} {fn : Func} {p u : Tmp} {ty : TypeId} {tmps : Array Value} {w : World} {g : Nat} {t : TypeId} {cs : Array Value} (hg : Blk w g t cs) (h : fn.results = #[.cell p ty, .tmp u]) (hp : tmps.getD p undef = .pointer (some ⟨g, 0, none⟩))
    {d : TypeDesc} (hu : P.underlying ty = some d) (hd : (match d with | .struct _ | .array _ _ => true | _ => false) = true) (hi : (P.info? ty).map (·.size) = some cs.size) {v : Value} (hv : tmps.getD u undef = v) :
    (results fn tmps).run P w = .ok (.tuple #[.agg cs, v]) w := by
  rw [results_cell_tmp h, hp, hv]
  simp [asAddr, run_loadVar_row w g t ty cs (0, 0) d hg hu hd hi]
/-- a store into one cell -/
theorem grown_setCell (w : World) (g o : Nat) (u : Value) : w.grownBy (w.setCell ⟨g, o, none⟩ u) (some g) := ⟨rfl, rfl, rfl, by simp [World.setCell], fun k _ hk => heap_setCell_other w _ k _ (fun e => hk (by rw [e]))⟩
theorem OwnD.set {w : World} {base g o : Nat} {v u : Value} {ds : List (List UInt8)} {t : TypeId} {cs : Array Value} (h : OwnD w base v ds) (hb : Blk w g t cs) (hne : t ≠ 33) : OwnD (w.setCell ⟨g, o, none⟩ u) base v ds :=
  h.apart (grown_setCell w g o u) (fun j hj e => h.ne hb hne (by rw [hj, e]))
/-- two rows that lie apart stay so where one is appended to -/
theorem apart_app {w : World} {v v' u : Value} (h : ∀ j, v.ownBlock = some j → u.ownBlock ≠ some j) (hu : ∀ j, u.ownBlock = some j → j < w.heap.size) (hq : v'.ownBlock = v.ownBlock ∨ v'.ownBlock = some w.heap.size) : ∀ j, v'.ownBlock = some j → u.ownBlock ≠ some j := by
  intro j hj e
  rcases hq with hq | hq
  · exact h j (by rw [← hq, hj]) e
  · rw [hq] at hj
    injection hj with hj
    have := hu j e
    omega
theorem SlR.far {w w' : World} {size n c : Nat} {A : Option Addr} {xs : List Value} {q : Option Nat} (h : SlR w size (.slice A n c) n xs) (hg : w.grownBy w' q) (hq : ∀ b o, A = some ⟨b, o, none⟩ → q ≠ some b) : SlR w' size (.slice A n c) n xs := by
  obtain ⟨hl, A', c', hv, hc, hr⟩ := h
  cases hv
  refine ⟨hl, A, c, rfl, hc, fun hn => ?_⟩
  obtain ⟨b, o, hA, hx⟩ := hr hn
  exact ⟨b, o, hA, fun j u hu => hg.cell (hx j u hu) (Ne.symm (hq b o hA))⟩
theorem info_int : (Tryz.prog.info? 3).map (fun i => (i.zero, i.size, i.bytes)) = some (some (.int .i64 0), 1, 8) := by kernel_rfl
/-- a digest of a list -/
def dAt (l : List (List UInt8)) (b : Nat) : List UInt8 := l[b]?.getD []
theorem dAt_eq {l : List (List UInt8)} {b : Nat} (h : b < l.length) : dAt l b = l[b] := by simp [dAt, h]
theorem sl_cells {w : World} {b o : Nat} {d : List UInt8} (h : Cells w b o (bytesV d)) (hd : d.length = 32) : Sl w (.slice (some ⟨b, o, none⟩) 32 32) d := by
  have := SlR.of_cells (size := 1) (n := 32) (c := 32) (by rw [bytesV_length, hd]) (Nat.le_refl _) h
  rw [Sl, hd]
  exact this
theorem sl_blk32 {w : World} {g : Nat} {t : TypeId} {d : List UInt8} (h : Blk w g t (bytesV d).toArray) (hd : d.length = 32) : Sl w (.slice (some ⟨g, 0, none⟩) 32 32) d := by
  have := sl_of_blk h
  rw [hd] at this
  exact this
theorem Sl.far {w w' : World} {A : Option Addr} {n c : Nat} {d : List UInt8} {q : Option Nat} (h : Sl w (.slice A n c) d) (hg : w.grownBy w' q) (hq : ∀ b o, A = some ⟨b, o, none⟩ → q ≠ some b) : Sl w' (.slice A n c) d := by
  have hn := h.bytes
  subst hn
  exact SlR.far h hg hq
/-- 'x := f()' of an array or a struct: its block -/
theorem wpList_var {P : Program} {ops : Array Oper} {rest : List Oper} {o1 o2 : Oper} {a : Act} {w : World} {Q : Exit → Act → World → Prop} (hg1 : o1.guard = none) (hg2 : o2.guard = none) (T : TypeId) (ho1 : o1.op = .alloc T) (x y : Operand) (ho2 : o2.op = .store T x y)
    (z : Value) (hz : ∀ w, (zeroValue T).run P w = .ok z w) (cs : Array Value) (hx : (a.put o1.dst (.pointer (some ⟨w.heap.size, 0, none⟩))).eval x = .pointer (some ⟨w.heap.size, 0, none⟩)) (hy : (a.put o1.dst (.pointer (some ⟨w.heap.size, 0, none⟩))).eval y = .agg cs)
    (hi : (P.info? T).map (·.size) = some cs.size) (hzs : z.cells.size = cs.size) (h1 : cs.all (·.oneCell') = true)
    (h : ∀ w1, Blk w1 w.heap.size T cs → Ext w w1 → wpList P ops Q rest ((a.put o1.dst (.pointer (some ⟨w.heap.size, 0, none⟩))).put o2.dst undef) w1) : wpList P ops Q (o1 :: o2 :: rest) a w := by
  refine wpList_alloc_blk hg1 T ho1 z hz ?_
  intro w1 _ hb1 he1
  refine wpList_store_blk hg2 T x y ho2 w.heap.size cs hx hy T z.cells hb1 hi hzs h1 ?_
  intro w2 _ hb2 hg2
  exact h w2 hb2 (he1.grown hg2 (by simp))
/-- append(s, x...) of bytes, as one operation -/
theorem wp_appB {o : Oper} {a : Act} {K : Act → World → Prop} {Q : Exit → Act → World → Prop} {w : World} {base : Nat} {v xv : Value} {xs bs : List UInt8} (hown : Own w base v xs) (hr : Sl w xv bs) (s x : Operand)
    (ho : o.op = .call { callee := .builtin .append, args := #[s, x], argTypes := #[22, 22] }) (hs : a.eval s = v) (hx : a.eval x = xv) (hlen : xs.length + bs.length ≤ 1099511627776) (hbase : base ≤ w.heap.size)
    (h : ∀ v' w', Own w' base v' (xs ++ bs) → w.grownBy w' v.ownBlock → (v'.ownBlock = v.ownBlock ∨ v'.ownBlock = some w.heap.size) → K (a.put o.dst v') w') : o.wp Tryz.prog a w K Q := by
  obtain ⟨i0, hi, hz0, hz1, hz2⟩ := info_parts info_u8
  obtain ⟨A, c, rfl, hc⟩ := SlR.form hr
  obtain ⟨v', w', hrun, h2, h3, h4⟩ := run_append_sl (P := Tryz.prog) w base 22 o.type 5 i0 (.int .u8 0) 1 1 Tryz.underlying22 hi hz0 hz1 hz2 rfl (by omega) v xs.length (bytesV xs) hown A bs.length c (bytesV bs) hr (bytesV_one bs) (by unfold maxLen; omega) (by omega) hbase
  unfold Oper.wp execOp
  simp only [ho, resolve, invoke, builtin, Sem.run_bind, Sem.run_pure, Result.andThen_ok, List.map_toArray, List.map_cons, List.map_nil, hs, hx, hrun]
  exact h v' w' (own_mk h2 (by simp) (by rw [bytesV_append])) h3 h4
theorem cells_part {w : World} {b o : Nat} {bs : List UInt8} (h : Cells w b o (bytesV bs)) (i n : Nat) : Cells w b (o + i) (bytesV ((bs.drop i).take n)) := by
  intro j v hv
  have hj : j < n := by have := (List.getElem?_eq_some_iff.1 hv).1; rw [bytesV_length, List.length_take] at this; omega
  rw [Nat.add_assoc]
  refine h (i + j) v ?_
  simp only [bytesV, List.getElem?_map, List.getElem?_take, if_pos hj, List.getElem?_drop] at hv ⊢
  exact hv
theorem finMap {β : Type} (f : Nat → β) (N : Nat) : (List.finRange N).map (fun x => f x.1) = (List.range N).map f := by
  apply List.ext_getElem
  · simp
  · intro i h1 h2
    simp
theorem run_arr32 (a : Option Addr) (len cap : Nat) (hn : 32 ≤ len) (w : World) : (Instr.arrayAt 33 (.slice a len cap)).run Tryz.prog w = .ok (.pointer a) w := by
  simp [Instr.arrayAt, run_underlying Tryz.underlying33, Nat.not_lt.2 hn]
theorem dAt_length {ds : List (List UInt8)} (h : dsOk ds) {k : Nat} (hk : k < ds.length) : (dAt ds k).length = 32 := by rw [dAt_eq hk]; exact h _ (List.getElem_mem hk)
theorem dg_i (z : List UInt8) (h : z.length = 32) : (Tryz.prog.info? 33).map (·.size) = some (bytesV z).toArray.size := by rw [List.size_toArray, bytesV_length, h]; exact info_a32
theorem Blk.alloc' {w : World} {g : Nat} {t : TypeId} {cs : Array Value} (h : Blk w g t cs) (o : Obj) : Blk (w.alloc o) g t cs := h.alloc o
theorem fromN (ds : List (List UInt8)) (n : Nat) (h : ds.length = n) {w : World} {v : Value} (hs : SlD w v ds) : ∃ A c, v = .slice A n c ∧ n ≤ c := by
  obtain ⟨A, c, hv, hc⟩ := hs.form
  exact ⟨A, c, by rw [hv, h], by omega⟩
theorem cells_get {w : World} {b o : Nat} {d : List UInt8} (h : Cells w b o (bytesV d)) (j : Nat) (hj : j < d.length) : w.cell? ⟨b, o + j, none⟩ = some (.int .u8 ((d[j]?.getD 0).toNat : Int)) := h j _ (bytesV_get d j hj)
theorem slAll_own {w : World} {v : Value} {bs : List UInt8} (t : TypeId) (h : Sl w v bs) : SlAll (w.alloc (.cells #[v] t)) (.slice (some ⟨w.heap.size, 0, none⟩) 1 1) [bs] := slAll_one t _ rfl h
end Go.Proofs.YtddbmddblhjkkaaGreatDoor
/- A range over a function: the round's fence (everything allowed) meets what is shown of a region outside of one; words for an invariant that abides the loop's book-keeping. No program. -/
namespace Go.Proofs.YtddbmddblhjkkaaGreatDoor
open Go.RowKit Go.Shelf

section
variable {P : Program} {ops : Array Oper} {Q : Exit → Act → World → Prop} {r n : Nat}

theorem rowsIn_round {row : String} {args : Array Value} {w : World} {R : Value → World → Prop} (h : Rows P row args w R) : RowsIn (Fence.wide.inRound r) n P row args w R :=
  fun c cs _ => let ⟨v, w', hr, s⟩ := h c cs; ⟨v, w', hr, stepsIn_wide.2 s⟩
theorem callsIn_round {f : FuncId} {args : Array Value} {w : World} {R : Ending → World → Prop} (h : Calls P f args w R) : CallsIn (Fence.wide.inRound r) n P f args w R :=
  CallsIn.inRound r (callsIn_wide.2 h)

theorem operIn_of_oper {o : Oper} {a : Act} {w : World} {K K' : Act → World → Prop} (hd : ∀ c, o.op ≠ .defer c) (hk : ∀ a w, K a w → K' a w)
    (h : o.wp P a w K Q) : o.wpIn (Fence.wide.inRound r) n P a w K' Q := by
  refine ⟨fun _ _ => trivial, ?_⟩
  rw [Oper.semAt_eq _ _ _ hd]
  unfold Oper.wp at h
  generalize (execOp a.eval o).run P w = x at *
  cases x with
  | ok m w' =>
    cases m <;> simp only [Oper.upon, Oper.uponIn] at h ⊢
    case value => exact hk _ _ h
    case skip => exact hk _ _ h
    case defer => exact hk _ _ h
    case enter => exact ⟨fun h => by simp [Fence.wide] at h, callsIn_round (Calls.mono h (fun e w'' he => by cases e <;> first | exact hk _ _ he | exact he))⟩
    case row => exact ⟨fun h => by simp [Fence.wide] at h, rowsIn_round (Rows.mono h (fun _ _ he => hk _ _ he))⟩
  | halt x w' => cases x <;> simp only [Oper.upon, Oper.uponIn] at h ⊢; exact h

/-- no operation of a region is a 'defer' -/
def noDefer (ops : Array Oper) : Bool := ops.all fun o => match o.op with | .defer _ => false | _ => true
theorem noDefer_at (h : noDefer ops = true) {i : Nat} {o : Oper} (ho : ops[i]? = some o) (c) : o.op ≠ .defer c := by
  obtain ⟨hi, he⟩ := Array.getElem?_eq_some_iff.1 ho
  have := Array.all_eq_true.1 h i hi
  rw [he] at this
  intro e
  rw [e] at this
  cases this

theorem opsIn_of_ops (hd : noDefer ops = true) (hQ : ¬ LetsOut Q) : ∀ (l : List Nat) (a : Act) (w : World), wpOps P ops Q l a w → wpOpsIn (Fence.wide.inRound r) n P ops Q l a w := by
  intro l
  induction l with
  | nil => exact fun a w h => h
  | cons i rest ih =>
    intro a w h
    simp only [wpOps, wpOpsIn] at h ⊢
    cases ho : ops[i]? with
    | none => simp only [ho] at h ⊢; exact ih a w h
    | some o =>
      simp only [ho] at h ⊢
      by_cases hw : Region.wanted o (yielded ops a.tmps) = true
      · simp only [hw, if_true] at h ⊢
        rcases h with h | h
        · exact operIn_of_oper (noDefer_at hd ho) (fun a w => ih a w) h
        · exact absurd h.2 hQ
      · simp only [hw, if_false, Bool.false_eq_true] at h ⊢
        exact ⟨fun _ _ => trivial, ih _ _ h⟩

/-- a region in a round: what every order of it comes to -/
theorem wpIn_region_any {id : Nat} {a : Act} {w : World} (hm : P.follows .mixedOrders = true) (hd : noDefer ops = true) (hQ : ¬ LetsOut Q)
    (h : wpAny P .any ops Q ops.size (Array.replicate ops.size false) a { w with drawn := w.drawn + 1 }) : (Code.region id ops true).wpIn (Fence.wide.inRound r) n P Q a w :=
  wpIn_region_draw fun t => by
    simp only [Region.schedule, hm, Bool.true_or, if_true]
    exact opsIn_of_ops hd hQ _ _ _ (wpAny_sound ops.size t _ a _ h)

/-- a region in a round: in the order of the text -/
theorem wpIn_region_round {id : Nat} {a : Act} {w : World} {l : List Oper} (hd : noDefer l.toArray = true) (hQ : ¬ LetsOut Q)
    (h : wpList P l.toArray Q l a w) : (Code.region id l.toArray false).wpIn (Fence.wide.inRound r) n P Q a w := by
  refine wpIn_region (opsIn_of_ops hd hQ _ _ _ ?_)
  have := wpOps_eq_wpList (P := P) (Q := Q) (ops := l.toArray) l 0 (by simp)
  rw [List.range_eq_range', ← Array.length_toList, List.toList_toArray, this]
  exact h

theorem noLetsOut_noPanic (hQ : ¬ LetsOut Q) : ¬ LetsOut (NoPanic Q) := fun ⟨a, w, h⟩ => hQ ⟨a, w, h⟩

/-- THE CHAIN LAW IN A ROUND -/
theorem wpIn_region_chain {id : Nat} {a : Act} {w : World} {l : List Oper} (k : Nat) (σ : List (Bool × Nat)) (S : World → Prop) (hm : P.follows .mixedOrders = true) (hd : noDefer l.toArray = true) (hQ : ¬ LetsOut Q)
    (hB : (Region.noSelect l.toArray && decide (k < l.toArray.size) && decide (σ.length = k) && Region.sinkB .any l.toArray k && Region.chainB .any l.toArray k && chkT .any l.toArray k σ (Array.replicate l.toArray.size false)) = true)
    (hS : S w.drew) (h : wpTake P l.toArray (NoPanic Q) S (fun a' w' => wpList P l.toArray (NoPanic Q) (l.drop k) a' w') σ a w.drew) : (Code.region id l.toArray true).wpIn (Fence.wide.inRound r) n P Q a w := by
  refine Code.wpIn_mono NoPanic.imp ?_
  simp only [Bool.and_eq_true, decide_eq_true_eq] at hB
  obtain ⟨⟨⟨⟨⟨hsel, hn⟩, hlen⟩, hs⟩, hc⟩, hchk⟩ := hB
  have hdl : (l.drop k).length = l.toArray.size - k := by simp
  have inv0 : HeadInv .any l.toArray k (Array.replicate l.toArray.size false) :=
    ⟨by simp, fun j oj _ hl => (by rw [getD_replicate_false] at hl; cases hl), fun t _ ht => getD_in (by simpa using ht) (getD_replicate_false _ _)⟩
  have H := headS_of_take (md := .any) (Q := NoPanic Q) hsel hs hc hn (fun _ _ _ _ h => h) σ _ a _ inv0 hS hchk h
  refine wpIn_region_any hm hd (noLetsOut_noPanic hQ) ?_
  have := wpAny_of_headS (Q := NoPanic Q) (g := l.toArray.size - k) (fun listed a' w' hL => by
    have := wpAny_of_seq (md := .any) (Q' := NoPanic Q) (l.drop k) k listed a' w' (fun j => by simp [List.getElem?_drop]) (by rw [hdl]; exact hL.1) hL.2
    rwa [hdl] at this) _ _ _ _ H
  rw [hlen, show k + (l.toArray.size - k) = l.toArray.size by omega] at this
  exact this
end

/-- the loop's own book-keeping: new blocks, and a turn of a block that is no cells at or beyond B -/
def Turn (B : Nat) (W W' : World) : Prop := ∃ row, W.grownBy W' row ∧ ∀ r, row = some r → B ≤ r ∧ ∃ o : Obj, W.heap[r]? = some o ∧ o.isCells = false
theorem ownFrom_of {β : Type} {B : Nat} {I : β → World → Prop} (h : ∀ s W W', I s W → Turn B W W' → I s W') : OwnFrom B I := fun s W W' row hs hg hr => h s W W' hs ⟨row, hg, hr⟩
theorem Turn.blk {B : Nat} {W W' : World} (t : Turn B W W') {g : Nat} {e : TypeId} {cs : Array Value} (h : Blk W g e cs) : Blk W' g e cs := by
  obtain ⟨row, hg, hr⟩ := t
  refine h.grown hg fun e' => ?_
  obtain ⟨_, o, ho, hc⟩ := hr g e'.symm
  rw [show W.heap[g]? = _ from h] at ho
  cases ho; cases hc
theorem Turn.own {B : Nat} {W W' : World} (t : Turn B W W') {base : Nat} {e : TypeId} {size : Nat} {v : Value} {k : Nat} {xs : List Value} (h : W.ownsRow base e size v k xs) : W'.ownsRow base e size v k xs := by
  obtain ⟨row, hg, hr⟩ := t
  refine h.kept hg ?_
  rcases h.2 with ⟨rfl, _⟩ | ⟨g, cap, cur, rfl, _, hgb, _⟩
  · exact .inl rfl
  · refine .inr fun e' => ?_
    obtain ⟨_, o, ho, hc⟩ := hr g (by simpa [Value.ownBlock] using e'.symm)
    rw [hgb] at ho; cases ho; cases hc
theorem Turn.below {B n₀ : Nat} {w W W' : World} (t : Turn B W W') (hB : n₀ ≤ B) (h : Below n₀ w W) (hn : n₀ ≤ w.heap.size) : Below n₀ w W' := by
  obtain ⟨row, hg, hr⟩ := t
  exact h.grown hg (Nat.le_trans hn h.size) fun k e => Nat.le_trans hB (hr k e).1
theorem Turn.ext {B : Nat} {w W W' : World} (t : Turn B W W') (h : Ext w W) (hB : w.heap.size ≤ B) : Ext w W' := Turn.below t hB h (Nat.le_refl _)
theorem keeps_ext {W W' : World} (h : Ext W W') : KeepsOthers W W' := ⟨h.size, fun k _ hk _ => (Below.block h k (Array.getElem?_eq_some_iff.1 hk).1).trans hk⟩
theorem keeps_grown {W W' : World} {g : Nat} {e : TypeId} {cs : Array Value} (hg : W.grownBy W' (some g)) (hb : Blk W g e cs) : KeepsOthers W W' :=
  KeepsOthers.of_grownBy hg fun j o ej hj => by cases ej; rw [show W.heap[g]? = _ from hb] at hj; cases hj; rfl
theorem keeps_own {W W' : World} {base : Nat} {e : TypeId} {size : Nat} {v : Value} {k : Nat} {xs : List Value} (h : W.ownsRow base e size v k xs) (hg : W.grownBy W' v.ownBlock) : KeepsOthers W W' :=
  KeepsOthers.of_grownBy hg fun j o ej hj => by
    rcases h.2 with ⟨rfl, _⟩ | ⟨g, cap, cur, rfl, _, hgb, _⟩
    · simp [Value.ownBlock] at ej
    · obtain rfl : g = j := by simpa [Value.ownBlock] using ej
      rw [hgb] at hj; cases hj; rfl
end Go.Proofs.YtddbmddblhjkkaaGreatDoor
/- A range over a function of the program's own, met where it is called: the statement out of the call of the iterator; one call of yield out of the round's walk. No program. -/
namespace Go.Proofs.YtddbmddblhjkkaaGreatDoor
open Go.RowKit

section
variable {F : Fence} {n : Nat} {P : Program}
/-- the record that the statement lays -/
def rec0 (fn : FuncId) (tmps : Array Value) (ps : Array Tmp) (assign body : Code) (D : Nat) (st : LoopState) (pe : Option Code) : Loop := { state := st, pending := pe, fn, tmps, params := ps, assign, body, defers := D }
/-- the world in which the iterator is called -/
def called (w : World) (r : Loop) : World := (w.alloc (.deferred (some []))).alloc (.loop r)
theorem called_ext (w : World) (r : Loop) : Ext w (called w r) := ((Ext.refl w).alloc _).alloc _
theorem called_size (w : World) (r : Loop) : (called w r).heap.size = w.heap.size + 2 := by simp [called]
theorem called_rec (w : World) (r : Loop) : (called w r).heap[w.heap.size + 1]? = some (.loop r) := by
  have := World.alloc_heap_new (w.alloc (.deferred (some []))) (.loop r)
  rwa [World.size_alloc] at this
theorem called_def (w : World) (r : Loop) : (called w r).heap[w.heap.size]? = some (.deferred (some [])) := (Below.heap_alloc _ _ _ (by simp)).trans (World.alloc_heap_new w _)

theorem wpIn_range_called {g : Operand} {ps : Array Tmp} {assign body : Code} {Q : Exit → Act → World → Prop} {a : Act} {w : World} (hro : F.round = none) (h1 : 1 ≤ n) {gf : Nat} {lb : Array Value} (hg : a.eval g = .func (.func gf) #[] lb) (hFg : F.fn gf)
    (eg : ∀ args w, (callFunc gf args).run P w = .ok (.enter gf args) w)
    (h : ∀ fn (rr : LoopState → Option Code → Loop), rr = rec0 fn a.tmps ps assign body w.heap.size → F.fn fn → CallsIn F (n - 1) P gf (#[.func (.yield (w.heap.size + 1)) #[] #[]] ++ lb) (called w (rr .ready none))
      (rangePost F n P (w.heap.size + 1) Q { a with defers := { target := .collected w.heap.size, args := #[] } :: a.defers })) :
    (Code.rangeFunc g ps assign body).wpIn F n P Q a w := by
  refine wpIn_rangeFunc fun fn hfn => ?_
  refine ⟨w.heap.size + 1, [{ target := .collected w.heap.size, args := #[] }], called w (rec0 fn a.tmps ps assign body w.heap.size .ready none), { target := .fn (.func gf) lb, args := #[.func (.yield (w.heap.size + 1)) #[] #[]] }, called w (rec0 fn a.tmps ps assign body w.heap.size .ready none), gf, _, _, ?_, ?_, ?_, ?_, fun _ => h1, h fn _ rfl hfn⟩
  · rw [hro]; exact run_enterLoop_outer _ _ _ _ _
  · simp only [resolve, hg]; simp [go_sem]
  · intro f' hf'; simp [Target.leads] at hf'; subst hf'; exact hFg
  · simp [invoke, go_sem, eg]

/-- one call of yield: the round's assignments leave the world, the body is walked beside the busy record -/
theorem yield_at {l : Nat} {r : Loop} {args : Array Value} {W : World} {R : Ending → World → Prop} (hl : W.heap[l]? = some (.loop r)) (hr : r.state = .ready) (hs : args.size = r.params.size) (hfn : F.fn r.fn) (a₁ : Act)
    (hassign : ∀ K : Act → World → Prop, K a₁ W → r.assign.wpIn (F.inRound l) n P (Exit.then K (fun _ _ _ => False)) { tmps := (r.params.zip args).foldl (fun t (p, v) => t.setIfInBounds p v) r.tmps, defers := [] } W)
    (hbody : r.body.wpIn (F.inRound l) n P (roundPost P l R) a₁ (W.putObj l (.loop { r with state := .busy }))) : YieldAt F n P l args W R :=
  ⟨_, _, _, _, run_yield hl hs, roundIn_of_wpIn hfn (hassign _ ⟨_, run_beginRound hl hr, hbody⟩)⟩
theorem end_normal {l : Nat} {r : Loop} {R : Ending → World → Prop} {a : Act} {W : World} (hl : W.heap[l]? = some (.loop r)) (h : R (.returned (.bool true)) (W.putObj l (.loop { r with state := .ready, pending := none }))) : roundPost P l R .normal a W :=
  ⟨_, _, run_endRound none hl, h⟩
theorem end_exit {l id : Nat} {r : Loop} {R : Ending → World → Prop} {a : Act} {W : World} (hl : W.heap[l]? = some (.loop r)) (h : R (.returned (.bool false)) (W.putObj l (.loop { r with state := .done, pending := some (.exit id) }))) : roundPost P l R (.exit id) a W :=
  ⟨_, _, run_endRound (some (.exit id)) hl, h⟩
theorem roundPost_noLets {l : Nat} {R : Ending → World → Prop} : ¬ LetsOut (roundPost P l R) := by rintro ⟨_, _, h⟩; exact h
/-- behind the iterator -/
theorem range_next {l : Nat} {r : Loop} {Q : Exit → Act → World → Prop} {a : Act} {W : World} {v : Value} (hl : W.heap[l]? = some (.loop r)) (hb : r.state ≠ .busy) (hp : r.pending = none) (h : ∀ W', W' = W.putObj l (.loop { r with state := .exhausted }) → Q .normal a W') : rangePost F n P l Q a (.returned v) W := by
  obtain ⟨_, pe⟩ := r
  subst hp
  exact ⟨_, _, run_endLoop hl hb, h _ rfl⟩
theorem range_jump {l : Nat} {r : Loop} {c : Code} {Q : Exit → Act → World → Prop} {a : Act} {W : World} {v : Value} (hl : W.heap[l]? = some (.loop r)) (hb : r.state ≠ .busy) (hp : r.pending = some c) (h : ∀ W', W' = W.putObj l (.loop { r with state := .exhausted }) → c.wpIn F n P Q a W') : rangePost F n P l Q a (.returned v) W := by
  obtain ⟨_, pe⟩ := r
  subst hp
  exact ⟨_, _, run_endLoop hl hb, h _ rfl⟩
/-- a block that is no cells turns -/
theorem turn_putObj {B l : Nat} {W : World} {o : Obj} (o' : Obj) (hB : B ≤ l) (hl : W.heap[l]? = some o) (hc : o.isCells = false) : Turn B W (W.putObj l o') :=
  ⟨some l, grownBy_putObj' W l o', fun r e => by cases e; exact ⟨hB, o, hl, hc⟩⟩
end
end Go.Proofs.YtddbmddblhjkkaaGreatDoor
/- A map of used leaves, in memory; a world in which only that map has turned. -/
namespace Go.Proofs.YtddbmddblhjkkaaGreatDoor
open Go.RowKit Go.Maps

abbrev strB' (s : List UInt8) : ByteArray := ⟨s.toArray⟩
def iL (i : Int) : Lit := .int .i64 i
/-- block B is a map of integers to strings: u says what it holds, n how many -/
def UMap (w : World) (B : Nat) (u : Int → Option (List UInt8)) (n : Nat) : Prop :=
  ∃ D : DataW Unit, w.ownsMap Tryz.prog 3 (plainElem Tryz.prog 9) B n D ∧ Maps.size D = n ∧ (∀ i s, u i = some s → s.length ≤ maxLen) ∧
    ∀ i, (iL i).wf = true → (u i = none → Maps.has D (iL i) = false) ∧ (∀ s, u i = some s → Maps.has D (iL i) = true ∧ ∀ z, D.atKey (iL i) z = .lit (.string s))
theorem own_tight {H : Type} {P : Program} {w : World} {k : TypeId} {R : Value → Option (DataW H × List MemPlace)} {b n : Nat} {D : DataW H} (h : w.ownsMap P k R b n D) : w.ownsMap P k R b (Maps.size D) D := by
  obtain ⟨es, cl, hb, F, hs, rfl⟩ := h
  exact ⟨es, cl, hb, F, by simp [Maps.size, length_sorted], rfl⟩
theorem keyInt : Keyed Tryz.prog 3 := int_keyed Tryz.underlying3
theorem UMap.made (w : World) : UMap (w.alloc (.map #[] 0)) w.heap.size (fun _ => none) 0 :=
  ⟨.map [], World.ownsMap_made _ _ _ _, rfl, fun _ _ h => (by cases h), fun _ _ => ⟨fun _ => rfl, fun _ h => (by cases h)⟩⟩
theorem UMap.isMap {w : World} {B : Nat} {u : Int → Option (List UInt8)} {n : Nat} (h : UMap w B u n) : ∃ es cl, w.heap[B]? = some (.map es cl) := by
  obtain ⟨D, ⟨es, cl, hb, _⟩, _⟩ := h
  exact ⟨es, cl, hb⟩
theorem UMap.ext {w w' : World} {B : Nat} {u : Int → Option (List UInt8)} {n : Nat} (h : UMap w B u n) (E : Ext w w') : UMap w' B u n := by
  obtain ⟨D, h1, h2⟩ := h
  exact ⟨D, h1.kept (row := none) ⟨E.os, E.tape, E.output, E.size, fun k hk _ => E.block k hk⟩ (by simp), h2⟩
theorem zero_string (w : World) : (zeroValue 9).run Tryz.prog w = .ok (.string ByteArray.empty) w := by kernel_rfl
theorem wf_i64 {i : Int} (h : -9223372036854775808 ≤ i ∧ i ≤ 9223372036854775807) : (iL i).wf = true := by
  simp [iL, Lit.wf, IntKind.min, IntKind.max, IntKind.signed, IntKind.bits]
  omega
/-- m, ok := s.used[leaf] -/
theorem UMap.look {w : World} {B : Nat} {u : Int → Option (List UInt8)} {n : Nat} (h : UMap w B u n) {i : Int} (hi : (iL i).wf = true) :
    (Instr.lookup 59 (.map (some B)) (.int .i64 i) true).run Tryz.prog w = .ok (.tuple #[.string (strB' ((u i).getD [])), .bool (u i).isSome]) w := by
  obtain ⟨D, h1, h2, h3, h4⟩ := h
  obtain ⟨v, ps, hrun, hv⟩ := h1.look_ok keyInt Tryz.underlying59 (zero_string w) (plainElem_string Tryz.underlying9 (by decide)) (keyOf_int_mk Tryz.underlying3 hi)
  obtain ⟨s, rfl, hz, _⟩ := plainElem_string_inv Tryz.underlying9 hv
  rw [hrun]
  have hd : D.atKey (iL i) (.lit (.string ByteArray.empty.data.toList)) = .lit (.string s.data.toList) := (Prod.mk.inj hz).1
  cases hu : u i with
  | none =>
    have hh := (h4 i hi).1 hu
    rw [atKey_of_not_has hh] at hd
    have e : s.data.toList = [] := by
      have := hd
      simp at this
      simpa using this.symm
    have e2 : s = strB' [] := by
      cases s with
      | mk d => exact congrArg ByteArray.mk (Array.toList_inj.1 (by simpa using e))
    rw [show Maps.has D (.int .i64 i) = false from hh, e2]
    rfl
  | some t =>
    obtain ⟨hh, ha⟩ := (h4 i hi).2 t hu
    rw [ha] at hd
    have e : t = s.data.toList := by simpa using hd
    have e2 : s = strB' t := by
      cases s with
      | mk d => exact congrArg ByteArray.mk (Array.toList_inj.1 (by simpa using e.symm))
    rw [show Maps.has D (.int .i64 i) = true from hh, e2]
    rfl
/-- len(s.used) -/
theorem UMap.len {w : World} {B : Nat} {u : Int → Option (List UInt8)} {n : Nat} (h : UMap w B u n) (ty : TypeId) : (Builtin.len_ #[59] ty #[.map (some B)]).run Tryz.prog w = .ok (.int .i64 (n : Int)) w := by
  obtain ⟨D, h1, h2, _⟩ := h
  rw [h1.len Tryz.underlying59 ty, h2]

/-- only the map of block M has turned -/
def Mv (M : Nat) (w w' : World) : Prop := w.grownBy w' (some M) ∧ ∃ es cl, w.heap[M]? = some (.map es cl)
theorem Mv.of_ext {M : Nat} {w w' : World} (E : Ext w w') (hm : ∃ es cl, w.heap[M]? = some (.map es cl)) : Mv M w w' := ⟨⟨E.os, E.tape, E.output, E.size, fun k hk _ => E.block k hk⟩, hm⟩
theorem Mv.trans {M : Nat} {a b c : World} (h : Mv M a b) (k : Mv M b c) : Mv M a c :=
  ⟨⟨k.1.os.trans h.1.os, k.1.tape.trans h.1.tape, k.1.output.trans h.1.output, Nat.le_trans h.1.size k.1.size, fun j hj hne => (k.1.block j (Nat.lt_of_lt_of_le hj h.1.size) hne).trans (h.1.block j hj hne)⟩, h.2⟩
section
variable {M : Nat} {w w' : World}
theorem Mv.size (h : Mv M w w') : w.heap.size ≤ w'.heap.size := h.1.size
theorem Mv.blk (h : Mv M w w') {g : Nat} {t : TypeId} {cs : Array Value} (hb : Blk w g t cs) : Blk w' g t cs := hb.grown h.1 fun e => by
  injection e with e
  obtain ⟨es, cl, hm⟩ := h.2
  rw [← e, show w.heap[g]? = _ from hb] at hm
  cases hm
theorem Mv.cell (h : Mv M w w') {p : Addr} {v : Value} (hc : w.cell? p = some v) : w'.cell? p = some v := by
  refine h.1.cell hc ?_
  intro e
  injection e with e
  obtain ⟨es, cl, hm⟩ := h.2
  obtain ⟨o, ho, hcell⟩ := cells_of_cell hc
  rw [← e, ho] at hm
  injection hm with hm
  rw [hm] at hcell
  cases hcell
theorem Mv.cells (h : Mv M w w') {b o : Nat} {cs : List Value} (hc : Cells w b o cs) : Cells w' b o cs := fun j v hv => h.cell (hc j v hv)
theorem Mv.slR (h : Mv M w w') {size n : Nat} {v : Value} {xs : List Value} (hs : SlR w size v n xs) : SlR w' size v n xs := by
  obtain ⟨hl, A, c, hv, hc, hr⟩ := hs
  exact ⟨hl, A, c, hv, hc, fun hn => by obtain ⟨b, o, hA, hx⟩ := hr hn; exact ⟨b, o, hA, h.cells hx⟩⟩
theorem Mv.sl (h : Mv M w w') {v : Value} {bs : List UInt8} (hs : Sl w v bs) : Sl w' v bs := h.slR hs
theorem Mv.slD (h : Mv M w w') {v : Value} {ds : List (List UInt8)} (hs : SlD w v ds) : SlD w' v ds := ⟨h.slR hs.1, hs.2⟩
theorem Mv.kst (h : Mv M w w') (hk : Kst w) : Kst w' := h.cells hk
end

/-- s.used[leaf] = m -/
theorem UMap.put {w : World} {B : Nat} {u : Int → Option (List UInt8)} {n : Nat} (h : UMap w B u n) {i : Int} (hi : (iL i).wf = true) {s : List UInt8} (hs : s.length ≤ maxLen) (hn : n < maxLen) :
    ∃ w', (Instr.mapUpdate 59 (.map (some B)) (.int .i64 i) (.string (strB' s))).run Tryz.prog w = .ok () w' ∧ UMap w' B (fun j => if j = i then some s else u j) (if (u i).isSome then n else n + 1) ∧ Mv B w w' := by
  have him := h.isMap
  obtain ⟨D, h1, h2, h3, h4⟩ := h
  obtain ⟨w', hrun, h5, h6⟩ := h1.update keyInt Tryz.underlying59 hn (val := .string (strB' s)) (keyOf_int_mk Tryz.underlying3 hi) (plainElem_string Tryz.underlying9 (by simpa [ByteArray.size] using hs))
  have hT := h1.tidy keyInt
  have hk : WideAt.IsKeyLit (iL i) := by trivial
  have hsz := size_put (k := iL i) hT (.lit (.string s) : DataW Unit)
  refine ⟨w', hrun, ?_, h6, him⟩
  have hD' : ∀ j, (iL j).wf = true → ((if j = i then some s else u j) = none → Maps.has (D.put (iL i) (.lit (.string s))) (iL j) = false) ∧ (∀ t, (if j = i then some s else u j) = some t → Maps.has (D.put (iL i) (.lit (.string s))) (iL j) = true ∧ ∀ z, (D.put (iL i) (.lit (.string s))).atKey (iL j) z = .lit (.string t)) := by
    intro j hj
    by_cases e : j = i
    · subst e
      simp only [if_true]
      refine ⟨fun h => (by cases h), fun t ht => ?_⟩
      cases ht
      exact ⟨has_put_same hT.isMap hk _, fun z => atKey_put_same hT.isMap hk _ z⟩
    · simp only [if_neg e]
      have hne : iL j ≠ iL i := by simpa [iL] using e
      refine ⟨fun h => (by rw [has_put_other hne]; exact (h4 j hj).1 h), fun t ht => ?_⟩
      rw [has_put_other hne]
      exact ⟨((h4 j hj).2 t ht).1, fun z => by rw [atKey_put_other hne]; exact ((h4 j hj).2 t ht).2 z⟩
  have hlen : ∀ j t, (if j = i then some s else u j) = some t → t.length ≤ maxLen := by
    intro j t ht
    by_cases e : j = i
    · rw [if_pos e] at ht; cases ht; exact hs
    · rw [if_neg e] at ht; exact h3 j t ht
  have h5' := own_tight h5
  rw [show (strB' s).data.toList = s from by simp] at h5'
  have hsz' : Maps.size (D.put (iL i) (.lit (.string s))) = if (u i).isSome then n else n + 1 := by
    rw [hsz, h2]
    cases hu : u i with
    | none => rw [(h4 i hi).1 hu]; rfl
    | some t => rw [((h4 i hi).2 t hu).1]; rfl
  exact ⟨_, by rw [← hsz']; exact h5', hsz', hlen, hD'⟩
end Go.Proofs.YtddbmddblhjkkaaGreatDoor
/- math/bits.OnesCount of small numbers; whether there may be so many leaves, by both. -/
namespace Go.Proofs.YtddbmddblhjkkaaGreatDoor
open Go.RowKit

/-- the steps of the count, as the text has them -/
def po1 (x : Int) : Int := IntKind.u64.wrap (bits .and .u64 (x / 2) 6148914691236517205 + bits .and .u64 x 6148914691236517205)
def po2 (x : Int) : Int := IntKind.u64.wrap (bits .and .u64 (x / 4) 3689348814741910323 + bits .and .u64 x 3689348814741910323)
def po3 (x : Int) : Int := bits .and .u64 (IntKind.u64.wrap (x / 16 + x)) 1085102592571150095
def po4 (x : Int) : Int := IntKind.u64.wrap (x + x / 256)
def po5 (x : Int) : Int := IntKind.u64.wrap (x + x / 65536)
def po6 (x : Int) : Int := IntKind.u64.wrap (x + x / 4294967296)
def popI (x : Int) : Int := bits .and .i64 (wrap64 (po6 (po5 (po4 (po3 (po2 (po1 x))))))) 127
def powB (n : Nat) : Bool := n == 1 || n == 2 || n == 4 || n == 8 || n == 16 || n == 32 || n == 64
theorem pop_all : ∀ n : Fin 65, (popI (n.1 : Int) == 1) = powB n.1 := by decide +kernel

set_option maxRecDepth 100000 in
set_option maxHeartbeats 1000000 in
theorem ones64_any (n : Nat) (w : World) : Calls Tryz.prog 97 #[.int .u64 (n : Int)] w fun e w' => e = .returned (.int .i64 (popI (n : Int))) ∧ w = w' := by
  go_enter Tryz.func97, Tryz.ntmps97
  go_wp2
  go_ret
  exact ⟨rfl, rfl⟩

set_option maxRecDepth 100000 in
set_option maxHeartbeats 1000000 in
theorem ones_any (n : Nat) (w : World) : Calls Tryz.prog 86 #[.int .u64 (n : Int)] w fun e w' => e = .returned (.int .i64 (popI (n : Int))) ∧ w = w' := by
  go_enter Tryz.func86, Tryz.ntmps86
  go_wp2_with fail
  with_reducible refine (ones64_any n w).mono ?_
  rintro e w' ⟨rfl, rfl⟩
  go_wp2
  go_ret
  exact ⟨rfl, rfl⟩

set_option maxRecDepth 100000 in
set_option maxHeartbeats 1000000 in
theorem r8may_any (n : Nat) (w : World) : Calls Tryz.prog 55 #[.int .i64 (n : Int)] w fun e w' => e = .returned (.bool (powB n)) ∧ w = w' := by
  go_enter Tryz.func55, Tryz.ntmps55
  go_wp2
  all_goals go_ret
  all_goals refine ⟨congrArg (fun b => Ending.returned (.bool b)) ?_, rfl⟩
  all_goals first
    | (symm; simp only [powB, Bool.or_eq_true, beq_iff_eq]; omega)
    | (rw [Bool.eq_iff_iff]; simp only [powB, Bool.or_eq_true, beq_iff_eq]; omega)

theorem powB_iff (n : Nat) : powB n = true ↔ n = 1 ∨ n = 2 ∨ n = 4 ∨ n = 8 ∨ n = 16 ∨ n = 32 ∨ n = 64 := by
  simp only [powB, Bool.or_eq_true, beq_iff_eq]
  omega
theorem powB_le {n : Nat} (h : powB n = true) : 1 ≤ n ∧ n ≤ 64 := by have := (powB_iff n).1 h; omega

set_option maxRecDepth 100000 in
set_option maxHeartbeats 1000000 in
theorem mmay_any (n : Nat) (w : World) : Calls Tryz.prog 73 #[.int .i64 (n : Int)] w fun e w' => e = .returned (.bool (powB n)) ∧ w = w' := by
  by_cases h1 : 1 ≤ n
  · by_cases h2 : n ≤ 64
    · have hp := pop_all ⟨n, by omega⟩
      obtain ⟨q, hq⟩ : ∃ q, q = powB n := ⟨_, rfl⟩
      rw [← hq] at hp ⊢
      have H := Lib.hid (ones_any n)
      obtain ⟨z, hz⟩ : ∃ z, z = popI (n : Int) := ⟨_, rfl⟩
      dsimp only at hp
      rw [← hz] at H hp
      clear hq hz
      go_enter Tryz.func73, Tryz.ntmps73
      go_wp2_with fail
      with_reducible refine (H.out _).mono ?_
      rintro e w' ⟨rfl, rfl⟩
      go_wp2
      go_ret
      exact ⟨rfl, rfl⟩
    · have hm : powB n = false := by rw [Bool.eq_false_iff]; intro e; have := powB_le e; omega
      rw [hm]
      clear hm
      go_enter Tryz.func73, Tryz.ntmps73
      go_wp2
      go_ret
      exact ⟨rfl, rfl⟩
  · have hm : powB n = false := by rw [Bool.eq_false_iff]; intro e; have := powB_le e; omega
    rw [hm]
    clear hm
    go_enter Tryz.func73, Tryz.ntmps73
    go_wp2
    go_ret
    exact ⟨rfl, rfl⟩
end Go.Proofs.YtddbmddblhjkkaaGreatDoor
/- merkle: what its functions compute, in plain words; the contracts of Node of both. -/
namespace Go.Proofs.YtddbmddblhjkkaaGreatDoor
open Go.RowKit

abbrev nodA : ByteArray := ⟨#[109, 101, 114, 107, 108, 101, 32, 110, 111, 100, 101]⟩
/-- the node of two -/
def nodeB (l r : List UInt8) : List UInt8 := tagB nodA.data.toList [l, r]
theorem nodeB_length (l r : List UInt8) : (nodeB l r).length = 32 := tagB_length _ _

set_option maxRecDepth 100000 in
set_option maxHeartbeats 1000000 in
theorem mNode_any (l r : List UInt8) (hl : l.length = 32) (hr : r.length = 32) (w : World) (hK : Kst w) :
    Calls Tryz.prog 66 #[dgV l, dgV r] w fun e w' => e = .returned (dgV (nodeB l r)) ∧ Ext w w' := by
  have hn := nodeB_length l r
  obtain ⟨z, hz⟩ : ∃ z, z = nodeB l r := ⟨_, rfl⟩
  rw [← hz] at hn ⊢
  have Hn := Lib.hid hn
  have Hz := Lib.hid hz
  have Hl := Lib.hid hl
  have Hr := Lib.hid hr
  clear hz hn hl hr
  have hz32 : Hid (zb32.size = (bytesV z).toArray.size) := zb32_size _ Hn.out
  have hi32 : Hid ((Tryz.prog.info? 33).map (·.size) = some (bytesV z).toArray.size) := dg_i z Hn.out
  have B0 := Blk.new w 33 (bytesV l).toArray
  have B1 := Blk.new (w.alloc (.cells (bytesV l).toArray 33)) 33 (bytesV r).toArray
  rw [World.size_alloc] at B1
  replace B0 := B0.alloc (.cells (bytesV r).toArray 33)
  have E0 : Ext w ((w.alloc (.cells (bytesV l).toArray 33)).alloc (.cells (bytesV r).toArray 33)) := ((Ext.refl w).alloc _).alloc _
  go_enter Tryz.func66, Tryz.ntmps66
  go_wp2_with (first | (refine wpList_alloc_blk rfl 33 rfl (.agg zb32) zero_a32 ?_; intro w1 hs1 hb1 he1; clear hs1))
  simp only [World.size_alloc] at hb1
  have E1 := E0.trans he1
  have S0 : Sl w1 (.slice (some ⟨w.heap.size, 0, none⟩) 32 32) l := sl_blk32 (B0.ext he1) Hl.out
  have S1 : Sl w1 (.slice (some ⟨w.heap.size + 1, 0, none⟩) 32 32) r := sl_blk32 (B1.ext he1) Hr.out
  have Hc : Hid (Calls Tryz.prog 72 #[.string nodA, .slice (some ⟨w1.heap.size, 0, none⟩) 2 2] (w1.drew.alloc (.cells #[.slice (some ⟨w.heap.size, 0, none⟩) 32 32, .slice (some ⟨w.heap.size + 1, 0, none⟩) 32 32] 22)) fun e w' => e = .returned (dgV z) ∧ Ext (w1.drew.alloc (.cells #[.slice (some ⟨w.heap.size, 0, none⟩) 32 32, .slice (some ⟨w.heap.size + 1, 0, none⟩) 32 32] 22)) w') := by
    have := tagged_any nodA _ _ _ (hK.ext (E1.trans ((Ext.refl w1).drew.alloc _))) (slAll_two (w := w1.drew) 22 w1.heap.size rfl (S0.ext (Ext.refl w1).drew) (S1.ext (Ext.refl w1).drew)) (by decide) (by simp [Hl.out, Hr.out]) (by simp)
    rw [Hz.out]
    exact this
  have hwd : Ext w1 (w1.drew.alloc (.cells #[.slice (some ⟨w.heap.size, 0, none⟩) 32 32, .slice (some ⟨w.heap.size + 1, 0, none⟩) 32 32] 22)) := (Ext.refl w1).drew.alloc _
  clear B0 B1 E0 he1 S0 S1
  go_wp2_with fail
  refine wp_region_chain 4 [(true, 0), (true, 1), (false, 2), (false, 3)] (fun _ => True) (by kernel_rfl) (by kernel_rfl) trivial ?_
  iterate 2
    refine wpTake_read _ _ ?_ rfl rfl ?_ ?_
    rotate_left 1
    focus
      intro wS hS
      clear hS
      go_simp
      first | done | with_reducible rfl
    simp only [Act.put, List.setIfInBounds_toArray, List.set_cons_zero, List.set_cons_succ]
  refine wpTake_do _ _ rfl rfl (fun K hK' => ?_)
  go_simp
  refine hK' _ _ trivial ?_
  clear hK' K
  refine wpTake_do _ _ rfl rfl (fun K hK' => ?_)
  go_simp
  refine Hc.out.mono ?_
  rintro e w3 ⟨rfl, E3⟩
  refine hK' _ _ trivial ?_
  clear hK' K
  refine wpTake_nil ?_
  simp only [List.drop_succ_cons, List.drop_zero]
  have E13 := hwd.trans E3
  have B3 := hb1.ext E13
  go_wp2_with (first | (refine wpList_store_blk rfl 33 _ _ rfl (w.heap.size + 1 + 1) (bytesV z).toArray rfl rfl 33 zb32 B3 hi32.out hz32.out (bytes_one _) ?_; intro w7 hs7 hb7 hg7))
  refine NoPanic.normal ?_
  go_wp2
  refine bodyPost_ret (v := dgV z) (ret_blk hb7 rfl rfl Tryz.underlying33 rfl hi32.out) rfl ?_
  exact ⟨rfl, (E1.trans E13).grown hg7 (by simp; omega)⟩

set_option maxRecDepth 100000 in
set_option maxHeartbeats 1000000 in
theorem r8Node_any (l r : List UInt8) (hl : l.length = 32) (hr : r.length = 32) (w : World) :
    Calls Tryz.prog 56 #[dgV l, dgV r] w fun e w' => e = .returned (dgV (nodeB l r)) ∧ Ext w w' := by
  have hn := nodeB_length l r
  obtain ⟨z, hz⟩ : ∃ z, z = nodeB l r := ⟨_, rfl⟩
  rw [← hz] at hn ⊢
  have Hn := Lib.hid hn
  have Hz := Lib.hid hz
  have Hl := Lib.hid hl
  have Hr := Lib.hid hr
  clear hz hn hl hr
  have hz32 : Hid (zb32.size = (bytesV z).toArray.size) := zb32_size _ Hn.out
  have hi32 : Hid ((Tryz.prog.info? 33).map (·.size) = some (bytesV z).toArray.size) := dg_i z Hn.out
  have B0 := Blk.new w 33 (bytesV l).toArray
  have B1 := Blk.new (w.alloc (.cells (bytesV l).toArray 33)) 33 (bytesV r).toArray
  rw [World.size_alloc] at B1
  replace B0 := B0.alloc (.cells (bytesV r).toArray 33)
  have E0 : Ext w ((w.alloc (.cells (bytesV l).toArray 33)).alloc (.cells (bytesV r).toArray 33)) := ((Ext.refl w).alloc _).alloc _
  go_enter Tryz.func56, Tryz.ntmps56
  go_wp2_with (first | (refine wpList_alloc_blk rfl 33 rfl (.agg zb32) zero_a32 ?_; intro w1 hs1 hb1 he1; clear hs1))
  simp only [World.size_alloc] at hb1
  have E1 := E0.trans he1
  have S0 : Sl w1 (.slice (some ⟨w.heap.size, 0, none⟩) 32 32) l := sl_blk32 (B0.ext he1) Hl.out
  have S1 : Sl w1 (.slice (some ⟨w.heap.size + 1, 0, none⟩) 32 32) r := sl_blk32 (B1.ext he1) Hr.out
  have Hc : Hid (Calls Tryz.prog 76 #[.string nodA, .slice (some ⟨w1.heap.size, 0, none⟩) 2 2] (w1.drew.alloc (.cells #[.slice (some ⟨w.heap.size, 0, none⟩) 32 32, .slice (some ⟨w.heap.size + 1, 0, none⟩) 32 32] 22)) fun e w' => e = .returned (dgV z) ∧ Ext (w1.drew.alloc (.cells #[.slice (some ⟨w.heap.size, 0, none⟩) 32 32, .slice (some ⟨w.heap.size + 1, 0, none⟩) 32 32] 22)) w') := by
    have := rTagged_any nodA _ _ _ (slAll_two (w := w1.drew) 22 w1.heap.size rfl (S0.ext (Ext.refl w1).drew) (S1.ext (Ext.refl w1).drew)) (by decide) (by simp [Hl.out, Hr.out]) (by simp)
    rw [Hz.out]
    exact this
  have hwd : Ext w1 (w1.drew.alloc (.cells #[.slice (some ⟨w.heap.size, 0, none⟩) 32 32, .slice (some ⟨w.heap.size + 1, 0, none⟩) 32 32] 22)) := (Ext.refl w1).drew.alloc _
  clear B0 B1 E0 he1 S0 S1
  go_wp2_with fail
  refine wp_region_chain 4 [(true, 0), (true, 1), (false, 2), (false, 3)] (fun _ => True) (by kernel_rfl) (by kernel_rfl) trivial ?_
  iterate 2
    refine wpTake_read _ _ ?_ rfl rfl ?_ ?_
    rotate_left 1
    focus
      intro wS hS
      clear hS
      go_simp
      first | done | with_reducible rfl
    simp only [Act.put, List.setIfInBounds_toArray, List.set_cons_zero, List.set_cons_succ]
  refine wpTake_do _ _ rfl rfl (fun K hK' => ?_)
  go_simp
  refine hK' _ _ trivial ?_
  clear hK' K
  refine wpTake_do _ _ rfl rfl (fun K hK' => ?_)
  go_simp
  refine Hc.out.mono ?_
  rintro e w3 ⟨rfl, E3⟩
  refine hK' _ _ trivial ?_
  clear hK' K
  refine wpTake_nil ?_
  simp only [List.drop_succ_cons, List.drop_zero]
  have E13 := hwd.trans E3
  have B3 := hb1.ext E13
  go_wp2_with (first | (refine wpList_store_blk rfl 33 _ _ rfl (w.heap.size + 1 + 1) (bytesV z).toArray rfl rfl 33 zb32 B3 hi32.out hz32.out (bytes_one _) ?_; intro w7 hs7 hb7 hg7))
  refine NoPanic.normal ?_
  go_wp2
  refine bodyPost_ret (v := dgV z) (ret_blk hb7 rfl rfl Tryz.underlying33 rfl hi32.out) rfl ?_
  exact ⟨rfl, (E1.trans E13).grown hg7 (by simp; omega)⟩
end Go.Proofs.YtddbmddblhjkkaaGreatDoor
/- merkle, in plain words: levels, ways, climbing; a way climbs to the root. -/
namespace Go.Proofs.YtddbmddblhjkkaaGreatDoor
open Go.RowKit

def nodeAt (ds : List (List UInt8)) (k : Nat) : List UInt8 := nodeB (dAt ds (2 * k)) (dAt ds (2 * k + 1))
/-- the first k nodes of the level above -/
def upT (ds : List (List UInt8)) (k : Nat) : List (List UInt8) := (List.range k).map (nodeAt ds)
def upB (ds : List (List UInt8)) : List (List UInt8) := upT ds (ds.length / 2)
theorem upT_length (ds : List (List UInt8)) (k : Nat) : (upT ds k).length = k := by simp [upT]
theorem upT_succ (ds : List (List UInt8)) (k : Nat) : upT ds (k + 1) = upT ds k ++ [nodeAt ds k] := by simp [upT, List.range_succ]
theorem upB_length (ds : List (List UInt8)) : (upB ds).length = ds.length / 2 := upT_length _ _
theorem upT_ok (ds : List (List UInt8)) (k : Nat) : dsOk (upT ds k) := by
  intro d hd
  simp only [upT, List.mem_map] at hd
  obtain ⟨j, _, rfl⟩ := hd
  exact nodeB_length _ _
theorem upB_at (ds : List (List UInt8)) (k : Nat) (h : k < ds.length / 2) : dAt (upB ds) k = nodeAt ds k := by
  rw [dAt_eq (by rw [upB_length]; exact h)]
  simp [upB, upT]
/-- the k-th level -/
def lev (ds : List (List UInt8)) : Nat → List (List UInt8)
  | 0 => ds
  | k + 1 => upB (lev ds k)
theorem lev_length {ds : List (List UInt8)} {H : Nat} (h : ds.length = 2 ^ H) : ∀ k, k ≤ H → (lev ds k).length = 2 ^ (H - k)
  | 0, _ => h
  | k + 1, hk => by
    have ih := lev_length h k (by omega)
    rw [lev, upB_length, ih, show H - k = (H - (k + 1)) + 1 by omega, Nat.pow_succ]
    omega
theorem lev_ok {ds : List (List UInt8)} (h : dsOk ds) : ∀ k, dsOk (lev ds k)
  | 0 => h
  | _ + 1 => upT_ok _ _
def levels (ds : List (List UInt8)) (n : Nat) : List (List (List UInt8)) := (List.range n).map (lev ds)
theorem levels_length (ds : List (List UInt8)) (n : Nat) : (levels ds n).length = n := by simp [levels]
theorem levels_succ (ds : List (List UInt8)) (n : Nat) : levels ds (n + 1) = levels ds n ++ [lev ds n] := by simp [levels, List.range_succ]
theorem levels_get (ds : List (List UInt8)) (n k : Nat) (h : k < n) : (levels ds n)[k]? = some (lev ds k) := by simp [levels, h]
def rootB (ds : List (List UInt8)) (H : Nat) : List UInt8 := dAt (lev ds H) 0
theorem rootB_length {ds : List (List UInt8)} {H : Nat} (hk : dsOk ds) (h : ds.length = 2 ^ H) : (rootB ds H).length = 32 := by
  have hl := lev_length h H (Nat.le_refl _)
  unfold rootB
  rw [dAt_eq (by rw [hl]; simp)]
  exact lev_ok hk H _ (List.getElem_mem _)
/-- what lies beside -/
def bes (i : Nat) : Nat := if i % 2 = 1 then i - 1 else i + 1
def wayT (ds : List (List UInt8)) (i n : Nat) : List (List UInt8) := (List.range n).map fun k => dAt (lev ds k) (bes (i / 2 ^ k))
theorem wayT_length (ds : List (List UInt8)) (i n : Nat) : (wayT ds i n).length = n := by simp [wayT]
theorem wayT_succ (ds : List (List UInt8)) (i n : Nat) : wayT ds i (n + 1) = wayT ds i n ++ [dAt (lev ds n) (bes (i / 2 ^ n))] := by simp [wayT, List.range_succ]
theorem div_lt {H i k : Nat} (h : i < 2 ^ H) (hk : k < H) : i / 2 ^ k < 2 ^ (H - k) := by
  rw [Nat.div_lt_iff_lt_mul (Nat.two_pow_pos k), ← Nat.pow_add, show H - k + k = H by omega]
  exact h
theorem bes_lt {i n : Nat} (h : i < 2 ^ (n + 1)) : bes i < 2 ^ (n + 1) := by
  have : 2 ^ (n + 1) = 2 * 2 ^ n := by rw [Nat.pow_succ]; omega
  unfold bes
  split <;> omega
theorem way_in {ds : List (List UInt8)} {H i k : Nat} (h : ds.length = 2 ^ H) (hi : i < 2 ^ H) (hk : k < H) : bes (i / 2 ^ k) < (lev ds k).length := by
  rw [lev_length h k (by omega)]
  have := div_lt hi hk
  rw [show H - k = (H - k - 1) + 1 by omega] at this ⊢
  exact bes_lt this
theorem wayT_ok {ds : List (List UInt8)} {H i n : Nat} (hok : dsOk ds) (h : ds.length = 2 ^ H) (hi : i < 2 ^ H) (hn : n ≤ H) : dsOk (wayT ds i n) := by
  intro d hd
  simp only [wayT, List.mem_map, List.mem_range] at hd
  obtain ⟨k, hk, rfl⟩ := hd
  rw [dAt_eq (way_in h hi (by omega))]
  exact lev_ok hok k _ (List.getElem_mem _)
/-- climbing -/
def climbB : List UInt8 → Nat → List (List UInt8) → List UInt8
  | x, _, [] => x
  | x, i, d :: ds => climbB (if i % 2 = 0 then nodeB x d else nodeB d x) (i / 2) ds
theorem climbB_snoc : ∀ (l : List (List UInt8)) (x : List UInt8) (i : Nat) (d : List UInt8), climbB x i (l ++ [d]) = if (i / 2 ^ l.length) % 2 = 0 then nodeB (climbB x i l) d else nodeB d (climbB x i l)
  | [], x, i, d => by simp [climbB]
  | e :: l, x, i, d => by
    have ih := climbB_snoc l (if i % 2 = 0 then nodeB x e else nodeB e x) (i / 2) d
    simp only [List.cons_append, climbB, List.length_cons, ih, Nat.div_div_eq_div_mul]
    rw [show 2 * 2 ^ l.length = 2 ^ (l.length + 1) by rw [Nat.pow_succ]; omega]
theorem climbB_length : ∀ (l : List (List UInt8)) (x : List UInt8) (i : Nat), x.length = 32 → (climbB x i l).length = 32
  | [], _, _, h => h
  | e :: l, x, i, _ => by
    unfold climbB
    refine climbB_length l _ _ ?_
    split <;> exact nodeB_length _ _
theorem climb_gen {ds : List (List UInt8)} {H : Nat} (h : ds.length = 2 ^ H) : ∀ (n j i : Nat), j + n = H → i < 2 ^ n →
    climbB (dAt (lev ds j) i) i ((List.range n).map fun k => dAt (lev ds (j + k)) (bes (i / 2 ^ k))) = rootB ds H
  | 0, j, i, hj, hi => by
    obtain rfl : j = H := by omega
    obtain rfl : i = 0 := by simpa using hi
    rfl
  | n + 1, j, i, hj, hi => by
    have hlen : (lev ds j).length = 2 * 2 ^ n := by rw [lev_length h j (by omega), show H - j = n + 1 by omega, Nat.pow_succ]; omega
    have hi2 : i / 2 < 2 ^ n := by rw [Nat.pow_succ] at hi; omega
    have ih := climb_gen h n (j + 1) (i / 2) (by omega) hi2
    have hup : dAt (lev ds (j + 1)) (i / 2) = nodeAt (lev ds j) (i / 2) := upB_at _ _ (by rw [hlen]; omega)
    rw [List.range_succ_eq_map, List.map_cons, List.map_map]
    unfold climbB
    rw [← ih, hup]
    congr 1
    · simp only [Nat.add_zero, Nat.pow_zero, Nat.div_one]
      unfold nodeAt bes
      by_cases h0 : i % 2 = 0
      · rw [if_pos h0, if_neg (by omega), show 2 * (i / 2) = i by omega]
      · rw [if_neg h0, if_pos (by omega), show 2 * (i / 2) + 1 = i by omega, show 2 * (i / 2) = i - 1 by omega]
    · apply List.map_congr_left
      intro k _
      simp only [Function.comp, Nat.succ_eq_add_one, Nat.div_div_eq_div_mul]
      rw [show j + (k + 1) = j + 1 + k by omega, show 2 * 2 ^ k = 2 ^ (k + 1) by rw [Nat.pow_succ]; omega]
/-- the way of a leaf climbs to the root -/
theorem climb_way {ds : List (List UInt8)} {H i : Nat} (h : ds.length = 2 ^ H) (hi : i < 2 ^ H) : climbB (dAt ds i) i (wayT ds i H) = rootB ds H := by
  have := climb_gen h H 0 i (by omega) hi
  simpa [wayT, lev] using this
/-- so many leaves may be: a power -/
theorem pow_of {n : Nat} (h : powB n = true) : ∃ H, H ≤ 6 ∧ n = 2 ^ H := by
  rcases (powB_iff n).1 h with rfl | rfl | rfl | rfl | rfl | rfl | rfl
  · exact ⟨0, by omega, rfl⟩
  · exact ⟨1, by omega, rfl⟩
  · exact ⟨2, by omega, rfl⟩
  · exact ⟨3, by omega, rfl⟩
  · exact ⟨4, by omega, rfl⟩
  · exact ⟨5, by omega, rfl⟩
  · exact ⟨6, by omega, rfl⟩
theorem pow_le {H : Nat} (h : H ≤ 6) : 2 ^ H ≤ 64 := Nat.pow_le_pow_right (by omega) h
theorem powB_pow {H : Nat} (h : H ≤ 6) : powB (2 ^ H) = true := by
  rcases H with _ | _ | _ | _ | _ | _ | _ | H
  all_goals first | decide | omega
end Go.Proofs.YtddbmddblhjkkaaGreatDoor
/- What slices.Chunk's iterator asks a round to keep; the k-th chunk. No program. -/
namespace Go.Proofs.YtddbmddblhjkkaaGreatDoor
open Go.RowKit Go.Shelf

/-- the two boxes are as they were -/
def Kept2 (Bs Bn : Nat) (W W' : World) : Prop := W'.heap[Bs]? = W.heap[Bs]? ∧ W'.heap[Bn]? = W.heap[Bn]?
section
variable {Bs Bn : Nat} {A B C : World}
theorem Kept2.refl (Bs Bn : Nat) (A : World) : Kept2 Bs Bn A A := ⟨rfl, rfl⟩
theorem Kept2.trans (h : Kept2 Bs Bn A B) (k : Kept2 Bs Bn B C) : Kept2 Bs Bn A C := ⟨k.1.trans h.1, k.2.trans h.2⟩
theorem Kept2.cell_s (h : Kept2 Bs Bn A B) {v : Value} (hc : A.cell? ⟨Bs, 0, none⟩ = some v) : B.cell? ⟨Bs, 0, none⟩ = some v := (World.cell?_of_block (a := ⟨Bs, 0, none⟩) h.1).trans hc
theorem Kept2.cell_n (h : Kept2 Bs Bn A B) {v : Value} (hc : A.cell? ⟨Bn, 0, none⟩ = some v) : B.cell? ⟨Bn, 0, none⟩ = some v := (World.cell?_of_block (a := ⟨Bn, 0, none⟩) h.2).trans hc
theorem kept2_b {w : World} (h1 : Bs < w.heap.size) (h2 : Bn < w.heap.size) (W : World) (l : Nat) (o o' : Obj) (hl : w.heap.size ≤ l) (_ : W.heap[l]? = some o) (_ : o.isCells = false) (_ : o.isWalk = false) : Kept2 Bs Bn W (W.putObj l o') :=
  ⟨World.putObj_heap_other (by omega), World.putObj_heap_other (by omega)⟩
end
theorem take_fin {N k : Nat} (h : k < N) : (List.finRange N).take (k + 1) = (List.finRange N).take k ++ [⟨k, h⟩] := by
  rw [List.take_add_one]
  congr 1
  simp [h]
/-- the k-th chunk -/
def chunkV (sz : Nat) (A : Option Addr) (c k : Nat) : Value := .slice (A.map fun a => { a with off := a.off + k * c * sz }) c c
end Go.Proofs.YtddbmddblhjkkaaGreatDoor
/- slices.Chunk of digests: the maker, and its iterator's contract, where the length is N times the chunk's. -/
namespace Go.Proofs.YtddbmddblhjkkaaGreatDoor
open Go.RowKit Go.Shelf
attribute [local go_sem] Oper.semAt_some


set_option maxRecDepth 100000 in
set_option maxHeartbeats 2000000 in
theorem chunkD1_in (l Bs Bn N c len cap : Nat) (A : Option Addr) (hlen : len = N * c) (hc0 : 1 ≤ c) (hcap : len ≤ cap) (hreach : len ≤ 1073741824) (hA : 1 ≤ N → ∃ b o, A = some ⟨b, o, none⟩) (J Jx : List (Fin N) → World → Prop) (n : Nat)
    (hY : ∀ (pre : List (Fin N)) (x : Fin N) W, J pre W → pre.length < N → YieldAt Fence.wide (n - 1) Tryz.prog l #[chunkV 32 A c x.1] W fun e W' =>
      (e = .returned (.bool true) ∧ J (pre ++ [x]) W' ∧ Kept2 Bs Bn W W') ∨ (e = .returned (.bool false) ∧ Jx (pre ++ [x]) W'))
    (W : World) (hJ : AbidesFrom W.heap.size J) (hBs : W.cell? ⟨Bs, 0, none⟩ = some (.slice A len cap)) (hBn : W.cell? ⟨Bn, 0, none⟩ = some (.int .i64 (c : Int))) (h0 : J [] W) :
    CallsIn Fence.wide n Tryz.prog 98 #[.func (.yield l) #[] #[], .pointer (some ⟨Bs, 0, none⟩), .pointer (some ⟨Bn, 0, none⟩)] W fun e W' => (∃ v, e = .returned v) ∧
      ((∃ ys, ys = List.finRange N ∧ J ys W') ∨ (∃ pre, True ∧ Jx pre W')) := by
  refine callsIn_of_wp Tryz.func98 rfl trivial ?_ rfl
  simp only [Tryz.ntmps98, List.size_toArray, List.length_cons, List.length_nil, Nat.reduceAdd, Nat.reduceSub, Array.replicate_succ, Array.replicate_zero, List.push_toArray, List.append_toArray, List.nil_append, List.cons_append]
  gi_wp2
  gi_loopw [4] (fun i wr => ∃ k : Nat, k ≤ N ∧ i = .int .i64 ((k * c : Nat) : Int) ∧ J ((List.finRange N).take k) wr ∧ Kept2 Bs Bn W wr)
    (fun i _ => len - (intOf i).toNat)
  case atStart => exact ⟨0, Nat.zero_le _, by simp, by simpa using h0, Kept2.refl _ _ _⟩
  case round =>
    obtain ⟨k, hk, rfl, hJs, hnx⟩ := hrel
    have hs1 := hnx.cell_s hBs
    have hs2 := hnx.cell_n hBn
    have hkc : k * c ≤ len := by rw [hlen]; exact Nat.mul_le_mul_right c hk
    by_cases hlt : k < N
    · obtain ⟨b, off, rfl⟩ := hA (by omega)
      have hkc1 : k * c + c ≤ len := by rw [hlen, ← Nat.succ_mul]; exact Nat.mul_le_mul_right c hlt
      have hkc2 : (k + 1) * c = k * c + c := Nat.succ_mul k c
      have hjs2 : J ((List.finRange N).take k) wr → ∀ m, J ((List.finRange N).take k) (wr.drewN m) := fun h m => hJ _ wr _ none h ⟨rfl, rfl, rfl, Nat.le_refl _, fun _ _ _ => rfl⟩ (fun r e => by cases e)
      have hYk : ∀ m, YieldAt Fence.wide (n - 1) Tryz.prog l #[chunkV 32 (some ⟨b, off, none⟩) c k] (wr.drewN m) fun e W' => (e = .returned (.bool true) ∧ J ((List.finRange N).take (k + 1)) W' ∧ Kept2 Bs Bn wr W') ∨ (e = .returned (.bool false) ∧ ∃ pre, Jx pre W') := fun m => by
        obtain ⟨fn, tmps, assign, body, hy, hR⟩ := hY _ ⟨k, hlt⟩ (wr.drewN m) (hjs2 hJs m) (by simp; omega)
        refine ⟨fn, tmps, assign, body, hy, hR.mono fun e W' h => ?_⟩
        rcases h with ⟨he, hj, hk2⟩ | ⟨he, hj⟩
        · refine .inl ⟨he, ?_, hk2⟩
          rw [take_fin hlt]
          exact hj
        · exact .inr ⟨he, _, hj⟩
      have hk1 : k + 1 ≤ N := hlt
      replace hlt := Lib.hid hlt
      clear hY
      obtain ⟨N', hN'⟩ : ∃ N', N' = N := ⟨_, rfl⟩
      obtain ⟨q, hq⟩ : ∃ q, q = k * c := ⟨_, rfl⟩
      rw [← hq] at hkc hkc1 hkc2 ⊢
      simp only [chunkV, Option.map, ← hq] at hYk
      replace hkc2 := Lib.hid hkc2
      replace hk1 := Lib.hid hk1
      clear hq
      replace hlen := Lib.hid hlen
      have hql : (q : Int) < (len : Int) := by omega
      gi_wp2
      refine wpIn_wide.2 ?_
      go_quiet (fail)
      obtain ⟨fn, tmps, assign, body, hy, hR⟩ := hYk nq
      have hs1b : (wr.drewN nq).cell? ⟨Bs, 0, none⟩ = some (.slice (some ⟨b, off, none⟩) len cap) := hs1
      clear hs1 hYk hjs2
      generalize wr.drewN nq = wr2 at *
      gi_wp2
      refine ⟨fun h => by simp [Fence.wide] at h, hR.mono ?_⟩
      rintro e W3 (⟨rfl, hJ3, hk3⟩ | ⟨rfl, pre3, hJx3⟩)
      · have hs3 := hk3.cell_n hs2
        gi_wp2
        go_roundw
        case rel => exact ⟨k + 1, hk1.out, by rw [hkc2.out]; simp, hJ3, hnx.trans hk3⟩
        case measure => simp [intOf]; omega
      · gi_wp2
        refine bodyPost_ret (results_none rfl _ _ _) rfl ?_
        exact ⟨⟨_, rfl⟩, .inr ⟨_, trivial, hJx3⟩⟩
    · obtain rfl : k = N := by omega
      have hge : ¬ ((len : Int) < (len : Int)) := by omega
      rw [← hlen]
      replace hlen := Lib.hid hlen
      gi_wp2
      go_end0
      exact ⟨⟨_, rfl⟩, .inl (by rwa [List.take_of_length_le (by simp)] at hJs)⟩

set_option maxRecDepth 100000 in
theorem chunkD_any (A : Option Addr) (len cap c : Nat) (w : World) (hc : 1 ≤ c) :
    Calls Tryz.prog 87 #[.slice A len cap, .int .i64 (c : Int)] w fun e w' => ∃ Bs Bn, e = .returned (.func (.func 98) #[] #[.pointer (some ⟨Bs, 0, none⟩), .pointer (some ⟨Bn, 0, none⟩)]) ∧
      w.heap.size ≤ Bs ∧ Bs < Bn ∧ Blk w' Bs 40 #[.slice A len cap] ∧ Blk w' Bn 3 #[.int .i64 (c : Int)] ∧ Ext w w' := by
  have h1 : (1 : Int) ≤ (c : Int) := by omega
  go_enter Tryz.func87, Tryz.ntmps87
  go_wp2
  go_ret
  refine ⟨w.heap.size, w.heap.size + 1, rfl, Nat.le_refl _, by omega, (Blk.new w _ _).alloc _, ?_, ((Ext.refl w).alloc _).alloc _⟩
  have := Blk.new (w.alloc (.cells #[.slice A len cap] 40)) 3 #[.int .i64 (c : Int)]
  simpa using this

theorem chunkD_stops (n Bs Bn N c len cap : Nat) (A : Option Addr) (hlen : len = N * c) (hc0 : 1 ≤ c) (hcap : len ≤ cap) (hreach : len ≤ 1073741824) (hA : 1 ≤ N → ∃ b o, A = some ⟨b, o, none⟩) (w : World)
    (hBs : Blk w Bs 40 #[.slice A len cap]) (hBn : Blk w Bn 3 #[.int .i64 (c : Int)]) :
    SeqStopsK Fence.wide n Tryz.prog 98 #[.pointer (some ⟨Bs, 0, none⟩), .pointer (some ⟨Bn, 0, none⟩)] (fun x : Fin N => #[chunkV 32 A c x.1]) (Kept2 Bs Bn) (fun xs => xs = List.finRange N) (fun _ => True) N w :=
  fun l J Jx W hW hJ _ hY h0 => chunkD1_in l Bs Bn N c len cap A hlen hc0 hcap hreach hA J Jx n hY W hJ ((hBs.ext hW).cell 0) ((hBn.ext hW).cell 0) h0
end Go.Proofs.YtddbmddblhjkkaaGreatDoor
/- merkle: slices.Clone of digests; the level above another one (merkle.up). -/
namespace Go.Proofs.YtddbmddblhjkkaaGreatDoor
open Go.RowKit Go.Shelf
attribute [local go_sem] Oper.semAt_some

set_option maxRecDepth 100000 in
set_option maxHeartbeats 400000 in
theorem cloneD_any (v : Value) (ds : List (List UInt8)) (w : World) (hv : SlD w v ds) (h1 : 1 ≤ ds.length) (hlen : ds.length ≤ 1073741824) :
    Calls Tryz.prog 74 #[v] w fun e w' => ∃ v', e = .returned v' ∧ OwnD w' w.heap.size v' ds ∧ Ext w w' := by
  obtain ⟨A, c, rfl, hc⟩ := hv.form
  obtain ⟨b, o, rfl, _⟩ := hv.1.here h1
  obtain ⟨i0, hi, hz0, hz1, hz2⟩ := info_parts info_a32x
  have hnil := fun w => Lib.run_eql_slice_nil (P := Tryz.prog) w 40 33 (some ⟨b, o, none⟩) ds.length c 0 0 Tryz.underlying40
  have hv' := Lib.hid hv
  clear hv
  go_enter Tryz.func74, Tryz.ntmps74
  have hown : (w.alloc (.cells #[] 33)).ownsRow w.heap.size 33 32 (.slice (some ⟨w.heap.size, 0, none⟩) 0 0) 0 [] := World.ownsRow_made w #[] 0 (Nat.le_refl _) (by unfold maxLen; omega) (by simp)
  have hsrc : Hid (SlR (w.alloc (.cells #[] 33)) 32 (.slice (some ⟨b, o, none⟩) ds.length c) ds.length (bytesV ds.flatten)) := SlR.ext hv'.out.1 ((Ext.refl w).alloc _)
  have Hown := Lib.hid hown
  clear hown
  go_wp2_with (at_builtin; refine wpList_append_sl _ rfl _ _ 40 rfl w.heap.size 33 i0 (.agg zb32) 32 32 Tryz.underlying40 hi hz0 hz1 hz2 (by decide) (by omega) (.slice (some ⟨w.heap.size, 0, none⟩) 0 0) 0 [] rfl Hown.out (some ⟨b, o, none⟩) ds.length c (bytesV ds.flatten) rfl hsrc.out (bytesV_one _) (by unfold maxLen; omega) (by omega) (by simp) ?_; intro v' w1 h1 h2 h3)
  go_ret
  rw [Nat.zero_add] at h1
  exact ⟨v', rfl, ⟨h1, hv'.out.2⟩, ((Ext.refl w).alloc _).grown h2 (by simp [Value.ownBlock])⟩

set_option maxRecDepth 100000 in
set_option maxHeartbeats 1000000 in
theorem mup_any (v : Value) (ds : List (List UInt8)) (N : Nat) (w : World) (hK : Kst w) (hv : SlD w v ds) (hl : ds.length = N * 2) (h1 : 1 ≤ N) (h2 : N ≤ 32) :
    Calls Tryz.prog 75 #[v] w fun e w' => ∃ v', e = .returned v' ∧ OwnD w' w.heap.size v' (upB ds) ∧ Ext w w' := by
  obtain ⟨A, c, rfl, hc⟩ := hv.form
  obtain ⟨b, o, rfl, _⟩ := hv.1.here (by omega)
  have HV := Lib.hid hv
  have Hl := Lib.hid hl
  have hbl : ds.length ≤ 1073741824 := by omega
  have hcap := Lib.hid hc
  clear hv hl
  refine (callsIn_wide (n := 8)).1 ?_
  refine callsIn_of_wp_marks Tryz.func75 rfl trivial ?_ rfl
  refine wpIn_wide.2 ?_
  simp only [Tryz.ntmps75, List.size_toArray, List.length_cons, List.length_nil, Nat.reduceAdd, Nat.reduceSub, Array.replicate_succ, Array.replicate_zero, List.push_toArray, List.append_toArray, List.nil_append, List.cons_append]
  have hb1 := Blk.new w 40 #[.slice none 0 0]
  have he1 : Ext w (w.alloc (.cells #[.slice none 0 0] 40)) := (Ext.refl w).alloc _
  have Hcall := Lib.hid (chunkD_any (some ⟨b, o, none⟩) ds.length c 2 (w.alloc (.cells #[.slice none 0 0] 40)) (by omega))
  go_wp2_with fail
  refine Hcall.out.mono ?_
  rintro e w4 ⟨Bs, Bn, rfl, hBs, hBn, bS, bN, E4⟩
  have h14 : w.heap.size < w4.heap.size := (hb1.ext E4).lt
  have hBs' : w.heap.size < Bs := by rw [World.size_alloc] at hBs; omega
  have hb4 : Blk w4 w.heap.size 40 #[.slice none 0 0] := hb1.ext E4
  have E04 := he1.trans E4
  have HbN := Lib.hid bN
  have HbS := Lib.hid bS
  have Hb4 := Lib.hid hb4
  have Hbl := Lib.hid hbl
  have Hseq := Lib.hid (chunkD_stops (8 - 1) Bs Bn N 2 ds.length c (some ⟨b, o, none⟩) Hl.out (by omega) hcap.out Hbl.out (fun _ => ⟨_, _, rfl⟩) w4 HbS.out HbN.out)
  have Hkb := Lib.hid (kept2_b (w := w4) bS.lt bN.lt)
  clear hb1 hb4 he1 E4 bS bN Hcall hBs
  obtain ⟨I, hI⟩ : ∃ I : List (Fin N) → World → Prop, I = fun pre W => (∃ vo, Blk W w.heap.size 40 #[vo] ∧ OwnD W w.heap.size vo (pre.map fun x => nodeAt ds x.1)) ∧
      Blk W Bs 40 #[.slice (some ⟨b, o, none⟩) ds.length c] ∧ Blk W Bn 3 #[.int .i64 ((2 : Nat) : Int)] ∧ Ext w W := ⟨_, rfl⟩
  have Hown : Hid (OwnFrom w4.heap.size I) := by
    have hle : w.heap.size ≤ w4.heap.size := by omega
    rw [hI]
    exact ownFrom_of fun s W W' ⟨⟨vo, h1, h2⟩, h5, h6, h7⟩ t => ⟨⟨vo, t.blk h1, ⟨t.own h2.1, h2.2⟩⟩, t.blk h5, t.blk h6, t.ext h7 hle⟩
  have H0 : Hid (I [] w4) := by
    rw [hI]
    exact ⟨⟨_, Hb4.out, OwnD.none_ _ _⟩, HbS.out, HbN.out, E04⟩
  have Heg := Lib.hid (fun args w => enters_of (P := Tryz.prog) Tryz.func98 (by kernel_rfl) rfl args w)
  go_wp2_with fail
  refine (wpIn_wide (n := 8)).1 ?_
  refine wpIn_rangeFunc_ownG (gf := 98) (lb := #[.pointer (some ⟨Bs, 0, none⟩), .pointer (some ⟨Bn, 0, none⟩)]) rfl (by decide) rfl trivial Heg.out Hseq.out Kept2.trans Hkb.out (Below.refl _ _) (fun _ => rfl)
    I (fun _ _ _ => False) Hown.out (fun _ => ownFrom_of fun _ _ _ h _ => h) H0.out
    ?a1 ?assign ?body ?done ?stop
  case assign =>
    intro l x W K hK
    gi_wp2
    exact hK
  case body =>
    intro l pre x W hi hlt
    rw [hI] at hi
    obtain ⟨⟨vo, hB, hO⟩, bS', bN', E⟩ := hi
    obtain ⟨k, hk⟩ := x
    have hk2 : 2 * k + 1 < ds.length := by have := Hl.out; omega
    obtain ⟨bb, oo, hA, hc1⟩ := (HV.out.ext E).at_ (show 2 * k < ds.length by omega)
    obtain ⟨rfl, rfl⟩ : b = bb ∧ o = oo := by simpa using hA
    obtain ⟨_, _, hA2, hc2⟩ := (HV.out.ext E).at_ hk2
    obtain ⟨rfl, rfl⟩ : b = _ ∧ o = _ := by simpa using hA2
    have hl1 := HV.out.len (show 2 * k < ds.length by omega)
    have hl2 := HV.out.len hk2
    have hnode : nodeAt ds k = nodeB ds[2 * k] ds[2 * k + 1] := by unfold nodeAt; rw [dAt_eq (by omega), dAt_eq hk2]
    have hOs : pre.map (fun x => nodeAt ds x.1) ++ [nodeAt ds k] = (pre ++ [(⟨k, hk⟩ : Fin N)]).map (fun x => nodeAt ds x.1) := by simp
    have hOn : (pre.map (fun x => nodeAt ds x.1)).length = pre.length := by simp
    obtain ⟨x, hx⟩ : ∃ x, x = ds[2 * k] := ⟨_, rfl⟩
    obtain ⟨t, ht⟩ : ∃ t, t = ds[2 * k + 1] := ⟨_, rfl⟩
    obtain ⟨os, hos⟩ : ∃ os, os = pre.map (fun x => nodeAt ds x.1) := ⟨_, rfl⟩
    obtain ⟨q, hq⟩ : ∃ q, q = o + k * 2 * 32 := ⟨_, rfl⟩
    have hqv : chunkV 32 (some ⟨b, o, none⟩) 2 k = .slice (some ⟨b, q, none⟩) 2 2 := by simp [chunkV, hq]
    rw [show o + 2 * k * 32 = q by omega] at hc1
    rw [show o + (2 * k + 1) * 32 = q + 32 by omega] at hc2
    rw [← hx] at hl1 hc1 hnode
    rw [← ht] at hl2 hc2 hnode
    rw [← hos] at hO hOs hOn
    obtain ⟨m, hm⟩ : ∃ m, m = pre.length := ⟨_, rfl⟩
    rw [← hm] at hOn hlt
    dsimp only
    rw [hqv]
    obtain ⟨Q, hQ⟩ : ∃ Q, Q = ownPostG w4.heap.size (Kept2 Bs Bn) I (fun _ _ _ => False) (pre ++ [⟨k, hk⟩]) W := ⟨_, rfl⟩
    have hQn : ¬ LetsOut Q := by rw [hQ]; rintro ⟨_, _, h⟩; exact h
    have hQok : Hid (∀ a W', KeepsFrom w4.heap.size W W' → Kept2 Bs Bn W W' → I (pre ++ [⟨k, hk⟩]) W' → Q .normal a W') := by
      show ∀ a W', _ → _ → _ → _
      rw [hQ]; exact fun a W' h1 h2 h3 => ⟨h1, h2, h3⟩
    rw [← hQ]
    clear hQ hx ht hos hq hqv hm Hseq Hkb Hown H0 Heg hA hA2
    have HOs := Lib.hid hOs
    have hII := Lib.hid hI
    have Hnode := Lib.hid hnode
    clear hOs hI hnode
    obtain ⟨Ao, co, rfl, hco⟩ := hO.form
    rw [hOn] at hco hB hO
    have HB := Lib.hid hB
    have HO := Lib.hid hO
    have HbS' := Lib.hid bS'
    have HbN' := Lib.hid bN'
    have L1 := Lib.hid hl1
    have L2 := Lib.hid hl2
    clear hB hO bS' bN' hl1 hl2 HbS HbN Hb4
    have hc0 : W.drew.cell? ⟨w.heap.size, 0, none⟩ = some (.slice Ao m co) := HB.out.cell 0
    have Hnd := Lib.hid (fun w' (E' : Ext w w') => mNode_any x t L1.out L2.out w' (hK.ext E'))
    have hnl := nodeB_length x t
    obtain ⟨z, hz⟩ : ∃ z, z = nodeB x t := ⟨_, rfl⟩
    rw [← hz] at Hnd hnl Hnode
    have Lz := Lib.hid hnl
    clear hz hnl
    refine wpIn_block ?_
    refine wpIn_region_chain 9 [(true, 0), (true, 1), (true, 2), (true, 3), (true, 4), (true, 5), (true, 6), (false, 7), (false, 8)] (fun w' => w'.cell? ⟨w.heap.size, 0, none⟩ = some (.slice Ao m co) ∧ Cells w' b q (bytesV x) ∧ Cells w' b (q + 32) (bytesV t)) (by kernel_rfl) (by kernel_rfl) (fun ⟨a, w, h⟩ => hQn ⟨a, w, h⟩) (by kernel_rfl) ⟨hc0, hc1, hc2⟩ ?_
    iterate 3
      refine wpTake_read _ _ ?_ rfl rfl ?_ ?_
      rotate_left 1
      focus
        intro wS hS
        have hS1 := hS.1
        try dsimp only at hS1
        go_simp
        first | done | with_reducible rfl
      simp only [Act.put, List.setIfInBounds_toArray, List.set_cons_zero, List.set_cons_succ]
    refine wpTake_load _ _ rfl rfl 33 _ rfl (.agg (bytesV x).toArray) (fun wS hS => run_load_dg hS.2.1 L1.out) ?_
    simp only [Act.put, List.setIfInBounds_toArray, List.set_cons_zero, List.set_cons_succ]
    iterate 2
      refine wpTake_read _ _ ?_ rfl rfl ?_ ?_
      rotate_left 1
      focus
        intro wS hS
        clear hS
        go_simp
        first | done | with_reducible rfl
      simp only [Act.put, List.setIfInBounds_toArray, List.set_cons_zero, List.set_cons_succ]
    refine wpTake_load _ _ rfl rfl 33 _ rfl (.agg (bytesV t).toArray) (fun wS hS => run_load_dg hS.2.2 L2.out) ?_
    simp only [Act.put, List.setIfInBounds_toArray, List.set_cons_zero, List.set_cons_succ]
    refine wpTake_do _ _ rfl rfl (fun K hK' => ?_)
    go_simp
    refine (Hnd.out _ (E.trans (Ext.refl W).drew)).mono ?_
    rintro e w5 ⟨rfl, E5⟩
    refine hK' _ _ ⟨E5.cell hc0, hc1.ext ((Ext.refl W).drew.trans E5), hc2.ext ((Ext.refl W).drew.trans E5)⟩ ?_
    clear hK' K
    have c5 := E5.cell hc0
    have E05 : Ext W w5 := (Ext.refl W).drew.trans E5
    clear hc0 E5
    refine wpTake_do _ _ rfl rfl (fun K hK' => ?_)
    refine wp_build_dg z Lz.out _ rfl rfl ?_
    intro w6 E56 hs6 hnew
    have E6 : Ext W w6 := E05.trans E56
    refine hK' _ _ ⟨E56.cell c5, hc1.ext E6, hc2.ext E6⟩ ?_
    clear hK' K
    refine wpTake_nil ?_
    simp only [Act.put, List.setIfInBounds_toArray, List.set_cons_zero, List.set_cons_succ, List.drop_succ_cons, List.drop_zero]
    have Hnew := Lib.hid hnew
    have HB6 := Lib.hid (HB.out.ext E6)
    have HO6 := Lib.hid (HO.out.ext E6)
    have HS6 := Lib.hid (HbS'.out.ext E6)
    have HN6 := Lib.hid (HbN'.out.ext E6)
    have Ew6 := E.trans E6
    clear hnew HO HB c5 E05 E56 hs6
    go_wp2_with (at_builtin; refine wpList_appD HO6.out Lz.out Hnew.out rfl _ _ rfl rfl rfl (by omega) (by have := Ew6.size; exact this) ?_; intro v7 w7 ho7 hg7 hq7; have hn7 := HO6.out.ne HB6.out (by decide); have hB7 := HB6.out.grown hg7 (Ne.symm hn7); have hc7 : w7.cell? ⟨w.heap.size, 0, none⟩ = some (.slice Ao m co) := hB7.cell 0; have hf7 := hB7.frozen 0; obtain ⟨A7, c7, e7, hc7'⟩ := ho7.form; rw [List.length_append, hOn, List.length_singleton] at e7; subst e7; have HB7 := Lib.hid hB7; have HO7 := Lib.hid ho7; have Hg7 := Lib.hid hg7; have Hq7 := Lib.hid hq7; clear hB7 ho7 hg7 hq7 hn7)
    refine NoPanic.normal ?_
    have hneS : Bs ≠ w.heap.size := by omega
    have hneN : Bn ≠ w.heap.size := by omega
    obtain ⟨w8, hw8⟩ : ∃ w8, w8 = w7.setCell ⟨w.heap.size, 0, none⟩ (.slice A7 (m + 1) c7) := ⟨_, rfl⟩
    have HO8 : Hid (OwnD w8 w.heap.size (.slice A7 (m + 1) c7) (os ++ [z])) := by rw [hw8]; exact HO7.out.set HB7.out (by decide)
    have HB8 : Hid (Blk w8 w.heap.size 40 #[.slice A7 (m + 1) c7]) := by rw [hw8]; exact HB7.out.set 0 _
    have HS8 : Hid (Blk w8 Bs 40 #[.slice (some ⟨b, o, none⟩) ds.length c]) := by rw [hw8]; exact (HS6.out.grown Hg7.out (Ne.symm (HO6.out.ne HS6.out (by decide)))).far hneS _
    have HN8 : Hid (Blk w8 Bn 3 #[.int .i64 ((2 : Nat) : Int)]) := by rw [hw8]; exact (HN6.out.grown Hg7.out (Ne.symm (HO6.out.ne HN6.out (by decide)))).far hneN _
    have E8 : Ext w w8 := by rw [hw8]; exact (Ew6.grown Hg7.out HO6.out.from).setCell (by simp) _
    have HK8 : Hid (KeepsOthers W w8) := by rw [hw8]; exact (keeps_ext E6).trans ((keeps_own HO6.out.1 Hg7.out).trans (KeepsOthers.setCell _ _ _))
    simp only [← hw8]
    refine hQok.out _ _ (HK8.out.from _) ⟨HS8.out.trans HbS'.out.symm, HN8.out.trans HbN'.out.symm⟩ ?_
    rw [hII.out]
    refine ⟨⟨_, HB8.out, ?_⟩, HS8.out, HN8.out, E8⟩
    rw [← HOs.out, Hnode.out]
    exact HO8.out
  case done =>
    rintro D ys W hD rfl hi hK
    rw [hI] at hi
    obtain ⟨⟨vo, hB, hO⟩, bS', bN', E⟩ := hi
    dsimp only
    rw [finMap (nodeAt ds)] at hO
    have hO' : OwnD W w.heap.size vo (upB ds) := by
      have := hO
      rwa [show (List.range N).map (nodeAt ds) = upB ds by unfold upB upT; rw [Hl.out, Nat.mul_div_cancel _ (by omega)]] at this
    have hc0 : W.cell? ⟨w.heap.size, 0, none⟩ = some vo := hB.cell 0
    have HOO := Lib.hid hO'
    clear hO hO' hB
    go_wp2_with fail
    have tn : Turn w4.heap.size W (W.putObj D (.deferred none)) := ⟨some D, grownBy_putObj' W D _, fun r e => by cases e; exact ⟨hD, _, hK, rfl⟩⟩
    refine ⟨by simp, .inl ⟨_, _, rfl, run_takeDeferred hK, ?_⟩⟩
    refine ⟨_, results_tmp rfl _ _ _, ?_⟩
    exact ⟨_, rfl, ⟨tn.own HOO.out.1, HOO.out.2⟩, tn.ext E (by omega)⟩
  case stop =>
    rintro D c pre W _ _ h _
    exact h.elim
end Go.Proofs.YtddbmddblhjkkaaGreatDoor
