/- The contract of pursuivantref02.Of. -/
import Derived.Test.YtafjnlikmjahfaaDoorOfA
import Derived.Test.YtafjnlikmjahfaaDoorShaE
import Derived.Test.YtafjnlikmjahfaaDoorByteB
namespace Go.Proofs.YtafjnlikmjahfaaDoor
open Go.RowKit
attribute [local go_sem] Later.cell?

theorem Own.ne {w : World} {base g : Nat} {v : Value} {bs : List UInt8} {t : TypeId} {cs : Array Value} (h : Own w base v bs) (hb : Blk w g t cs) (hne : t ≠ 5) : v.ownBlock ≠ some g := by
  rcases h.2 with ⟨rfl, _⟩ | ⟨g', cap, cur, rfl, _, hh, _⟩
  · simp [Value.ownBlock]
  · intro he
    simp only [Value.ownBlock, Option.some.injEq] at he
    subst he
    have h3 := hb.symm.trans hh
    injection h3 with h3
    injection h3 with _ h3
    exact hne h3

/-- as many zeros as are laid -/
def zpad (text : List UInt8) (j : Nat) : List UInt8 := text ++ 128 :: List.replicate j 0
theorem zpad_length (text : List UInt8) (j : Nat) : (zpad text j).length = text.length + 1 + j := by simp [zpad]; omega
theorem zpad_succ (text : List UInt8) (j : Nat) : zpad text j ++ [0] = zpad text (j + 1) := by simp [zpad, List.replicate_succ']
theorem zpad_end (text : List UInt8) : zpad text ((119 - text.length % 64) % 64) ++ putB (8 * text.length) 8 = text ++ padB text.length := by simp [zpad, padB]

theorem feed_step (s : St) (l : List UInt8) (k : Nat) (h : 64 * (k + 1) ≤ l.length) :
    (feed s (l.take (64 * (k + 1)))).1 = blk (feed s (l.take (64 * k))).1 ((l.drop (64 * k)).take 64) := by
  have h1 : l.take (64 * (k + 1)) = l.take (64 * k) ++ (l.drop (64 * k)).take 64 := by
    rw [show 64 * (k + 1) = 64 * k + 64 by omega, List.take_add]
  rw [h1, feed_append]
  have h2 : (feed s (l.take (64 * k))).2 = [] := List.eq_nil_of_length_eq_zero (by rw [feed_rest_mod]; simp; omega)
  have h3 : ((l.drop (64 * k)).take 64).length = 64 := by simp; omega
  rw [h2, List.nil_append]
  generalize (l.drop (64 * k)).take 64 = m at h3 ⊢
  rw [feed_more _ m (by omega), List.drop_of_length_le (l := m) (i := 64) (by omega), List.take_of_length_le (l := m) (i := 64) (by omega), feed_less _ _ (by simp)]

set_option maxRecDepth 100000 in
set_option maxHeartbeats 2000000 in
theorem rOf_any (v : Value) (text : List UInt8) (w : World) (hv : Sl w v text) (hlen : text.length ≤ 1073730000) :
    Calls Tryd.prog 36 #[v] w fun e w' => e = .returned (dgV (sumB text)) ∧ Ext w w' := by
  obtain ⟨A, c, rfl, hc⟩ := SlR.form hv
  have HV := Lib.hid hv
  clear hv
  go_enter Tryd.func36, Tryd.ntmps36
  go_wp2_with (first | (refine wpList_alloc_blk rfl 30 rfl (.agg zb32) zero_a32 ?_; intro w1 hs1 hb1 he1; clear hs1) | (at_builtin; have _ := ho3; refine wpList_appB (ho3.ext ((Ext.refl w3).alloc _)) (sl_one 128 rfl) rfl _ _ rfl rfl rfl (by simp; omega) (by have := E3.size; simp; omega) ?_; intro v4 w4 ho4 hg4 _) | (at_builtin; refine wpList_appB (Own.empty w1 w1.heap.size (Nat.le_refl _)) (HV.out.ext (he1.alloc _)) rfl _ _ rfl rfl rfl (by simp; omega) (by simp) ?_; intro v3 w3 ho3 hg3 _; have E3 : Ext w1 w3 := ((Ext.refl w1).alloc _).grown hg3 (by simp [Value.ownBlock])))
  have hlt1 : w.heap.size < w1.heap.size := hb1.lt
  have E4 : Ext w1 w4 := (E3.alloc _).grown hg4 ho3.from
  have O4 : Own w4 w1.heap.size v4 (zpad text 0) := by simpa [zpad] using ho4
  have B4 := hb1.ext E4
  have E14 := he1.trans E4
  clear ho3 hg3 ho4 hg4 E3 hb1 E14
  obtain ⟨zz, hzz⟩ : ∃ zz, zz = (119 - text.length % 64) % 64 := ⟨_, rfl⟩
  have hzl : zz < 64 := by omega
  have Hzz := Lib.hid hzz
  clear hzz
  go_loopw [3] (fun v wr => ∃ j : Nat, j ≤ zz ∧ Own wr w1.heap.size v (zpad text j) ∧ Blk wr w.heap.size 30 zb32 ∧ Ext w1 wr) (fun v _ => text.length + 1 + zz - lenV v)
  case atStart => exact ⟨0, by omega, O4, B4, E4⟩
  case round =>
    clear O4 B4 E4
    obtain ⟨j, hj, O, B, E⟩ := hrel
    obtain ⟨A5, c5, rfl, hc5⟩ := O.form
    have hzp := zpad_length text j
    have HO := Lib.hid O
    clear O
    rw [hzp]
    by_cases hlt : j < zz
    · have ht : (((text.length + 1 + j : Nat) : Int) % 64 != 56) = true := by rw [bne_iff_ne]; have := Hzz.out; omega
      go_wp2_with (at_builtin; refine wpList_appB (HO.out.ext ((Ext.refl wr).alloc _)) (sl_one 0 rfl) rfl _ _ rfl (by rw [hzp]; rfl) rfl (by simp; omega) (by have := E.size; simp; omega) ?_; intro v6 w6 ho6 hg6 _; obtain ⟨A6, c6, rfl, hc6⟩ := ho6.form)
      have E6 := (E.alloc _).grown hg6 HO.out.from
      have B6 := (B.alloc _).grown hg6 (by intro e; have := HO.out.from _ e.symm; omega)
      go_roundw
      case rel => exact ⟨j + 1, by omega, by rw [← zpad_succ]; rw [List.length_append, hzp] at ho6; exact ho6, B6, E6⟩
      case measure => simp [lenV]; omega
    · obtain rfl : j = zz := by omega
      have ht : (((text.length + 1 + j : Nat) : Int) % 64 != 56) = false := by rw [bne_eq_false_iff_eq]; have := Hzz.out; omega
      go_wp2_with fail
      refine (rPut_int _ _ (8 * text.length) 8 (by omega) rfl (by omega) (by omega) (by omega) (fit8 _ (by omega)) _).mono ?_
      rintro e w7 ⟨v7, rfl, O7, E7⟩
      have O7' : Own w7 wr.heap.size v7 (putB (8 * text.length) 8) := own_mk O7 (putB_length _ _).symm rfl
      have HO7 := Lib.hid O7'
      clear O7 O7'
      go_wp2_with (at_builtin; refine wpList_appB (HO.out.ext E7) HO7.out.sl rfl _ _ rfl (by rw [hzp]; rfl) rfl (by rw [hzp, putB_length]; omega) (by have := (E.trans E7).size; exact this) ?_; intro v8 w8 ho8 hg8 _)
      have E8 := (E.trans E7).grown hg8 HO.out.from
      have B8 := (B.ext E7).grown hg8 (by intro e; have := HO.out.from _ e.symm; omega)
      have O8 : Own w8 w1.heap.size v8 (text ++ padB text.length) := by rw [← zpad_end, ← Hzz.out]; exact ho8
      clear ho8 hg8 HO7 E7 B E ht hzp HO
      obtain ⟨all, hall⟩ : ∃ all, all = text ++ padB text.length := ⟨_, rfl⟩
      rw [← hall] at O8
      have hm : all.length % 64 = 0 := by rw [hall, List.length_append]; exact padB_length text.length
      obtain ⟨nb, hnb⟩ : ∃ nb, all.length = 64 * nb := ⟨all.length / 64, by omega⟩
      have hsmall : all.length ≤ 1073730100 := by rw [hall, List.length_append]; have := padB_small text.length; omega
      have Hall := Lib.hid hall
      clear hall hm
      obtain ⟨A8, c8, rfl, hc8⟩ := O8.form
      have HO8 := Lib.hid O8
      clear O8
      rw [hnb]
      have hnb' : 64 * nb ≤ 1073730100 := by omega
      have Hnb := Lib.hid hnb
      clear hnb
      refine (first_any _).mono ?_
      rintro e w9 ⟨rfl, E9⟩
      go_wp2_with (first | (refine wpList_alloc_blk rfl 73 rfl (.agg (cells32 zeroSt.list)) zero_a8 ?_; intro w10 hs10 hb10 he10; clear hs10) | (refine wpList_store_blk rfl 73 _ _ rfl w9.heap.size (cells32 start.list) rfl rfl 73 (cells32 zeroSt.list) hb10 info_a8 rfl (cells32_one _) ?_; intro w11 hs11 hb11 hg11))
      have hl9 : w1.heap.size ≤ w9.heap.size := (E8.trans E9).size
      have E11 : Ext w1 w11 := ((E8.trans E9).trans he10).grown hg11 (by simp; omega)
      have E811 : Ext w8 w11 := (E9.trans he10).grown hg11 (by simp; have := E9.size; omega)
      have B11 := B8.ext E811
      have O11 := HO8.out.ext E811
      have HO11 := Lib.hid O11
      clear O11 HO8 E811 hb10 he10 hg11 hs11 E9 E8 B8
      go_loopw [7] (fun i wr => ∃ k : Nat, k ≤ nb ∧ i = .int .i64 (64 * (k : Int)) ∧ Blk wr w9.heap.size 73 (cells32 (feed start (all.take (64 * k))).1.list) ∧ Blk wr w.heap.size 30 zb32 ∧ Own wr w1.heap.size (.slice A8 (64 * nb) c8) all ∧ Ext w1 wr) (fun i _ => nb * 64 - (intOf i).toNat)
      case atStart => exact ⟨0, by omega, rfl, by rw [Nat.mul_zero, List.take_zero, feed_less start [] (by simp)]; exact hb11, B11, by have := HO11.out; rw [Hnb.out] at this; exact this, E11⟩
      case round =>
        clear hb11 B11 HO11 E11
        obtain ⟨k, hk, rfl, D, B, O, E⟩ := hrel
        have HO := Lib.hid O
        clear O
        obtain ⟨st, hst⟩ : ∃ st, st = (feed start (all.take (64 * k))).1 := ⟨_, rfl⟩
        rw [← hst] at D
        have Hst := Lib.hid hst
        clear hst
        by_cases hlt : k < nb
        · have hsl : SlR wr 1 (.slice A8 (64 * nb) c8) (64 * nb) (bytesV all) := by have := HO.out.sl; rw [Sl, Hnb.out] at this; exact this
          obtain ⟨b, o, rfl, hcl⟩ := hsl.here (by omega)
          have hcap := hsl.len_le
          have hblk : ∀ x : Later wr, Calls Tryd.prog 49 #[.agg st.vals, .slice (some ⟨b, o + 64 * k, none⟩) 64 (c8 - 64 * k)] x.w fun e w' => e = .returned (.agg (blk st ((all.drop (64 * k)).take 64)).vals) ∧ Ext x.w w' := fun x =>
            rblock_yes st ((all.drop (64 * k)).take 64) b (o + 64 * k) (c8 - 64 * k) x.w (fun j hj => by
              have := x.ext.cell (hcl (64 * k + j) _ (bytesV_get all (64 * k + j) (by rw [Hnb.out]; omega)))
              rw [Nat.add_assoc, this]; simp [hj])
          have Hblk := Lib.hid hblk
          clear hblk hcl hsl
          have a0 : wr.cell? ⟨w9.heap.size, 0, none⟩ = some (.int .u32 st.a) := D.cell 0
          have a1 : wr.cell? ⟨w9.heap.size, 1, none⟩ = some (.int .u32 st.b) := D.cell 1
          have a2 : wr.cell? ⟨w9.heap.size, 2, none⟩ = some (.int .u32 st.c) := D.cell 2
          have a3 : wr.cell? ⟨w9.heap.size, 3, none⟩ = some (.int .u32 st.d) := D.cell 3
          have a4 : wr.cell? ⟨w9.heap.size, 4, none⟩ = some (.int .u32 st.e) := D.cell 4
          have a5 : wr.cell? ⟨w9.heap.size, 5, none⟩ = some (.int .u32 st.f) := D.cell 5
          have a6 : wr.cell? ⟨w9.heap.size, 6, none⟩ = some (.int .u32 st.g) := D.cell 6
          have a7 : wr.cell? ⟨w9.heap.size, 7, none⟩ = some (.int .u32 st.h) := D.cell 7
          have hgl : w9.heap.size < wr.heap.size := D.lt
          obtain ⟨z, hz⟩ : ∃ z, z = blk st ((all.drop (64 * k)).take 64) := ⟨_, rfl⟩
          rw [← hz] at Hblk
          have Hz := Lib.hid hz
          clear hz
          have e64 : 64 * k + 64 - 64 * k = 64 := by omega
          go_wp2
          refine wp_region_lat_tail 7 (by kernel_rfl) (by kernel_rfl) ?_
          simp only [List.take_succ_cons, List.take_zero, List.drop_succ_cons, List.drop_zero]
          repeat (go_big_quiet_step ((go_at_call 49; exact lat_call (Hblk.out _))))
          refine wpQuiet_nil ?_
          intro w12 E12
          clear a0 a1 a2 a3 a4 a5 a6 a7
          go_wp2_with (refine wpList_store_blk rfl 73 _ _ rfl w9.heap.size z.vals rfl rfl 73 _ (D.ext E12) info_a8 rfl (cells32_one z.list) ?_; intro w13 hs13 hb13 hg13)
          have O13 : Own w13 w1.heap.size (.slice (some ⟨b, o, none⟩) (64 * nb) c8) all := World.ownsRow.kept (HO.out.ext E12) hg13 (Or.inr ((HO.out.ext E12).ne (D.ext E12) (by decide)))
          have hlw : w.heap.size < w9.heap.size := by omega
          go_roundw
          case rel =>
            refine ⟨k + 1, by omega, by go_num, ?_, (B.ext E12).grown hg13 (by simp; omega), O13, (E.trans E12).grown hg13 (by simp; omega)⟩
            rw [feed_step start all k (by rw [Hnb.out]; omega), ← Hst.out, ← Hz.out]
            exact hb13
          case measure => simp [intOf]; omega
        · obtain rfl : k = nb := by omega
          have hfe : Hid (st = (feed start (text ++ padB text.length)).1) := by
            show st = _
            rw [Hst.out, ← Hall.out, List.take_of_length_le (by rw [Hnb.out]; omega)]
          clear HO Hst
          obtain ⟨wq, rfl⟩ : ∃ wq : World, wq = wr := ⟨_, rfl⟩
          go_wp2_with (first | (refine wpList_alloc_blk rfl 30 rfl (.agg zb32) zero_a32 ?_; intro w14 hs14 hb14 he14; clear hs14))
          have hl14 : w9.heap.size < wq.heap.size := D.lt
          have hlw : w.heap.size < w9.heap.size := by omega
          have D14 := D.ext he14
          have B14 := B.ext he14
          have E14 := E.trans he14
          have Hl : Hid ((outB st).length = 32) := outB_length st
          clear D B E he14
          go_loopw [9] (fun i wr => ∃ k : Nat, k ≤ 32 ∧ i = .int .i64 k ∧ Blk wr w.heap.size 30 zb32 ∧ Blk wr wq.heap.size 30 (headC (outB st) k) ∧ Blk wr w9.heap.size 73 (cells32 st.list) ∧ Ext w1 wr) (fun i _ => 32 - (intOf i).toNat)
          case atStart => exact ⟨0, by omega, rfl, B14, by rw [zb32_head _ Hl.out]; exact hb14, D14, E14⟩
          case round =>
            clear D14 B14 E14 hb14
            obtain ⟨k, hk, rfl, D1, D2, D3, E6⟩ := hrel
            by_cases hlt : k < 32
            · have hc : wr.cell? ⟨w9.heap.size, k / 4, none⟩ = some (.int .u32 (st.list[k / 4]?.getD 0)) := by rw [D3.cell]; exact cells32_get st.list _ (by rw [list_length]; omega)
              have c0 : ∃ u, wr.cell? ⟨wq.heap.size, k, none⟩ = some u := by rw [D2.cell]; exact ⟨_, Array.getElem?_eq_getElem (by rw [headC_size _ _ (by rw [Hl.out]; omega), Hl.out]; exact hlt)⟩
              obtain ⟨u0, c0⟩ := c0
              have f0 := D2.frozen k
              go_wp2
              go_roundw
              case rel =>
                refine ⟨k + 1, by omega, by go_num, D1.far (by simp; omega) _, ?_, D3.far (by simp; omega) _, E6.setCell (by simp; omega) _⟩
                rw [← headC_set _ _ (by rw [Hl.out]; exact hlt)]
                exact D2.set_ (by rw [outB_get _ _ hlt, Option.getD_some, u8_toNat])
              case measure => simp [intOf]; omega
            · obtain rfl : k = 32 := by omega
              have D2' : Blk wr wq.heap.size 30 (bytesV (outB st)).toArray := by have := headC_all (outB st); rw [Hl.out] at this; rw [← this]; exact D2
              have hz32 : Hid (zb32.size = (bytesV (outB st)).toArray.size) := zb32_size _ Hl.out
              have hi32 : Hid ((Tryd.prog.info? 30).map (·.size) = some (bytesV (outB st)).toArray.size) := by rw [List.size_toArray, bytesV_length, Hl.out]; exact info_a32
              go_wp2_with (first | (refine wpList_load_blk D2' rfl 30 _ rfl rfl Tryd.underlying30 rfl hi32.out ?_) | (refine wpList_store_blk rfl 30 _ _ rfl w.heap.size (bytesV (outB st)).toArray rfl rfl 30 zb32 D1 hi32.out hz32.out (bytes_one _) ?_; intro w17 hs17 hb17 hg17))
              refine bodyPost_ret (v := dgV (outB st)) (ret_blk hb17 rfl rfl Tryd.underlying30 rfl hi32.out) rfl ?_
              exact ⟨by rw [hfe.out]; rfl, (he1.trans E6).grown hg17 (by simp)⟩
end Go.Proofs.YtafjnlikmjahfaaDoor
