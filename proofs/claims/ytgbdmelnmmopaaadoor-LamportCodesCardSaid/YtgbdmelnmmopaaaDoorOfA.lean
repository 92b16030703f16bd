/- The contract of sha.Of. -/
import Derived.Test.YtgbdmelnmmopaaaDoorHashC
namespace Go.Proofs.YtgbdmelnmmopaaaDoor
open Go.RowKit

set_option maxRecDepth 100000 in
set_option maxHeartbeats 1000000 in
theorem of_any (pv : Value) (bss : List (List UInt8)) (w : World) (hK : Kst w) (hv : SlAll w pv bss) (hn : bss.length ≤ 1073741824) (hlen : total bss ≤ 1073730000) :
    Calls Tryd.prog 42 #[pv] w fun e w' => e = .returned (dgV (sumB bss.flatten)) ∧ Ext w w' := by
  obtain ⟨A, c, rfl, hc⟩ := hv.form
  have HV := Lib.hid hv
  clear hv
  go_enter Tryd.func42, Tryd.ntmps42
  go_wp2_with (first | (refine wpList_alloc_blk rfl 30 rfl (.agg zb32) zero_a32 ?_; intro w1 hs1 hb1 he1))
  refine (new_any _).mono ?_
  rintro e w2 ⟨g, rfl, hg, H2, E2⟩
  have B2 := hb1.ext E2
  have E12 := he1.trans E2
  have hne : w.heap.size < g := by omega
  clear hs1 hb1 he1 E2 hg
  go_wp2
  go_loopw [9] (fun i wr => ∃ k : Nat, k ≤ bss.length ∧ i = .int .i64 k ∧ Blk wr w.heap.size 30 zb32 ∧ HashAt wr g (feed start (bss.take k).flatten).1 (feed start (bss.take k).flatten).2 (total (bss.take k)) ∧ Ext w wr) (fun i _ => bss.length - (intOf i).toNat)
  case atStart => exact ⟨0, by omega, rfl, B2, by rw [List.take_zero, List.flatten_nil, feed_less start [] (by simp)]; exact H2, E12⟩
  case round =>
    clear B2 H2 E12
    obtain ⟨k, hk, rfl, B2, H2, E2⟩ := hrel
    by_cases hlt : k < bss.length
    · obtain ⟨b, o, B, d, rfl, hcell, hs⟩ := HV.out.at_ hlt
      have hcell2 := E2.cell hcell
      have h1 := total_take_succ bss k hlt
      have h2 := total_take_le bss (k + 1)
      have Hw := Lib.hid (write_any g _ _ bss[k] _ _ wr (hK.ext E2) H2 (hs.ext E2) (feed_rest_lt _ _) (by omega))
      have H1 := Lib.hid h1
      clear h1 h2 H2 hs
      go_wp2_with fail
      refine Hw.out.mono ?_
      rintro e w3 ⟨rfl, H3, G3⟩
      clear Hw
      have hfl : (bss.take (k + 1)).flatten = (bss.take k).flatten ++ bss[k] := by rw [List.take_succ_eq_append_getElem hlt, List.flatten_append]; simp
      have H3' : Hid (HashAt w3 g (feed start (bss.take (k + 1)).flatten).1 (feed start (bss.take (k + 1)).flatten).2 (total (bss.take (k + 1)))) := by
        rw [hfl, feed_append start, H1.out]; exact H3
      clear H3 hfl
      have B3 := B2.grown G3 (by simp; omega)
      have E3 := E2.grown G3 (by simp; omega)
      go_wp2
      go_roundw
      case rel => exact ⟨k + 1, by omega, by go_num, B3, H3'.out, E3⟩
      case measure => simp [intOf]; omega
    · obtain rfl : k = bss.length := by omega
      rw [List.take_length] at H2
      have Hs := Lib.hid (sum_any g _ _ _ wr (hK.ext E2) H2 (feed_rest_lt _ _) (by rw [feed_rest_mod]; rfl) hlen)
      have hsum : Hid (outB (feed (feed start bss.flatten).1 ((feed start bss.flatten).2 ++ padB (total bss))).1 = sumB bss.flatten) := (sumB_of_rest _).symm
      rw [hsum.out] at Hs
      have hl := sumB_length bss.flatten
      obtain ⟨z, hz⟩ : ∃ z, z = sumB bss.flatten := ⟨_, rfl⟩
      rw [← hz] at Hs hl
      have Hz := Lib.hid hz
      have Hl := Lib.hid hl
      clear hz hl H2 hsum
      have hz32 : Hid (zb32.size = (bytesV z).toArray.size) := zb32_size _ Hl.out
      have hi32 : Hid ((Tryd.prog.info? 30).map (·.size) = some (bytesV z).toArray.size) := by rw [List.size_toArray, bytesV_length, Hl.out]; exact info_a32
      go_wp2_with fail
      refine Hs.out.mono ?_
      rintro e w3 ⟨rfl, E3⟩
      have B3 := B2.ext E3
      go_wp2_with (first | (refine wpList_store_blk rfl 30 _ _ rfl w.heap.size (bytesV z).toArray rfl rfl 30 zb32 B3 hi32.out hz32.out (bytes_one _) ?_; intro w7 hs7 hb7 hg7))
      refine bodyPost_ret (v := dgV z) (ret_blk hb7 rfl rfl Tryd.underlying30 rfl hi32.out) rfl ?_
      exact ⟨by rw [Hz.out], (E2.trans E3).grown hg7 (by simp)⟩
end Go.Proofs.YtgbdmelnmmopaaaDoor
