/- Contracts of slices.Clone, slices.Grow and slices.Concat of bytes. -/
import Derived.Test.YtafjnlikmjahfaaDoorProg
import Derived.Test.YtafjnlikmjahfaaDoorSlices
namespace Go.Proofs.YtafjnlikmjahfaaDoor
open Go.RowKit

theorem info_u8 : (Tryd.prog.info? 5).map (fun i => (i.zero, i.size, i.bytes)) = some (some (.int .u8 0), 1, 1) := by kernel_rfl
theorem info_bytes : (Tryd.prog.info? 51).map (fun i => (i.zero, i.size, i.bytes)) = some (some (.slice none 0 0), 1, 24) := by kernel_rfl

set_option maxRecDepth 100000 in
set_option maxHeartbeats 400000 in
theorem cloneB_any (v : Value) (bs : List UInt8) (w : World) (hv : Sl w v bs) (hlen : bs.length ≤ 1073741824) :
    Calls Tryd.prog 45 #[v] w fun e w' => ∃ v', e = .returned v' ∧ w'.ownsRow w.heap.size 5 1 v' bs.length (bytesV bs) ∧ Ext w w' := by
  obtain ⟨A, c, rfl, hc⟩ := SlR.form hv
  obtain ⟨i0, hi, hz0, hz1, hz2⟩ := info_parts info_u8
  have hnil := fun w => Lib.run_eql_slice_nil (P := Tryd.prog) w 51 5 A bs.length c 0 0 Tryd.underlying51
  cases A with
  | none =>
    have hn : bs.length = 0 := by
      rcases Nat.eq_zero_or_pos bs.length with h0 | h0
      · exact h0
      · obtain ⟨b, o, h, _⟩ := SlR.here hv h0
        cases h
    have Hn := Lib.hid hn
    clear hn
    go_enter Tryd.func45, Tryd.ntmps45
    go_wp2
    go_ret
    refine ⟨_, rfl, ?_, Ext.refl w⟩
    rw [Hn.out, List.eq_nil_of_length_eq_zero Hn.out]
    exact World.ownsRow_nil w _ _ _
  | some ad =>
    have hv' := Lib.hid hv
    clear hv
    go_enter Tryd.func45, Tryd.ntmps45
    have hown : (w.alloc (.cells #[] 5)).ownsRow w.heap.size 5 1 (.slice (some ⟨w.heap.size, 0, none⟩) 0 0) 0 [] := World.ownsRow_made w #[] 0 (Nat.le_refl _) (by unfold maxLen; omega) (by simp)
    have hsrc : Hid (SlR (w.alloc (.cells #[] 5)) 1 (.slice (some ad) bs.length c) bs.length (bytesV bs)) := SlR.ext hv'.out ((Ext.refl w).alloc _)
    have Hown := Lib.hid hown
    clear hown
    go_wp2_with (at_builtin; refine wpList_append_sl _ rfl _ _ 51 rfl w.heap.size 5 i0 (.int .u8 0) 1 1 Tryd.underlying51 hi hz0 hz1 hz2 rfl (by omega) (.slice (some ⟨w.heap.size, 0, none⟩) 0 0) 0 [] rfl Hown.out (some ad) bs.length c (bytesV bs) rfl hsrc.out (bytesV_one bs) (by unfold maxLen; omega) (by omega) (by simp) ?_; intro v' w1 h1 h2 h3)
    go_ret
    rw [Nat.zero_add] at h1
    exact ⟨v', rfl, h1, ((Ext.refl w).alloc _).grown h2 (by simp [Value.ownBlock])⟩

set_option maxRecDepth 100000 in
set_option maxHeartbeats 400000 in
theorem growB_any (n : Nat) (hn : n ≤ 1073741824) (w : World) :
    Calls Tryd.prog 50 #[.slice none 0 0, .int .i64 (n : Int)] w fun e w' => ∃ v', e = .returned v' ∧ w'.ownsRow w.heap.size 5 1 v' 0 [] ∧ Ext w w' := by
  obtain ⟨i0, hi, hz0, hz1, hz2⟩ := info_parts info_u8
  by_cases h0 : 0 < n
  · have hr := fun w => Lib.run_append_nil_zeros (P := Tryd.prog) w 51 3 51 5 i0 (.int .u8 0) .i64 .i64 Tryd.underlying51 Tryd.underlying3 hi hz0 n h0 (by omega) (by omega) (by rw [hz2]; omega)
    have Hr := Lib.hid hr
    clear hr
    go_enter Tryd.func50, Tryd.ntmps50
    go_wp2_with (at_builtin; refine Lib.wpList_append_run _ rfl _ _ 51 3 rfl _ _ rfl rfl _ _ (Hr.out _) ?_)
    go_ret
    refine ⟨_, rfl, ?_, ?_⟩
    · have hge := grownCap_ge w n 0 5
      exact World.ownsRow_made w _ (grownCap w n 0 5) (Nat.le_refl _) (grownCap_le_maxLen w n 0 5 (by unfold maxLen; omega)) (by simp [size_zeroCells]; omega)
    · exact ((Ext.refl w).alloc _).drew
  · have hn0 : n = 0 := by omega
    subst hn0
    go_enter Tryd.func50, Tryd.ntmps50
    go_wp2
    go_ret
    exact ⟨_, rfl, World.ownsRow_nil w _ _ _, Ext.refl w⟩


/-- a slice of slices of bytes -/
def SlAll (w : World) (pv : Value) (bss : List (List UInt8)) : Prop := ∃ vs : List Value, SlR w 1 pv bss.length vs ∧ ∀ (i : Nat) (bs : List UInt8), bss[i]? = some bs → ∃ v, vs[i]? = some v ∧ Sl w v bs
theorem SlAll.ext {w w' : World} {pv : Value} {bss : List (List UInt8)} (h : SlAll w pv bss) (he : Ext w w') : SlAll w' pv bss := by
  obtain ⟨vs, h1, h2⟩ := h
  refine ⟨vs, h1.ext he, fun i bs hi => ?_⟩
  obtain ⟨v, hv, hs⟩ := h2 i bs hi
  exact ⟨v, hv, hs.ext he⟩
theorem SlAll.form {w : World} {pv : Value} {bss : List (List UInt8)} (h : SlAll w pv bss) : ∃ A c, pv = .slice A bss.length c ∧ bss.length ≤ c := by
  obtain ⟨vs, h1, _⟩ := h
  exact h1.form
/-- the k-th of them -/
theorem SlAll.at_ {w : World} {A : Option Addr} {c k : Nat} {bss : List (List UInt8)} (h : SlAll w (.slice A bss.length c) bss) (hk : k < bss.length) :
    ∃ b o B d, A = some ⟨b, o, none⟩ ∧ w.cell? ⟨b, o + k, none⟩ = some (.slice B bss[k].length d) ∧ Sl w (.slice B bss[k].length d) bss[k] := by
  obtain ⟨vs, h1, h2⟩ := h
  obtain ⟨b, o, hA, hc⟩ := h1.here (by omega)
  obtain ⟨v, hv, hs⟩ := h2 k bss[k] (List.getElem?_eq_getElem hk)
  obtain ⟨B, d, rfl, _⟩ := SlR.form hs
  exact ⟨b, o, B, d, hA, hc k _ hv, hs⟩

def total (bss : List (List UInt8)) : Nat := bss.flatten.length
theorem total_take_succ (bss : List (List UInt8)) (k : Nat) (h : k < bss.length) : total (bss.take (k + 1)) = total (bss.take k) + bss[k].length := by
  unfold total
  rw [List.take_succ_eq_append_getElem h, List.flatten_append, List.length_append]
  simp
theorem total_take_le (bss : List (List UInt8)) (k : Nat) : total (bss.take k) ≤ total bss := by
  unfold total
  conv => rhs; rw [← List.take_append_drop k bss]
  rw [List.flatten_append, List.length_append]
  omega
theorem flat_take_succ (bss : List (List UInt8)) (k : Nat) (h : k < bss.length) : bytesV (bss.take (k + 1)).flatten = bytesV (bss.take k).flatten ++ bytesV bss[k] := by
  rw [List.take_succ_eq_append_getElem h, List.flatten_append, bytesV_append]
  simp

set_option maxRecDepth 100000 in
set_option maxHeartbeats 1000000 in
theorem concatB_any (pv : Value) (bss : List (List UInt8)) (w : World) (hv : SlAll w pv bss) (hn : bss.length ≤ 1073741824) (hlen : total bss ≤ 1073741824) :
    Calls Tryd.prog 43 #[pv] w fun e w' => ∃ v', e = .returned v' ∧ w'.ownsRow w.heap.size 5 1 v' bss.flatten.length (bytesV bss.flatten) ∧ Ext w w' := by
  obtain ⟨A, c, rfl, hc⟩ := hv.form
  obtain ⟨i0, hi, hz0, hz1, hz2⟩ := info_parts info_u8
  have HV := Lib.hid hv
  clear hv
  go_enter Tryd.func43, Tryd.ntmps43
  go_wp2
  go_loop [11, 3] (fun i s => ∃ k : Nat, k ≤ bss.length ∧ i = .int .i64 k ∧ s = .int .i64 (total (bss.take k) : Nat)) (fun i _ => bss.length - (intOf i).toNat)
  case atStart => exact ⟨0, by omega, rfl, rfl⟩
  case round =>
    obtain ⟨k, hk, rfl, rfl⟩ := hrel
    by_cases hlt : k < bss.length
    · obtain ⟨b, o, B, d, rfl, hcell, _⟩ := HV.out.at_ hlt
      have h1 := total_take_succ bss k hlt
      have h2 := total_take_le bss (k + 1)
      have H1 := Lib.hid h1
      have h3 : total (bss.take k) + bss[k].length ≤ 1073741824 := by omega
      clear h1 h2
      go_wp2
      go_round
      case rel => exact ⟨k + 1, by omega, by go_num, by rw [H1.out]; go_num⟩
      case measure => simp [intOf]; omega
    · obtain rfl : k = bss.length := by omega
      rw [List.take_length]
      go_wp2_with (go_at_call 50; refine (growB_any (total bss) hlen _).mono ?_; rintro e w1 ⟨v0, rfl, hown, E1⟩; obtain ⟨A0, c0, rfl, hc0⟩ := own_form hown)
      go_loopw [27, 6] (fun i v wr => ∃ k : Nat, k ≤ bss.length ∧ i = .int .i64 k ∧ wr.ownsRow w.heap.size 5 1 v (total (bss.take k)) (bytesV (bss.take k).flatten) ∧ Ext w wr) (fun i _ _ => bss.length - (intOf i).toNat)
      case atStart => exact ⟨0, by omega, rfl, hown, E1⟩
      case round =>
        clear hown E1
        obtain ⟨k, hk, rfl, hown, E1⟩ := hrel
        by_cases hlt : k < bss.length
        · obtain ⟨b, o, B, d, rfl, hcell, hs⟩ := HV.out.at_ hlt
          have hcell1 := E1.cell hcell
          have H1 := Lib.hid (total_take_succ bss k hlt)
          have h2 := total_take_le bss (k + 1)
          have h3 : total (bss.take k) + bss[k].length ≤ 1073741824 := by have := H1.out; omega
          clear h2
          have Hs := Lib.hid (SlR.ext hs E1)
          have Hown := Lib.hid hown
          clear hs hown
          go_wp2_with (at_builtin; refine wpList_append_sl _ rfl _ _ 51 rfl w.heap.size 5 i0 (.int .u8 0) 1 1 Tryd.underlying51 hi hz0 hz1 hz2 rfl (by omega) u6 _ _ rfl Hown.out B bss[k].length d (bytesV bss[k]) rfl Hs.out (bytesV_one _) (by unfold maxLen; omega) (by omega) E1.size ?_; intro v' w2 h21 h22 h23)
          go_roundw
          case rel => exact ⟨k + 1, by omega, by go_num, by rw [H1.out, flat_take_succ bss k hlt]; exact h21, E1.grown h22 (fun j hj => (Hown.out.lt j hj).1)⟩
          case measure => simp [intOf]; omega
        · obtain rfl : k = bss.length := by omega
          rw [List.take_length] at hown
          go_wp2
          go_ret
          exact ⟨_, rfl, hown, E1⟩
end Go.Proofs.YtafjnlikmjahfaaDoor
