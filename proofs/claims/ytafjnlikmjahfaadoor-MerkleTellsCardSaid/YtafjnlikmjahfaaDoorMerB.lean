/- merkle: slices.Clone of digests; the level above another one (merkle.up). -/
import Derived.Test.YtafjnlikmjahfaaDoorMerP
import Derived.Test.YtafjnlikmjahfaaDoorChunkD
namespace Go.Proofs.YtafjnlikmjahfaaDoor
open Go.RowKit Go.Shelf
attribute [local go_sem] Oper.semAt_some

set_option maxRecDepth 100000 in
set_option maxHeartbeats 400000 in
theorem cloneD_any (v : Value) (ds : List (List UInt8)) (w : World) (hv : SlD w v ds) (h1 : 1 ≤ ds.length) (hlen : ds.length ≤ 1073741824) :
    Calls Tryd.prog 21 #[v] w fun e w' => ∃ v', e = .returned v' ∧ OwnD w' w.heap.size v' ds ∧ Ext w w' := by
  obtain ⟨A, c, rfl, hc⟩ := hv.form
  obtain ⟨b, o, rfl, _⟩ := hv.1.here h1
  obtain ⟨i0, hi, hz0, hz1, hz2⟩ := info_parts info_a32x
  have hnil := fun w => Lib.run_eql_slice_nil (P := Tryd.prog) w 22 30 (some ⟨b, o, none⟩) ds.length c 0 0 Tryd.underlying22
  have hv' := Lib.hid hv
  clear hv
  go_enter Tryd.func21, Tryd.ntmps21
  have hown : (w.alloc (.cells #[] 30)).ownsRow w.heap.size 30 32 (.slice (some ⟨w.heap.size, 0, none⟩) 0 0) 0 [] := World.ownsRow_made w #[] 0 (Nat.le_refl _) (by unfold maxLen; omega) (by simp)
  have hsrc : Hid (SlR (w.alloc (.cells #[] 30)) 32 (.slice (some ⟨b, o, none⟩) ds.length c) ds.length (bytesV ds.flatten)) := SlR.ext hv'.out.1 ((Ext.refl w).alloc _)
  have Hown := Lib.hid hown
  clear hown
  go_wp2_with (at_builtin; refine wpList_append_sl _ rfl _ _ 22 rfl w.heap.size 30 i0 (.agg zb32) 32 32 Tryd.underlying22 hi hz0 hz1 hz2 (by decide) (by omega) (.slice (some ⟨w.heap.size, 0, none⟩) 0 0) 0 [] rfl Hown.out (some ⟨b, o, none⟩) ds.length c (bytesV ds.flatten) rfl hsrc.out (bytesV_one _) (by unfold maxLen; omega) (by omega) (by simp) ?_; intro v' w1 h1 h2 h3)
  go_ret
  rw [Nat.zero_add] at h1
  exact ⟨v', rfl, ⟨h1, hv'.out.2⟩, ((Ext.refl w).alloc _).grown h2 (by simp [Value.ownBlock])⟩

set_option maxRecDepth 100000 in
set_option maxHeartbeats 1000000 in
theorem mup_any (v : Value) (ds : List (List UInt8)) (N : Nat) (w : World) (hK : Kst w) (hv : SlD w v ds) (hl : ds.length = N * 2) (h1 : 1 ≤ N) (h2 : N ≤ 32) :
    Calls Tryd.prog 22 #[v] w fun e w' => ∃ v', e = .returned v' ∧ OwnD w' w.heap.size v' (upB ds) ∧ Ext w w' := by
  obtain ⟨A, c, rfl, hc⟩ := hv.form
  obtain ⟨b, o, rfl, _⟩ := hv.1.here (by omega)
  have HV := Lib.hid hv
  have Hl := Lib.hid hl
  have hbl : ds.length ≤ 1073741824 := by omega
  have hcap := Lib.hid hc
  clear hv hl
  refine (callsIn_wide (n := 8)).1 ?_
  refine callsIn_of_wp_marks Tryd.func22 rfl trivial ?_ rfl
  refine wpIn_wide.2 ?_
  simp only [Tryd.ntmps22, List.size_toArray, List.length_cons, List.length_nil, Nat.reduceAdd, Nat.reduceSub, Array.replicate_succ, Array.replicate_zero, List.push_toArray, List.append_toArray, List.nil_append, List.cons_append]
  have hb1 := Blk.new w 22 #[.slice none 0 0]
  have he1 : Ext w (w.alloc (.cells #[.slice none 0 0] 22)) := (Ext.refl w).alloc _
  have Hcall := Lib.hid (chunkD_any (some ⟨b, o, none⟩) ds.length c 2 (w.alloc (.cells #[.slice none 0 0] 22)) (by omega))
  go_wp2_with fail
  refine Hcall.out.mono ?_
  rintro e w4 ⟨Bs, Bn, rfl, hBs, hBn, bS, bN, E4⟩
  have h14 : w.heap.size < w4.heap.size := (hb1.ext E4).lt
  have hBs' : w.heap.size < Bs := by rw [World.size_alloc] at hBs; omega
  have hb4 : Blk w4 w.heap.size 22 #[.slice none 0 0] := hb1.ext E4
  have E04 := he1.trans E4
  have HbN := Lib.hid bN
  have HbS := Lib.hid bS
  have Hb4 := Lib.hid hb4
  have Hbl := Lib.hid hbl
  have Hseq := Lib.hid (chunkD_stops (8 - 1) Bs Bn N 2 ds.length c (some ⟨b, o, none⟩) Hl.out (by omega) hcap.out Hbl.out (fun _ => ⟨_, _, rfl⟩) w4 HbS.out HbN.out)
  have Hkb := Lib.hid (kept2_b (w := w4) bS.lt bN.lt)
  clear hb1 hb4 he1 E4 bS bN Hcall hBs
  obtain ⟨I, hI⟩ : ∃ I : List (Fin N) → World → Prop, I = fun pre W => (∃ vo, Blk W w.heap.size 22 #[vo] ∧ OwnD W w.heap.size vo (pre.map fun x => nodeAt ds x.1)) ∧
      Blk W Bs 22 #[.slice (some ⟨b, o, none⟩) ds.length c] ∧ Blk W Bn 3 #[.int .i64 ((2 : Nat) : Int)] ∧ Ext w W := ⟨_, rfl⟩
  have Hown : Hid (OwnFrom w4.heap.size I) := by
    have hle : w.heap.size ≤ w4.heap.size := by omega
    rw [hI]
    exact ownFrom_of fun s W W' ⟨⟨vo, h1, h2⟩, h5, h6, h7⟩ t => ⟨⟨vo, t.blk h1, ⟨t.own h2.1, h2.2⟩⟩, t.blk h5, t.blk h6, t.ext h7 hle⟩
  have H0 : Hid (I [] w4) := by
    rw [hI]
    exact ⟨⟨_, Hb4.out, OwnD.none_ _ _⟩, HbS.out, HbN.out, E04⟩
  have Heg := Lib.hid (fun args w => enters_of (P := Tryd.prog) Tryd.func39 (by kernel_rfl) rfl args w)
  go_wp2_with fail
  refine (wpIn_wide (n := 8)).1 ?_
  refine wpIn_rangeFunc_ownG (gf := 39) (lb := #[.pointer (some ⟨Bs, 0, none⟩), .pointer (some ⟨Bn, 0, none⟩)]) rfl (by decide) rfl trivial Heg.out Hseq.out Kept2.trans Hkb.out (Below.refl _ _) (fun _ => rfl)
    I (fun _ _ _ => False) Hown.out (fun _ => ownFrom_of fun _ _ _ h _ => h) H0.out
    ?a1 ?assign ?body ?done ?stop
  case assign =>
    intro l x W K hK
    gi_wp2
    exact hK
  case body =>
    intro l pre x W hi hlt
    rw [hI] at hi
    obtain ⟨⟨vo, hB, hO⟩, bS', bN', E⟩ := hi
    obtain ⟨k, hk⟩ := x
    have hk2 : 2 * k + 1 < ds.length := by have := Hl.out; omega
    obtain ⟨bb, oo, hA, hc1⟩ := (HV.out.ext E).at_ (show 2 * k < ds.length by omega)
    obtain ⟨rfl, rfl⟩ : b = bb ∧ o = oo := by simpa using hA
    obtain ⟨_, _, hA2, hc2⟩ := (HV.out.ext E).at_ hk2
    obtain ⟨rfl, rfl⟩ : b = _ ∧ o = _ := by simpa using hA2
    have hl1 := HV.out.len (show 2 * k < ds.length by omega)
    have hl2 := HV.out.len hk2
    have hnode : nodeAt ds k = nodeB ds[2 * k] ds[2 * k + 1] := by unfold nodeAt; rw [dAt_eq (by omega), dAt_eq hk2]
    have hOs : pre.map (fun x => nodeAt ds x.1) ++ [nodeAt ds k] = (pre ++ [(⟨k, hk⟩ : Fin N)]).map (fun x => nodeAt ds x.1) := by simp
    have hOn : (pre.map (fun x => nodeAt ds x.1)).length = pre.length := by simp
    obtain ⟨x, hx⟩ : ∃ x, x = ds[2 * k] := ⟨_, rfl⟩
    obtain ⟨t, ht⟩ : ∃ t, t = ds[2 * k + 1] := ⟨_, rfl⟩
    obtain ⟨os, hos⟩ : ∃ os, os = pre.map (fun x => nodeAt ds x.1) := ⟨_, rfl⟩
    obtain ⟨q, hq⟩ : ∃ q, q = o + k * 2 * 32 := ⟨_, rfl⟩
    have hqv : chunkV 32 (some ⟨b, o, none⟩) 2 k = .slice (some ⟨b, q, none⟩) 2 2 := by simp [chunkV, hq]
    rw [show o + 2 * k * 32 = q by omega] at hc1
    rw [show o + (2 * k + 1) * 32 = q + 32 by omega] at hc2
    rw [← hx] at hl1 hc1 hnode
    rw [← ht] at hl2 hc2 hnode
    rw [← hos] at hO hOs hOn
    obtain ⟨m, hm⟩ : ∃ m, m = pre.length := ⟨_, rfl⟩
    rw [← hm] at hOn hlt
    dsimp only
    rw [hqv]
    obtain ⟨Q, hQ⟩ : ∃ Q, Q = ownPostG w4.heap.size (Kept2 Bs Bn) I (fun _ _ _ => False) (pre ++ [⟨k, hk⟩]) W := ⟨_, rfl⟩
    have hQn : ¬ LetsOut Q := by rw [hQ]; rintro ⟨_, _, h⟩; exact h
    have hQok : Hid (∀ a W', KeepsFrom w4.heap.size W W' → Kept2 Bs Bn W W' → I (pre ++ [⟨k, hk⟩]) W' → Q .normal a W') := by
      show ∀ a W', _ → _ → _ → _
      rw [hQ]; exact fun a W' h1 h2 h3 => ⟨h1, h2, h3⟩
    rw [← hQ]
    clear hQ hx ht hos hq hqv hm Hseq Hkb Hown H0 Heg hA hA2
    have HOs := Lib.hid hOs
    have hII := Lib.hid hI
    have Hnode := Lib.hid hnode
    clear hOs hI hnode
    obtain ⟨Ao, co, rfl, hco⟩ := hO.form
    rw [hOn] at hco hB hO
    have HB := Lib.hid hB
    have HO := Lib.hid hO
    have HbS' := Lib.hid bS'
    have HbN' := Lib.hid bN'
    have L1 := Lib.hid hl1
    have L2 := Lib.hid hl2
    clear hB hO bS' bN' hl1 hl2 HbS HbN Hb4
    have hc0 : W.drew.cell? ⟨w.heap.size, 0, none⟩ = some (.slice Ao m co) := HB.out.cell 0
    have Hnd := Lib.hid (fun w' (E' : Ext w w') => mNode_any x t L1.out L2.out w' (hK.ext E'))
    have hnl := nodeB_length x t
    obtain ⟨z, hz⟩ : ∃ z, z = nodeB x t := ⟨_, rfl⟩
    rw [← hz] at Hnd hnl Hnode
    have Lz := Lib.hid hnl
    clear hz hnl
    refine wpIn_block ?_
    refine wpIn_region_chain 9 [(true, 0), (true, 1), (true, 2), (true, 3), (true, 4), (true, 5), (true, 6), (false, 7), (false, 8)] (fun w' => w'.cell? ⟨w.heap.size, 0, none⟩ = some (.slice Ao m co) ∧ Cells w' b q (bytesV x) ∧ Cells w' b (q + 32) (bytesV t)) (by kernel_rfl) (by kernel_rfl) (fun ⟨a, w, h⟩ => hQn ⟨a, w, h⟩) (by kernel_rfl) ⟨hc0, hc1, hc2⟩ ?_
    iterate 3
      refine wpTake_read _ _ ?_ rfl rfl ?_ ?_
      rotate_left 1
      focus
        intro wS hS
        have hS1 := hS.1
        try dsimp only at hS1
        go_simp
        first | done | with_reducible rfl
      simp only [Act.put, List.setIfInBounds_toArray, List.set_cons_zero, List.set_cons_succ]
    refine wpTake_load _ _ rfl rfl 30 _ rfl (.agg (bytesV x).toArray) (fun wS hS => run_load_dg hS.2.1 L1.out) ?_
    simp only [Act.put, List.setIfInBounds_toArray, List.set_cons_zero, List.set_cons_succ]
    iterate 2
      refine wpTake_read _ _ ?_ rfl rfl ?_ ?_
      rotate_left 1
      focus
        intro wS hS
        clear hS
        go_simp
        first | done | with_reducible rfl
      simp only [Act.put, List.setIfInBounds_toArray, List.set_cons_zero, List.set_cons_succ]
    refine wpTake_load _ _ rfl rfl 30 _ rfl (.agg (bytesV t).toArray) (fun wS hS => run_load_dg hS.2.2 L2.out) ?_
    simp only [Act.put, List.setIfInBounds_toArray, List.set_cons_zero, List.set_cons_succ]
    refine wpTake_do _ _ rfl rfl (fun K hK' => ?_)
    go_simp
    refine (Hnd.out _ (E.trans (Ext.refl W).drew)).mono ?_
    rintro e w5 ⟨rfl, E5⟩
    refine hK' _ _ ⟨E5.cell hc0, hc1.ext ((Ext.refl W).drew.trans E5), hc2.ext ((Ext.refl W).drew.trans E5)⟩ ?_
    clear hK' K
    have c5 := E5.cell hc0
    have E05 : Ext W w5 := (Ext.refl W).drew.trans E5
    clear hc0 E5
    refine wpTake_do _ _ rfl rfl (fun K hK' => ?_)
    refine wp_build_dg z Lz.out _ rfl rfl ?_
    intro w6 E56 hs6 hnew
    have E6 : Ext W w6 := E05.trans E56
    refine hK' _ _ ⟨E56.cell c5, hc1.ext E6, hc2.ext E6⟩ ?_
    clear hK' K
    refine wpTake_nil ?_
    simp only [Act.put, List.setIfInBounds_toArray, List.set_cons_zero, List.set_cons_succ, List.drop_succ_cons, List.drop_zero]
    have Hnew := Lib.hid hnew
    have HB6 := Lib.hid (HB.out.ext E6)
    have HO6 := Lib.hid (HO.out.ext E6)
    have HS6 := Lib.hid (HbS'.out.ext E6)
    have HN6 := Lib.hid (HbN'.out.ext E6)
    have Ew6 := E.trans E6
    clear hnew HO HB c5 E05 E56 hs6
    go_wp2_with (at_builtin; refine wpList_appD HO6.out Lz.out Hnew.out rfl _ _ rfl rfl rfl (by omega) (by have := Ew6.size; exact this) ?_; intro v7 w7 ho7 hg7 hq7; have hn7 := HO6.out.ne HB6.out (by decide); have hB7 := HB6.out.grown hg7 (Ne.symm hn7); have hc7 : w7.cell? ⟨w.heap.size, 0, none⟩ = some (.slice Ao m co) := hB7.cell 0; have hf7 := hB7.frozen 0; obtain ⟨A7, c7, e7, hc7'⟩ := ho7.form; rw [List.length_append, hOn, List.length_singleton] at e7; subst e7; have HB7 := Lib.hid hB7; have HO7 := Lib.hid ho7; have Hg7 := Lib.hid hg7; have Hq7 := Lib.hid hq7; clear hB7 ho7 hg7 hq7 hn7)
    refine NoPanic.normal ?_
    have hneS : Bs ≠ w.heap.size := by omega
    have hneN : Bn ≠ w.heap.size := by omega
    obtain ⟨w8, hw8⟩ : ∃ w8, w8 = w7.setCell ⟨w.heap.size, 0, none⟩ (.slice A7 (m + 1) c7) := ⟨_, rfl⟩
    have HO8 : Hid (OwnD w8 w.heap.size (.slice A7 (m + 1) c7) (os ++ [z])) := by rw [hw8]; exact HO7.out.set HB7.out (by decide)
    have HB8 : Hid (Blk w8 w.heap.size 22 #[.slice A7 (m + 1) c7]) := by rw [hw8]; exact HB7.out.set 0 _
    have HS8 : Hid (Blk w8 Bs 22 #[.slice (some ⟨b, o, none⟩) ds.length c]) := by rw [hw8]; exact (HS6.out.grown Hg7.out (Ne.symm (HO6.out.ne HS6.out (by decide)))).far hneS _
    have HN8 : Hid (Blk w8 Bn 3 #[.int .i64 ((2 : Nat) : Int)]) := by rw [hw8]; exact (HN6.out.grown Hg7.out (Ne.symm (HO6.out.ne HN6.out (by decide)))).far hneN _
    have E8 : Ext w w8 := by rw [hw8]; exact (Ew6.grown Hg7.out HO6.out.from).setCell (by simp) _
    have HK8 : Hid (KeepsOthers W w8) := by rw [hw8]; exact (keeps_ext E6).trans ((keeps_own HO6.out.1 Hg7.out).trans (KeepsOthers.setCell _ _ _))
    simp only [← hw8]
    refine hQok.out _ _ (HK8.out.from _) ⟨HS8.out.trans HbS'.out.symm, HN8.out.trans HbN'.out.symm⟩ ?_
    rw [hII.out]
    refine ⟨⟨_, HB8.out, ?_⟩, HS8.out, HN8.out, E8⟩
    rw [← HOs.out, Hnode.out]
    exact HO8.out
  case done =>
    rintro D ys W hD rfl hi hK
    rw [hI] at hi
    obtain ⟨⟨vo, hB, hO⟩, bS', bN', E⟩ := hi
    dsimp only
    rw [finMap (nodeAt ds)] at hO
    have hO' : OwnD W w.heap.size vo (upB ds) := by
      have := hO
      rwa [show (List.range N).map (nodeAt ds) = upB ds by unfold upB upT; rw [Hl.out, Nat.mul_div_cancel _ (by omega)]] at this
    have hc0 : W.cell? ⟨w.heap.size, 0, none⟩ = some vo := hB.cell 0
    have HOO := Lib.hid hO'
    clear hO hO' hB
    go_wp2_with fail
    have tn : Turn w4.heap.size W (W.putObj D (.deferred none)) := ⟨some D, grownBy_putObj' W D _, fun r e => by cases e; exact ⟨hD, _, hK, rfl⟩⟩
    refine ⟨by simp, .inl ⟨_, _, rfl, run_takeDeferred hK, ?_⟩⟩
    refine ⟨_, results_tmp rfl _ _ _, ?_⟩
    exact ⟨_, rfl, ⟨tn.own HOO.out.1, HOO.out.2⟩, tn.ext E (by omega)⟩
  case stop =>
    rintro D c pre W _ _ h _
    exact h.elim
end Go.Proofs.YtafjnlikmjahfaaDoor
