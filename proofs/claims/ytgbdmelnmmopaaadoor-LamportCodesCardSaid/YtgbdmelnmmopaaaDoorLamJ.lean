/- lamport.Decode of bytes that are a code. -/
import Derived.Test.YtgbdmelnmmopaaaDoorLamI
import Derived.Test.YtgbdmelnmmopaaaDoorChunkB
namespace Go.Proofs.YtgbdmelnmmopaaaDoor
open Go.RowKit Go.Shelf
attribute [local go_sem] Oper.semAt_some

def dR (bs : List UInt8) (k : Nat) : List UInt8 := (bs.drop (k * 64)).take 32
def dO (bs : List UInt8) (k : Nat) : List UInt8 := (bs.drop (k * 64 + 32)).take 32
def decR (bs : List UInt8) (n : Nat) : List (List UInt8) := (List.range n).map (dR bs)
def decO (bs : List UInt8) (n : Nat) : List (List UInt8) := (List.range n).map (dO bs)
theorem dR_length {bs : List UInt8} {N k : Nat} (hl : bs.length = N * 64) (hk : k < N) : (dR bs k).length = 32 := by simp only [dR, List.length_take, List.length_drop]; omega
theorem dO_length {bs : List UInt8} {N k : Nat} (hl : bs.length = N * 64) (hk : k < N) : (dO bs k).length = 32 := by simp only [dO, List.length_take, List.length_drop]; omega
theorem cells_part {w : World} {b o : Nat} {bs : List UInt8} (h : Cells w b o (bytesV bs)) (i n : Nat) : Cells w b (o + i) (bytesV ((bs.drop i).take n)) := by
  intro j v hv
  have hj : j < n := by have := (List.getElem?_eq_some_iff.1 hv).1; rw [bytesV_length, List.length_take] at this; omega
  rw [Nat.add_assoc]
  refine h (i + j) v ?_
  simp only [bytesV, List.getElem?_map, List.getElem?_take, if_pos hj, List.getElem?_drop] at hv ⊢
  exact hv
theorem finMap {β : Type} (f : Nat → β) (N : Nat) : (List.finRange N).map (fun x => f x.1) = (List.range N).map f := by
  apply List.ext_getElem
  · simp
  · intro i h1 h2
    simp

theorem run_arr32 (a : Option Addr) (len cap : Nat) (hn : 32 ≤ len) (w : World) : (Instr.arrayAt 30 (.slice a len cap)).run Tryd.prog w = .ok (.pointer a) w := by
  simp [Instr.arrayAt, run_underlying Tryd.underlying30, Nat.not_lt.2 hn]

set_option maxRecDepth 100000 in
set_option maxHeartbeats 400000 in
theorem lDecode_yes (v : Value) (bs : List UInt8) (N : Nat) (w : World) (hv : Sl w v bs) (hl : bs.length = N * 64) (hm : mayB N = true) :
    Calls Tryd.prog 17 #[v] w fun e w' => ∃ vr vo, e = .returned (.tuple #[.agg #[vr, vo], .int .i64 0]) ∧ SlD w' vr (decR bs N) ∧ SlD w' vo (decO bs N) ∧ Ext w w' := by
  obtain ⟨hm1, hm2, _⟩ := (mayB_iff _).1 hm
  obtain ⟨A, c, rfl, hc⟩ := SlR.form hv
  obtain ⟨b, o, rfl, hcs⟩ := SlR.here hv (by omega)
  have Hcs := Lib.hid hcs
  clear hcs hv
  have Hm := fun w => Lib.hid (lMay_any ((bs.length : Int) / 64) w)
  rw [show ((bs.length : Int) / 64) = ((N : Nat) : Int) by omega, hm] at Hm
  have hN : (bs.length : Int) / 64 = (N : Int) := by omega
  have hb : (((bs.length : Int) % 64) != 0) = false := by rw [bne_eq_false_iff_eq]; omega
  have Hl := Lib.hid hl
  have hbl : bs.length ≤ 1073741824 := by omega
  clear hm hl
  refine (callsIn_wide (n := 8)).1 ?_
  refine callsIn_of_wp_marks Tryd.func17 rfl trivial ?_ rfl
  refine wpIn_wide.2 ?_
  simp only [Tryd.ntmps17, List.size_toArray, List.length_cons, List.length_nil, Nat.reduceAdd, Nat.reduceSub, Array.replicate_succ, Array.replicate_zero, List.push_toArray, List.append_toArray, List.nil_append, List.cons_append]
  go_wp2_with (first | (refine wpList_alloc_blk rfl 26 rfl (.agg noOne) zero_one ?_; intro w1 hs1 hb1 he1; clear hs1))
  with_reducible refine (Hm _).out.mono ?_
  rintro e w2 ⟨rfl, rfl⟩
  clear Hm hb
  go_wp2_with (first | (refine wpList_alloc_blk rfl 26 rfl (.agg noOne) zero_one ?_; intro w3 hs3 hb3 he3; clear hs3) | (go_at_call 37; refine (chunkB_any _ _ _ 64 w3 (by omega)).mono ?_; rintro e w4 ⟨Bs, Bn, rfl, hBs, hBn, bS, bN, E4⟩))
  have E14 := he3.trans E4
  have h13 := he3.size
  have h34 := E4.size
  have h01 := he1.size
  have hb3' : Blk w4 w1.heap.size 26 #[.slice none 0 0, .slice none 0 0] := hb3.ext E4
  have hg3 : w1.heap.size < w3.heap.size := hb3.lt
  have HbN := Lib.hid bN
  have HbS := Lib.hid bS
  have Hb3 := Lib.hid hb3'
  have hcap := Lib.hid hc
  have Hbl := Lib.hid hbl
  clear hb3 hb3'
  have Hseq := Lib.hid (chunkB_stops (8 - 1) Bs Bn N 64 bs.length c (some ⟨b, o, none⟩) Hl.out (by omega) hcap.out Hbl.out (fun _ => ⟨_, _, rfl⟩) w4 HbS.out HbN.out)
  have Hkb := Lib.hid (kept2_b (w := w4) bS.lt bN.lt)
  obtain ⟨I, hI⟩ : ∃ I : List (Fin N) → World → Prop, I = fun pre W => (∃ vr vo, Blk W w1.heap.size 26 #[vr, vo] ∧ OwnD W w1.heap.size vr (pre.map fun x => dR bs x.1) ∧ OwnD W w1.heap.size vo (pre.map fun x => dO bs x.1) ∧ (∀ j, vr.ownBlock = some j → vo.ownBlock ≠ some j)) ∧
      Blk W Bs 22 #[.slice (some ⟨b, o, none⟩) bs.length c] ∧ Blk W Bn 3 #[.int .i64 ((64 : Nat) : Int)] ∧ Ext w1 W := ⟨_, rfl⟩
  have Hown : Hid (OwnFrom w4.heap.size I) := by
    have hle : w1.heap.size ≤ w4.heap.size := by omega
    rw [hI]
    exact ownFrom_of fun s W W' ⟨⟨vr, vo, h1, h2, h3, h4⟩, h5, h6, h7⟩ t => ⟨⟨vr, vo, t.blk h1, ⟨t.own h2.1, h2.2⟩, ⟨t.own h3.1, h3.2⟩, h4⟩, t.blk h5, t.blk h6, t.ext h7 hle⟩
  have H0 : Hid (I [] w4) := by
    rw [hI]
    exact ⟨⟨_, _, Hb3.out, OwnD.none_ _ _, OwnD.none_ _ _, fun j hj => by cases hj⟩, HbS.out, HbN.out, E14⟩
  have Heg := Lib.hid (fun args w => enters_of (P := Tryd.prog) Tryd.func45 (by kernel_rfl) rfl args w)
  refine (wpIn_wide (n := 8)).1 ?_
  refine wpIn_rangeFunc_ownG (gf := 45) (lb := #[.pointer (some ⟨Bs, 0, none⟩), .pointer (some ⟨Bn, 0, none⟩)]) rfl (by decide) rfl trivial Heg.out Hseq.out Kept2.trans Hkb.out (Below.refl _ _) (fun _ => rfl)
    I (fun _ _ _ => False) Hown.out (fun _ => ownFrom_of fun _ _ _ h _ => h) H0.out
    ?a1 ?assign ?body ?done ?stop
  case assign =>
    intro l x W K hK
    gi_wp2
    exact hK
  case body =>
    intro l pre x W hi hlt
    rw [hI] at hi
    obtain ⟨⟨vr, vo, hB, hR, hO, hap⟩, bS', bN', E⟩ := hi
    obtain ⟨k, hk⟩ := x
    have hl1 := dR_length Hl.out hk
    have hl2 := dO_length Hl.out hk
    have hw0 : Ext w W := he1.trans E
    have hc1 : Cells W b (o + k * 64) (bytesV (dR bs k)) := (cells_part Hcs.out (k * 64) 32).ext hw0
    have hc2 : Cells w b (o + k * 64 + 32) (bytesV (dO bs k)) := by
      have := cells_part Hcs.out (k * 64 + 32) 32
      rw [← Nat.add_assoc] at this
      exact this
    have hRs : pre.map (fun x => dR bs x.1) ++ [dR bs k] = (pre ++ [(⟨k, hk⟩ : Fin N)]).map (fun x => dR bs x.1) := by simp
    have hOs : pre.map (fun x => dO bs x.1) ++ [dO bs k] = (pre ++ [(⟨k, hk⟩ : Fin N)]).map (fun x => dO bs x.1) := by simp
    have hRn : (pre.map (fun x => dR bs x.1)).length = pre.length := by simp
    have hOn : (pre.map (fun x => dO bs x.1)).length = pre.length := by simp
    obtain ⟨x, hx⟩ : ∃ x, x = dR bs k := ⟨_, rfl⟩
    obtain ⟨t, ht⟩ : ∃ t, t = dO bs k := ⟨_, rfl⟩
    obtain ⟨rs, hrs⟩ : ∃ rs, rs = pre.map (fun x => dR bs x.1) := ⟨_, rfl⟩
    obtain ⟨os, hos⟩ : ∃ os, os = pre.map (fun x => dO bs x.1) := ⟨_, rfl⟩
    obtain ⟨q, hq⟩ : ∃ q, q = o + k * 64 := ⟨_, rfl⟩
    have hqv : chunkV 1 (some ⟨b, o, none⟩) 64 k = .slice (some ⟨b, q, none⟩) 64 64 := by simp [chunkV, hq]
    rw [← hx] at hl1 hc1 hRs
    rw [← ht] at hl2 hc2 hOs
    rw [← hrs] at hR hRs hRn
    rw [← hos] at hO hOs hOn
    rw [← hq] at hc1 hc2
    obtain ⟨m, hm⟩ : ∃ m, m = pre.length := ⟨_, rfl⟩
    rw [← hm] at hRn hOn hlt
    dsimp only
    rw [hqv]
    have hN256 : N ≤ 256 := by omega
    obtain ⟨Q, hQ⟩ : ∃ Q, Q = ownPostG w4.heap.size (Kept2 Bs Bn) I (fun _ _ _ => False) (pre ++ [⟨k, hk⟩]) W := ⟨_, rfl⟩
    have hQn : ¬ LetsOut Q := by rw [hQ]; rintro ⟨_, _, h⟩; exact h
    have hQok : Hid (∀ a W', KeepsFrom w4.heap.size W W' → Kept2 Bs Bn W W' → I (pre ++ [⟨k, hk⟩]) W' → Q .normal a W') := by
      show ∀ a W', _ → _ → _ → _
      rw [hQ]; exact fun a W' h1 h2 h3 => ⟨h1, h2, h3⟩
    rw [← hQ]
    clear hQ hx ht hrs hos hq hqv hm Hseq Hkb Hown H0 Heg Hcs
    have HRs := Lib.hid hRs
    have HOs := Lib.hid hOs
    have hII := Lib.hid hI
    clear hRs hOs hI
    obtain ⟨Ar, cr, rfl, hcr⟩ := hR.form
    obtain ⟨Ao, co, rfl, hco⟩ := hO.form
    rw [hRn] at hcr hB hR
    rw [hOn] at hco hB hO
    rw [hRn, hOn] at hap
    have HB := Lib.hid hB
    have HR := Lib.hid hR
    have HO := Lib.hid hO
    have Hap := Lib.hid hap
    have HbS' := Lib.hid bS'
    have HbN' := Lib.hid bN'
    have L1 := Lib.hid hl1
    have L2 := Lib.hid hl2
    clear hB hR hO hap bS' bN' hl1 hl2 bS bN HbS HbN Hb3
    have hc0 : W.drew.cell? ⟨w1.heap.size, 0, none⟩ = some (.slice Ar m cr) := HB.out.cell 0
    refine wpIn_block ?_
    refine wpIn_seq ?_
    refine wpIn_region_chain 7 [(true, 0), (true, 1), (true, 2), (true, 3), (true, 4), (true, 5), (false, 6)] (fun w' => w'.cell? ⟨w1.heap.size, 0, none⟩ = some (.slice Ar m cr) ∧ Cells w' b q (bytesV x)) (by kernel_rfl) (by kernel_rfl) (fun ⟨a, w, h⟩ => hQn ⟨a, w, h⟩) (by kernel_rfl) ⟨hc0, hc1⟩ ?_
    iterate 5
      refine wpTake_read _ _ ?_ rfl rfl ?_ ?_
      rotate_left 1
      focus
        intro wS hS
        have hS1 := hS.1
        have har := run_arr32 (some ⟨b, q, none⟩) 32 64 (by omega) wS
        try dsimp only at hS1
        go_simp
        first | done | with_reducible rfl
      simp only [Act.put, List.setIfInBounds_toArray, List.set_cons_zero, List.set_cons_succ]
    refine wpTake_load _ _ rfl rfl 30 _ rfl (.agg (bytesV x).toArray) (fun wS hS => run_load_dg hS.2 L1.out) ?_
    simp only [Act.put, List.setIfInBounds_toArray, List.set_cons_zero, List.set_cons_succ]
    refine wpTake_do _ _ rfl rfl (fun K hK' => ?_)
    refine wp_build_dg x L1.out _ rfl rfl ?_
    intro w6 E56 hs6 hnew
    have E6 : Ext W w6 := (Ext.refl W).drew.trans E56
    refine hK' _ _ ⟨E56.cell hc0, hc1.ext E6⟩ ?_
    clear hK' K
    refine wpTake_nil ?_
    simp only [Act.put, List.setIfInBounds_toArray, List.set_cons_zero, List.set_cons_succ, List.drop_succ_cons, List.drop_zero]
    have HR6 := Lib.hid (HR.out.ext E6)
    have Hnew := Lib.hid hnew
    have HB6 := Lib.hid (HB.out.ext E6)
    have HO6 := Lib.hid (HO.out.ext E6)
    have HS6 := Lib.hid (HbS'.out.ext E6)
    have HN6 := Lib.hid (HbN'.out.ext E6)
    have Ew6 := E.trans E6
    clear hnew HR HO HB hc0 E56 hs6
    go_wp2_with (at_builtin; refine wpList_appD HR6.out L1.out Hnew.out rfl _ _ rfl rfl rfl (by omega) (by have := Ew6.size; exact this) ?_; intro v7 w7 ho7 hg7 hq7; have hn7 := HR6.out.ne HB6.out (by decide); have hB7 := HB6.out.grown hg7 (Ne.symm hn7); have hc7 : w7.cell? ⟨w1.heap.size, 0, none⟩ = some (.slice Ar m cr) := hB7.cell 0; have hf7 := hB7.frozen 0; obtain ⟨A7, c7, e7, hc7'⟩ := ho7.form; rw [List.length_append, hRn, List.length_singleton] at e7; subst e7; have HB7 := Lib.hid hB7; have HO7 := Lib.hid ho7; have Hg7 := Lib.hid hg7; have Hq7 := Lib.hid hq7; clear hB7 ho7 hg7 hq7 hn7)
    refine NoPanic.normal ?_
    have hneS : Bs ≠ w1.heap.size := by omega
    have hneN : Bn ≠ w1.heap.size := by omega
    obtain ⟨w8, hw8⟩ : ∃ w8, w8 = w7.setCell ⟨w1.heap.size, 0, none⟩ (.slice A7 (m + 1) c7) := ⟨_, rfl⟩
    have HR8 : Hid (OwnD w8 w1.heap.size (.slice A7 (m + 1) c7) (rs ++ [x])) := by rw [hw8]; exact HO7.out.set HB7.out (by decide)
    have HO8 : Hid (OwnD w8 w1.heap.size (.slice Ao m co) os) := by rw [hw8]; exact (HO6.out.apart Hg7.out (fun j hj e => Hap.out j e hj)).set HB7.out (by decide)
    have HB8 : Hid (Blk w8 w1.heap.size 26 #[.slice A7 (m + 1) c7, .slice Ao m co]) := by rw [hw8]; exact HB7.out.set 0 _
    have HS8 : Hid (Blk w8 Bs 22 #[.slice (some ⟨b, o, none⟩) bs.length c]) := by rw [hw8]; exact (HS6.out.grown Hg7.out (Ne.symm (HR6.out.ne HS6.out (by decide)))).far hneS _
    have HN8 : Hid (Blk w8 Bn 3 #[.int .i64 ((64 : Nat) : Int)]) := by rw [hw8]; exact (HN6.out.grown Hg7.out (Ne.symm (HR6.out.ne HN6.out (by decide)))).far hneN _
    have Hap8 : Hid (∀ j, (Value.slice A7 (m + 1) c7).ownBlock = some j → (Value.slice Ao m co).ownBlock ≠ some j) := Lib.hid (apart_app Hap.out HO6.out.lt Hq7.out)
    have E8 : Ext w1 w8 := by rw [hw8]; exact (Ew6.grown Hg7.out HR6.out.from).setCell (by simp) _
    have HK8 : Hid (KeepsOthers W w8) := by rw [hw8]; exact (keeps_ext E6).trans ((keeps_own HR6.out.1 Hg7.out).trans (KeepsOthers.setCell _ _ _))
    simp only [← hw8]
    clear hf7 hc7 hc7' HB7 HO7 Hg7 Hq7 HR6 HO6 HB6 Hnew HS6 HN6 Ew6 E6 Hap hw8
    have hc0 : w8.drew.cell? ⟨w1.heap.size, 1, none⟩ = some (.slice Ao m co) := HB8.out.cell 1
    have hcb : Cells w8.drew b (q + 32) (bytesV t) := hc2.ext ((he1.trans E8).drew)
    refine wpIn_region_chain 7 [(true, 0), (true, 1), (true, 2), (true, 3), (true, 4), (true, 5), (false, 6)] (fun w' => w'.cell? ⟨w1.heap.size, 1, none⟩ = some (.slice Ao m co) ∧ Cells w' b (q + 32) (bytesV t)) (by kernel_rfl) (by kernel_rfl) (fun ⟨a, w, h⟩ => hQn ⟨a, w, h⟩) (by kernel_rfl) ⟨hc0, hcb⟩ ?_
    iterate 5
      refine wpTake_read _ _ ?_ rfl rfl ?_ ?_
      rotate_left 1
      focus
        intro wS hS
        have hS1 := hS.1
        have har := run_arr32 (some ⟨b, q + 32, none⟩) 32 32 (by omega) wS
        try dsimp only at hS1
        go_simp
        first | done | with_reducible rfl
      simp only [Act.put, List.setIfInBounds_toArray, List.set_cons_zero, List.set_cons_succ]
    refine wpTake_load _ _ rfl rfl 30 _ rfl (.agg (bytesV t).toArray) (fun wS hS => run_load_dg hS.2 L2.out) ?_
    simp only [Act.put, List.setIfInBounds_toArray, List.set_cons_zero, List.set_cons_succ]
    refine wpTake_do _ _ rfl rfl (fun K hK' => ?_)
    refine wp_build_dg t L2.out _ rfl rfl ?_
    intro w9 E89 hs9 hnew
    have E9 : Ext w8 w9 := (Ext.refl w8).drew.trans E89
    refine hK' _ _ ⟨E89.cell hc0, hcb.ext E89⟩ ?_
    clear hK' K
    refine wpTake_nil ?_
    simp only [Act.put, List.setIfInBounds_toArray, List.set_cons_zero, List.set_cons_succ, List.drop_succ_cons, List.drop_zero]
    have HR9 := Lib.hid (HR8.out.ext E9)
    have Hnew := Lib.hid hnew
    have HB9 := Lib.hid (HB8.out.ext E9)
    have HO9 := Lib.hid (HO8.out.ext E9)
    have HS9 := Lib.hid (HS8.out.ext E9)
    have HN9 := Lib.hid (HN8.out.ext E9)
    have Ew9 := E8.trans E9
    clear hnew HR8 HO8 HB8 HS8 HN8 hc0 hcb E89 hs9
    go_wp2_with (at_builtin; refine wpList_appD HO9.out L2.out Hnew.out rfl _ _ rfl rfl rfl (by omega) (by have := Ew9.size; exact this) ?_; intro v7 w7 ho7 hg7 hq7; have hn7 := HO9.out.ne HB9.out (by decide); have hB7 := HB9.out.grown hg7 (Ne.symm hn7); have hc7 : w7.cell? ⟨w1.heap.size, 1, none⟩ = some (.slice Ao m co) := hB7.cell 1; have hf7 := hB7.frozen 1; obtain ⟨A9, c9, e9, hc9'⟩ := ho7.form; rw [List.length_append, hOn, List.length_singleton] at e9; subst e9; have HB7 := Lib.hid hB7; have HO7 := Lib.hid ho7; have Hg7 := Lib.hid hg7; have Hq7 := Lib.hid hq7; clear hB7 ho7 hg7 hq7 hn7)
    refine NoPanic.normal ?_
    obtain ⟨w10, hw10⟩ : ∃ w10, w10 = w7.setCell ⟨w1.heap.size, 1, none⟩ (.slice A9 (m + 1) c9) := ⟨_, rfl⟩
    have HO10 : Hid (OwnD w10 w1.heap.size (.slice A9 (m + 1) c9) (os ++ [t])) := by rw [hw10]; exact HO7.out.set HB7.out (by decide)
    have HR10 : Hid (OwnD w10 w1.heap.size (.slice A7 (m + 1) c7) (rs ++ [x])) := by rw [hw10]; exact (HR9.out.apart Hg7.out (fun j hj e => Hap8.out j hj e)).set HB7.out (by decide)
    have HB10 : Hid (Blk w10 w1.heap.size 26 #[.slice A7 (m + 1) c7, .slice A9 (m + 1) c9]) := by rw [hw10]; exact HB7.out.set 1 _
    have HS10 : Hid (Blk w10 Bs 22 #[.slice (some ⟨b, o, none⟩) bs.length c]) := by rw [hw10]; exact (HS9.out.grown Hg7.out (Ne.symm (HO9.out.ne HS9.out (by decide)))).far hneS _
    have HN10 : Hid (Blk w10 Bn 3 #[.int .i64 ((64 : Nat) : Int)]) := by rw [hw10]; exact (HN9.out.grown Hg7.out (Ne.symm (HO9.out.ne HN9.out (by decide)))).far hneN _
    have Hap10 : Hid (∀ j, (Value.slice A9 (m + 1) c9).ownBlock = some j → (Value.slice A7 (m + 1) c7).ownBlock ≠ some j) := Lib.hid (apart_app (fun j hj e => Hap8.out j e hj) HR9.out.lt Hq7.out)
    have E10 : Ext w1 w10 := by rw [hw10]; exact (Ew9.grown Hg7.out HO9.out.from).setCell (by simp) _
    have HK10 : Hid (KeepsOthers W w10) := by rw [hw10]; exact HK8.out.trans ((keeps_ext E9).trans ((keeps_own HO9.out.1 Hg7.out).trans (KeepsOthers.setCell _ _ _)))
    simp only [← hw10]
    refine hQok.out _ _ (HK10.out.from _) ⟨HS10.out.trans HbS'.out.symm, HN10.out.trans HbN'.out.symm⟩ ?_
    rw [hII.out]
    refine ⟨⟨_, _, HB10.out, ?_, ?_, fun j hj e => Hap10.out j e hj⟩, HS10.out, HN10.out, E10⟩
    · rw [← HRs.out]; exact HR10.out
    · rw [← HOs.out]; exact HO10.out
  case done =>
    rintro D ys W hD rfl hi hK
    rw [hI] at hi
    obtain ⟨⟨vr, vo, hB, hR, hO, hap⟩, bS', bN', E⟩ := hi
    dsimp only
    rw [finMap (dR bs)] at hR
    rw [finMap (dO bs)] at hO
    have hl01 : w.heap.size < w1.heap.size := hb1.lt
    obtain ⟨Ar, cr, rfl, hcr⟩ := hR.form
    obtain ⟨Ao, co, rfl, hco⟩ := hO.form
    have hb1' : Blk W w.heap.size 26 noOne := hb1.ext E
    have HB := Lib.hid hB
    have HR := Lib.hid hR
    have HO := Lib.hid hO
    clear hB hR hO
    go_wp2_with (first | (refine wpList_load_blk HB.out rfl 26 _ rfl rfl Tryd.underlying26 rfl info_one ?_) | (refine wpList_store_blk rfl 26 _ _ rfl w.heap.size _ rfl rfl 26 noOne hb1' info_one rfl (by simp [Value.oneCell']) ?_; intro w7 hs7 hb7 hg7))
    have hlD : D < W.heap.size := (Array.getElem?_eq_some_iff.1 hK).1
    have hK7 : w7.heap[D]? = some (.deferred (some [])) := (hg7.block D hlD (by simp; omega)).trans hK
    refine ⟨by simp, .inl ⟨_, _, rfl, run_takeDeferred hK7, ?_⟩⟩
    have tn : Turn w4.heap.size w7 (w7.putObj D (.deferred none)) := ⟨some D, grownBy_putObj' w7 D _, fun r e => by cases e; exact ⟨hD, _, hK7, rfl⟩⟩
    have hne : ∀ (u : Value) (ds : List (List UInt8)), OwnD W w1.heap.size u ds → SlD (w7.putObj D (.deferred none)) u ds := fun u ds h => by
      have h7 : OwnD w7 w1.heap.size u ds := h.apart hg7 (fun j hj e => by have := h.from j hj; injection e with e; omega)
      exact OwnD.sl (base := w1.heap.size) ⟨tn.own h7.1, h7.2⟩
    have hE : Ext w (w7.putObj D (.deferred none)) := tn.ext ((he1.trans E).grown hg7 (by simp)) (by omega)
    refine ⟨_, ret2_blk (tn.blk hb7) rfl rfl Tryd.underlying26 rfl info_one rfl, ?_⟩
    have hr1 := hne _ _ HR.out
    have ho1 := hne _ _ HO.out
    exact ⟨_, _, rfl, hr1, ho1, hE⟩
  case stop =>
    rintro D c pre W _ _ h _
    exact h.elim
end Go.Proofs.YtgbdmelnmmopaaaDoor
