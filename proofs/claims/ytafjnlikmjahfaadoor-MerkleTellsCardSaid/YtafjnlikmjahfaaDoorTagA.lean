/- Contracts of sha.Tagged and pursuivantref02.Tagged: the sum of a tag and parts, each with its length. -/
import Derived.Test.YtafjnlikmjahfaaDoorTextA
namespace Go.Proofs.YtafjnlikmjahfaaDoor
open Go.RowKit

/-- a tag and parts, each with its length -/
def textsB (l : List (List UInt8)) : List UInt8 := (l.map textB).flatten
theorem textsB_nil : textsB [] = [] := rfl
theorem textsB_snoc (l : List (List UInt8)) (k : Nat) (h : k < l.length) : textsB (l.take (k + 1)) = textsB (l.take k) ++ textB l[k] := by
  unfold textsB
  rw [List.take_succ_eq_append_getElem h, List.map_append, List.flatten_append]
  simp
theorem textsB_length (l : List (List UInt8)) : (textsB l).length = 4 * l.length + total l := by
  induction l with
  | nil => rfl
  | cons x l ih =>
    have e : textsB (x :: l) = textB x ++ textsB l := by simp [textsB]
    rw [e, List.length_append, textB_length, ih]
    simp [total]
    omega
theorem total_le (l : List (List UInt8)) (m : Nat) (h : ∀ x ∈ l, x.length ≤ m) : total l ≤ l.length * m := by
  induction l with
  | nil => simp [total]
  | cons x l ih =>
    have h1 := h x (by simp)
    have h2 := ih (fun y hy => h y (by simp [hy]))
    simp only [total, List.flatten_cons, List.length_append, List.length_cons] at h2 ⊢
    rw [Nat.succ_mul]
    omega
theorem textsB_le (l : List (List UInt8)) (k : Nat) (h : ∀ x ∈ l, x.length ≤ 1048576) (hn : l.length ≤ 1001) : (textsB (l.take k)).length ≤ 1049628580 := by
  rw [textsB_length]
  have h1 := total_le (l.take k) 1048576 (fun x hx => h x (List.mem_of_mem_take hx))
  have h2 : (l.take k).length ≤ 1001 := by simp; omega
  omega
/-- THE TAGGED SUM -/
def tagB (tag : List UInt8) (parts : List (List UInt8)) : List UInt8 := sumB (textsB (tag :: parts))
theorem tagB_length (tag : List UInt8) (parts : List (List UInt8)) : (tagB tag parts).length = 32 := sumB_length _

/-- the slices' cells lie in a row that is not g, the bytes not in g -/
theorem slAll_row {w : World} {base : Nat} {v : Value} {vs : List Value} {all : List (List UInt8)} {n : Nat} (hown : w.ownsRow base 51 1 v n vs) (hn : n = all.length) (hs : ∀ (i : Nat) (bs : List UInt8), all[i]? = some bs → ∃ u, vs[i]? = some u ∧ Sl w u bs)
    {A : Option Addr} {c : Nat} (hv : v = .slice A n c) {k : Nat} (hk : k < all.length) :
    ∃ b o B d, A = some ⟨b, o, none⟩ ∧ base ≤ b ∧ w.cell? ⟨b, o + k, none⟩ = some (.slice B all[k].length d) ∧ Sl w (.slice B all[k].length d) all[k] := by
  subst hn hv
  obtain ⟨b, o, rfl, hc⟩ := (SlR.of_own hown).here (by omega)
  obtain ⟨u, hu, hs'⟩ := hs k all[k] (List.getElem?_eq_getElem hk)
  obtain ⟨B, d, rfl, _⟩ := SlR.form hs'
  refine ⟨b, o, B, d, rfl, ?_, hc k _ hu, hs'⟩
  rcases hown.2 with ⟨h, _⟩ | ⟨g, cap, cur, h, hb, _⟩
  · cases h
  · cases h; exact hb

set_option maxRecDepth 100000 in
set_option maxHeartbeats 1000000 in
theorem tagged_any (tag : ByteArray) (pv : Value) (bss : List (List UInt8)) (w : World) (hK : Kst w) (hv : SlAll w pv bss) (ht : tag.size ≤ 1048576) (hb : ∀ bs ∈ bss, bs.length ≤ 1048576) (hn : bss.length ≤ 1000) :
    Calls Tryd.prog 24 #[.string tag, pv] w fun e w' => e = .returned (dgV (tagB tag.data.toList bss)) ∧ Ext w w' := by
  obtain ⟨A, c, rfl, hc⟩ := hv.form
  have HV := Lib.hid hv
  have Hb := Lib.hid hb
  clear hv hb
  go_enter Tryd.func24, Tryd.ntmps24
  go_wp2_with (first | (refine wpList_alloc_blk rfl 30 rfl (.agg zb32) zero_a32 ?_; intro w1 hs1 hb1 he1))
  refine (new_any _).mono ?_
  rintro e w2 ⟨g, rfl, hg, H2, E2⟩
  have B2 := hb1.ext E2
  have E12 := he1.trans E2
  have hne : w.heap.size < g := by omega
  have hg2 : g < w2.heap.size := H2.lt
  clear hs1 hb1 he1 E2 hg
  obtain ⟨vs, hvs, hve⟩ := id HV.out
  have hvl : vs.length = bss.length := by simpa using hvs.1
  go_wp2_with (first | (refine wpList_conv_bytes rfl _ rfl tag rfl ?_; intro w3 c3 hs3 hz3 he3))
  have hone : SlR (w3.alloc (.cells #[.slice (some ⟨w2.heap.size, 0, none⟩) tag.size c3] 51)) 1 (.slice (some ⟨w2.heap.size + 1, 0, none⟩) 1 1) 1 [.slice (some ⟨w2.heap.size, 0, none⟩) tag.size c3] := by
    rw [← hz3]
    exact SlR.of_cells rfl (Nat.le_refl _) (fun j v hj => by rw [Nat.zero_add, (Blk.new w3 51 _).cell]; simpa using hj)
  have hss : SlSl ((w3.alloc (.cells #[.slice (some ⟨w2.heap.size, 0, none⟩) tag.size c3] 51)).alloc (.cells #[.slice (some ⟨w2.heap.size + 1, 0, none⟩) 1 1, .slice A bss.length c] 59)) (.slice (some ⟨w2.heap.size + 1 + 1, 0, none⟩) 2 2) [[.slice (some ⟨w2.heap.size, 0, none⟩) tag.size c3], vs] := by
    refine ⟨[.slice (some ⟨w2.heap.size + 1, 0, none⟩) 1 1, .slice A bss.length c], ?_, ?_⟩
    · rw [show w2.heap.size + 1 + 1 = (w3.alloc (.cells #[.slice (some ⟨w2.heap.size, 0, none⟩) tag.size c3] 51)).heap.size by simp [hz3]]
      exact SlR.of_cells rfl (Nat.le_refl _) (fun j v hj => by rw [Nat.zero_add, (Blk.new _ 59 _).cell]; simpa using hj)
    · intro i xs hi
      rcases i with _ | _ | i
      · simp at hi; subst hi; exact ⟨_, rfl, hone.ext ((Ext.refl _).alloc _)⟩
      · simp at hi; subst hi; exact ⟨_, rfl, by rw [hvl]; exact hvs.ext (((E12.trans he3).alloc _).alloc _)⟩
      · simp at hi
  have hoc : ∀ xs ∈ [[.slice (some ⟨w2.heap.size, 0, none⟩) tag.size c3], vs], ∀ u ∈ xs, u.oneCell' = true := by
    intro xs hxs u hu
    simp only [List.mem_cons, List.not_mem_nil, or_false] at hxs
    rcases hxs with rfl | rfl
    · simp only [List.mem_cons, List.not_mem_nil, or_false] at hu; subst hu; rfl
    · obtain ⟨i, hi, rfl⟩ := List.getElem_of_mem hu
      obtain ⟨v, hv1, hv2⟩ := hve i bss[i] (List.getElem?_eq_getElem (by omega))
      obtain ⟨B, d, rfl, _⟩ := SlR.form hv2
      rw [List.getElem?_eq_getElem hi] at hv1
      injection hv1 with hv1
      rw [hv1]; rfl
  have Hcall := Lib.hid (concatBB_any _ _ _ hss hoc (by simp) (by simp [totalV, hvl]; omega))
  have E3 : Ext w w3 := E12.trans he3
  have E23 := he3
  have hall : ∀ (i : Nat) (bs : List UInt8), (tag.data.toList :: bss)[i]? = some bs → ∃ u, (.slice (some ⟨w2.heap.size, 0, none⟩) tag.size c3 :: vs)[i]? = some u ∧ Sl w3 u bs := by
    intro i bs hi
    rcases i with _ | i
    · simp at hi; subst hi; exact ⟨_, rfl, hs3⟩
    · rw [List.getElem?_cons_succ] at hi ⊢
      obtain ⟨v, h1, h2⟩ := hve i bs hi
      exact ⟨v, h1, h2.ext E3⟩
  have Hall := Lib.hid hall
  have Hvl := Lib.hid hvl
  clear hss hoc hone hall hvs hve hvl hs3 he3 E12
  refine Hcall.out.mono ?_
  rintro e w5 ⟨v5, rfl, O5, E5⟩
  clear Hcall
  have O5' : Hid (w5.ownsRow (w2.heap.size + 1 + 1 + 1) 51 1 v5 (bss.length + 1) (.slice (some ⟨w2.heap.size, 0, none⟩) tag.size c3 :: vs)) := by
    have h5 := O5
    simp only [World.size_alloc, hz3, List.flatten_cons, List.flatten_nil, List.append_nil, List.cons_append, List.nil_append, List.length_cons, Hvl.out] at h5
    exact h5
  have E35 : Ext w3 w5 := (((Ext.refl w3).alloc _).alloc _).trans E5
  clear O5 E5
  have H5 := H2.ext (E23.trans E35)
  have B5 := B2.ext (E23.trans E35)
  have Ew5 := E3.trans E35
  have hfl : Hid ((([[.slice (some ⟨w2.heap.size, 0, none⟩) tag.size c3], vs] : List (List Value)).flatten).length = bss.length + 1) := by
    show _ = _
    simp [Hvl.out]
  obtain ⟨A5, c5, rfl, hc5⟩ := own_form O5'.out
  obtain ⟨all, hal⟩ : ∃ all, all = tag.data.toList :: bss := ⟨_, rfl⟩
  have hln : all.length = bss.length + 1 := by rw [hal]; rfl
  have hab : ∀ x ∈ all, x.length ≤ 1048576 := by
    rw [hal]
    intro x hx
    rcases List.mem_cons.1 hx with rfl | hx
    · exact ht
    · exact Hb.out x hx
  have Hab := Lib.hid hab
  have Hal := Lib.hid hal
  have Hln := Lib.hid hln
  rw [← hal] at Hall
  have Hall5 : Hid (∀ (i : Nat) (bs : List UInt8), all[i]? = some bs → ∃ u, (.slice (some ⟨w2.heap.size, 0, none⟩) tag.size c3 :: vs)[i]? = some u ∧ Sl w5 u bs) := by
    intro i bs hi
    obtain ⟨u, h1, h2⟩ := Hall.out i bs hi
    exact ⟨u, h1, h2.ext E35⟩
  obtain ⟨Ah, ch, Hbk, Hhs⟩ := id H5
  have hnb := hash_noByte Hbk
  have Hnb := Lib.hid hnb
  clear hab hal hln Hall H2 B2 E3 E23 E35 Hbk Hhs hnb
  go_wp2
  go_loopw [18] (fun i wr => ∃ k : Nat, k ≤ bss.length + 1 ∧ i = .int .i64 k ∧ Blk wr w.heap.size 30 zb32 ∧ HashAt wr g (feed start (textsB (all.take k))).1 (feed start (textsB (all.take k))).2 (textsB (all.take k)).length ∧ w5.grownBy wr (some g) ∧ Ext w wr) (fun i _ => bss.length + 1 - (intOf i).toNat)
  case atStart => exact ⟨0, by omega, rfl, B5, by rw [List.take_zero, textsB_nil, feed_less start [] (by simp)]; exact H5, ⟨rfl, rfl, rfl, Nat.le_refl _, fun _ _ _ => rfl⟩, Ew5⟩
  case round =>
    clear B5 H5 Ew5
    obtain ⟨k, hk, rfl, B, H, G, E⟩ := hrel
    by_cases hlt : k < bss.length + 1
    · obtain ⟨b, o, B', d, rfl, hbb, hcell, hs⟩ := slAll_row O5'.out Hln.out.symm Hall5.out rfl (show k < all.length by rw [Hln.out]; exact hlt)
      have hkl : k < all.length := by rw [Hln.out]; exact hlt
      have hcell2 := G.cell hcell (by simp; omega)
      have hs2 := hs.grown G Hnb.out
      have hcv := run_conv_str hs2
      have hkb := Hab.out all[k] (List.getElem_mem hkl)
      have h1 := textsB_snoc all k hkl
      have hsm := textsB_le all (k + 1) Hab.out (by rw [Hln.out]; omega)
      have hl1 : (textsB (all.take (k + 1))).length = (textsB (all.take k)).length + (textB all[k]).length := by rw [h1, List.length_append]
      have H1 := Lib.hid h1
      have HL1 := Lib.hid hl1
      have Hsm := Lib.hid hsm
      have HH := Lib.hid H
      have HB' := Lib.hid hbb
      clear h1 hsm hl1 H hs hcell hs2 hbb
      obtain ⟨x, hx⟩ : ∃ x, x = all[k] := ⟨_, rfl⟩
      rw [← hx] at hcv hkb H1 HL1 hcell2
      have Hx := Lib.hid hx
      clear hx
      go_wp2_with fail
      refine (oText_any (strB x) (by rw [strB_size]; exact hkb) _).mono ?_
      rintro e w6 ⟨v6, rfl, O6, E6⟩
      rw [strB_data] at O6
      have Hw := Lib.hid (write_any g _ _ (textB x) _ v6 w6 ((hK.ext E).ext E6) (HH.out.ext E6) O6.sl (feed_rest_lt _ _) (by have := HL1.out; have := Hsm.out; omega))
      clear O6 hcv
      go_wp2_with fail
      refine Hw.out.mono ?_
      rintro e w7 ⟨rfl, H7, G7⟩
      clear Hw
      have H7' : Hid (HashAt w7 g (feed start (textsB (all.take (k + 1)))).1 (feed start (textsB (all.take (k + 1)))).2 (textsB (all.take (k + 1))).length) := by
        rw [HL1.out, H1.out, feed_append start]; exact H7
      clear H7
      have B7 := (B.ext E6).grown G7 (by simp; omega)
      have E7 := (E.trans E6).grown G7 (by simp; omega)
      have G57 := grown_trans (grown_ext G E6) G7
      go_wp2
      go_roundw
      case rel => exact ⟨k + 1, by omega, by go_num, B7, H7'.out, G57, E7⟩
      case measure => simp [intOf]; omega
    · obtain rfl : k = bss.length + 1 := by omega
      rw [List.take_of_length_le (by rw [Hln.out]; omega)] at H
      have hsm := textsB_le all all.length Hab.out (by rw [Hln.out]; omega)
      rw [List.take_length] at hsm
      have Hs := Lib.hid (sum_any g _ _ _ wr (hK.ext E) H (feed_rest_lt _ _) (by rw [feed_rest_mod]) (by omega))
      have hsum : Hid (outB (feed (feed start (textsB all)).1 ((feed start (textsB all)).2 ++ padB (textsB all).length)).1 = tagB tag.data.toList bss) := by
        show _ = sumB (textsB (tag.data.toList :: bss))
        rw [← Hal.out]
        exact (sumB_of_rest _).symm
      rw [hsum.out] at Hs
      have hl := tagB_length tag.data.toList bss
      obtain ⟨z, hz⟩ : ∃ z, z = tagB tag.data.toList bss := ⟨_, rfl⟩
      rw [← hz] at Hs hl
      have Hz := Lib.hid hz
      have Hl := Lib.hid hl
      clear hz hl H hsum hsm
      have hz32 : Hid (zb32.size = (bytesV z).toArray.size) := zb32_size _ Hl.out
      have hi32 : Hid ((Tryd.prog.info? 30).map (·.size) = some (bytesV z).toArray.size) := by rw [List.size_toArray, bytesV_length, Hl.out]; exact info_a32
      go_wp2_with fail
      refine Hs.out.mono ?_
      rintro e w3 ⟨rfl, E3⟩
      have B3 := B.ext E3
      go_wp2_with (first | (refine wpList_store_blk rfl 30 _ _ rfl w.heap.size (bytesV z).toArray rfl rfl 30 zb32 B3 hi32.out hz32.out (bytes_one _) ?_; intro w7 hs7 hb7 hg7))
      refine bodyPost_ret (v := dgV z) (ret_blk hb7 rfl rfl Tryd.underlying30 rfl hi32.out) rfl ?_
      exact ⟨by rw [Hz.out], (E.trans E3).grown hg7 (by simp)⟩

set_option maxRecDepth 100000 in
set_option maxHeartbeats 1000000 in
theorem rTagged_any (tag : ByteArray) (pv : Value) (bss : List (List UInt8)) (w : World) (hv : SlAll w pv bss) (ht : tag.size ≤ 1048576) (hb : ∀ bs ∈ bss, bs.length ≤ 1048576) (hn : bss.length ≤ 1000) :
    Calls Tryd.prog 25 #[.string tag, pv] w fun e w' => e = .returned (dgV (tagB tag.data.toList bss)) ∧ Ext w w' := by
  obtain ⟨A, c, rfl, hc⟩ := hv.form
  have HV := Lib.hid hv
  have Hb := Lib.hid hb
  clear hv hb
  obtain ⟨all, hal⟩ : ∃ all, all = tag.data.toList :: bss := ⟨_, rfl⟩
  have hln : all.length = bss.length + 1 := by rw [hal]; rfl
  have hab : ∀ x ∈ all, x.length ≤ 1048576 := by
    rw [hal]
    intro x hx
    rcases List.mem_cons.1 hx with rfl | hx
    · exact ht
    · exact Hb.out x hx
  have Hab := Lib.hid hab
  have Hal := Lib.hid hal
  have Hln := Lib.hid hln
  clear hab hal hln
  go_enter Tryd.func25, Tryd.ntmps25
  go_wp2_with (first | (refine wpList_alloc_blk rfl 30 rfl (.agg zb32) zero_a32 ?_; intro w1 hs1 hb1 he1; clear hs1))
  refine (rText_any tag ht _).mono ?_
  rintro e w2 ⟨v2, rfl, O2, E2⟩
  have hl1 : w.heap.size < w1.heap.size := hb1.lt
  have O2' : Hid (Own w2 w1.heap.size v2 (textsB (all.take 1))) := by
    show Own _ _ _ _
    rw [Hal.out]
    simpa [textsB] using O2
  have B2 := hb1.ext E2
  clear O2 hb1
  go_wp2
  go_loopw [6, 5] (fun i v wr => ∃ k : Nat, k ≤ bss.length ∧ i = .int .i64 k ∧ Blk wr w.heap.size 30 zb32 ∧ Own wr w1.heap.size v (textsB (all.take (k + 1))) ∧ Ext w1 wr) (fun i _ _ => bss.length - (intOf i).toNat)
  case atStart => exact ⟨0, by omega, rfl, B2, O2'.out, E2⟩
  case round =>
    clear B2 O2' E2
    obtain ⟨k, hk, rfl, B, O, E⟩ := hrel
    have HO := Lib.hid O
    clear O
    by_cases hlt : k < bss.length
    · obtain ⟨b, o, B', d, rfl, hcell, hs⟩ := HV.out.at_ hlt
      have hkl : k + 1 < all.length := by rw [Hln.out]; omega
      have hcell2 := (he1.trans E).cell hcell
      have hcv := run_conv_str (hs.ext (he1.trans E))
      have hkb := Hb.out bss[k] (List.getElem_mem hlt)
      have h1 := textsB_snoc all (k + 1) hkl
      have hg : all[k + 1]'hkl = bss[k] := by simp [Hal.out]
      rw [hg] at h1
      have hsm := textsB_le all (k + 1 + 1) Hab.out (by rw [Hln.out]; omega)
      have hl1' : (textsB (all.take (k + 1 + 1))).length = (textsB (all.take (k + 1))).length + (textB bss[k]).length := by rw [h1, List.length_append]
      have H1 := Lib.hid h1
      have HL1 := Lib.hid hl1'
      have Hsm := Lib.hid hsm
      clear h1 hsm hl1' hs hcell hg
      obtain ⟨x, hx⟩ : ∃ x, x = bss[k] := ⟨_, rfl⟩
      rw [← hx] at hcv hkb H1 HL1 hcell2
      have Hx := Lib.hid hx
      clear hx
      go_wp2_with fail
      refine (rText_any (strB x) (by rw [strB_size]; exact hkb) _).mono ?_
      rintro e w6 ⟨v6, rfl, O6, E6⟩
      rw [strB_data] at O6
      have HO6 := Lib.hid O6
      clear O6 hcv
      go_wp2_with (at_builtin; refine wpList_appB (HO.out.ext E6) HO6.out.sl rfl _ _ rfl rfl rfl (by have := HL1.out; have := Hsm.out; omega) (by have := (E.trans E6).size; exact this) ?_; intro v8 w8 ho8 hg8 _)
      have O8 : Own w8 w1.heap.size v8 (textsB (all.take (k + 1 + 1))) := by rw [H1.out]; exact ho8
      have B8 := (B.ext E6).grown hg8 (by intro e; have := HO.out.from _ e.symm; omega)
      have E8 := (E.trans E6).grown hg8 HO.out.from
      clear ho8 hg8 HO6
      go_roundw
      case rel => exact ⟨k + 1, by omega, by go_num, B8, O8, E8⟩
      case measure => simp [intOf]; omega
    · obtain rfl : k = bss.length := by omega
      have hz : textsB (all.take (bss.length + 1)) = textsB (tag.data.toList :: bss) := by rw [List.take_of_length_le (by rw [Hln.out]; omega), Hal.out]
      have hsm := textsB_le all (bss.length + 1) Hab.out (by rw [Hln.out]; omega)
      rw [hz] at HO hsm
      have Hs := Lib.hid (rOf_any _ _ wr HO.out.sl (by omega))
      have hl := tagB_length tag.data.toList bss
      obtain ⟨z, hz'⟩ : ∃ z, z = tagB tag.data.toList bss := ⟨_, rfl⟩
      rw [show sumB (textsB (tag.data.toList :: bss)) = z from hz'.symm] at Hs
      rw [← hz'] at hl
      have Hz := Lib.hid hz'
      have Hl := Lib.hid hl
      clear hz hz' hl hsm
      have hz32 : Hid (zb32.size = (bytesV z).toArray.size) := zb32_size _ Hl.out
      have hi32 : Hid ((Tryd.prog.info? 30).map (·.size) = some (bytesV z).toArray.size) := by rw [List.size_toArray, bytesV_length, Hl.out]; exact info_a32
      go_wp2_with fail
      refine Hs.out.mono ?_
      rintro e w3 ⟨rfl, E3⟩
      have B3 := B.ext E3
      go_wp2_with (first | (refine wpList_store_blk rfl 30 _ _ rfl w.heap.size (bytesV z).toArray rfl rfl 30 zb32 B3 hi32.out hz32.out (bytes_one _) ?_; intro w7 hs7 hb7 hg7))
      refine bodyPost_ret (v := dgV z) (ret_blk hb7 rfl rfl Tryd.underlying30 rfl hi32.out) rfl ?_
      exact ⟨by rw [Hz.out], (he1.trans (E.trans E3)).grown hg7 (by simp)⟩
end Go.Proofs.YtafjnlikmjahfaaDoor
