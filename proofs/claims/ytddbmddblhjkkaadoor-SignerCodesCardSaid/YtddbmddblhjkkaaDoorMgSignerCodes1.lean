/- PROVED: the law SignerCodes of package pursuivantlaw09 returns true at every input and leaves its arguments as they were: any signature's code is the reference's, what any bytes are as one is the reference's, and a code is decoded to its signature. CONDITION: the package-level variable sha.constants holds what its initialiser lays (the card ties it). -/
import Derived.Test.YtddbmddblhjkkaaDoorMgA5
import Derived.Test.YtddbmddblhjkkaaDoorMgA4
import Derived.Deep.Strs
import Derived.Deep.Cut
import Derived.Test.YtddbmddblhjkkaaDoorMgA3
import Derived.Test.YtddbmddblhjkkaaDoorCards
import Derived.Test.YtddbmddblhjkkaaDoorTie
/- Arguments that are public keys, signatures and calls of a signer, opened. -/
namespace Go.Proofs.YtddbmddblhjkkaaDoor
open Go.ChangeShapes Go.WideShapes Go.ChangeAt Go.RowKit

section
variable {H : Type} {enc : TypeId × Value → H}
theorem cells_int : Tryd.prog.cellsOf 3 = 1 := by kernel_rfl
theorem i64_wf {x : Int} (wx : (Lit.int .i64 x).wf = true) : -9223372036854775808 ≤ x ∧ x ≤ 9223372036854775807 := by
  simp [Lit.wf, IntKind.min, IntKind.max, IntKind.signed, IntKind.bits] at wx
  omega
theorem cells_pk : Tryd.prog.cellsOf 45 = 34 := by kernel_rfl
set_option maxRecDepth 100000 in
theorem open_PubKey {w : World} {r : Reach} {b0 : Nat} {base : Nat} {spare : Nat → Bool} {held : Bool} {v : Value} {d : DataW H} {ps : List MemPlace} (hval : Value.okWide Tryd.prog w r b0 45 v) (h : DataW.Trod enc Tryd.prog w base spare held 45 v d ps) :
    ∃ (b h : Int) (r : List UInt8), v = .agg (pkC b h r) ∧ r.length = 32 ∧ (-9223372036854775808 ≤ b ∧ b ≤ 9223372036854775807) ∧ (-9223372036854775808 ≤ h ∧ h ≤ 9223372036854775807) := by
  obtain ⟨cs, rfl, hsz⟩ := okWide_struct Tryd.underlying45 hval
  obtain ⟨fuel, hf⟩ := h
  obtain ⟨y0, y1, y2, n, _, _, h0, h1, h2⟩ := Deep.trod_struct3 Tryd.underlying45 hf
  rw [cells_pk] at hsz
  obtain ⟨l⟩ := cs
  match l, hsz with
  | u0 :: u1 :: rest, hsz =>
    have hr : rest.length = 32 := by simpa using hsz
    dsimp only at h0 h1 h2
    rw [cells_int] at h0 h1
    rw [cells_a32] at h2
    obtain ⟨i0, e0, _, w0⟩ := DataW.trod_int Tryd.underlying3 h0
    obtain ⟨i1, e1, _, w1⟩ := DataW.trod_int Tryd.underlying3 h1
    obtain ⟨r, e2, hl⟩ := trod_a32 h2
    simp [Value.cells] at e0 e1 e2
    rw [List.take_of_length_le (by omega)] at e2
    subst e0 e1 e2
    exact ⟨i0, i1, r, rfl, hl, i64_wf w0, i64_wf w1⟩
theorem cells_once : Tryd.prog.cellsOf 35 = 2 := by kernel_rfl
theorem cells_sig : Tryd.prog.cellsOf 37 = 4 := by kernel_rfl
set_option maxRecDepth 100000 in
theorem open_Sig {w : World} {r : Reach} {b0 : Nat} {base : Nat} {spare : Nat → Bool} {held : Bool} {v : Value} {d : DataW H} {ps : List MemPlace} (hval : Value.okWide Tryd.prog w r b0 37 v) (h : DataW.Trod enc Tryd.prog w base spare held 37 v d ps) :
    ∃ (i : Int) (rv ov wv : Value) (rev oth way : List (List UInt8)), v = .agg (sigC i rv ov wv) ∧ (-9223372036854775808 ≤ i ∧ i ≤ 9223372036854775807) ∧ SlD w rv rev ∧ SlD w ov oth ∧ SlD w wv way := by
  obtain ⟨cs, rfl, hsz⟩ := okWide_struct Tryd.underlying37 hval
  obtain ⟨fuel, hf⟩ := h
  obtain ⟨y0, y1, y2, n, _, _, h0, h1, h2⟩ := Deep.trod_struct3 Tryd.underlying37 hf
  rw [cells_sig] at hsz
  obtain ⟨l⟩ := cs
  match l, hsz with
  | [u0, u1, u2, u3], _ =>
    dsimp only at h0 h1 h2
    rw [cells_int] at h0
    rw [cells_once] at h1
    rw [cells_ds] at h2
    obtain ⟨i0, e0, _, w0⟩ := DataW.trod_int Tryd.underlying3 h0
    obtain ⟨y3, y4, n', _, _, h3, h4⟩ := trod_struct2 Tryd.underlying35 h1
    dsimp only at h3 h4
    rw [cells_ds] at h3 h4
    obtain ⟨rev, hr, _⟩ := trod_ds h3
    obtain ⟨oth, ho, _⟩ := trod_ds h4
    obtain ⟨way, hw, _⟩ := trod_ds h2
    simp [Value.cells] at e0
    subst e0
    exact ⟨i0, u1, u2, u3, rev, oth, way, rfl, i64_wf w0, hr, ho, hw⟩
theorem cells_Op : Tryd.prog.cellsOf 32 = 3 := by kernel_rfl
set_option maxRecDepth 100000 in
theorem open_Op {w : World} {r : Reach} {b0 : Nat} {base : Nat} {spare : Nat → Bool} {held : Bool} {v : Value} {d : DataW H} {ps : List MemPlace} (hval : Value.okWide Tryd.prog w r b0 32 v) (h : DataW.Trod enc Tryd.prog w base spare held 32 v d ps) :
    ∃ (k l : Int) (mv : Value), v = .agg #[.int .i64 k, .int .i64 l, mv] := by
  obtain ⟨v0, v1, v2, y0, y1, y2, n, rfl, _, _, h0, h1, _⟩ := Joins.open_agg3 Tryd.underlying32 (by kernel_rfl) cells_Op hval h
  obtain ⟨i0, e0, _, _⟩ := DataW.trod_int Tryd.underlying3 h0
  obtain ⟨i1, e1, _, _⟩ := DataW.trod_int Tryd.underlying3 h1
  simp at e0 e1
  subst e0 e1
  exact ⟨i0, i1, v2, rfl⟩
end
end Go.Proofs.YtddbmddblhjkkaaDoor
/- The reference's Encode of a signer's signature. -/
namespace Go.Proofs.YtddbmddblhjkkaaDoor
open Go.RowKit Go.Maps

set_option maxRecDepth 100000 in
set_option maxHeartbeats 1000000 in
theorem r9Encode_no (i : Int) (rv ov wv : Value) (rev oth way : List (List UInt8)) (w : World) (hrv : SlD w rv rev) (hov : SlD w ov oth) (hwv : SlD w wv way) (hno : encOk i rev.length oth.length way.length = false) :
    Calls Tryd.prog 25 #[.agg (sigC i rv ov wv)] w fun e w' => e = .returned (.tuple #[.slice none 0 0, .int .i64 1]) ∧ Ext w w' := by
  obtain ⟨Ar, cr, rfl, hcr⟩ := hrv.form
  obtain ⟨Ao, co, rfl, hco⟩ := hov.form
  obtain ⟨Aw, cw, rfl, hcw⟩ := hwv.form
  have hB := Blk.new w 37 (sigC i (.slice Ar rev.length cr) (.slice Ao oth.length co) (.slice Aw way.length cw))
  have E0 : Ext w (w.alloc (.cells (sigC i (.slice Ar rev.length cr) (.slice Ao oth.length co) (.slice Aw way.length cw)) 37)) := (Ext.refl w).alloc _
  have d0 := (sigC_cells hB).1
  have d3 := (sigC_cells hB).2.2.2
  have HO := Lib.hid (sigC_once hB)
  have hi1 : (Tryd.prog.info? 35).map (·.size) = some 2 := info_one
  have Hno := fun w => Lib.hid (r7Encode_no Ar Ao rev.length oth.length cr co w)
  have Hyes := fun w' (E : Ext w w') => Lib.hid (r7Encode_yes (.slice Ar rev.length cr) (.slice Ao oth.length co) rev oth w' (hrv.ext E) (hov.ext E))
  obtain ⟨S, hS⟩ : ∃ S, S = sigC i (.slice Ar rev.length cr) (.slice Ao oth.length co) (.slice Aw way.length cw) := ⟨_, rfl⟩
  rw [← hS] at E0 d0 d3 HO ⊢
  clear hB hS hrv hov hwv
  by_cases hwh : wholeB rev.length oth.length = true
  · have hcase : i < 0 ∨ (¬ i < 0 ∧ i > 1073741824) ∨ (¬ i < 0 ∧ ¬ i > 1073741824 ∧ (way.length : Int) > 6) := by
      have hf : ¬ (encOk i rev.length oth.length way.length = true) := by rw [hno]; simp
      rw [encOk_iff] at hf
      by_cases h1 : i < 0
      · exact .inl h1
      · by_cases h2 : i > 1073741824
        · exact .inr (.inl ⟨h1, h2⟩)
        · refine .inr (.inr ⟨h1, h2, ?_⟩)
          by_cases h3 : way.length ≤ 6
          · exact absurd ⟨hwh, by omega, by omega, h3⟩ hf
          · omega
    have Hy := fun w' (E : Ext w w') => Lib.hid ((Hyes w' E).out hwh)
    clear Hyes Hno hno hwh
    go_enter Tryd.func25, Tryd.ntmps25
    go_wp2_with (refine wpList_load_mid HO.out rfl 35 _ rfl rfl Tryd.underlying35 rfl hi1 ?_)
    with_reducible refine (Hy _ E0).out.mono ?_
    rintro e w2 ⟨v, rfl, hv, E2⟩
    replace d0 := E2.cell d0
    replace d3 := E2.cell d3
    have E := E0.trans E2
    clear E0 E2 hv Hy HO
    rcases hcase with h1 | ⟨h1, h2⟩ | ⟨h1, h2, h3⟩
    · go_wp2
      go_ret2
      exact ⟨rfl, E⟩
    · go_wp2
      go_ret2
      exact ⟨rfl, E⟩
    · go_wp2
      go_ret2
      exact ⟨rfl, E⟩
  · have hwf : wholeB rev.length oth.length = false := by simpa using hwh
    have Hn := fun w => Lib.hid ((Hno w).out hwf)
    clear Hyes Hno hno hwh hwf
    go_enter Tryd.func25, Tryd.ntmps25
    go_wp2_with (refine wpList_load_mid HO.out rfl 35 _ rfl rfl Tryd.underlying35 rfl hi1 ?_)
    with_reducible refine (Hn _).out.mono ?_
    rintro e w2 ⟨rfl, E2⟩
    go_wp2
    go_ret2
    exact ⟨rfl, E0.trans E2⟩


set_option maxRecDepth 100000 in
set_option maxHeartbeats 1000000 in
theorem r9Encode_yes (i : Nat) (rv ov wv : Value) (rev oth way : List (List UInt8)) (w : World) (hrv : SlD w rv rev) (hov : SlD w ov oth) (hwv : SlD w wv way) (hok : encOk i rev.length oth.length way.length = true) :
    Calls Tryd.prog 25 #[.agg (sigC i rv ov wv)] w fun e w' => ∃ v, e = .returned (.tuple #[v, .int .i64 0]) ∧ Sl w' v (sigB i rev oth way) ∧ Ext w w' := by
  obtain ⟨hwh, hi0, hi30, hw6⟩ := (encOk_iff _ _ _ _).1 hok
  obtain ⟨hwe, hwm⟩ := (wholeB_iff _ _).1 hwh
  obtain ⟨hm1, hm2, _⟩ := (mayB_iff _).1 hwm
  have hel : (encS rev oth rev.length).length ≤ 16384 := by rw [encS_length rev oth rev.length hrv.2 hov.2 (Nat.le_refl _) (by omega)]; omega
  obtain ⟨Ar, cr, rfl, hcr⟩ := hrv.form
  obtain ⟨Ao, co, rfl, hco⟩ := hov.form
  obtain ⟨Aw, cw, rfl, hcw⟩ := hwv.form
  have hB := Blk.new w 37 (sigC i (.slice Ar rev.length cr) (.slice Ao oth.length co) (.slice Aw way.length cw))
  have E0 : Ext w (w.alloc (.cells (sigC i (.slice Ar rev.length cr) (.slice Ao oth.length co) (.slice Aw way.length cw)) 37)) := (Ext.refl w).alloc _
  have d0 := (sigC_cells hB).1
  have d3 := (sigC_cells hB).2.2.2
  have HO := Lib.hid (sigC_once hB)
  have hi1 : (Tryd.prog.info? 35).map (·.size) = some 2 := info_one
  have Hy := fun w' (E : Ext w w') => Lib.hid (r7Encode_yes (.slice Ar rev.length cr) (.slice Ao oth.length co) rev oth w' (hrv.ext E) (hov.ext E) hwh)
  have Hp := fun w' => Lib.hid (rPut_int i 4 i 4 rfl rfl (by omega) (by omega) (by omega) (fit4 _ (by omega)) w')
  have HW := Lib.hid hwv
  obtain ⟨S, hS⟩ : ∃ S, S = sigC i (.slice Ar rev.length cr) (.slice Ao oth.length co) (.slice Aw way.length cw) := ⟨_, rfl⟩
  rw [← hS] at E0 d0 d3 HO ⊢
  obtain ⟨en, hen⟩ : ∃ en, en = encS rev oth rev.length := ⟨_, rfl⟩
  unfold sigB
  rw [← hen] at hel ⊢
  simp only [← hen] at Hy
  have HWS := fun w' (E : Ext w w') => Lib.hid (HW.out.ext E)
  have Hok := Lib.hid HW.out.2
  clear hB hS hrv hov hwv hok hen hwh hwm hwe HW
  have hi0' : ¬ ((i : Int) < 0) := by omega
  have hi30' : ¬ ((i : Int) > 1073741824) := by omega
  have hw6' : ¬ ((way.length : Int) > 6) := by omega
  go_enter Tryd.func25, Tryd.ntmps25
  go_wp2_with (refine wpList_load_mid HO.out rfl 35 _ rfl rfl Tryd.underlying35 rfl hi1 ?_)
  with_reducible refine (Hy _ E0).out.mono ?_
  rintro e w2 ⟨v2, rfl, hv2, E2⟩
  have pack := And.intro E0 (And.intro E2 (And.intro d0 d3))
  clear E0 E2 d0 d3 Hy HO
  revert pack
  generalize w.alloc (.cells S 37) = wb
  rintro ⟨E0, E2, d0, d3⟩
  have e0 := E2.cell d0
  have e3 := E2.cell d3
  have Hv2 := Lib.hid hv2
  clear hv2 d0
  go_wp2_with fail
  with_reducible refine (Hp _).out.mono ?_
  rintro e w3 ⟨v3, rfl, hv3, E3⟩
  have HO3 : Hid (Own w3 w2.heap.size v3 (putB i 4)) := Lib.hid (own_mk hv3 (putB_length i 4).symm rfl)
  have HS3 := Lib.hid (Hv2.out.ext E3)
  have h23 := E3.size
  have hw2 := E2.size
  have F3 := E2.trans E3
  clear hv3 Hv2 E3 E2 Hp e0 e3
  go_wp2_with (at_builtin; refine wpList_appB HO3.out HS3.out rfl _ _ rfl rfl rfl (by rw [putB_length]; omega) h23 ?_; intro v4 w4 ho4 hg4 hq4; have F4 := F3.grown hg4 (fun j hj => Nat.le_trans hw2 (HO3.out.from j hj)); have HO4 := Lib.hid ho4; have e3 := F4.cell d3; have h24 := Nat.le_trans h23 hg4.size; clear hg4 ho4 hq4)
  clear e3 HO3 HS3 F3 h23
  go_wp2
  go_loopw [6, 8] (fun a j wr => ∃ k : Nat, k ≤ way.length ∧ j = .int .i64 k ∧ Own wr w2.heap.size a (putB i 4 ++ en ++ (way.take k).flatten) ∧ Ext wb wr ∧ w2.heap.size ≤ wr.heap.size) (fun _ j _ => way.length - (intOf j).toNat)
  case atStart => exact ⟨0, by omega, rfl, by simpa using HO4.out, F4, h24⟩
  case round =>
    obtain ⟨k, hkb, rfl, hO, E, hsz⟩ := hrel
    have hlen : (way.take k).flatten.length ≤ 32 * 6 := by
      have : (way.take k).flatten.length = 32 * (way.take k).length := dsOk_length (fun x hx => Hok.out x (List.mem_of_mem_take hx))
      rw [this, List.length_take]
      omega
    have HOw := Lib.hid hO
    have Hlen := Lib.hid hlen
    clear hO hlen
    by_cases hlt : k < way.length
    · obtain ⟨b, o, rfl, hcd⟩ := (HWS wr (E0.trans E)).out.at_ hlt
      have hld := (HWS wr (E0.trans E)).out.len hlt
      have hst := flat_take way k hlt
      obtain ⟨x, hx⟩ : ∃ x, x = way[k] := ⟨_, rfl⟩
      rw [← hx] at hcd hld hst
      have Hcd := Lib.hid hcd
      have Hld := Lib.hid hld
      have Hst := Lib.hid hst
      clear hx hcd hld hst HWS
      have c3 := E.cell d3
      go_wp2_with (first | (at_builtin; refine wpList_appB HOw.out (sl_cells Hcd.out Hld.out) rfl _ _ rfl rfl rfl (by simp only [List.length_append, putB_length, Hld.out]; have := Hlen.out; omega) hsz ?_; intro v6 w6 ho6 hg6 _))
      have F6 := E.grown hg6 (fun j hj => Nat.le_trans hw2 (HOw.out.from j hj))
      have O6 : Own w6 w2.heap.size v6 (putB i 4 ++ en ++ (way.take (k + 1)).flatten) := by
        rw [Hst.out, ← List.append_assoc]; exact ho6
      have hs6 := hg6.size
      clear ho6 hg6
      exact ⟨⟨k + 1, by omega, by go_num, O6, F6, by omega⟩, by simp [intOf]; omega⟩
    · obtain rfl : k = way.length := by omega
      have S := HOw.out.sl
      rw [List.take_length] at S
      have c3 := E.cell d3
      go_wp2
      go_ret2
      exact ⟨_, rfl, S, E0.trans E⟩
end Go.Proofs.YtddbmddblhjkkaaDoor
/- The reference's Reader: Spoil; Bytes and Int where they may not be. -/
namespace Go.Proofs.YtddbmddblhjkkaaDoor
open Go.RowKit Go.Maps

/-- what is left of block g's reader lies below q -/
def RdQ (q : Nat) (w : World) (g : Nat) : Prop := ∃ A n c bad, Blk w g 99 #[.slice A n c, .bool bad] ∧ ∀ a : Addr, A = some a → 0 < n → a.block < q
theorem rdq_set {w w3 : World} {g m d m' c' b0 o0 o1 : Nat} {bad : Bool} (F : Ext w w3) (hB : Blk w g 99 #[.slice (some ⟨b0, o0, none⟩) m d, .bool bad]) (hle : 0 < m' → 0 < m) (q : Nat) (h : RdQ q w g) : RdQ q (w3.setCell ⟨g, 0, none⟩ (.slice (some ⟨b0, o1, none⟩) m' c')) g := by
  obtain ⟨A, n, c, bad', hB', ha⟩ := h
  have h1 := hB.symm.trans hB'
  have h2 : A = some ⟨b0, o0, none⟩ ∧ n = m := by
    simp at h1
    exact ⟨h1.1.1.symm, h1.1.2.1.symm⟩
  exact ⟨_, _, _, _, (hB.ext F).set 0 _, fun a e h0 => by cases e; exact ha ⟨b0, o0, none⟩ h2.1 (by rw [h2.2]; exact hle h0)⟩

set_option maxRecDepth 100000 in
theorem rSpoil_any (g : Nat) (rest : List UInt8) (bad : Bool) (w : World) (h : Rd 99 w g rest bad) :
    Calls Tryd.prog 80 #[.pointer (some ⟨g, 0, none⟩)] w fun e w' => e = .returned (.tuple #[]) ∧ Rd 99 w' g [] true ∧ w.grownBy w' (some g) ∧ ∀ q, RdQ q w' g := by
  obtain ⟨A, c, hB, hS, hb⟩ := h
  have c0 : w.cell? ⟨g, 0, none⟩ = some (.slice A rest.length c) := hB.cell 0
  have c1 : w.cell? ⟨g, 1, none⟩ = some (.bool bad) := hB.cell 1
  have f0 := hB.frozen 0
  have f1 := hB.frozen 1
  go_enter Tryd.func80, Tryd.ntmps80
  go_wp2
  go_end0
  have hfin := (hB.set 1 (.bool true)).set 0 (.slice none 0 0)
  refine ⟨rfl, ⟨none, 0, hfin, SlR.none_ _ _ _ _, fun _ => rfl⟩, ?_, fun q => ⟨none, 0, 0, true, hfin, fun a e => by cases e⟩⟩
  exact grown_trans (grown_setCell w g 1 _) (grown_setCell _ g 0 _)

set_option maxRecDepth 100000 in
theorem rBytes_no (g : Nat) (rest : List UInt8) (bad : Bool) (n : Nat) (w : World) (h : Rd 99 w g rest bad) (hno : rest.length < n) :
    Calls Tryd.prog 57 #[.pointer (some ⟨g, 0, none⟩), .int .i64 n] w fun e w' => e = .returned (.slice none 0 0) ∧ Rd 99 w' g [] true ∧ w.grownBy w' (some g) ∧ ∀ q, RdQ q w' g := by
  have hlt : ¬ ((n : Int) < 0) := by omega
  have hle : ((n : Int) > (rest.length : Int)) := by omega
  have Hs := Lib.hid (rSpoil_any g rest bad w h)
  obtain ⟨A, c, hB, _, _⟩ := h
  have c0 : w.cell? ⟨g, 0, none⟩ = some (.slice A rest.length c) := hB.cell 0
  clear hno hB
  go_enter Tryd.func57, Tryd.ntmps57
  go_wp2_with fail
  refine Hs.out.mono ?_
  rintro e w3 ⟨rfl, R3, g3⟩
  go_wp2
  go_ret
  exact ⟨rfl, R3, g3⟩

set_option maxRecDepth 100000 in
theorem rInt_no (g : Nat) (rest : List UInt8) (bad : Bool) (w : World) (h : Rd 99 w g rest bad) (hno : rest.length < 4) :
    Calls Tryd.prog 56 #[.pointer (some ⟨g, 0, none⟩), .int .i64 4] w fun e w' => e = .returned (.int .i64 0) ∧ Rd 99 w' g [] true ∧ w.grownBy w' (some g) ∧ ∀ q, RdQ q w' g := by
  have hle : (4 : Int) > (rest.length : Int) := by omega
  have Hs := Lib.hid (rSpoil_any g rest bad w h)
  obtain ⟨A, c, hB, _, _⟩ := h
  have c0 : w.cell? ⟨g, 0, none⟩ = some (.slice A rest.length c) := hB.cell 0
  clear hno hB
  go_enter Tryd.func56, Tryd.ntmps56
  go_wp2_with fail
  refine Hs.out.mono ?_
  rintro e w3 ⟨rfl, R3, g3⟩
  go_wp2
  go_ret
  exact ⟨rfl, R3, g3⟩

set_option maxRecDepth 100000 in
set_option maxHeartbeats 400000 in
theorem rInt_yes (g : Nat) (rest : List UInt8) (w : World) (h : Rd 99 w g rest false) (hn : 4 ≤ rest.length) :
    Calls Tryd.prog 56 #[.pointer (some ⟨g, 0, none⟩), .int .i64 4] w fun e w' => e = .returned (.int .i64 (numB (rest.take 4))) ∧ Rd 99 w' g (rest.drop 4) false ∧ w.grownBy w' (some g) ∧ (∀ v bs, Sl w v bs → Sl w' v bs) ∧ ∀ q, RdQ q w g → RdQ q w' g := by
  have hle : ¬ ((4 : Int) > (rest.length : Int)) := by omega
  obtain ⟨A, c, hB, hS, _⟩ := h
  have hcc : rest.length ≤ c := by
    obtain ⟨A', c', e, hc⟩ := SlR.form hS
    cases e
    exact hc
  obtain ⟨b0, o0, rfl, hcs⟩ := SlR.here hS (by omega)
  have c0 : w.cell? ⟨g, 0, none⟩ = some (.slice (some ⟨b0, o0, none⟩) rest.length c) := hB.cell 0
  have HB := Lib.hid hB
  have HS := Lib.hid hS
  have Hcs := Lib.hid hcs
  have Hn := Lib.hid hn
  clear hB hS hcs hn
  go_enter Tryd.func56, Tryd.ntmps56
  go_wp2
  go_loopw [5, 6] (fun x i wr => ∃ k : Nat, k ≤ 4 ∧ i = .int .i64 k ∧ x = .int .i64 (numB (rest.take k)) ∧ Ext w wr) (fun _ i _ => 4 - (intOf i).toNat)
  case atStart => exact ⟨0, by omega, rfl, rfl, Ext.refl _⟩
  case round =>
    obtain ⟨k, hk4, rfl, rfl, E⟩ := hrel
    have d0 := E.cell c0
    by_cases hlt : k < 4
    · have hkl : k < rest.length := by have := Hn.out; omega
      have c1 := E.cell (Hcs.out k _ (bytesV_get rest k hkl))
      have hst : numB (rest.take (k + 1)) = numB (rest.take k) * 256 + (rest[k]?.getD 0).toNat := by
        rw [List.take_succ_eq_append_getElem hkl, numB_snoc, List.getElem?_eq_getElem hkl]
        rfl
      have hle2 := numB_le4 (rest.take k) (by simp; omega)
      obtain ⟨x, hx⟩ : ∃ x, x = numB (rest.take k) := ⟨_, rfl⟩
      obtain ⟨p, hp⟩ : ∃ p, p = rest[k]?.getD 0 := ⟨_, rfl⟩
      rw [← hx] at hst hle2 ⊢
      rw [← hp] at hst c1
      have hpl := p.toNat_lt
      have f0 : IntKind.i64.wrap (256 * (x : Int)) = 256 * (x : Int) := IntWalk.i64_in _ (by omega)
      have f1 : IntKind.i64.wrap (256 * (x : Int) + (p.toNat : Int)) = 256 * (x : Int) + (p.toNat : Int) := IntWalk.i64_in _ (by omega)
      have Hst := Lib.hid hst
      clear hst hx hp
      go_wp2
      exact ⟨⟨k + 1, by omega, by go_num, by rw [Hst.out]; congr 1; omega, E⟩, by simp [intOf]; omega⟩
    · obtain rfl : k = 4 := by omega
      have hsd := (HS.out.ext E).dropA Hn.out
      have f0 := (HB.out.ext E).frozen 0
      by_cases hcn : c = 4
      · have hz : rest.length - 4 = 0 := by omega
        have hd0 : rest.drop 4 = [] := List.eq_nil_of_length_eq_zero (by simp; omega)
        have hfin := rd_set (A' := some ⟨b0, o0, none⟩) (m' := 0) (c' := 0) (xs := rest.drop 4) E HB.out (by rw [hd0]; exact SlR.none_ _ _ _ _) (fun h => by cases h)
        go_wp2
        go_ret
        exact ⟨rfl, hfin.1, hfin.2.1, fun v bs hs => hfin.2.2 v bs (SlR.ext hs E), fun q hq => rdq_set E HB.out (fun h => by omega) q hq⟩
      · have hfin := rd_set E HB.out hsd (fun h => by cases h)
        go_wp2
        go_ret
        exact ⟨rfl, hfin.1, hfin.2.1, fun v bs hs => hfin.2.2 v bs (SlR.ext hs E), fun q hq => rdq_set E HB.out (fun h => by omega) q hq⟩
end Go.Proofs.YtddbmddblhjkkaaDoor
/- The reference's Reader: Bytes where they may be. -/
namespace Go.Proofs.YtddbmddblhjkkaaDoor
open Go.RowKit Go.Maps

set_option maxRecDepth 100000 in
set_option maxHeartbeats 400000 in
theorem rBytes_yes (g : Nat) (rest : List UInt8) (n : Nat) (w : World) (h : Rd 99 w g rest false) (hn : n ≤ rest.length) (hm : rest.length ≤ 1073741824) (h0 : 0 < n) :
    Calls Tryd.prog 57 #[.pointer (some ⟨g, 0, none⟩), .int .i64 n] w fun e w' => ∃ v, e = .returned v ∧ Sl w' v (rest.take n) ∧ Rd 99 w' g (rest.drop n) false ∧ w.grownBy w' (some g) ∧ (∀ v bs, Sl w v bs → Sl w' v bs) ∧ ∀ q, RdQ q w g → RdQ q w' g := by
  have hlt : ¬ ((n : Int) < 0) := by omega
  have hle : ¬ ((n : Int) > (rest.length : Int)) := by omega
  obtain ⟨A, c, hB, hS, _⟩ := h
  have hcc : rest.length ≤ c := by
    obtain ⟨A', c', e, hc⟩ := SlR.form hS
    cases e
    exact hc
  obtain ⟨b0, o0, rfl, _⟩ := SlR.here hS (by omega)
  have c0 : w.cell? ⟨g, 0, none⟩ = some (.slice (some ⟨b0, o0, none⟩) rest.length c) := hB.cell 0
  have HB := Lib.hid hB
  have HS := Lib.hid hS
  have Hn := Lib.hid hn
  clear hB hS hn
  have E0 : Ext w (w.alloc (.cells #[] 5)) := (Ext.refl w).alloc _
  have d0 := E0.cell c0
  have O1 : Own (w.alloc (.cells #[] 5)) w.heap.size (.slice (some ⟨w.heap.size, 0, none⟩) 0 0) [] := own_of_blk (xs := []) (Blk.new w 5 #[]) (Nat.le_refl _) (by simp)
  have S1 := (HS.out.take Hn.out).ext E0
  have ht : (rest.take n).length = n := by simp; omega
  have HT := Lib.hid ht
  have HO1 := Lib.hid O1
  have HS1 := Lib.hid S1
  clear O1 S1 ht
  by_cases hcn : c = n
  · have hz : rest.length - n = 0 := by have := Hn.out; omega
    have hd0 : rest.drop n = [] := List.eq_nil_of_length_eq_zero (by simp; omega)
    rw [hcn] at HS1 HB c0 d0
    go_enter Tryd.func57, Tryd.ntmps57
    go_wp2_with (at_builtin; refine wpList_appB HO1.out HS1.out rfl _ _ rfl rfl rfl (by rw [HT.out]; simp; omega) E0.size ?_; intro v3 w3 ho3 hg3 _; have F3 := E0.grown hg3 HO1.out.from; have d3 := F3.cell c0; have f3 := (HB.out.ext F3).frozen 0; have HO3 := Lib.hid ho3; clear ho3)
    have hfin := rd_set (A' := some ⟨b0, o0, none⟩) (m' := 0) (c' := 0) (xs := []) F3 HB.out (SlR.none_ _ _ _ _) (fun h => by cases h)
    go_ret
    have ho : Own w3 w.heap.size v3 (rest.take n) := by simpa using HO3.out
    exact ⟨_, rfl, hfin.2.2 _ _ ho.sl, hfin.1, hfin.2.1, fun v bs hs => hfin.2.2 v bs (SlR.ext hs F3), fun q hq => rdq_set F3 HB.out (fun h => by omega) q hq⟩
  · have hsd := HS.out.dropA Hn.out
    rw [Addr.add_lit] at hsd
    go_enter Tryd.func57, Tryd.ntmps57
    go_wp2_with (at_builtin; refine wpList_appB HO1.out HS1.out rfl _ _ rfl rfl rfl (by rw [HT.out]; simp; omega) E0.size ?_; intro v3 w3 ho3 hg3 _; have F3 := E0.grown hg3 HO1.out.from; have d3 := F3.cell c0; have f3 := (HB.out.ext F3).frozen 0; have HO3 := Lib.hid ho3; clear ho3)
    have hfin := rd_set F3 HB.out (hsd.ext F3) (fun h => by cases h)
    go_ret
    have ho : Own w3 w.heap.size v3 (rest.take n) := by simpa using HO3.out
    exact ⟨_, rfl, hfin.2.2 _ _ ho.sl, hfin.1, hfin.2.1, fun v bs hs => hfin.2.2 v bs (SlR.ext hs F3), fun q hq => rdq_set F3 HB.out (fun h => by omega) q hq⟩
end Go.Proofs.YtddbmddblhjkkaaDoor
/- The reference's Reader, whatever it holds; what Decode reads of the path. -/
namespace Go.Proofs.YtddbmddblhjkkaaDoor
open Go.RowKit Go.Maps

theorem rInt_all (g : Nat) (bs : List UInt8) (w : World) (h : Rd 99 w g bs false) :
    Calls Tryd.prog 56 #[.pointer (some ⟨g, 0, none⟩), .int .i64 4] w fun e w' => e = .returned (.int .i64 (intV bs)) ∧ Rd 99 w' g (rdS (bs, false) 4).1 (rdS (bs, false) 4).2 ∧ w.grownBy w' (some g) ∧ ∀ q, RdQ q w g → RdQ q w' g := by
  unfold intV rdS
  by_cases h4 : 4 ≤ bs.length
  · have e1 : rdOk (bs, false).1 (bs, false).2 4 = true := (rdOk_iff _ _ _).2 ⟨rfl, h4⟩
    rw [if_pos h4, if_pos e1]
    refine (rInt_yes g bs w h h4).mono ?_
    rintro e w' ⟨rfl, h2, h3, _, h5⟩
    exact ⟨rfl, h2, h3, h5⟩
  · rw [if_neg h4, if_neg (by rw [rdOk_iff]; simp; omega)]
    refine (rInt_no g bs false w h (by omega)).mono ?_
    rintro e w' ⟨rfl, h2, h3, h5⟩
    exact ⟨rfl, h2, h3, fun q _ => h5 q⟩
theorem rBytes_all (g : Nat) (s : List UInt8 × Bool) (z : Int) (n : Nat) (hz : z = n) (h0 : 0 < n) (w : World) (h : Rd 99 w g s.1 s.2) (hm : s.1.length ≤ 1073741824) :
    Calls Tryd.prog 57 #[.pointer (some ⟨g, 0, none⟩), .int .i64 z] w fun e w' => ∃ v, e = .returned v ∧ Sl w' v (rdB s n) ∧ Rd 99 w' g (rdS s n).1 (rdS s n).2 ∧ w.grownBy w' (some g) ∧ ∀ q, RdQ q w g → RdQ q w' g := by
  subst hz
  unfold rdB rdS
  by_cases h1 : rdOk s.1 s.2 n = true
  · rw [if_pos h1, if_pos h1]
    obtain ⟨e, h2⟩ := (rdOk_iff _ _ _).1 h1
    rw [e] at h
    refine (rBytes_yes g s.1 n w h h2 hm h0).mono ?_
    rintro e w' ⟨v, rfl, h2, h3, h4, _, h6⟩
    exact ⟨v, rfl, h2, h3, h4, h6⟩
  · rw [if_neg h1, if_neg h1]
    have hno : s.1.length < n := by
      rw [rdOk_iff] at h1
      obtain ⟨A, c, _, _, hb⟩ := h
      cases hs : s.2 with
      | true => rw [hb hs]; exact h0
      | false =>
        by_cases hl : n ≤ s.1.length
        · exact absurd ⟨hs, hl⟩ h1
        · omega
    refine (rBytes_no g s.1 s.2 n w h hno).mono ?_
    rintro e w' ⟨rfl, h2, h3, h4⟩
    exact ⟨_, rfl, SlR.none_ _ _ _ _, h2, h3, fun q _ => h4 q⟩

/-- a reader stays where a newer block turns -/
theorem Rd.newer {w w' : World} {g q o : Nat} {rest : List UInt8} {bad : Bool} (h : Rd 99 w g rest bad) (hq : RdQ q w g) (hg : w.grownBy w' (some o)) (ho : q ≤ o) (hne : g ≠ o) : Rd 99 w' g rest bad ∧ RdQ q w' g := by
  obtain ⟨A, c, hB, hS, hb⟩ := h
  obtain ⟨A', n, c', bad', hB', ha⟩ := hq
  have h1 := hB.symm.trans hB'
  obtain ⟨rfl, rfl⟩ : A = A' ∧ rest.length = n := by
    simp at h1
    exact ⟨h1.1.1, h1.1.2.1⟩
  have hB2 := hB.grown hg (by simpa using hne)
  refine ⟨⟨A, c, hB2, ?_, hb⟩, A, _, c', bad', hB'.grown hg (by simpa using hne), ha⟩
  obtain ⟨hl, A2, c2, hv, hc, hr⟩ := hS
  refine ⟨hl, A2, c2, hv, hc, fun hn => ?_⟩
  obtain ⟨b0, o0, hA, hx⟩ := hr hn
  refine ⟨b0, o0, hA, fun j u hu => hg.cell (hx j u hu) ?_⟩
  have hA' : A = some ⟨b0, o0, none⟩ := by
    injection hv with e1 _ _
    rw [e1]; exact hA
  have := ha ⟨b0, o0, none⟩ hA' hn
  intro e
  simp at e
  dsimp only at this
  omega
theorem RdQ.ext {w w' : World} {g q : Nat} (h : RdQ q w g) (E : Ext w w') : RdQ q w' g := by
  obtain ⟨A, n, c, bad, hB, ha⟩ := h
  exact ⟨A, n, c, bad, hB.ext E, ha⟩
/-- all that is older than base is what it was, but g and d -/
def OldK (base g d : Nat) (a b : World) : Prop := base ≤ b.heap.size ∧ ∀ j, j < base → j ≠ g → j ≠ d → b.heap[j]? = a.heap[j]?
theorem OldK.grown {base g d : Nat} {a b c : World} {row : Option Nat} (h : OldK base g d a b) (hg : b.grownBy c row) (hr : ∀ j, row = some j → j = g ∨ j = d ∨ base ≤ j) : OldK base g d a c := by
  refine ⟨Nat.le_trans h.1 hg.size, fun j h1 h2 h3 => ?_⟩
  refine (hg.block j (Nat.lt_of_lt_of_le h1 h.1) (fun e => ?_)).trans (h.2 j h1 h2 h3)
  rcases hr j e.symm with e | e | e <;> omega
theorem OldK.ext {base g d : Nat} {a b c : World} (h : OldK base g d a b) (E : Ext b c) : OldK base g d a c := h.grown (ext_grown none E) fun j e => by cases e
theorem OldK.blk {base g d : Nat} {a b : World} (h : OldK base g d a b) {j : Nat} {t : TypeId} {cs : Array Value} (hb : Blk a j t cs) (h1 : j < base) (h2 : j ≠ g) (h3 : j ≠ d) : Blk b j t cs := (h.2 j h1 h2 h3).trans hb
theorem OldK.sl {base g d : Nat} {a b : World} (h : OldK base g d a b) (hz : a.heap.size ≤ base) {v : Value} {bs : List UInt8} (hs : Sl a v bs) (hg : ∀ (o : Nat) (k : Int), a.cell? ⟨g, o, none⟩ ≠ some (.int .u8 k)) (hd : ∀ (o : Nat) (k : Int), a.cell? ⟨d, o, none⟩ ≠ some (.int .u8 k)) : Sl b v bs := by
  refine SlR.kept hs (fun b0 o u hu hm => ?_)
  obtain ⟨k, rfl⟩ := bytesV_kind _ u hm
  have hlt : b0 < a.heap.size := World.block_lt_of_cell? a _ hu
  have e := h.2 b0 (by omega) (fun e => by subst e; exact hg _ _ hu) (fun e => by subst e; exact hd _ _ hu)
  rw [← hu]
  simp only [World.cell?, e]
theorem Rd.nu {w : World} {g : Nat} {rest : List UInt8} {bad : Bool} (h : Rd 99 w g rest bad) (o : Nat) (k : Int) : w.cell? ⟨g, o, none⟩ ≠ some (.int .u8 k) := fun e => by
  obtain ⟨A, c, hB, _, _⟩ := h
  rw [hB.cell] at e
  match o with
  | 0 => simp at e
  | 1 => simp at e
  | o + 2 => simp at e

/-- the reader behind k digests -/
def stN (s : List UInt8 × Bool) : Nat → List UInt8 × Bool
  | 0 => s
  | k + 1 => rdS (stN s k) 32
def padD (p : List UInt8) : List UInt8 := if p.length = 32 then p else z32
def ptN (s : List UInt8 × Bool) (k : Nat) : List (List UInt8) := (List.range k).map fun i => padD (rdB (stN s i) 32)
theorem padD_length (p : List UInt8) : (padD p).length = 32 := by
  unfold padD
  split
  · assumption
  · simp
theorem ptN_succ (s : List UInt8 × Bool) (k : Nat) : ptN s (k + 1) = ptN s k ++ [padD (rdB (stN s k) 32)] := by simp [ptN, List.range_succ]
theorem ptN_length (s : List UInt8 × Bool) (k : Nat) : (ptN s k).length = k := by simp [ptN]
theorem rdB_length (s : List UInt8 × Bool) (n : Nat) : (rdB s n).length = n ∨ rdB s n = [] := by
  unfold rdB
  split
  · rename_i h
    have := ((rdOk_iff _ _ _).1 h).2
    exact .inl (by simp; omega)
  · exact .inr rfl
theorem stN_len (s : List UInt8 × Bool) (k : Nat) : (stN s k).1.length ≤ s.1.length := by
  induction k with
  | zero => exact Nat.le_refl _
  | succ k ih => exact Nat.le_trans (rdS_len _ _) ih
theorem rdS_add (s : List UInt8 × Bool) (hs : s.2 = true → s.1 = []) (a b : Nat) : rdS (rdS s a) b = rdS s (a + b) := by
  obtain ⟨r, bad⟩ := s
  cases bad with
  | true =>
    obtain rfl : r = [] := hs rfl
    rw [rdS_bad, rdS_bad, rdS_bad]
  | false =>
    by_cases h1 : a ≤ r.length
    · rw [rdS_ok h1]
      by_cases h2 : a + b ≤ r.length
      · rw [rdS_ok h2, rdS_ok (by simp; omega), List.drop_drop]
      · rw [rdS_no h2, rdS_no (by simp; omega)]
    · rw [rdS_no h1, rdS_bad, rdS_no (by omega)]
theorem rdS_good (s : List UInt8 × Bool) (n : Nat) : (rdS s n).2 = true → (rdS s n).1 = [] := by
  unfold rdS
  split
  · intro h; cases h
  · intro _; rfl
theorem stN_eq (s : List UInt8 × Bool) (hs : s.2 = true → s.1 = []) (k : Nat) : stN s k = rdS s (32 * k) := by
  induction k with
  | zero =>
    obtain ⟨r, bad⟩ := s
    cases bad with
    | true =>
      obtain rfl : r = [] := hs rfl
      rw [rdS_bad]; rfl
    | false =>
      rw [rdS_ok (Nat.zero_le _)]; rfl
  | succ k ih => rw [stN, ih, rdS_add s hs]; rfl
theorem ptN_ok (ws : List UInt8) (h : Nat) (hl : ws.length = h * 32) : ptN (ws, false) h = decW ws h := by
  unfold ptN decW
  refine List.map_congr_left fun i hi => ?_
  rw [List.mem_range] at hi
  have e1 : stN (ws, false) i = (ws.drop (32 * i), false) := by rw [stN_eq _ (fun h => by cases h), rdS_ok (by omega)]
  have e2 : rdB (stN (ws, false) i) 32 = dW ws i := by
    rw [e1, rdB, if_pos ((rdOk_iff _ _ _).2 ⟨rfl, by simp; omega⟩), dW, Nat.mul_comm]
  rw [e2, padD, if_pos (dW_length hl hi)]
end Go.Proofs.YtddbmddblhjkkaaDoor
/- pursuivantref07.Decode. -/
namespace Go.Proofs.YtddbmddblhjkkaaDoor
open Go.RowKit

set_option maxRecDepth 100000 in
set_option maxHeartbeats 400000 in
theorem r7Decode_no (A : Option Addr) (n c : Nat) (w : World) (hn : n ≤ 1073741824) (hno : n % 64 ≠ 0 ∨ (n % 64 = 0 ∧ mayB (n / 64 : Nat) = false)) :
    Calls Tryd.prog 58 #[.slice A n c] w fun e w' => e = .returned (.tuple #[.agg noOne, .int .i64 11]) ∧ Ext w w' := by
  rcases hno with h | ⟨h, hm⟩
  · have hb : (((n : Int) % 64) != 0) = true := by rw [bne_iff_ne]; omega
    clear h
    go_enter Tryd.func58, Tryd.ntmps58
    go_wp2_with (first | (refine wpList_alloc_blk rfl 35 rfl (.agg noOne) zero_one ?_; intro w1 hs1 hb1 he1; clear hs1) | (refine wpList_build_to rfl 35 _ rfl noOne (by kernel_rfl) ?_) | (refine wpList_store_blk rfl 35 _ _ rfl w.heap.size noOne rfl rfl 35 noOne hb1 info_one rfl noOne_one ?_; intro w7 hs7 hb7 hg7))
    refine bodyPost_ret (v := .tuple #[.agg noOne, .int .i64 11]) (ret2_blk hb7 rfl rfl Tryd.underlying35 rfl info_one rfl) rfl ?_
    exact ⟨rfl, he1.grown hg7 (by simp)⟩
  · have hb : (((n : Int) % 64) != 0) = false := by rw [bne_eq_false_iff_eq]; omega
    have Hm := fun w => Lib.hid (r7May_any ((n : Int) / 64) w)
    rw [show ((n : Int) / 64) = ((n / 64 : Nat) : Int) by omega, hm] at Hm
    rw [show ((n / 64 : Nat) : Int) = (n : Int) / 64 by omega] at Hm
    clear h hm
    go_enter Tryd.func58, Tryd.ntmps58
    go_wp2_with (first | (refine wpList_alloc_blk rfl 35 rfl (.agg noOne) zero_one ?_; intro w1 hs1 hb1 he1; clear hs1))
    with_reducible refine (Hm _).out.mono ?_
    rintro e w2 ⟨rfl, rfl⟩
    go_wp2_with (first | (refine wpList_build_to rfl 35 _ rfl noOne (by kernel_rfl) ?_) | (refine wpList_store_blk rfl 35 _ _ rfl w.heap.size noOne rfl rfl 35 noOne hb1 info_one rfl noOne_one ?_; intro w7 hs7 hb7 hg7))
    refine bodyPost_ret (v := .tuple #[.agg noOne, .int .i64 11]) (ret2_blk hb7 rfl rfl Tryd.underlying35 rfl info_one rfl) rfl ?_
    exact ⟨rfl, he1.grown hg7 (by simp)⟩

theorem decR_succ (bs : List UInt8) (k : Nat) : decR bs (k + 1) = decR bs k ++ [dR bs k] := by simp [decR, List.range_succ]
theorem decO_succ (bs : List UInt8) (k : Nat) : decO bs (k + 1) = decO bs k ++ [dO bs k] := by simp [decO, List.range_succ]
theorem decR_length (bs : List UInt8) (k : Nat) : (decR bs k).length = k := by simp [decR]
theorem decO_length (bs : List UInt8) (k : Nat) : (decO bs k).length = k := by simp [decO]
theorem headC_nil (d : List UInt8) (hd : d.length = 32) : zb32 = headC d 0 := by rw [headC_zero, hd]; rfl
theorem headC_full (d : List UInt8) (hd : d.length = 32) : headC d 32 = (bytesV d).toArray := by rw [← hd]; exact headC_all d
theorem headC_at (d : List UInt8) (hd : d.length = 32) (j : Nat) (hj : j < 32) : ∃ v, (headC d j)[j]? = some v :=
  ⟨_, Array.getElem?_eq_getElem (by rw [headC_size d j (by omega), hd]; exact hj)⟩

set_option maxRecDepth 100000 in
set_option maxHeartbeats 4000000 in
theorem r7Decode_yes (v : Value) (bs : List UInt8) (N : Nat) (w : World) (hv : Sl w v bs) (hl : bs.length = N * 64) (hm : mayB N = true) :
    Calls Tryd.prog 58 #[v] w fun e w' => ∃ vr vo, e = .returned (.tuple #[.agg #[vr, vo], .int .i64 0]) ∧ SlD w' vr (decR bs N) ∧ SlD w' vo (decO bs N) ∧ Ext w w' := by
  obtain ⟨hm1, hm2, _⟩ := (mayB_iff _).1 hm
  obtain ⟨A, c, rfl, hc⟩ := SlR.form hv
  obtain ⟨b, o, rfl, hcs⟩ := SlR.here hv (by omega)
  have Hcs := Lib.hid hcs
  clear hcs hv
  have Hm := fun w => Lib.hid (r7May_any ((bs.length : Int) / 64) w)
  rw [show ((bs.length : Int) / 64) = ((N : Nat) : Int) by omega, hm] at Hm
  have hN : (bs.length : Int) / 64 = (N : Int) := by omega
  have hb : (((bs.length : Int) % 64) != 0) = false := by rw [bne_eq_false_iff_eq]; omega
  have Hl := Lib.hid hl
  have hbl : bs.length ≤ 1073741824 := by omega
  clear hm hl
  go_enter Tryd.func58, Tryd.ntmps58
  go_wp2_with (first | (refine wpList_alloc_blk rfl 35 rfl (.agg noOne) zero_one ?_; intro w1 hs1 hb1 he1; clear hs1))
  with_reducible refine (Hm _).out.mono ?_
  rintro e w2 ⟨rfl, rfl⟩
  clear Hm hb hN
  go_wp2_with (first | (refine wpList_alloc_blk rfl 35 rfl (.agg noOne) zero_one ?_; intro w3 hs3 hb3 he3; clear hs3))
  have hl01 : w.heap.size < w1.heap.size := hb1.lt
  have hl13 : w1.heap.size < w3.heap.size := hb3.lt
  have HB1 := Lib.hid hb1
  clear hb1
  go_loopw [5] (fun i wr => ∃ k : Nat, k ≤ N ∧ i = .int .i64 ((k * 64 : Nat) : Int) ∧ (∃ vr vo, Blk wr w1.heap.size 35 #[vr, vo] ∧ OwnD wr w1.heap.size vr (decR bs k) ∧ OwnD wr w1.heap.size vo (decO bs k) ∧ (∀ j, vr.ownBlock = some j → vo.ownBlock ≠ some j)) ∧ Ext w1 wr) (fun i _ => bs.length - (intOf i).toNat)
  case atStart => exact ⟨0, by omega, by simp, ⟨_, _, hb3, OwnD.none_ _ _, OwnD.none_ _ _, fun j hj => by cases hj⟩, he3⟩
  case round =>
    clear hb3 he3
    obtain ⟨k, hkN, rfl, ⟨vr, vo, hB, hR, hO, hap⟩, E⟩ := hrel
    obtain ⟨wo, rfl⟩ : ∃ wo : World, wo = wr := ⟨_, rfl⟩
    have E0 : Ext w wo := he1.trans E
    by_cases hlt : k < N
    · have hl1 := dR_length Hl.out hlt
      have hl2 := dO_length Hl.out hlt
      have hc1 : Cells wo b (o + k * 64) (bytesV (dR bs k)) := (cells_part Hcs.out (k * 64) 32).ext E0
      have hc2 : Cells wo b (o + (k * 64 + 32)) (bytesV (dO bs k)) := (cells_part Hcs.out (k * 64 + 32) 32).ext E0
      have hRs := decR_succ bs k
      have hOs := decO_succ bs k
      have hRn := decR_length bs k
      have hOn := decO_length bs k
      obtain ⟨x, hx⟩ : ∃ x, x = dR bs k := ⟨_, rfl⟩
      obtain ⟨t, ht⟩ : ∃ t, t = dO bs k := ⟨_, rfl⟩
      obtain ⟨rs, hrs⟩ : ∃ rs, rs = decR bs k := ⟨_, rfl⟩
      obtain ⟨os, hos⟩ : ∃ os, os = decO bs k := ⟨_, rfl⟩
      rw [← hx] at hl1 hc1 hRs
      rw [← ht] at hl2 hc2 hOs
      rw [← hrs] at hR hRs hRn
      rw [← hos] at hO hOs hOn
      clear hx ht hrs hos
      obtain ⟨q, hq⟩ : ∃ q, q = k * 64 := ⟨_, rfl⟩
      have hq1 : (k + 1) * 64 = q + 64 := by omega
      have hq2 : q + 64 ≤ bs.length := by have := Hl.out; omega
      rw [← hq] at hc1 hc2 ⊢
      have Hq1 := Lib.hid hq1
      clear hq hq1
      obtain ⟨Ar, cr, rfl, hcr⟩ := hR.form
      obtain ⟨Ao, co, rfl, hco⟩ := hO.form
      rw [hRn] at hcr hB hR
      rw [hOn] at hco hB hO
      rw [hRn, hOn] at hap
      have HRs := Lib.hid hRs
      have HOs := Lib.hid hOs
      have HRn := Lib.hid hRn
      have HOn := Lib.hid hOn
      have HB := Lib.hid hB
      have HR := Lib.hid hR
      have HO := Lib.hid hO
      have Hap := Lib.hid hap
      have L1 := Lib.hid hl1
      have L2 := Lib.hid hl2
      have HC1 := Lib.hid hc1
      have HC2 := Lib.hid hc2
      clear hB hR hO hap hl1 hl2 hc1 hc2 hRs hOs hRn hOn
      have hql : (q : Int) < (bs.length : Int) := by omega
      go_wp2_with (first | (have _ := hb5; refine wpList_alloc_blk rfl 43 rfl (.agg zb32) zero_a32 ?_; intro w6 hs6 hb6 he6) | (refine wpList_alloc_blk rfl 43 rfl (.agg zb32) zero_a32 ?_; intro w5 hs5 hb5 he5))
      have hb5' := hb5.ext he6
      rw [hs5] at hb6
      have E6 : Ext wo w6 := he5.trans he6
      have hx0 : Blk w6 wo.heap.size 43 (headC x 0) := by rw [← headC_nil x L1.out]; exact hb5'
      have hy0 : Blk w6 (wo.heap.size + 1) 43 (headC t 0) := by rw [← headC_nil t L2.out]; exact hb6
      clear hb5 hb5' hb6 hs5 hs6 he5 he6
      go_loopw [8] (fun i w7 => ∃ j : Nat, j ≤ 32 ∧ i = .int .i64 (j : Int) ∧ Blk w7 wo.heap.size 43 (headC x j) ∧ Blk w7 (wo.heap.size + 1) 43 (headC t j) ∧ Ext wo w7) (fun i _ => 32 - (intOf i).toNat)
      case atStart => exact ⟨0, by omega, rfl, hx0, hy0, E6⟩
      case round =>
        clear hx0 hy0 E6
        obtain ⟨j, hj, rfl, hX, hY, E7⟩ := hrel
        by_cases hlt2 : j < 32
        · have g1 := cells_get HC1.out j (by rw [L1.out]; exact hlt2)
          have g2 := cells_get HC2.out j (by rw [L2.out]; exact hlt2)
          have hs1 := headC_set x j (by rw [L1.out]; exact hlt2)
          have hs2 := headC_set t j (by rw [L2.out]; exact hlt2)
          have hbw : b < wo.heap.size := by
            have := World.block_lt_of_cell? wo _ (HC1.out 0 _ (bytesV_get _ 0 (by rw [L1.out]; omega)))
            simpa using this
          obtain ⟨z1, hz1⟩ := headC_at x L1.out j hlt2
          obtain ⟨z2, hz2⟩ := headC_at t L2.out j hlt2
          have k1 : wr.cell? ⟨wo.heap.size, j, none⟩ = some z1 := (hX.cell j).trans hz1
          have k2 : wr.cell? ⟨wo.heap.size + 1, j, none⟩ = some z2 := (hY.cell j).trans hz2
          have f1 := hX.frozen j
          have f2 := hY.frozen j
          obtain ⟨u1, hu1⟩ : ∃ u, u = ((x[j]?.getD 0).toNat : Int) := ⟨_, rfl⟩
          obtain ⟨u2, hu2⟩ : ∃ u, u = ((t[j]?.getD 0).toNat : Int) := ⟨_, rfl⟩
          rw [← hu1] at g1 hs1
          rw [← hu2] at g2 hs2
          rw [show o + q + j = o + (q + j) by omega] at g1
          rw [show o + (q + 32) + j = o + (q + 32 + j) by omega] at g2
          have Hz2 := Lib.hid hz2
          clear hu1 hu2 hz1 hz2
          have Hs1 := Lib.hid hs1
          have Hs2 := Lib.hid hs2
          have HX := Lib.hid hX
          have HY := Lib.hid hY
          clear hs1 hs2 hX hY
          have hj32 : (j : Int) < 32 := by omega
          have e1 : IntKind.i64.wrap ((q : Int) + (j : Int)) = (q : Int) + (j : Int) := IntWalk.i64_in _ (by omega)
          have e2 : ((q : Int) + (j : Int)).toNat = q + j := by omega
          have e3 : IntKind.i64.wrap ((q : Int) + 32) = (q : Int) + 32 := IntWalk.i64_in _ (by omega)
          have e4 : IntKind.i64.wrap ((q : Int) + 32 + (j : Int)) = (q : Int) + 32 + (j : Int) := IntWalk.i64_in _ (by omega)
          have e5 : ((q : Int) + 32 + (j : Int)).toNat = q + 32 + j := by omega
          have e6 : (q : Int) + (j : Int) < (bs.length : Int) := by omega
          have e7 : (q : Int) + 32 + (j : Int) < (bs.length : Int) := by omega
          have e8 : (0 : Int) ≤ (q : Int) + (j : Int) := by omega
          have e9 : (0 : Int) ≤ (q : Int) + 32 + (j : Int) := by omega
          go_wp2
          refine wp_region_chain 17 [(true, 0), (true, 1), (true, 2), (true, 3), (true, 4), (true, 5), (true, 6), (true, 7), (true, 8), (true, 9), (true, 10), (true, 11), (true, 12), (true, 13), (true, 14), (true, 15), (false, 16)] (fun w' => w'.cell? ⟨b, o + (q + j), none⟩ = some (.int .u8 u1) ∧ w'.cell? ⟨b, o + (q + 32 + j), none⟩ = some (.int .u8 u2)) (by kernel_rfl) (by kernel_rfl) ⟨E7.drew.cell g1, E7.drew.cell g2⟩ ?_
          iterate 16
            refine wpTake_read _ _ ?_ rfl rfl ?_ ?_
            rotate_left 1
            focus
              intro wS hS
              have hS1 := hS.1
              have hS2 := hS.2
              try dsimp only at hS1 hS2
              go_simp
              first | done | with_reducible rfl
            simp only [Act.put, List.setIfInBounds_toArray, List.set_cons_zero, List.set_cons_succ]
          refine wpTake_do _ _ rfl rfl (fun K hK' => ?_)
          go_simp
          have E8 : Ext wo (wr.setCell ⟨wo.heap.size, j, none⟩ (.int .u8 u1)).drew := (E7.setCell (Nat.le_refl _) _).drew
          refine hK' _ _ ⟨E8.cell g1, E8.cell g2⟩ ?_
          clear hK' K
          refine wpTake_nil ?_
          simp only [List.drop_succ_cons, List.drop_zero]
          have hX8 : Blk (wr.setCell ⟨wo.heap.size, j, none⟩ (.int .u8 u1)).drew wo.heap.size 43 (headC x (j + 1)) := by rw [← Hs1.out]; exact (HX.out.set j _).drew
          have hY8 : Blk (wr.setCell ⟨wo.heap.size, j, none⟩ (.int .u8 u1)).drew (wo.heap.size + 1) 43 (headC t j) := (HY.out.far (by simp) _).drew
          have HX8 := Lib.hid hX8
          have HY8 := Lib.hid hY8
          have k3 : (wr.setCell ⟨wo.heap.size, j, none⟩ (.int .u8 u1)).drew.cell? ⟨wo.heap.size + 1, j, none⟩ = some z2 := (hY8.cell j).trans Hz2.out
          have f3 := hY8.frozen j
          clear hX8 hY8 k1 k2 f1 f2 g1 g2
          revert HX8 HY8 k3 f3 E8
          generalize (wr.setCell ⟨wo.heap.size, j, none⟩ (.int .u8 u1)).drew = w8
          intro E8 HX8 HY8 k3 f3
          go_wp2
          refine NoPanic.normal ?_
          have hX9 : Blk (w8.setCell ⟨wo.heap.size + 1, j, none⟩ (.int .u8 u2)) wo.heap.size 43 (headC x (j + 1)) := HX8.out.far (by simp) _
          have hY9 : Blk (w8.setCell ⟨wo.heap.size + 1, j, none⟩ (.int .u8 u2)) (wo.heap.size + 1) 43 (headC t (j + 1)) := by rw [← Hs2.out]; exact HY8.out.set j _
          have E9 : Ext wo (w8.setCell ⟨wo.heap.size + 1, j, none⟩ (.int .u8 u2)) := E8.setCell (by simp) _
          go_wp2
          go_roundw
          case rel => exact ⟨j + 1, by omega, by go_num, hX9, hY9, E9⟩
          case measure => simp [intOf]; omega
        · obtain rfl : j = 32 := by omega
          have HX : Hid (Blk wr wo.heap.size 43 (bytesV x).toArray) := by show Blk _ _ _ _; rw [← headC_full x L1.out]; exact hX
          have HY : Hid (Blk wr (wo.heap.size + 1) 43 (bytesV t).toArray) := by show Blk _ _ _ _; rw [← headC_full t L2.out]; exact hY
          clear hX hY
          have hcr0 : wr.cell? ⟨w1.heap.size, 0, none⟩ = some (.slice Ar k cr) := (HB.out.ext E7).cell 0
          have i1 : Hid ((Tryd.prog.info? 43).map (·.size) = some (bytesV x).toArray.size) := by rw [List.size_toArray, bytesV_length, L1.out]; exact info_a32
          have i2 : Hid ((Tryd.prog.info? 43).map (·.size) = some (bytesV t).toArray.size) := by rw [List.size_toArray, bytesV_length, L2.out]; exact info_a32
          have HB7 := Lib.hid (HB.out.ext E7)
          have HR7 := Lib.hid (HR.out.ext E7)
          have HO7 := Lib.hid (HO.out.ext E7)
          have Ew7 := E.trans E7
          have hl7 := HB7.out.lt
          have hlo := HB.out.lt
          have hne1 : wo.heap.size ≠ w1.heap.size := by omega
          have hne2 : wo.heap.size + 1 ≠ w1.heap.size := by omega
          have HRo := HR
          clear HB HR HO HC1 HC2
          go_upto_region 13 with (first | (refine wpList_load_blk HX.out rfl 43 _ rfl rfl Tryd.underlying43 rfl i1.out ?_) | (refine wpList_build_dg x L1.out rfl _ rfl rfl ?_; intro w8 E78 hs8 hnew; clear hs8; have HN8 := Lib.hid hnew; have HB8 := Lib.hid (HB7.out.ext E78); have HR8 := Lib.hid (HR7.out.ext E78); have HO8 := Lib.hid (HO7.out.ext E78); have HY8 := Lib.hid (HY.out.ext E78); have Ew8 := Ew7.trans E78; have E7o := E7.trans E78; clear hnew HB7 HR7 HO7 HX HY hcr0 E78) | (at_builtin; refine wpList_appD HR8.out L1.out HN8.out rfl _ _ rfl rfl rfl (by have := HRn.out; omega) (by have := Ew8.size; exact this) ?_; intro v9 w9 ho9 hg9 hq9; have hn9 := HR8.out.ne HB8.out (by decide); have hB9 := HB8.out.grown hg9 (Ne.symm hn9); have hc9 : w9.cell? ⟨w1.heap.size, 0, none⟩ = some (.slice Ar k cr) := hB9.cell 0; have hf9 := hB9.frozen 0; obtain ⟨A9, c9, e9, hc9'⟩ := ho9.form; rw [List.length_append, HRn.out, List.length_singleton] at e9; subst e9; have HB9 := Lib.hid hB9; have HR9 := Lib.hid ho9; have Hg9 := Lib.hid hg9; have Hq9 := Lib.hid hq9; clear hB9 ho9 hg9 hq9 hn9))
          obtain ⟨w10, hw10⟩ : ∃ w10, w10 = w9.setCell ⟨w1.heap.size, 0, none⟩ (.slice A9 (k + 1) c9) := ⟨_, rfl⟩
          have HR10 : Hid (OwnD w10 w1.heap.size (.slice A9 (k + 1) c9) (rs ++ [x])) := by rw [hw10]; exact HR9.out.set HB9.out (by decide)
          have HO10 : Hid (OwnD w10 w1.heap.size (.slice Ao k co) os) := by rw [hw10]; exact (HO8.out.apart Hg9.out (fun j hj e => Hap.out j e hj)).set HB9.out (by decide)
          have HB10 : Hid (Blk w10 w1.heap.size 35 #[.slice A9 (k + 1) c9, .slice Ao k co]) := by rw [hw10]; exact HB9.out.set 0 _
          have hny : (Value.slice Ar k cr).ownBlock ≠ some (wo.heap.size + 1) := by
            intro e
            have h1 := HRo.out.lt _ e
            omega
          have HY10 : Hid (Blk w10 (wo.heap.size + 1) 43 (bytesV t).toArray) := by rw [hw10]; exact (HY8.out.grown Hg9.out (Ne.symm hny)).far hne2 _
          have Hap10 : Hid (∀ j, (Value.slice A9 (k + 1) c9).ownBlock = some j → (Value.slice Ao k co).ownBlock ≠ some j) := Lib.hid (apart_app Hap.out HO8.out.lt Hq9.out)
          have E10 : Ext w1 w10 := by rw [hw10]; exact (Ew8.grown Hg9.out HR8.out.from).setCell (by simp) _
          simp only [← hw10]
          have hco0 : w10.cell? ⟨w1.heap.size, 1, none⟩ = some (.slice Ao k co) := HB10.out.cell 1
          clear hf9 hc9 hc9' HB9 HR9 Hg9 Hq9 HR8 HO8 HB8 HY8 HN8 hw10 hny Ew8
          go_upto_region 6 with (first | (refine wpList_load_blk HY10.out rfl 43 _ rfl rfl Tryd.underlying43 rfl i2.out ?_) | (refine wpList_build_dg t L2.out rfl _ rfl rfl ?_; intro w8 E78 hs8 hnew; clear hs8; have HN8 := Lib.hid hnew; have HB8 := Lib.hid (HB10.out.ext E78); have HR8 := Lib.hid (HR10.out.ext E78); have HO8 := Lib.hid (HO10.out.ext E78); have Ew8 := E10.trans E78; clear hnew HB10 HR10 HO10 HY10 hco0 E78) | (at_builtin; refine wpList_appD HO8.out L2.out HN8.out rfl _ _ rfl rfl rfl (by have := HOn.out; omega) (by have := Ew8.size; exact this) ?_; intro v11 w11 ho9 hg9 hq9; have hn9 := HO8.out.ne HB8.out (by decide); have hB9 := HB8.out.grown hg9 (Ne.symm hn9); have hc9 : w11.cell? ⟨w1.heap.size, 1, none⟩ = some (.slice Ao k co) := hB9.cell 1; have hf9 := hB9.frozen 1; obtain ⟨A11, c11, e9, hc9'⟩ := ho9.form; rw [List.length_append, HOn.out, List.length_singleton] at e9; subst e9; have HB9 := Lib.hid hB9; have HO9 := Lib.hid ho9; have Hg9 := Lib.hid hg9; have Hq9 := Lib.hid hq9; clear hB9 ho9 hg9 hq9 hn9))
          obtain ⟨w12, hw12⟩ : ∃ w12, w12 = w11.setCell ⟨w1.heap.size, 1, none⟩ (.slice A11 (k + 1) c11) := ⟨_, rfl⟩
          have HO12 : Hid (OwnD w12 w1.heap.size (.slice A11 (k + 1) c11) (os ++ [t])) := by rw [hw12]; exact HO9.out.set HB9.out (by decide)
          have HR12 : Hid (OwnD w12 w1.heap.size (.slice A9 (k + 1) c9) (rs ++ [x])) := by rw [hw12]; exact (HR8.out.apart Hg9.out (fun j hj e => Hap10.out j hj e)).set HB9.out (by decide)
          have HB12 : Hid (Blk w12 w1.heap.size 35 #[.slice A9 (k + 1) c9, .slice A11 (k + 1) c11]) := by rw [hw12]; exact HB9.out.set 1 _
          have Hap12 : Hid (∀ j, (Value.slice A11 (k + 1) c11).ownBlock = some j → (Value.slice A9 (k + 1) c9).ownBlock ≠ some j) := Lib.hid (apart_app (fun j hj e => Hap10.out j e hj) HR8.out.lt Hq9.out)
          have E12 : Ext w1 w12 := by rw [hw12]; exact (Ew8.grown Hg9.out HO8.out.from).setCell (by simp) _
          simp only [← hw12]
          clear hf9 hc9 hc9' HB9 HO9 Hg9 Hq9 HR8 HO8 HB8 HN8 hw12 Ew8
          go_wp2
          go_roundw
          case rel => exact ⟨k + 1, hlt, by rw [Hq1.out]; go_num, ⟨_, _, HB12.out, by rw [HRs.out]; exact HR12.out, by rw [HOs.out]; exact HO12.out, fun j hj e => Hap12.out j e hj⟩, E12⟩
          case measure => simp [intOf]; omega
    · obtain rfl : k = N := by omega
      have HB := Lib.hid hB
      have HR := Lib.hid hR
      have HO := Lib.hid hO
      clear hB hR hO hap
      have hb1' : Blk wo w.heap.size 35 noOne := HB1.out.ext E
      obtain ⟨Ar, cr, rfl, hcr⟩ := HR.out.form
      obtain ⟨Ao, co, rfl, hco⟩ := HO.out.form
      rw [show ((k * 64 : Nat) : Int) = (bs.length : Int) by rw [Hl.out]]
      go_wp2_with (first | (refine wpList_load_blk HB.out rfl 35 _ rfl rfl Tryd.underlying35 rfl info_one ?_) | (refine wpList_store_blk rfl 35 _ _ rfl w.heap.size _ rfl rfl 35 noOne hb1' info_one rfl (by simp [Value.oneCell']) ?_; intro w7 hs7 hb7 hg7))
      refine bodyPost_ret (ret2_blk hb7 rfl rfl Tryd.underlying35 rfl info_one rfl) rfl ?_
      have hne : ∀ (u : Value) (ds : List (List UInt8)), OwnD wo w1.heap.size u ds → SlD w7 u ds := fun u ds h =>
        (h.apart hg7 (fun j hj e => by have := h.from j hj; injection e with e; omega)).sl
      exact ⟨_, _, rfl, hne _ _ HR.out, hne _ _ HO.out, E0.grown hg7 (by simp)⟩
end Go.Proofs.YtddbmddblhjkkaaDoor
/- pursuivantref08: Way of a leaf that is there; Climb. -/
namespace Go.Proofs.YtddbmddblhjkkaaDoor
open Go.RowKit

theorem cells_blk {w : World} {g : Nat} {t : TypeId} {d : List UInt8} (h : Blk w g t (bytesV d).toArray) : Cells w g 0 (bytesV d) := fun j v hv => by
  rw [Nat.zero_add, h.cell]
  simpa using hv


set_option maxRecDepth 100000 in
set_option maxHeartbeats 400000 in
theorem r8Climb_no (x : List UInt8) (i : Int) (A : Option Addr) (n c : Nat) (w : World) (hno : climbOk n i = false) :
    Calls Tryd.prog 45 #[dgV x, .int .i64 i, .slice A n c] w fun e w' => e = .returned (.tuple #[.agg zb32, .int .i64 1]) ∧ Ext w w' := by
  have E0 : Ext w (w.alloc (.cells (bytesV x).toArray 43)) := (Ext.refl w).alloc _
  by_cases h6 : n ≤ 6
  · by_cases h0 : 0 ≤ i
    · have hi : (2 : Int) ^ n ≤ i := by simpa [climbOk, h6, h0] using hno
      obtain ⟨p, hp⟩ : ∃ p, p = (2 : Int) ^ n := ⟨_, rfl⟩
      have hw : wrap64 ((2 : Int) ^ n) = p := by rw [hp]; exact wrap_pow h6
      rw [← hp] at hi
      clear hno hp
      go_enter Tryd.func45, Tryd.ntmps45
      go_wp2_with (first | (refine wpList_alloc_blk rfl 43 rfl (.agg zb32) zero_a32 ?_; intro w1 hs1 hb1 he1; clear hs1; simp only [World.size_alloc] at hb1) | (refine wpList_build_to rfl 43 _ rfl zb32 (by kernel_rfl) ?_) | (refine wpList_store_blk rfl 43 _ _ rfl (w.heap.size + 1) zb32 rfl rfl 43 zb32 hb1 info_a32 rfl zb32_one ?_; intro w7 hs7 hb7 hg7))
      refine bodyPost_ret (v := .tuple #[.agg zb32, .int .i64 1]) (ret2_blk hb7 rfl rfl Tryd.underlying43 rfl info_a32 rfl) rfl ?_
      exact ⟨rfl, (E0.trans he1).grown hg7 (by simp)⟩
    · have hi : i < 0 := by omega
      clear hno
      go_enter Tryd.func45, Tryd.ntmps45
      go_wp2_with (first | (refine wpList_alloc_blk rfl 43 rfl (.agg zb32) zero_a32 ?_; intro w1 hs1 hb1 he1; clear hs1; simp only [World.size_alloc] at hb1) | (refine wpList_build_to rfl 43 _ rfl zb32 (by kernel_rfl) ?_) | (refine wpList_store_blk rfl 43 _ _ rfl (w.heap.size + 1) zb32 rfl rfl 43 zb32 hb1 info_a32 rfl zb32_one ?_; intro w7 hs7 hb7 hg7))
      refine bodyPost_ret (v := .tuple #[.agg zb32, .int .i64 1]) (ret2_blk hb7 rfl rfl Tryd.underlying43 rfl info_a32 rfl) rfl ?_
      exact ⟨rfl, (E0.trans he1).grown hg7 (by simp)⟩
  · have hi : (6 : Int) < (n : Int) := by omega
    clear hno
    go_enter Tryd.func45, Tryd.ntmps45
    go_wp2_with (first | (refine wpList_alloc_blk rfl 43 rfl (.agg zb32) zero_a32 ?_; intro w1 hs1 hb1 he1; clear hs1; simp only [World.size_alloc] at hb1) | (refine wpList_build_to rfl 43 _ rfl zb32 (by kernel_rfl) ?_) | (refine wpList_store_blk rfl 43 _ _ rfl (w.heap.size + 1) zb32 rfl rfl 43 zb32 hb1 info_a32 rfl zb32_one ?_; intro w7 hs7 hb7 hg7))
    refine bodyPost_ret (v := .tuple #[.agg zb32, .int .i64 1]) (ret2_blk hb7 rfl rfl Tryd.underlying43 rfl info_a32 rfl) rfl ?_
    exact ⟨rfl, (E0.trans he1).grown hg7 (by simp)⟩

set_option maxRecDepth 100000 in
set_option maxHeartbeats 1000000 in
theorem r8Climb_yes (x : List UInt8) (i : Nat) (v : Value) (ds : List (List UInt8)) (w : World) (hx : x.length = 32) (hv : SlD w v ds) (hn : ds.length ≤ 6) (hi : i < 2 ^ ds.length) :
    Calls Tryd.prog 45 #[dgV x, .int .i64 (i : Int), v] w fun e w' => e = .returned (.tuple #[dgV (climbB x i ds), .int .i64 0]) ∧ Ext w w' := by
  obtain ⟨A, c, rfl, hc⟩ := hv.form
  have hB0 := Blk.new w 43 (bytesV x).toArray
  have E0 : Ext w (w.alloc (.cells (bytesV x).toArray 43)) := (Ext.refl w).alloc _
  have hle := pow_le hn
  obtain ⟨p, hp⟩ : ∃ p, p = (2 : Int) ^ ds.length := ⟨_, rfl⟩
  have hw : wrap64 ((2 : Int) ^ ds.length) = p := by rw [hp]; exact wrap_pow hn
  have hip : (i : Int) < p := by rw [hp]; exact_mod_cast hi
  have Hx := Lib.hid hx
  have HV := Lib.hid hv
  have H64 := Lib.hid (Nat.lt_of_lt_of_le hi hle)
  have ix : Hid ((Tryd.prog.info? 43).map (·.size) = some (bytesV x).toArray.size) := dg_i x Hx.out
  have sx : Hid (zb32.size = (bytesV x).toArray.size) := zb32_size _ Hx.out
  clear hv hx hp hi hle
  go_enter Tryd.func45, Tryd.ntmps45
  go_wp2_with (first | (refine wpList_load_blk (hB0.ext he1) rfl 43 _ rfl rfl Tryd.underlying43 rfl ix.out ?_) | (have _ := he1; refine wpList_var rfl rfl 43 rfl _ _ rfl (.agg zb32) zero_a32 (bytesV x).toArray rfl rfl ix.out sx.out (bytes_one _) ?_; intro w4 D4 E4) | (refine wpList_alloc_blk rfl 43 rfl (.agg zb32) zero_a32 ?_; intro w1 hs1 hb1 he1; simp only [World.size_alloc] at hb1 hs1))
  rw [hs1] at D4
  have HX4 := Lib.hid D4
  have HZ4 := Lib.hid (hb1.ext E4)
  have F4 := (E0.trans he1).trans E4
  clear hb1 hB0 he1 hip hw D4 E4 E0
  go_wp2
  go_loopw [1, 9] (fun j n wr => ∃ k : Nat, k ≤ ds.length ∧ n = .int .i64 (k : Int) ∧ j = .int .i64 ((i / 2 ^ k : Nat) : Int) ∧ Blk wr (w.heap.size + 1 + 1) 43 (bytesV (climbB x i (ds.take k))).toArray ∧ Blk wr (w.heap.size + 1) 43 zb32 ∧ Ext w wr) (fun _ n _ => ds.length - (intOf n).toNat)
  case atStart => exact ⟨0, by omega, rfl, by simp, by simpa [climbB] using HX4.out, HZ4.out, F4⟩
  case round =>
    obtain ⟨k, hk, rfl, rfl, hB, hZ, E⟩ := hrel
    clear HX4 HZ4 F4
    have hcl := climbB_length (ds.take k) x i Hx.out
    by_cases hlt : k < ds.length
    · obtain ⟨b, o, rfl, hcd⟩ := (HV.out.ext E).at_ hlt
      have hld := HV.out.len hlt
      have hstep := climb_take (x := x) (i := i) hlt
      have hp2 : i / 2 ^ (k + 1) = i / 2 ^ k / 2 := by rw [Nat.pow_succ, ← Nat.div_div_eq_div_mul]
      obtain ⟨q, hq⟩ : ∃ q, q = i / 2 ^ k := ⟨_, rfl⟩
      obtain ⟨z, hz⟩ : ∃ z, z = ds[k] := ⟨_, rfl⟩
      obtain ⟨y, hy⟩ : ∃ y, y = climbB x i (ds.take k) := ⟨_, rfl⟩
      have hqb : q ≤ 64 := by have := Nat.div_le_self i (2 ^ k); have := H64.out; omega
      rw [← hq, ← hz, ← hy] at hstep
      rw [← hz] at hcd hld
      rw [← hy] at hB hcl
      rw [← hq] at hp2 ⊢
      have Hcd := Lib.hid hcd
      have Hld := Lib.hid hld
      have Hcl := Lib.hid hcl
      have Hst := Lib.hid hstep
      have Hp2 := Lib.hid hp2
      have HB := Lib.hid hB
      have HZ := Lib.hid hZ
      clear hcd hld hcl hstep hq hz hy hp2 hB hZ
      by_cases h2 : q % 2 = 0
      · have hb : (((q : Int) % 2) == 0) = true := by rw [beq_iff_eq]; omega
        have Hnd := Lib.hid (fun w' => r8Node_any y z Hcl.out Hld.out w')
        have hnl := nodeB_length y z
        rw [if_pos h2] at Hst
        obtain ⟨r, hr⟩ : ∃ r, r = nodeB y z := ⟨_, rfl⟩
        rw [← hr] at Hnd hnl Hst
        have ir : Hid ((Tryd.prog.info? 43).map (·.size) = some (bytesV r).toArray.size) := dg_i r hnl
        have sr : Hid ((bytesV y).toArray.size = (bytesV r).toArray.size) := by show _ = _; simp [bytesV_length, Hcl.out, hnl]
        clear hr hnl
        go_wp2
        refine wp_region_chain 6 [(true, 0), (true, 1), (true, 2), (true, 3), (true, 4), (false, 5)] (fun w' => Ext wr w') (by kernel_rfl) (by kernel_rfl) (Ext.refl wr).drew ?_
        refine wpTake_load _ _ rfl rfl 43 _ rfl (.agg (bytesV y).toArray) (fun wS hS => run_load_dg (cells_blk (HB.out.ext hS)) Hcl.out) ?_
        simp only [Act.put, List.setIfInBounds_toArray, List.set_cons_zero, List.set_cons_succ]
        iterate 3
          refine wpTake_read _ _ ?_ rfl rfl ?_ ?_
          rotate_left 1
          focus
            intro wS hS
            clear hS
            go_simp
            first | done | with_reducible rfl
          simp only [Act.put, List.setIfInBounds_toArray, List.set_cons_zero, List.set_cons_succ]
        refine wpTake_load _ _ rfl rfl 43 _ rfl (.agg (bytesV z).toArray) (fun wS hS => run_load_dg (Hcd.out.ext hS) Hld.out) ?_
        simp only [Act.put, List.setIfInBounds_toArray, List.set_cons_zero, List.set_cons_succ]
        refine wpTake_do _ _ rfl rfl (fun K hK' => ?_)
        go_simp
        refine (Hnd.out _).mono ?_
        rintro e w5 ⟨rfl, E5⟩
        have E05 : Ext wr w5 := (Ext.refl wr).drew.trans E5
        refine hK' _ _ E05 ?_
        clear hK' K
        refine wpTake_nil ?_
        simp only [List.drop_succ_cons, List.drop_zero]
        have HB5 := Lib.hid (HB.out.ext E05)
        have HZ5 := Lib.hid (HZ.out.ext E05)
        have F5 := E.trans E05
        clear HB HZ E5 E05
        go_wp2_with (first | (refine wpList_store_blk rfl 43 _ _ rfl (w.heap.size + 1 + 1) (bytesV r).toArray rfl rfl 43 _ HB5.out ir.out sr.out (bytes_one _) ?_; intro w7 hs7 hb7 hg7))
        refine NoPanic.normal ?_
        go_wp2
        go_roundw
        case rel => exact ⟨k + 1, hlt, by go_num, by rw [Hp2.out]; go_num, by rw [Hst.out]; exact hb7, HZ5.out.grown hg7 (by simp), F5.grown hg7 (by simp; omega)⟩
        case measure => simp [intOf]; omega
      · have hb : (((q : Int) % 2) == 0) = false := by rw [beq_eq_false_iff_ne]; omega
        have Hnd := Lib.hid (fun w' => r8Node_any z y Hld.out Hcl.out w')
        have hnl := nodeB_length z y
        rw [if_neg h2] at Hst
        obtain ⟨r, hr⟩ : ∃ r, r = nodeB z y := ⟨_, rfl⟩
        rw [← hr] at Hnd hnl Hst
        have ir : Hid ((Tryd.prog.info? 43).map (·.size) = some (bytesV r).toArray.size) := dg_i r hnl
        have sr : Hid ((bytesV y).toArray.size = (bytesV r).toArray.size) := by show _ = _; simp [bytesV_length, Hcl.out, hnl]
        clear hr hnl
        go_wp2
        refine wp_region_chain 6 [(true, 0), (true, 1), (true, 2), (true, 3), (true, 4), (false, 5)] (fun w' => Ext wr w') (by kernel_rfl) (by kernel_rfl) (Ext.refl wr).drew ?_
        iterate 3
          refine wpTake_read _ _ ?_ rfl rfl ?_ ?_
          rotate_left 1
          focus
            intro wS hS
            clear hS
            go_simp
            first | done | with_reducible rfl
          simp only [Act.put, List.setIfInBounds_toArray, List.set_cons_zero, List.set_cons_succ]
        refine wpTake_load _ _ rfl rfl 43 _ rfl (.agg (bytesV z).toArray) (fun wS hS => run_load_dg (Hcd.out.ext hS) Hld.out) ?_
        simp only [Act.put, List.setIfInBounds_toArray, List.set_cons_zero, List.set_cons_succ]
        refine wpTake_load _ _ rfl rfl 43 _ rfl (.agg (bytesV y).toArray) (fun wS hS => run_load_dg (cells_blk (HB.out.ext hS)) Hcl.out) ?_
        simp only [Act.put, List.setIfInBounds_toArray, List.set_cons_zero, List.set_cons_succ]
        refine wpTake_do _ _ rfl rfl (fun K hK' => ?_)
        go_simp
        refine (Hnd.out _).mono ?_
        rintro e w5 ⟨rfl, E5⟩
        have E05 : Ext wr w5 := (Ext.refl wr).drew.trans E5
        refine hK' _ _ E05 ?_
        clear hK' K
        refine wpTake_nil ?_
        simp only [List.drop_succ_cons, List.drop_zero]
        have HB5 := Lib.hid (HB.out.ext E05)
        have HZ5 := Lib.hid (HZ.out.ext E05)
        have F5 := E.trans E05
        clear HB HZ E5 E05
        go_wp2_with (first | (refine wpList_store_blk rfl 43 _ _ rfl (w.heap.size + 1 + 1) (bytesV r).toArray rfl rfl 43 _ HB5.out ir.out sr.out (bytes_one _) ?_; intro w7 hs7 hb7 hg7))
        refine NoPanic.normal ?_
        go_wp2
        go_roundw
        case rel => exact ⟨k + 1, hlt, by go_num, by rw [Hp2.out]; go_num, by rw [Hst.out]; exact hb7, HZ5.out.grown hg7 (by simp), F5.grown hg7 (by simp; omega)⟩
        case measure => simp [intOf]; omega
    · obtain rfl : k = ds.length := by omega
      rw [List.take_length] at hB hcl
      obtain ⟨y, hy⟩ : ∃ y, y = climbB x i ds := ⟨_, rfl⟩
      rw [← hy] at hB hcl
      have Hy := Lib.hid hy
      have iy : Hid ((Tryd.prog.info? 43).map (·.size) = some (bytesV y).toArray.size) := dg_i y hcl
      have sy : Hid (zb32.size = (bytesV y).toArray.size) := zb32_size _ hcl
      clear hy
      go_wp2_with (first | (refine wpList_load_blk hB rfl 43 _ rfl rfl Tryd.underlying43 rfl iy.out ?_) | (refine wpList_store_blk rfl 43 _ _ rfl (w.heap.size + 1) (bytesV y).toArray rfl rfl 43 zb32 hZ iy.out sy.out (bytes_one _) ?_; intro w7 hs7 hb7 hg7))
      refine bodyPost_ret (v := .tuple #[dgV y, .int .i64 0]) (ret2_blk hb7 rfl rfl Tryd.underlying43 rfl iy.out rfl) rfl ?_
      exact ⟨by rw [Hy.out], E.grown hg7 (by simp)⟩
end Go.Proofs.YtddbmddblhjkkaaDoor
/- The reference's May and Verify of a signer. -/
namespace Go.Proofs.YtddbmddblhjkkaaDoor
open Go.RowKit Go.Maps

set_option maxRecDepth 100000 in
set_option maxHeartbeats 400000 in
theorem r9May_any (b h : Int) (r : List UInt8) (w : World) : Calls Tryd.prog 20 #[.agg (pkC b h r)] w fun e w' => e = .returned (.bool (mayK b h)) ∧ Ext w w' := by
  have E0 : Ext w (w.alloc (.cells (pkC b h r) 45)) := (Ext.refl w).alloc _
  have hB := Blk.new w 45 (pkC b h r)
  have c0 : (w.alloc (.cells (pkC b h r) 45)).cell? ⟨w.heap.size, 0, none⟩ = some (.int .i64 b) := hB.cell 0
  have c1 : (w.alloc (.cells (pkC b h r) 45)).cell? ⟨w.heap.size, 1, none⟩ = some (.int .i64 h) := hB.cell 1
  have Hm := fun w => Lib.hid (r7May_any b w)
  have p0 := pkC_0 b h r
  have p1 := pkC_1 b h r
  clear hB
  have Hk : Hid (mayK b h = (mayB b && (decide (0 ≤ h) && decide (h ≤ 6)))) := Lib.hid rfl
  cases hm : mayB b with
  | false =>
    rw [hm] at Hm Hk
    go_enter Tryd.func20, Tryd.ntmps20
    go_wp2_with fail
    with_reducible refine (Hm _).out.mono ?_
    rintro e w2 ⟨rfl, rfl⟩
    go_wp2
    go_ret
    exact ⟨by rw [Hk.out]; rfl, E0⟩
  | true =>
    rw [hm] at Hm Hk
    by_cases h0 : 0 ≤ h
    · by_cases h6 : h ≤ 6
      all_goals
        go_enter Tryd.func20, Tryd.ntmps20
        go_wp2_with fail
        with_reducible refine (Hm _).out.mono ?_
        rintro e w2 ⟨rfl, rfl⟩
        go_wp2
        go_ret
        exact ⟨by rw [Hk.out]; simp [h0, h6], E0⟩
    · go_enter Tryd.func20, Tryd.ntmps20
      go_wp2_with fail
      with_reducible refine (Hm _).out.mono ?_
      rintro e w2 ⟨rfl, rfl⟩
      go_wp2
      go_ret
      exact ⟨by rw [Hk.out]; simp; omega, E0⟩

set_option maxRecDepth 100000 in
set_option maxHeartbeats 1000000 in
theorem r9verify_no1 (b h i : Int) (r : List UInt8) (mv : Value) (Ar Ao Aw : Option Addr) (nr no nw cr co cw : Nat) (m : List UInt8) (w : World) (hr : r.length = 32) (hmv : Sl w mv m) (hlm : m.length ≤ 1048576)
    (hno : mayK b h = false ∨ (mayK b h = true ∧ (nr : Int) ≠ b) ∨ (mayK b h = true ∧ (nr : Int) = b ∧ (nw : Int) ≠ h)) :
    Calls Tryd.prog 23 #[.agg (pkC b h r), mv, .agg (sigC i (.slice Ar nr cr) (.slice Ao no co) (.slice Aw nw cw))] w fun e w' => e = .returned (.bool false) ∧ Ext w w' := by
  obtain ⟨Am, cm, rfl, _⟩ := SlR.form hmv
  clear hmv
  have hgm : ¬ ((m.length : Int) > 1048576) := by omega
  have hi := info_pkC b h r hr
  have hB0 := Blk.new w 45 (pkC b h r)
  have hB1 := Blk.new (w.alloc (.cells (pkC b h r) 45)) 37 (sigC i (.slice Ar nr cr) (.slice Ao no co) (.slice Aw nw cw))
  have hB0' := hB0.alloc (.cells (sigC i (.slice Ar nr cr) (.slice Ao no co) (.slice Aw nw cw)) 37)
  rw [World.size_alloc] at hB1
  have Ew3 : Ext w ((w.alloc (.cells (pkC b h r) 45)).alloc (.cells (sigC i (.slice Ar nr cr) (.slice Ao no co) (.slice Aw nw cw)) 37)) := ((Ext.refl w).alloc _).alloc _
  have Hm := fun w => Lib.hid (r9May_any b h r w)
  obtain ⟨P, hP⟩ : ∃ P, P = pkC b h r := ⟨_, rfl⟩
  obtain ⟨S, hS⟩ : ∃ S, S = sigC i (.slice Ar nr cr) (.slice Ao no co) (.slice Aw nw cw) := ⟨_, rfl⟩
  rw [← hS] at hB1 hB0' Ew3 ⊢
  rw [← hP] at hB0 hB1 hB0' Ew3 hi ⊢
  simp only [← hP] at Hm
  have HP := Lib.hid hP
  have HS := Lib.hid hS
  clear hP hS hB0
  go_enter Tryd.func23, Tryd.ntmps23
  go_wp2_with (refine wpList_load_blk hB0' rfl 45 _ rfl rfl Tryd.underlying45 rfl hi ?_)
  have pack := And.intro hB0' (And.intro hB1 Ew3)
  clear hB0' hB1 Ew3
  revert pack
  generalize (w.alloc (.cells P 45)).alloc (.cells S 37) = w3
  rintro ⟨hB0', hB1, Ew3⟩
  with_reducible refine (Hm _).out.mono ?_
  rintro e w4 ⟨rfl, E4⟩
  have E := Ew3.trans E4
  replace hB0' := hB0'.ext E4
  replace hB1 := hB1.ext E4
  rw [HP.out] at hB0'
  rw [HS.out] at hB1
  have c0 := (pkC_cells hB0').1
  have c1 := (pkC_cells hB0').2
  have d1 := (sigC_cells hB1).2.1
  have d3 := (sigC_cells hB1).2.2.2
  clear Hm hB0' hB1 Ew3 E4
  rcases hno with hm | ⟨hm, hn⟩ | ⟨hm, hn, hn2⟩
  · rw [hm]
    go_wp2
    go_ret
    exact ⟨rfl, E⟩
  · rw [hm]
    have hb1 : (((nr : Int)) != b) = true := by rw [bne_iff_ne]; exact hn
    go_wp2
    go_ret
    exact ⟨rfl, E⟩
  · rw [hm]
    have hb1 : (((nr : Int)) != b) = false := by rw [bne_eq_false_iff_eq]; exact hn
    have hb2 : (((nw : Int)) != h) = true := by rw [bne_iff_ne]; exact hn2
    go_wp2
    go_ret
    exact ⟨rfl, E⟩

set_option maxRecDepth 100000 in
set_option maxHeartbeats 2000000 in
theorem r9verify_whole (i : Int) (r m : List UInt8) (mv : Value) (rv ov wv : Value) (rev oth way : List (List UInt8)) (w : World) (hr : r.length = 32) (hmv : Sl w mv m) (hlm : m.length ≤ 1048576)
    (hrv : SlD w rv rev) (hov : SlD w ov oth) (hwv : SlD w wv way) (hm : mayK rev.length way.length = true) :
    Calls Tryd.prog 23 #[.agg (pkC rev.length way.length r), mv, .agg (sigC i rv ov wv)] w fun e w' => e = .returned (.bool (wholeB rev.length oth.length && climbOk way.length i && decide (climbB (impB m rev oth) i.toNat way = r))) ∧ Ext w w' := by
  obtain ⟨Am, cm, rfl, hcm⟩ := SlR.form hmv
  obtain ⟨Ar, cr, rfl, hcr⟩ := hrv.form
  obtain ⟨Ao, co, rfl, hco⟩ := hov.form
  obtain ⟨Aw, cw, rfl, hcw⟩ := hwv.form
  have hi := info_pkC rev.length way.length r hr
  have hB0 := Blk.new w 45 (pkC rev.length way.length r)
  have hB1 := Blk.new (w.alloc (.cells (pkC rev.length way.length r) 45)) 37 (sigC i (.slice Ar rev.length cr) (.slice Ao oth.length co) (.slice Aw way.length cw))
  have hB0' := hB0.alloc (.cells (sigC i (.slice Ar rev.length cr) (.slice Ao oth.length co) (.slice Aw way.length cw)) 37)
  rw [World.size_alloc] at hB1
  have Ew3 : Ext w ((w.alloc (.cells (pkC rev.length way.length r) 45)).alloc (.cells (sigC i (.slice Ar rev.length cr) (.slice Ao oth.length co) (.slice Aw way.length cw)) 37)) := ((Ext.refl w).alloc _).alloc _
  have Hm := fun w => Lib.hid (r9May_any rev.length way.length r w)
  rw [hm] at Hm
  have Hno := fun w => Lib.hid (r7Implied_no (.slice Am m.length cm) Ar Ao rev.length oth.length cr co w)
  have Hyes := fun w' (E : Ext w w') => Lib.hid (r7Implied_yes (.slice Am m.length cm) (.slice Ar rev.length cr) (.slice Ao oth.length co) m rev oth w' (hmv.ext E) (hrv.ext E) (hov.ext E))
  have Hcno := fun x w => Lib.hid (r8Climb_no x i Aw way.length cw w)
  have Hcyes := fun x k w' (E : Ext w w') => Lib.hid (r8Climb_yes x k (.slice Aw way.length cw) way w')
  have HW := Lib.hid hwv
  obtain ⟨P, hP⟩ : ∃ P, P = pkC rev.length way.length r := ⟨_, rfl⟩
  obtain ⟨S, hS⟩ : ∃ S, S = sigC i (.slice Ar rev.length cr) (.slice Ao oth.length co) (.slice Aw way.length cw) := ⟨_, rfl⟩
  rw [← hS] at hB1 hB0' Ew3 ⊢
  rw [← hP] at hB0 hB1 hB0' Ew3 hi ⊢
  simp only [← hP] at Hm
  have HP := Lib.hid hP
  have HS := Lib.hid hS
  have Hlm := Lib.hid hlm
  have hgm : ¬ ((m.length : Int) > 1048576) := by omega
  clear hP hS hB0 hmv hrv hov hwv hlm
  obtain ⟨B, hB⟩ : ∃ B, B = (wholeB rev.length oth.length && climbOk way.length i && decide (climbB (impB m rev oth) i.toNat way = r)) := ⟨_, rfl⟩
  rw [← hB]
  have HB := Lib.hid hB
  clear hB
  go_enter Tryd.func23, Tryd.ntmps23
  go_wp2_with (refine wpList_load_blk hB0' rfl 45 _ rfl rfl Tryd.underlying45 rfl hi ?_)
  have pack := And.intro hB0' (And.intro hB1 Ew3)
  clear hB0' hB1 Ew3
  revert pack
  generalize (w.alloc (.cells P 45)).alloc (.cells S 37) = w3
  rintro ⟨hB0', hB1, Ew3⟩
  with_reducible refine (Hm _).out.mono ?_
  rintro e w4 ⟨rfl, E4⟩
  have E := Ew3.trans E4
  replace hB0' := hB0'.ext E4
  replace hB1 := hB1.ext E4
  rw [HP.out] at hB0'
  rw [HS.out] at hB1
  have c0 := (pkC_cells hB0').1
  have c1 := (pkC_cells hB0').2
  have d0 := (sigC_cells hB1).1
  have d1 := (sigC_cells hB1).2.1
  have d3 := (sigC_cells hB1).2.2.2
  have HO := Lib.hid (sigC_once hB1)
  have HR := Lib.hid (pkC_root hB0')
  clear Hm hB0' hB1 Ew3 E4
  have hi1 : (Tryd.prog.info? 35).map (·.size) = some 2 := info_one
  by_cases hwh : wholeB rev.length oth.length = true
  · go_wp2_with (refine wpList_load_mid HO.out rfl 35 _ rfl rfl Tryd.underlying35 rfl hi1 ?_)
    have Hyes' := fun w' (E : Ext w w') => Lib.hid ((Hyes w' E).out hwh Hlm.out)
    have lz := impB_length m rev oth
    obtain ⟨z, hz⟩ : ∃ z, z = impB m rev oth := ⟨_, rfl⟩
    simp only [← hz] at Hyes' lz
    have iz := dg_i z lz
    have sz := zb32_size z lz
    have Lz := Lib.hid lz
    have Hz := Lib.hid hz
    have Hwh := Lib.hid hwh
    clear hz Hno Hyes hwh lz
    with_reducible refine (Hyes' _ E).out.mono ?_
    rintro e w5 ⟨rfl, E5⟩
    clear Hyes'
    go_wp2_with (first | (have _ := D1; refine wpList_load_blk D1 rfl 43 _ rfl rfl Tryd.underlying43 rfl iz ?_) | (refine wpList_var rfl rfl 43 rfl _ _ rfl (.agg zb32) zero_a32 (bytesV z).toArray rfl rfl iz sz (bytes_one _) ?_; intro w6 D1 E6; replace d0 := E6.cell (E5.cell d0); replace d3 := E6.cell (E5.cell d3)))
    have F := E.trans (E5.trans E6)
    replace HR := Lib.hid ((HR.out.ext E5).ext E6)
    clear c0 c1 d1 E5 E6 E HO
    by_cases hok : climbOk way.length i = true
    · obtain ⟨h6, h0, hlt⟩ := (climbOk_iff _ _).1 hok
      obtain ⟨k, rfl⟩ : ∃ k : Nat, i = (k : Int) := ⟨i.toNat, by omega⟩
      have hk : k < 2 ^ way.length := by exact_mod_cast hlt
      have Hc := fun w' (E : Ext w w') => Lib.hid ((Hcyes z k w' E).out Lz.out (HW.out.ext E) h6 hk)
      have ly := climbB_length way z k Lz.out
      have HB2 : Hid (B = decide (climbB z k way = r)) := Lib.hid (by rw [HB.out, Hwh.out, hok, Hz.out]; simp)
      clear Hcyes Hcno hok h0 hlt
      obtain ⟨y, hy⟩ : ∃ y, y = climbB z k way := ⟨_, rfl⟩
      rw [← hy] at ly HB2
      simp only [← hy] at Hc
      have iy := dg_i y ly
      have sy := zb32_size y ly
      have Ly := Lib.hid ly
      clear hy ly
      with_reducible refine (Hc _ F).out.mono ?_
      rintro e w7 ⟨rfl, E7⟩
      clear Hc
      have heq : ∀ w, (Op.equalIn 10000 43 (.agg (bytesV y).toArray) (.agg (bytesV r).toArray)).run Tryd.prog w = .ok (decide (y = r)) w := fun w => by rw [equal_dg y r Ly.out hr w, Bool.beq_eq_decide_eq]
      go_wp2_with (first | (have _ := D2; refine wpList_unguard rfl ?_; refine wpList_load_blk D2 rfl 43 _ rfl rfl Tryd.underlying43 rfl iy ?_) | (have _ := D2; refine wpList_unguard rfl ?_; refine wpList_load_dg HR8.out hr rfl _ rfl rfl ?_) | (refine wpList_var rfl rfl 43 rfl _ _ rfl (.agg zb32) zero_a32 (bytesV y).toArray rfl rfl iy sy (bytes_one _) ?_; intro w8 D2 E8; have HR8 := Lib.hid ((HR.out.ext E7).ext E8); have G := F.trans (E7.trans E8)))
      go_ret
      refine ⟨?_, G⟩
      rw [HB2.out]
      rfl
    · have hokf : climbOk way.length i = false := by simpa using hok
      have Hc := fun w => Lib.hid ((Hcno z w).out hokf)
      have HBf : Hid (B = false) := Lib.hid (by rw [HB.out, hokf]; simp)
      clear Hcyes Hcno hok hokf
      with_reducible refine (Hc _).out.mono ?_
      rintro e w7 ⟨rfl, E7⟩
      clear Hc
      go_wp2_with (refine wpList_var rfl rfl 43 rfl _ _ rfl (.agg zb32) zero_a32 zb32 rfl rfl info_a32 rfl zb32_one ?_; intro w8 D2 E8)
      have G := F.trans (E7.trans E8)
      go_wp2
      go_ret
      refine ⟨?_, G⟩
      show Ending.returned (.bool false) = _
      rw [HBf.out]
  · have hwf : wholeB rev.length oth.length = false := by simpa using hwh
    have HBf : Hid (B = false) := Lib.hid (by rw [HB.out, hwf]; rfl)
    have Hno' := fun w => Lib.hid ((Hno w).out hwf)
    clear hwh hwf
    go_wp2_with (refine wpList_load_mid HO.out rfl 35 _ rfl rfl Tryd.underlying35 rfl hi1 ?_)
    with_reducible refine (Hno' _).out.mono ?_
    rintro e w5 ⟨rfl, E5⟩
    go_wp2_with (refine wpList_var rfl rfl 43 rfl _ _ rfl (.agg zb32) zero_a32 zb32 rfl rfl info_a32 rfl zb32_one ?_; intro w6 D1 E6)
    go_ret
    refine ⟨?_, E.trans (E5.trans E6)⟩
    show Ending.returned (.bool false) = _
    rw [HBf.out]
end Go.Proofs.YtddbmddblhjkkaaDoor
/- pursuivantref09.Decode. -/
namespace Go.Proofs.YtddbmddblhjkkaaDoor
open Go.RowKit Go.Maps

set_option maxRecDepth 100000 in
set_option maxHeartbeats 400000 in
theorem r9Decode_no1 (b h : Int) (r : List UInt8) (v : Value) (w : World) (hr : r.length = 32) (hno : mayK b h = false) :
    Calls Tryd.prog 27 #[.agg (pkC b h r), v] w fun e w' => e = .returned (.tuple #[.agg noSig, .int .i64 1]) ∧ Ext w w' := by
  have hi := info_pkC b h r hr
  have hB := Blk.new w 45 (pkC b h r)
  have E0 : Ext w (w.alloc (.cells (pkC b h r) 45)) := (Ext.refl w).alloc _
  have Hm := fun w => Lib.hid (r9May_any b h r w)
  rw [hno] at Hm
  obtain ⟨P, hP⟩ : ∃ P, P = pkC b h r := ⟨_, rfl⟩
  rw [← hP] at hB E0 hi ⊢
  simp only [← hP] at Hm
  clear hno hP
  go_enter Tryd.func27, Tryd.ntmps27
  go_wp2_with (first | (refine wpList_alloc_blk rfl 37 rfl (.agg noSig) zero_sig ?_; intro w1 hs1 hb1 he1; clear hs1) | (refine wpList_load_blk (hB.ext he1) rfl 45 _ rfl rfl Tryd.underlying45 rfl hi ?_))
  with_reducible refine (Hm _).out.mono ?_
  rintro e w2 ⟨rfl, E2⟩
  have F2 := (E0.trans he1).trans E2
  have hb2 := hb1.ext E2
  simp only [World.size_alloc] at hb2
  go_wp2_with (first | (refine wpList_build_to rfl 37 _ rfl noSig (by kernel_rfl) ?_) | (refine wpList_store_blk rfl 37 _ _ rfl (w.heap.size + 1) noSig rfl rfl 37 noSig hb2 info_sig rfl noSig_one ?_; intro w7 hs7 hb7 hg7))
  refine bodyPost_ret (v := .tuple #[.agg noSig, .int .i64 1]) (ret2_blk hb7 rfl rfl Tryd.underlying37 rfl info_sig rfl) rfl ?_
  exact ⟨rfl, F2.grown hg7 (by simp)⟩

/-- what Decode holds behind k digests -/
structure DecI (w w6 wr : World) (g d base : Nat) (lf : Nat) (s : List UInt8 × Bool) (k : Nat) : Prop where
  path : ∃ vp, Blk wr d 37 #[.int .i64 lf, .slice none 0 0, .slice none 0 0, vp] ∧ OwnD wr base vp (ptN s k)
  rd : Rd 99 wr g (stN s k).1 (stN s k).2
  rq : RdQ w.heap.size wr g
  old : OldK base g d w6 wr
  ex : Ext w wr

theorem sig_nu {w : World} {d : Nat} {lf : Int} {a b c : Value} (h : Blk w d 37 #[.int .i64 lf, a, b, c]) (ha : ∀ k : Int, a ≠ .int .u8 k) (hb : ∀ k : Int, b ≠ .int .u8 k) (hc : ∀ k : Int, c ≠ .int .u8 k) (o : Nat) (k : Int) : w.cell? ⟨d, o, none⟩ ≠ some (.int .u8 k) := fun e => by
  rw [h.cell] at e
  match o with
  | 0 => simp at e
  | 1 => exact ha k (by simpa using e)
  | 2 => exact hb k (by simpa using e)
  | 3 => exact hc k (by simpa using e)
  | o + 4 => simp at e

/-- what Decode answers where the bits and the height may be -/
def DecA (bs : List UInt8) (b h : Nat) (w : World) (e : Ending) (w' : World) : Prop :=
  Ext w w' ∧ ((decOk bs b h = false ∧ e = .returned (.tuple #[.agg noSig, .int .i64 11])) ∨ (decOk bs b h = true ∧ ∃ rv ov wv, e = .returned (.tuple #[.agg (sigC (numB (bs.take 4)) rv ov wv), .int .i64 0]) ∧
      SlD w' rv (decR ((bs.drop 4).take (64 * b)) b) ∧ SlD w' ov (decO ((bs.drop 4).take (64 * b)) b) ∧ SlD w' wv (decW ((bs.drop 4).drop (64 * b)) h)))

set_option maxRecDepth 100000 in
set_option maxHeartbeats 4000000 in
theorem r9Decode_go (b h : Nat) (r : List UInt8) (v : Value) (bs : List UInt8) (w : World) (hr : r.length = 32) (hm : mayK b h = true) (hv : Sl w v bs) (hlen : bs.length ≤ 1073741824) :
    Calls Tryd.prog 27 #[.agg (pkC b h r), v] w (DecA bs b h w) := by
  have hi := info_pkC b h r hr
  obtain ⟨hm1, hh0, hh6⟩ := (mayK_iff _ _).1 hm
  obtain ⟨hb1', hb2', _⟩ := (mayB_iff _).1 hm1
  have hB := Blk.new w 45 (pkC b h r)
  have E0 : Ext w (w.alloc (.cells (pkC b h r) 45)) := (Ext.refl w).alloc _
  have Hm := fun w => Lib.hid (r9May_any b h r w)
  rw [hm] at Hm
  obtain ⟨A, c, rfl, hc⟩ := SlR.form hv
  have wb : IntKind.i64.wrap (64 * (b : Int)) = 64 * (b : Int) := IntWalk.i64_in _ (by omega)
  have pc := fun (w' : World) (hb : Blk w' w.heap.size 45 (pkC b h r)) => Lib.hid (pkC_cells hb)
  obtain ⟨P, hP⟩ : ∃ P, P = pkC b h r := ⟨_, rfl⟩
  rw [← hP] at hB E0 hi ⊢
  simp only [← hP] at Hm pc
  have Hv := Lib.hid hv
  have Hm1 := Lib.hid hm1
  clear hm hP hm1 hv
  go_enter Tryd.func27, Tryd.ntmps27
  go_wp2_with (first | (refine wpList_alloc_blk rfl 37 rfl (.agg noSig) zero_sig ?_; intro w1 hs1 hb1 he1; clear hs1) | (refine wpList_load_blk (hB.ext he1) rfl 45 _ rfl rfl Tryd.underlying45 rfl hi ?_))
  with_reducible refine (Hm _).out.mono ?_
  rintro e w2 ⟨rfl, E2⟩
  have F2 := (E0.trans he1).trans E2
  have hb2 := hb1.ext E2
  simp only [World.size_alloc] at hb2
  have hB2 := (hB.ext he1).ext E2
  clear he1 E2 E0 hB hb1 Hm
  have hR := Blk.new w2 99 #[.slice A bs.length c, .bool false]
  have E3 : Ext w2 (w2.alloc (.cells #[.slice A bs.length c, .bool false] 99)) := (Ext.refl w2).alloc _
  have F3 := F2.trans E3
  have R3 : Rd 99 (w2.alloc (.cells #[.slice A bs.length c, .bool false] 99)) w2.heap.size bs false := ⟨A, c, hR, Hv.out.ext F3, fun h => by cases h⟩
  have Q3 : RdQ w.heap.size (w2.alloc (.cells #[.slice A bs.length c, .bool false] 99)) w2.heap.size := ⟨A, _, c, false, hR, fun a e h0 => by
    obtain ⟨b0, o0, hA, hc0⟩ := SlR.here Hv.out h0
    rw [e] at hA
    cases hA
    exact World.block_lt_of_cell? w _ (hc0 0 _ (bytesV_get _ 0 h0))⟩
  have hlt : w.heap.size + 1 < w2.heap.size := hb2.lt
  replace hb2 := hb2.ext E3
  replace hB2 := hB2.ext E3
  have Hi := Lib.hid (rInt_all _ bs _ R3)
  clear E3 R3 hR
  go_wp2_with fail
  with_reducible refine Hi.out.mono ?_
  rintro e w4 ⟨rfl, R4, g4, q4⟩
  have Q4 := q4 _ Q3
  have F4 := F3.grown g4 (fun k e => by injection e with e; omega)
  replace hb2 := hb2.grown g4 (by intro e; injection e with e; omega)
  replace hB2 := hB2.grown g4 (by intro e; injection e with e; omega)
  clear Hi F3 g4 q4 Q3
  go_wp2_with (refine wpList_var rfl rfl 37 rfl _ _ rfl (.agg noSig) zero_sig (lfC (intV bs)) rfl rfl info_sig rfl (lfC_one _) ?_; intro w5 D5 E5; have R5 := R4.ext E5; have Q5 := Q4.ext E5; have F5 := F4.trans E5; have hb5 := hb2.ext E5; have hB5 := hB2.ext E5; have c5 := (pc _ hB5).out.1)
  have hlt5 : w2.heap.size < w4.heap.size := by obtain ⟨_, _, hBg, _⟩ := R4; exact hBg.lt
  clear F4 R4 hb2 hB2 Q4
  have Hb := Lib.hid (rBytes_all _ (rdS (bs, false) 4) (64 * (b : Int)) (64 * b) (by omega) (by omega) w5 R5 (Nat.le_trans (rdS_len _ _) hlen))
  with_reducible refine Hb.out.mono ?_
  rintro e w6 ⟨v6, rfl, S6, R6, g6, q6⟩
  have Q6 := q6 _ Q5
  have F6 := F5.grown g6 (fun k e => by injection e with e; omega)
  have hb6 := hb5.grown g6 (by intro e; injection e with e; omega)
  have hB6 := hB5.grown g6 (by intro e; injection e with e; omega)
  have D6 := D5.grown g6 (by intro e; injection e with e; omega)
  have hd6 : w4.heap.size < w6.heap.size := D6.lt
  clear Hb F5 g6 q6 Q5 hb5 hB5 D5 c5 R5
  obtain ⟨s, hs⟩ : ∃ s, s = rdS (rdS (bs, false) 4) (64 * b) := ⟨_, rfl⟩
  obtain ⟨on, hon⟩ : ∃ s, s = rdB (rdS (bs, false) 4) (64 * b) := ⟨_, rfl⟩
  have hsl : s.1.length ≤ 1073741824 := by rw [hs]; exact Nat.le_trans (rdS_len _ _) (Nat.le_trans (rdS_len _ _) hlen)
  have hsg : s.2 = true → s.1 = [] := by rw [hs]; exact rdS_good _ _
  have hend : stN s h = dEnd bs b h := by rw [stN_eq s hsg, hs]; rfl
  rw [← hs] at R6
  rw [← hon] at S6
  obtain ⟨lf, hlf⟩ : ∃ x, x = intV bs := ⟨_, rfl⟩
  rw [← hlf] at D6
  obtain ⟨A6, k6, rfl, hk6⟩ := SlR.form S6
  have hI0 : DecI w w6 w6 w2.heap.size w4.heap.size w6.heap.size lf s 0 := ⟨⟨_, D6, OwnD.none_ _ _⟩, R6, Q6, ⟨Nat.le_refl _, fun _ _ _ _ => rfl⟩, F6⟩
  have HI0 := Lib.hid hI0
  have hnug := Lib.hid (fun o k => Rd.nu R6 o k)
  have hnud := Lib.hid (fun o k => sig_nu D6 (fun k e => by cases e) (fun k e => by cases e) (fun k e => by cases e) o k)
  obtain ⟨g, hg⟩ : ∃ g, g = w2.heap.size := ⟨_, rfl⟩
  obtain ⟨d, hd⟩ : ∃ g, g = w4.heap.size := ⟨_, rfl⟩
  obtain ⟨base, hbase⟩ : ∃ g, g = w6.heap.size := ⟨_, rfl⟩
  simp only [← hg, ← hd, ← hbase] at HI0 hlt hlt5 hd6 hnug hnud ⊢
  have hzB := Lib.hid (show w6.heap.size ≤ base by omega)
  have Hs := Lib.hid hs
  have Hon := Lib.hid hon
  have Hsl := Lib.hid hsl
  have Hend := Lib.hid hend
  have Hlf := Lib.hid hlf
  have HB6 := Lib.hid hB6
  have Hb6 := Lib.hid hb6
  have HS6 := Lib.hid S6
  have hwb : w.heap.size + 1 < base := by omega
  clear hI0 D6 R6 S6 hB6 hb6 F6 hs hon hsl hsg hend F2 hlf hg hd hbase Q6
  go_wp2
  go_loopw [9] (fun i wr => ∃ k : Nat, k ≤ h ∧ i = .int .i64 k ∧ DecI w w6 wr g d base lf s k) (fun i _ => h - (intOf i).toNat)
  case atStart => exact ⟨0, by omega, rfl, HI0.out⟩
  case round =>
    clear HI0
    obtain ⟨k, hk, rfl, hI⟩ := hrel
    have c1 := (pc _ (hI.old.blk HB6.out (by omega) (by omega) (by omega))).out.2
    by_cases hlt : k < h
    · have hki : (k : Int) < (h : Int) := by omega
      obtain ⟨vp, hD, hO⟩ := hI.path
      have hO7 := fun w7 (g7 : wr.grownBy w7 (some g)) => OwnD.apart (w' := w7) hO g7 (fun j hj e => by
        injection e with e
        subst e
        obtain ⟨_, _, hBg, _⟩ := hI.rd
        exact hO.ne hBg (by decide) hj)
      have Hb := Lib.hid (rBytes_all g (stN s k) 32 32 rfl (by omega) wr hI.rd (Nat.le_trans (stN_len _ _) Hsl.out))
      have HD := Lib.hid hD
      have HO7 := Lib.hid hO7
      have HQ := Lib.hid hI.rq
      have HOl := Lib.hid hI.old
      have F := hI.ex
      clear hI hD hO hO7
      go_wp2_with fail
      with_reducible refine Hb.out.mono ?_
      rintro e w7 ⟨v7, rfl, S7, R7, g7, q7⟩
      have HO := Lib.hid (HO7.out w7 g7)
      have HDa := Lib.hid (HD.out.grown g7 (by intro e; injection e with e; omega))
      have HQ7 := Lib.hid (q7 _ HQ.out)
      have HOl7 := Lib.hid (HOl.out.grown g7 (fun j e => by injection e with e; omega))
      have F7 := F.grown g7 (fun k e => by injection e with e; omega)
      have hR7 : Rd 99 w7 g (stN s (k + 1)).1 (stN s (k + 1)).2 := R7
      have HR7 := Lib.hid hR7
      have hps := ptN_succ s k
      have hpl := ptN_length s k
      have hxl := padD_length (rdB (stN s k) 32)
      have hpm := rdB_length (stN s k) 32
      have hpx : ∀ j, j < (rdB (stN s k) 32).length → (padD (rdB (stN s k) 32))[j]? = (rdB (stN s k) 32)[j]? := fun j hj => by
        rcases hpm with h1 | h1
        · rw [padD, if_pos h1]
        · rw [h1] at hj; simp at hj
      have hfull : headC (padD (rdB (stN s k) 32)) (rdB (stN s k) 32).length = (bytesV (padD (rdB (stN s k) 32))).toArray := by
        rcases hpm with h1 | h1
        · rw [h1]; exact headC_full _ hxl
        · rw [h1]
          show headC (padD []) 0 = _
          rw [headC_zero, show (padD [] : List UInt8) = z32 from rfl]
          simp [bytesV, byteV]
          rfl
      obtain ⟨p, hp⟩ : ∃ p, p = rdB (stN s k) 32 := ⟨_, rfl⟩
      rw [← hp] at S7 hpm hpx hfull hxl hps
      obtain ⟨x, hx⟩ : ∃ x, x = padD p := ⟨_, rfl⟩
      rw [← hx] at hps hxl hpx hfull
      obtain ⟨ds, hds⟩ : ∃ ds, ds = ptN s k := ⟨_, rfl⟩
      rw [← hds] at HO hps hpl
      obtain ⟨A7, k7, rfl, hk7⟩ := SlR.form S7
      have hp32 : p.length ≤ 32 := by rcases hpm with h1 | h1 <;> simp [h1]
      have Hps := Lib.hid hps
      have Hpl := Lib.hid hpl
      have L1 := Lib.hid hxl
      have Hpx := Lib.hid hpx
      have Hfull := Lib.hid hfull
      have HS7 := Lib.hid S7
      have Hh6 := Lib.hid hh6
      clear hps hpl hxl hpx hfull S7 hpm R7 hR7 HO7 HD HQ HOl F g7 q7 hp hx hds Hb
      go_wp2_with (refine wpList_alloc_blk rfl 43 rfl (.agg zb32) zero_a32 ?_; intro w8 hs8 hb8 he8)
      have hx0 : Blk w8 w7.heap.size 43 (headC x 0) := by rw [← headC_nil x L1.out]; exact hb8
      have Hx0 := Lib.hid hx0
      clear hx0 hb8 hs8
      go_loopw [12] (fun i w9 => ∃ j : Nat, j ≤ p.length ∧ i = .int .i64 (j : Int) ∧ Blk w9 w7.heap.size 43 (headC x j) ∧ Ext w7 w9) (fun i _ => p.length - (intOf i).toNat)
      case atStart => exact ⟨0, by omega, rfl, Hx0.out, he8⟩
      case round =>
        clear Hx0 he8
        obtain ⟨j, hj, rfl, hX, E9⟩ := hrel
        by_cases hlt2 : j < p.length
        · have hj32 : (j : Int) < 32 := by omega
          have hjp : (j : Int) < (p.length : Int) := by omega
          obtain ⟨b0, o0, rfl, hc0⟩ := SlR.here HS7.out (by omega)
          have g1 := hc0 j _ (bytesV_get p j hlt2)
          have g1' := E9.cell g1
          have hs1 := headC_set x j (by rw [L1.out]; omega)
          rw [Hpx.out j hlt2] at hs1
          have hbw : b0 < w7.heap.size := by
            have := World.block_lt_of_cell? w7 _ g1
            simpa using this
          obtain ⟨z1, hz1⟩ := headC_at x L1.out j (by omega)
          have k1 : wr.cell? ⟨w7.heap.size, j, none⟩ = some z1 := (hX.cell j).trans hz1
          have f1 := hX.frozen j
          obtain ⟨u1, hu1⟩ : ∃ u, u = ((p[j]?.getD 0).toNat : Int) := ⟨_, rfl⟩
          rw [← hu1] at g1' hs1
          clear hu1 hz1 g1 hc0
          have Hs1 := Lib.hid hs1
          have HX := Lib.hid hX
          clear hs1 hX
          go_wp2
          have hX9 : Blk (wr.setCell ⟨w7.heap.size, j, none⟩ (.int .u8 u1)) w7.heap.size 43 (headC x (j + 1)) := by rw [← Hs1.out]; exact HX.out.set j _
          have E10 : Ext w7 (wr.setCell ⟨w7.heap.size, j, none⟩ (.int .u8 u1)) := E9.setCell (Nat.le_refl _) _
          exact ⟨⟨j + 1, by omega, by go_num, hX9, E10⟩, by simp [intOf]; omega⟩
        · obtain rfl : j = p.length := by omega
          have HX : Hid (Blk wr w7.heap.size 43 (bytesV x).toArray) := by show Blk _ _ _ _; rw [← Hfull.out]; exact hX
          clear hX
          obtain ⟨Ar, cr, rfl, hcr⟩ := HO.out.form
          rw [Hpl.out] at HO HDa hcr
          have HB7 := Lib.hid (HDa.out.ext E9)
          have HR0 := Lib.hid (HO.out.ext E9)
          have HRd := Lib.hid (HR7.out.ext E9)
          have HQ9 := Lib.hid (HQ7.out.ext E9)
          have HOl9 := Lib.hid (HOl7.out.ext E9)
          have F9 := F7.trans E9
          have hcr0 : wr.cell? ⟨d, 3, none⟩ = some (.slice Ar k cr) := HB7.out.cell 3
          have i1 : Hid ((Tryd.prog.info? 43).map (·.size) = some (bytesV x).toArray.size) := by rw [List.size_toArray, bytesV_length, L1.out]; exact info_a32
          have hbz : base ≤ wr.heap.size := HOl9.out.1
          have hjp : ¬ ((p.length : Int) < (p.length : Int)) := by omega
          clear HO HDa HQ7 HOl7 HR7 F7
          go_wp2_with (first | (refine wpList_load_blk HX.out rfl 43 _ rfl rfl Tryd.underlying43 rfl i1.out ?_) | (refine wpList_build_dg x L1.out rfl _ rfl rfl ?_; intro w10 E910 hs10 hnew; clear hs10; have HN10 := Lib.hid hnew; have HB10 := Lib.hid (HB7.out.ext E910); have HR10 := Lib.hid (HR0.out.ext E910); have hz10 := Nat.le_trans hbz E910.size; have EE := Lib.hid E910; clear hnew E910) | (at_builtin; refine wpList_appD HR10.out L1.out HN10.out rfl _ _ rfl rfl rfl (by have := Hpl.out; have := Hh6.out; omega) hz10 ?_; intro v11 w11 ho11 hg11 hq11; have hn11 := HR10.out.ne HB10.out (by decide); have hB11 := HB10.out.grown hg11 (Ne.symm hn11); have hc11 : w11.cell? ⟨d, 3, none⟩ = some (.slice Ar k cr) := hB11.cell 3; have hf11 := hB11.frozen 3; obtain ⟨A11, c11, e11, hc11'⟩ := ho11.form; rw [List.length_append, Hpl.out, List.length_singleton] at e11; subst e11; have HB11 := Lib.hid hB11; have HO11 := Lib.hid ho11; have Hg11 := Lib.hid hg11; clear hB11 ho11 hg11 hn11))
          obtain ⟨w12, hw12⟩ : ∃ w12, w12 = w11.setCell ⟨d, 3, none⟩ (.slice A11 (k + 1) c11) := ⟨_, rfl⟩
          have HO12 : OwnD w12 base (.slice A11 (k + 1) c11) (ds ++ [x]) := by rw [hw12]; exact HO11.out.set HB11.out (by decide)
          have HB12 : Blk w12 d 37 #[.int .i64 lf, .slice none 0 0, .slice none 0 0, .slice A11 (k + 1) c11] := by rw [hw12]; exact HB11.out.set 3 _
          have hown : ∀ j, (Value.slice Ar k cr).ownBlock = some j → base ≤ j := HR10.out.from
          have hne : (Value.slice Ar k cr).ownBlock ≠ some g := by
            obtain ⟨_, _, hBg, _⟩ := (HRd.out.ext EE.out)
            exact HR10.out.ne hBg (by decide)
          have hRd11 : Rd 99 w11 g (stN s (k + 1)).1 (stN s (k + 1)).2 ∧ RdQ w.heap.size w11 g := by
            have h1 := HRd.out.ext EE.out
            have h2 := HQ9.out.ext EE.out
            have h3 := Hg11.out
            have h4 := hown
            have h5 := hne
            revert h3 h4 h5
            generalize (Value.slice Ar k cr).ownBlock = ob
            intro h3 h4 h5
            cases ob with
            | none => exact h1.newer h2 (o := g + base + 1) ⟨h3.os, h3.tape, h3.output, h3.size, fun j hj _ => h3.block j hj (by simp)⟩ (by omega) (by omega)
            | some o => exact h1.newer h2 h3 (by have := h4 o rfl; omega) (fun e => h5 (by rw [e]))
          have hgd := grown_setCell w11 d 3 (.slice A11 (k + 1) c11)
          rw [← hw12] at hgd
          have hwd : w.heap.size ≤ d := by omega
          have hRd12 := hRd11.1.newer hRd11.2 hgd hwd (by omega)
          have hOl12 := ((HOl9.out.ext EE.out).grown Hg11.out (fun j e => .inr (.inr (hown j e)))).grown hgd (fun j e => by injection e with e; omega)
          have hF12 := ((F9.trans EE.out).grown Hg11.out (fun j e => by have := hown j e; omega)).grown hgd (fun j e => by injection e with e; omega)
          simp only [← hw12]
          exact ⟨⟨k + 1, by omega, by go_num, ⟨⟨_, HB12, by rw [Hps.out]; exact HO12⟩, hRd12.1, hRd12.2, hOl12, hF12⟩⟩, by simp [intOf]; omega⟩
    · obtain rfl : k = h := by omega
      have hki : ¬ ((k : Int) < (k : Int)) := by omega
      obtain ⟨vp, hD, hO⟩ := hI.path
      have hpl := ptN_length s k
      obtain ⟨Ap, cp, rfl, hcp⟩ := hO.form
      rw [hpl] at hcp hD hO
      have hrd := hI.rd
      rw [Hend.out] at hrd
      have hb' : Blk wr (w.heap.size + 1) 37 noSig := hI.old.blk Hb6.out (by omega) (by omega) (by omega)
      have hone := hI.old.sl hzB.out HS6.out hnug.out hnud.out
      have F := hI.ex
      obtain ⟨rest, bad, hrb⟩ : ∃ rest bad, dEnd bs b k = (rest, bad) := ⟨_, _, rfl⟩
      rw [hrb] at hrd
      obtain ⟨A', c', hBg, _, hbn⟩ := hrd
      dsimp only at hBg hbn
      have d0 : wr.cell? ⟨g, 0, none⟩ = some (.slice A' rest.length c') := hBg.cell 0
      have d1 : wr.cell? ⟨g, 1, none⟩ = some (.bool bad) := hBg.cell 1
      have d2 : wr.cell? ⟨d, 0, none⟩ = some (.int .i64 lf) := hD.cell 0
      have hno : (bad = true ∨ 0 < rest.length ∨ 1073741824 < lf) → decOk bs b k = false := fun hbad => by
        cases hok : decOk bs b k with
        | false => rfl
        | true =>
          obtain ⟨h1, h2⟩ := (decOk_iff _ _ _).1 hok
          have h3 := (dEnd_ok bs b k).2 h1
          rw [hrb] at h3
          obtain ⟨rfl, rfl⟩ := Prod.mk.inj h3
          have h4 : lf = numB (bs.take 4) := by rw [Hlf.out, intV, if_pos (by omega)]
          rcases hbad with h | h | h
          · cases h
          · simp at h
          · omega
      have hyes : ¬ (bad = true ∨ 0 < rest.length ∨ 1073741824 < lf) → decOk bs b k = true := fun hbad => by
        have h1 : bad = false := by cases bad <;> simp_all
        have h2 : rest = [] := List.eq_nil_of_length_eq_zero (by omega)
        have h3 := (dEnd_ok bs b k).1 (by rw [hrb, h1, h2])
        have h4 : lf = numB (bs.take 4) := by rw [Hlf.out, intV, if_pos (by omega)]
        exact (decOk_iff _ _ _).2 ⟨h3, by omega⟩
      have HD := Lib.hid hD
      have HO := Lib.hid hO
      have Hone := Lib.hid hone
      have Hno := Lib.hid hno
      have Hyes := Lib.hid hyes
      clear hD hO hpl hI hBg hbn hone hno hyes hb1' hb2'
      by_cases h1 : bad = true
      · subst h1
        have hno := Hno.out (.inl rfl)
        clear Hno Hyes
        go_wp2_with (first | (refine wpList_build_to rfl 37 _ rfl noSig (by kernel_rfl) ?_) | (refine wpList_store_blk rfl 37 _ _ rfl (w.heap.size + 1) noSig rfl rfl 37 noSig hb' info_sig rfl noSig_one ?_; intro w9 hs9 hb9 hg9))
        refine bodyPost_ret (v := .tuple #[.agg noSig, .int .i64 11]) (ret2_blk hb9 rfl rfl Tryd.underlying37 rfl info_sig rfl) rfl ?_
        exact ⟨F.grown hg9 (by simp), .inl ⟨hno, rfl⟩⟩
      · have h1 : bad = false := by cases bad <;> simp_all
        subst h1
        by_cases h2 : 0 < rest.length
        · have hno := Hno.out (.inr (.inl h2))
          have h2i : (rest.length : Int) > 0 := by omega
          clear Hno Hyes
          go_wp2_with (first | (refine wpList_build_to rfl 37 _ rfl noSig (by kernel_rfl) ?_) | (refine wpList_store_blk rfl 37 _ _ rfl (w.heap.size + 1) noSig rfl rfl 37 noSig hb' info_sig rfl noSig_one ?_; intro w9 hs9 hb9 hg9))
          refine bodyPost_ret (v := .tuple #[.agg noSig, .int .i64 11]) (ret2_blk hb9 rfl rfl Tryd.underlying37 rfl info_sig rfl) rfl ?_
          exact ⟨F.grown hg9 (by simp), .inl ⟨hno, rfl⟩⟩
        · have h2i : ¬ ((rest.length : Int) > 0) := by omega
          by_cases h3 : 1073741824 < lf
          · have hno := Hno.out (.inr (.inr h3))
            have h3i : (lf : Int) > 1073741824 := by omega
            clear Hno Hyes
            go_wp2_with (first | (refine wpList_build_to rfl 37 _ rfl noSig (by kernel_rfl) ?_) | (refine wpList_store_blk rfl 37 _ _ rfl (w.heap.size + 1) noSig rfl rfl 37 noSig hb' info_sig rfl noSig_one ?_; intro w9 hs9 hb9 hg9))
            refine bodyPost_ret (v := .tuple #[.agg noSig, .int .i64 11]) (ret2_blk hb9 rfl rfl Tryd.underlying37 rfl info_sig rfl) rfl ?_
            exact ⟨F.grown hg9 (by simp), .inl ⟨hno, rfl⟩⟩
          · have h3i : ¬ ((lf : Int) > 1073741824) := by omega
            have hok := Hyes.out (by simp [h2, h3])
            obtain ⟨hl, hleaf⟩ := (decOk_iff _ _ _).1 hok
            have e1 : rdS (bs, false) 4 = (bs.drop 4, false) := rdS_ok (by omega)
            have e2 : on = (bs.drop 4).take (64 * b) := by
              rw [Hon.out, e1, rdB, if_pos ((rdOk_iff _ _ _).2 ⟨rfl, by simp; omega⟩)]
            have e3 : ptN s k = decW ((bs.drop 4).drop (64 * b)) k := by
              rw [Hs.out, e1, rdS_ok (by simp; omega)]
              exact ptN_ok _ _ (by simp; omega)
            have e4 : lf = numB (bs.take 4) := by rw [Hlf.out, intV, if_pos (by omega)]
            have honl : on.length = b * 64 := by rw [e2]; simp; omega
            have Hd := Lib.hid (r7Decode_yes _ on b wr Hone.out honl Hm1.out)
            have Hok := Lib.hid hok
            have He2 := Lib.hid e2
            have He3 := Lib.hid e3
            have He4 := Lib.hid e4
            have Hb' := Lib.hid hb'
            clear e1 e2 e3 e4 hok hb' hl hleaf Hno Hyes honl
            go_wp2_with fail
            with_reducible refine Hd.out.mono ?_
            rintro e w13 ⟨vr, vo, rfl, hvr, hvo, E13⟩
            obtain ⟨Ar, cr, rfl, hcr⟩ := hvr.form
            obtain ⟨Ao, co, rfl, hco⟩ := hvo.form
            have HB13 := Lib.hid (HD.out.ext E13)
            have HR13 := Lib.hid (HO.out.ext E13)
            have hb13 := Lib.hid (Hb'.out.ext E13)
            have HVR := Lib.hid hvr
            have HVO := Lib.hid hvo
            have F13 := F.trans E13
            clear hvr hvo Hd HD HO Hb' F E13 d0 d1 d2
            have hi2 : (Tryd.prog.info? 35).map (·.size) = some 2 := info_one
            go_wp2_with (first | (refine wpList_store_part rfl 35 _ _ rfl d 37 [Value.int .i64 lf] [.slice none 0 0, .slice none 0 0] [.slice Ap k cp] [.slice Ar (decR on b).length cr, .slice Ao (decO on b).length co] rfl rfl HB13.out rfl hi2 (by simp [Value.oneCell']) ?_; intro w14 hb14 hg14; have B14 := Lib.hid hb14; have R14 := Lib.hid (hb13.out.grown hg14 (by intro e; injection e with e; omega)); clear hb14) | (refine wpList_load_blk B14.out rfl 37 _ rfl rfl Tryd.underlying37 rfl info_sig ?_) | (refine wpList_store_blk rfl 37 _ _ rfl (w.heap.size + 1) _ rfl rfl 37 noSig R14.out info_sig rfl (by simp [Value.oneCell']) ?_; intro w15 hs15 hb15 hg15))
            have n13 := fun o k => sig_nu HB13.out (fun k e => by cases e) (fun k e => by cases e) (fun k e => by cases e) o k
            have n14 := fun o k => sig_nu (lf := 0) (a := .slice none 0 0) (b := .slice none 0 0) (c := .slice none 0 0) R14.out (fun k e => by cases e) (fun k e => by cases e) (fun k e => by cases e) o k
            have hfin : ∀ (u : Value) (ds : List (List UInt8)), SlD w13 u ds → SlD w15 u ds := fun u ds hs => ((hs.grown hg14 n13).grown hg15 n14)
            have hE : Ext w w15 := ((F13.grown hg14 (fun k e => by injection e with e; omega)).grown hg15 (fun k e => by injection e with e; omega))
            have r1 := hfin _ _ HVR.out
            have r2 := hfin _ _ HVO.out
            have r3 := hfin _ _ HR13.out.sl
            rw [He3.out] at r3
            refine bodyPost_ret (ret2_blk hb15 rfl rfl Tryd.underlying37 rfl info_sig rfl) rfl ?_
            refine ⟨hE, .inr ⟨Hok.out, _, _, _, by rw [← He4.out]; rfl, ?_, ?_, r3⟩⟩
            · rw [← He2.out]; exact r1
            · rw [← He2.out]; exact r2

theorem r9Decode_no2 (b h : Nat) (r : List UInt8) (v : Value) (bs : List UInt8) (w : World) (hr : r.length = 32) (hm : mayK b h = true) (hv : Sl w v bs) (hlen : bs.length ≤ 1073741824) (hno : decOk bs b h = false) :
    Calls Tryd.prog 27 #[.agg (pkC b h r), v] w fun e w' => e = .returned (.tuple #[.agg noSig, .int .i64 11]) ∧ Ext w w' := by
  refine (r9Decode_go b h r v bs w hr hm hv hlen).mono ?_
  rintro e w' ⟨E, ⟨_, he⟩ | ⟨hok, _⟩⟩
  · exact ⟨he, E⟩
  · rw [hno] at hok; cases hok
theorem r9Decode_yes (b h : Nat) (r : List UInt8) (v : Value) (bs : List UInt8) (w : World) (hr : r.length = 32) (hm : mayK b h = true) (hv : Sl w v bs) (hlen : bs.length ≤ 1073741824) (hok : decOk bs b h = true) :
    Calls Tryd.prog 27 #[.agg (pkC b h r), v] w fun e w' => ∃ rv ov wv, e = .returned (.tuple #[.agg (sigC (numB (bs.take 4)) rv ov wv), .int .i64 0]) ∧
      SlD w' rv (decR ((bs.drop 4).take (64 * b)) b) ∧ SlD w' ov (decO ((bs.drop 4).take (64 * b)) b) ∧ SlD w' wv (decW ((bs.drop 4).drop (64 * b)) h) ∧ Ext w w' := by
  refine (r9Decode_go b h r v bs w hr hm hv hlen).mono ?_
  rintro e w' ⟨E, ⟨hno, _⟩ | ⟨_, rv, ov, wv, he, h1, h2, h3⟩⟩
  · rw [hok] at hno; cases hno
  · exact ⟨rv, ov, wv, he, h1, h2, h3, E⟩
end Go.Proofs.YtddbmddblhjkkaaDoor
/- The walk of the law SignerVerifies. -/
namespace Go.Proofs.YtddbmddblhjkkaaDoor
open Go.RowKit Go.Maps

def largeB (nr no nw : Nat) : Bool := decide (300 < nr) || (decide (300 < no) || decide (50 < nw))
theorem sigC_one_cells {w : World} {g : Nat} {i : Int} {rv ov wv : Value} (h : Blk w g 37 (sigC i rv ov wv)) : w.cell? ⟨g, 1, none⟩ = some rv ∧ w.cell? ⟨g, 2, none⟩ = some ov ∧ w.cell? ⟨g, 3, none⟩ = some wv := ⟨h.cell 1, h.cell 2, h.cell 3⟩

set_option maxRecDepth 100000 in
set_option maxHeartbeats 400000 in
theorem r9Large_any (i : Int) (Ar Ao Aw : Option Addr) (nr no nw cr co cw : Nat) (w : World) :
    Calls Tryd.prog 21 #[.agg (sigC i (.slice Ar nr cr) (.slice Ao no co) (.slice Aw nw cw))] w fun e w' => e = .returned (.bool (largeB nr no nw)) ∧ Ext w w' := by
  have hB := Blk.new w 37 (sigC i (.slice Ar nr cr) (.slice Ao no co) (.slice Aw nw cw))
  have E0 : Ext w (w.alloc (.cells (sigC i (.slice Ar nr cr) (.slice Ao no co) (.slice Aw nw cw)) 37)) := (Ext.refl w).alloc _
  have c1 := (sigC_one_cells hB).1
  have c2 := (sigC_one_cells hB).2.1
  have c3 := (sigC_one_cells hB).2.2
  obtain ⟨S, hS⟩ : ∃ S, S = sigC i (.slice Ar nr cr) (.slice Ao no co) (.slice Aw nw cw) := ⟨_, rfl⟩
  rw [← hS] at E0 c1 c2 c3 ⊢
  clear hB hS
  by_cases h1 : (nr : Int) > 300
  · have hb : largeB nr no nw = true := by unfold largeB; rw [decide_eq_true (show 300 < nr by omega)]; rfl
    rw [hb]
    clear hb
    go_enter Tryd.func21, Tryd.ntmps21
    go_wp2
    go_ret
    exact ⟨rfl, E0⟩
  · by_cases h2 : (no : Int) > 300
    · have hb : largeB nr no nw = true := by unfold largeB; rw [decide_eq_true (show 300 < no by omega)]; simp
      rw [hb]
      clear hb
      go_enter Tryd.func21, Tryd.ntmps21
      go_wp2
      go_ret
      exact ⟨rfl, E0⟩
    · by_cases h3 : (nw : Int) > 50
      · have hb : largeB nr no nw = true := by unfold largeB; rw [decide_eq_true (show 50 < nw by omega)]; simp
        rw [hb]
        clear hb
        go_enter Tryd.func21, Tryd.ntmps21
        go_wp2
        go_ret
        exact ⟨rfl, E0⟩
      · have hb : largeB nr no nw = false := by unfold largeB; rw [decide_eq_false (show ¬ 300 < nr by omega), decide_eq_false (show ¬ 300 < no by omega), decide_eq_false (show ¬ 50 < nw by omega)]; rfl
        rw [hb]
        clear hb
        go_enter Tryd.func21, Tryd.ntmps21
        go_wp2
        go_ret
        exact ⟨rfl, E0⟩

/-- what both Verify answer -/
theorem verify_two (b h i : Int) (r m : List UInt8) (mv rv ov wv : Value) (rev oth way : List (List UInt8)) (w : World) (hK : Kst w) (hr : r.length = 32) (hmv : Sl w mv m) (hlm : m.length ≤ 1048576) (hrv : SlD w rv rev) (hov : SlD w ov oth) (hwv : SlD w wv way) :
    ∃ B, (∀ w', Ext w w' → Calls Tryd.prog 22 #[.agg (pkC b h r), mv, .agg (sigC i rv ov wv)] w' fun e w'' => e = .returned (.bool B) ∧ Ext w' w'') ∧
      (∀ w', Ext w w' → Calls Tryd.prog 23 #[.agg (pkC b h r), mv, .agg (sigC i rv ov wv)] w' fun e w'' => e = .returned (.bool B) ∧ Ext w' w'') := by
  by_cases hall : mayK b h = true ∧ (rev.length : Int) = b ∧ (way.length : Int) = h
  · obtain ⟨hm, rfl, rfl⟩ := hall
    exact ⟨_, fun w' E => verify_whole i r m mv rv ov wv rev oth way w' (hK.ext E) hr (hmv.ext E) hlm (hrv.ext E) (hov.ext E) (hwv.ext E) hm,
      fun w' E => r9verify_whole i r m mv rv ov wv rev oth way w' hr (hmv.ext E) hlm (hrv.ext E) (hov.ext E) (hwv.ext E) hm⟩
  · have hno : mayK b h = false ∨ (mayK b h = true ∧ (rev.length : Int) ≠ b) ∨ (mayK b h = true ∧ (rev.length : Int) = b ∧ (way.length : Int) ≠ h) := by
      cases hm : mayK b h with
      | false => exact .inl rfl
      | true =>
        by_cases h1 : (rev.length : Int) = b
        · exact .inr (.inr ⟨rfl, h1, fun h2 => hall ⟨hm, h1, h2⟩⟩)
        · exact .inr (.inl ⟨rfl, h1⟩)
    obtain ⟨Ar, cr, rfl, _⟩ := hrv.form
    obtain ⟨Ao, co, rfl, _⟩ := hov.form
    obtain ⟨Aw, cw, rfl, _⟩ := hwv.form
    exact ⟨false, fun w' _ => verify_no1 b h i r mv Ar Ao Aw _ _ _ cr co cw w' hr hno, fun w' E => r9verify_no1 b h i r mv Ar Ao Aw _ _ _ cr co cw m w' hr (hmv.ext E) hlm hno⟩

set_option maxRecDepth 100000 in
set_option maxHeartbeats 1000000 in
theorem signerVerifies_any (b h : Int) (r : List UInt8) (mv : Value) (m : List UInt8) (i : Int) (rv ov wv : Value) (rev oth way : List (List UInt8)) (w : World) (hK : Kst w) (hr : r.length = 32) (_ : -9223372036854775808 ≤ b ∧ b ≤ 9223372036854775807) (_ : -9223372036854775808 ≤ h ∧ h ≤ 9223372036854775807)
    (hmv : Sl w mv m) (_ : -9223372036854775808 ≤ i ∧ i ≤ 9223372036854775807) (hrv : SlD w rv rev) (hov : SlD w ov oth) (hwv : SlD w wv way) :
    Calls Tryd.prog 6 #[.agg (pkC b h r), mv, .agg (sigC i rv ov wv)] w fun e w' => e = .returned (.bool true) ∧ Ext w w' := by
  have hv2 : (m.length : Int) ≤ 3000 → ∃ B, (∀ w', Ext w w' → Calls Tryd.prog 22 #[.agg (pkC b h r), mv, .agg (sigC i rv ov wv)] w' fun e w'' => e = .returned (.bool B) ∧ Ext w' w'') ∧
      (∀ w', Ext w w' → Calls Tryd.prog 23 #[.agg (pkC b h r), mv, .agg (sigC i rv ov wv)] w' fun e w'' => e = .returned (.bool B) ∧ Ext w' w'') := fun hl => verify_two b h i r m mv rv ov wv rev oth way w hK hr hmv (by omega) hrv hov hwv
  obtain ⟨Am, cm, rfl, _⟩ := SlR.form hmv
  obtain ⟨Ar, cr, rfl, _⟩ := hrv.form
  obtain ⟨Ao, co, rfl, _⟩ := hov.form
  obtain ⟨Aw, cw, rfl, _⟩ := hwv.form
  have hi := info_pkC b h r hr
  have HL := fun w' => Lib.hid (r9Large_any i Ar Ao Aw rev.length oth.length way.length cr co cw w')
  have Hlv := Lib.hid (fun w' (E : Ext w w') => lives9_any w' (hK.ext E))
  have hB0 := Blk.new w 45 (pkC b h r)
  have hB1 := Blk.new (w.alloc (.cells (pkC b h r) 45)) 37 (sigC i (.slice Ar rev.length cr) (.slice Ao oth.length co) (.slice Aw way.length cw))
  have hB0' := hB0.alloc (.cells (sigC i (.slice Ar rev.length cr) (.slice Ao oth.length co) (.slice Aw way.length cw)) 37)
  rw [World.size_alloc] at hB1
  have Ew3 : Ext w ((w.alloc (.cells (pkC b h r) 45)).alloc (.cells (sigC i (.slice Ar rev.length cr) (.slice Ao oth.length co) (.slice Aw way.length cw)) 37)) := ((Ext.refl w).alloc _).alloc _
  have is0 : Hid ((Tryd.prog.info? 37).map (·.size) = some (sigC i (.slice Ar rev.length cr) (.slice Ao oth.length co) (.slice Aw way.length cw)).size) := info_sig
  obtain ⟨P, hP⟩ : ∃ P, P = pkC b h r := ⟨_, rfl⟩
  obtain ⟨S, hS⟩ : ∃ S, S = sigC i (.slice Ar rev.length cr) (.slice Ao oth.length co) (.slice Aw way.length cw) := ⟨_, rfl⟩
  simp only [← hS] at hB1 hB0' Ew3 HL hv2 is0 ⊢
  simp only [← hP] at hB1 hB0' Ew3 hi hv2 ⊢
  clear hP hS hB0 hmv hrv hov hwv
  by_cases h3 : (m.length : Int) > 3000
  · clear hv2
    go_enter Tryd.func6, Tryd.ntmps6
    go_wp2_with fail
    have pack := Ew3
    clear Ew3 hB0' hB1
    with_reducible refine (Hlv.out _ pack).mono ?_
    rintro e w1 ⟨rfl, E1⟩
    go_wp2
    go_ret
    exact ⟨rfl, pack.trans E1⟩
  · obtain ⟨B, hv1, hv2'⟩ := hv2 (by omega)
    have HV1 := Lib.hid hv1
    have HV2 := Lib.hid hv2'
    clear hv1 hv2' hv2
    cases hlg : largeB rev.length oth.length way.length with
    | true =>
      rw [hlg] at HL
      go_enter Tryd.func6, Tryd.ntmps6
      go_wp2_with (first | (refine wpList_unguard rfl ?_; refine wpList_load_blk hB1 rfl 37 _ rfl rfl Tryd.underlying37 rfl is0.out ?_))
      clear hB0' hB1
      with_reducible refine (HL _).out.mono ?_
      rintro e w1 ⟨rfl, E1⟩
      go_wp2_with fail
      with_reducible refine (Hlv.out _ (Ew3.trans E1)).mono ?_
      rintro e w2 ⟨rfl, E2⟩
      go_wp2
      go_ret
      exact ⟨rfl, (Ew3.trans E1).trans E2⟩
    | false =>
      rw [hlg] at HL
      go_enter Tryd.func6, Tryd.ntmps6
      go_wp2_with (first | (refine wpList_unguard rfl ?_; refine wpList_load_blk hB1 rfl 37 _ rfl rfl Tryd.underlying37 rfl is0.out ?_))
      with_reducible refine (HL _).out.mono ?_
      rintro e w1 ⟨rfl, E1⟩
      have F1 := Ew3.trans E1
      have B0 := hB0'.ext E1
      have B1 := hB1.ext E1
      clear hB0' hB1 Ew3 E1 HL
      go_wp2
      refine wp_region_chain 12 [(false, 0), (true, 1), (true, 2), (true, 3), (true, 4), (true, 6), (true, 7), (true, 8), (false, 5), (false, 9), (true, 10), (true, 11)] (fun w' => Ext w1 w') (by kernel_rfl) (by kernel_rfl) (Ext.refl w1).drew ?_
      have E1 : Ext w1 w1.drew := (Ext.refl w1).drew
      refine wpTake_do _ _ rfl rfl (fun K hK' => ?_)
      refine wp_call ?_ (enters_of (P := Tryd.prog) Tryd.func9 (by kernel_rfl) rfl _ _) (Hlv.out _ (F1.trans E1)) ?_
      focus
        rw [execOp_call_go]
        simp only [List.map_toArray, List.map_nil, List.append_toArray, List.append_nil]
      rintro e w2 ⟨rfl, E2'⟩
      have E2 := E1.trans E2'
      refine ⟨_, rfl, hK' _ _ E2 ?_⟩
      clear hK' K
      simp only [Act.put, List.setIfInBounds_toArray, List.set_cons_zero, List.set_cons_succ]
      iterate 1
        refine wpTake_read _ _ ?_ rfl rfl ?_ ?_
        rotate_left 1
        focus
          intro wS hS
          go_simp
          first | done | with_reducible rfl
        simp only [Act.put, List.setIfInBounds_toArray, List.set_cons_zero, List.set_cons_succ]
      iterate 2
        refine wpTake_load _ _ rfl rfl 45 _ rfl (.agg P) (fun wS hS => load_blk (B0.ext hS) Tryd.underlying45 rfl hi) ?_
        simp only [Act.put, List.setIfInBounds_toArray, List.set_cons_zero, List.set_cons_succ]
        refine wpTake_read _ _ ?_ rfl rfl ?_ ?_
        rotate_left 1
        focus
          intro wS hS
          go_simp
          first | done | with_reducible rfl
        simp only [Act.put, List.setIfInBounds_toArray, List.set_cons_zero, List.set_cons_succ]
        refine wpTake_load _ _ rfl rfl 37 _ rfl (.agg S) (fun wS hS => load_blk (B1.ext hS) Tryd.underlying37 rfl is0.out) ?_
        simp only [Act.put, List.setIfInBounds_toArray, List.set_cons_zero, List.set_cons_succ]
      refine wpTake_do _ _ rfl rfl (fun K hK' => ?_)
      refine wp_call ?_ (enters_of (P := Tryd.prog) Tryd.func22 (by kernel_rfl) rfl _ _) (HV1.out _ (F1.trans E2)) ?_
      focus
        rw [execOp_call_go]
        simp only [List.map_toArray, List.map_cons, List.map_nil, List.append_toArray, List.nil_append, List.append_nil]
        rfl
      rintro e w3 ⟨rfl, E3'⟩
      have E3 := E2.trans E3'
      refine ⟨_, rfl, hK' _ _ E3 ?_⟩
      clear hK' K
      simp only [Act.put, List.setIfInBounds_toArray, List.set_cons_zero, List.set_cons_succ]
      refine wpTake_do _ _ rfl rfl (fun K hK' => ?_)
      refine wp_call ?_ (enters_of (P := Tryd.prog) Tryd.func23 (by kernel_rfl) rfl _ _) (HV2.out _ (F1.trans E3)) ?_
      focus
        rw [execOp_call_go]
        simp only [List.map_toArray, List.map_cons, List.map_nil, List.append_toArray, List.nil_append, List.append_nil]
        rfl
      rintro e w4 ⟨rfl, E4'⟩
      have E4 := E3.trans E4'
      refine ⟨_, rfl, hK' _ _ E4 ?_⟩
      clear hK' K
      simp only [Act.put, List.setIfInBounds_toArray, List.set_cons_zero, List.set_cons_succ]
      iterate 2
        refine wpTake_read _ _ ?_ rfl rfl ?_ ?_
        rotate_left 1
        focus
          intro wS hS
          go_simp
          first | done | with_reducible rfl
        simp only [Act.put, List.setIfInBounds_toArray, List.set_cons_zero, List.set_cons_succ]
      refine wpTake_nil ?_
      go_wp2
      refine NoPanic.normal ?_
      go_wp2
      go_ret
      exact ⟨rfl, F1.trans E4⟩
end Go.Proofs.YtddbmddblhjkkaaDoor
/- The walk of the law SignerCodes. -/
namespace Go.Proofs.YtddbmddblhjkkaaDoor
open Go.RowKit Go.Maps

/-- what both Decode answer -/
theorem decode_two (b h : Int) (r : List UInt8) (v : Value) (bs : List UInt8) (w : World) (hr : r.length = 32) (hv : Sl w v bs) (hlen : bs.length ≤ 20000) :
    ∃ (i f : Int) (R O W : List (List UInt8)), R.length ≤ 1073741824 ∧ O.length ≤ 1073741824 ∧ W.length ≤ 1073741824 ∧
      (∀ w', Ext w w' → Calls Tryd.prog 26 #[.agg (pkC b h r), v] w' fun e w'' => ∃ rv ov wv, e = .returned (.tuple #[.agg (sigC i rv ov wv), .int .i64 f]) ∧ SlD w'' rv R ∧ SlD w'' ov O ∧ SlD w'' wv W ∧ Ext w' w'') ∧
      (∀ w', Ext w w' → Calls Tryd.prog 27 #[.agg (pkC b h r), v] w' fun e w'' => ∃ rv ov wv, e = .returned (.tuple #[.agg (sigC i rv ov wv), .int .i64 f]) ∧ SlD w'' rv R ∧ SlD w'' ov O ∧ SlD w'' wv W ∧ Ext w' w'') := by
  have no : ∀ (f : Int) (g : FuncId) (w' : World), Calls Tryd.prog g #[.agg (pkC b h r), v] w' (fun e w'' => e = .returned (.tuple #[.agg noSig, .int .i64 f]) ∧ Ext w' w'') → Calls Tryd.prog g #[.agg (pkC b h r), v] w' fun e w'' => ∃ rv ov wv, e = .returned (.tuple #[.agg (sigC 0 rv ov wv), .int .i64 f]) ∧ SlD w'' rv [] ∧ SlD w'' ov [] ∧ SlD w'' wv [] ∧ Ext w' w'' := fun f g w' hc => hc.mono fun e w'' ⟨he, E⟩ => ⟨_, _, _, he, SlD.none_ _ _ _, SlD.none_ _ _ _, SlD.none_ _ _ _, E⟩
  cases hm : mayK b h with
  | false =>
    exact ⟨0, 1, [], [], [], by simp, by simp, by simp, fun w' E => no 1 _ w' (sDecode_no1 b h r v w' hr hm), fun w' E => no 1 _ w' (r9Decode_no1 b h r v w' hr hm)⟩
  | true =>
    obtain ⟨hmb, h0, h6⟩ := (mayK_iff _ _).1 hm
    obtain ⟨hb1, hb2, _⟩ := (mayB_iff _).1 hmb
    obtain ⟨b, rfl⟩ : ∃ n : Nat, b = n := ⟨b.toNat, by omega⟩
    obtain ⟨h, rfl⟩ : ∃ n : Nat, h = n := ⟨h.toNat, by omega⟩
    cases hok : decOk bs b h with
    | false =>
      exact ⟨0, 11, [], [], [], by simp, by simp, by simp, fun w' E => no 11 _ w' (sDecode_no2 b h r v bs w' hr hm (hv.ext E) (by omega) hok), fun w' E => no 11 _ w' (r9Decode_no2 b h r v bs w' hr hm (hv.ext E) (by omega) hok)⟩
    | true =>
      refine ⟨_, _, _, _, _, ?_, ?_, ?_, fun w' E => sDecode_yes b h r v bs w' hr hm (hv.ext E) (by omega) hok, fun w' E => r9Decode_yes b h r v bs w' hr hm (hv.ext E) (by omega) hok⟩
      · rw [decR_length]; omega
      · rw [decO_length]; omega
      · simp [decW]; omega
/-- what both Encode answer -/
theorem encode_two (i : Int) (rv ov wv : Value) (rev oth way : List (List UInt8)) (w : World) (hrv : SlD w rv rev) (hov : SlD w ov oth) (hwv : SlD w wv way) :
    ∃ (f : Int) (bs : List UInt8), (((f != 0) = true) ∨ (f = 0 ∧ encOk i rev.length oth.length way.length = true ∧ bs = sigB i.toNat rev oth way)) ∧
      (∀ w', Ext w w' → Calls Tryd.prog 24 #[.agg (sigC i rv ov wv)] w' fun e w'' => ∃ v, e = .returned (.tuple #[v, .int .i64 f]) ∧ Sl w'' v bs ∧ Ext w' w'') ∧
      (∀ w', Ext w w' → Calls Tryd.prog 25 #[.agg (sigC i rv ov wv)] w' fun e w'' => ∃ v, e = .returned (.tuple #[v, .int .i64 f]) ∧ Sl w'' v bs ∧ Ext w' w'') := by
  cases hok : encOk i rev.length oth.length way.length with
  | false =>
    refine ⟨1, [], .inl (by decide), fun w' E => ?_, fun w' E => ?_⟩
    · exact (sEncode_no i rv ov wv rev oth way w' (hrv.ext E) (hov.ext E) (hwv.ext E) hok).mono fun e w'' ⟨he, E'⟩ => ⟨_, he, SlR.none_ _ _ _ _, E'⟩
    · exact (r9Encode_no i rv ov wv rev oth way w' (hrv.ext E) (hov.ext E) (hwv.ext E) hok).mono fun e w'' ⟨he, E'⟩ => ⟨_, he, SlR.none_ _ _ _ _, E'⟩
  | true =>
    obtain ⟨_, h0, _⟩ := (encOk_iff _ _ _ _).1 hok
    obtain ⟨i, rfl⟩ : ∃ n : Nat, i = n := ⟨i.toNat, by omega⟩
    refine ⟨0, sigB i rev oth way, .inr ⟨rfl, rfl, rfl⟩, fun w' E => ?_, fun w' E => ?_⟩
    · exact sEncode_yes i rv ov wv rev oth way w' (hrv.ext E) (hov.ext E) (hwv.ext E) hok
    · exact r9Encode_yes i rv ov wv rev oth way w' (hrv.ext E) (hov.ext E) (hwv.ext E) hok

set_option maxRecDepth 100000 in
set_option maxHeartbeats 2000000 in
theorem signerCodes_any (b h : Int) (r : List UInt8) (i : Int) (rv ov wv : Value) (rev oth way : List (List UInt8)) (bv : Value) (bs : List UInt8) (w : World) (hK : Kst w) (hr : r.length = 32) (_ : -9223372036854775808 ≤ b ∧ b ≤ 9223372036854775807) (_ : -9223372036854775808 ≤ h ∧ h ≤ 9223372036854775807)
    (_ : -9223372036854775808 ≤ i ∧ i ≤ 9223372036854775807) (hrv : SlD w rv rev) (hov : SlD w ov oth) (hwv : SlD w wv way) (hbv : Sl w bv bs) :
    Calls Tryd.prog 7 #[.agg (pkC b h r), .agg (sigC i rv ov wv), bv] w fun e w' => e = .returned (.bool true) ∧ Ext w w' := by
  obtain ⟨f, cs, hf, he1, he2⟩ := encode_two i rv ov wv rev oth way w hrv hov hwv
  have hd2 : ¬ ((bs.length : Int) > 20000) → _ := fun hl => decode_two b h r bv bs w hr hbv (by omega)
  have hsame := Lib.hid (fun (w' : World) (E : Ext w w') (va vb vc : Value) (hva : SlD w' va rev) (hvb : SlD w' vb oth) (hvc : SlD w' vc way) (hl : largeB rev.length oth.length way.length = false) => r9Same_eq i va vb vc rv ov wv rev oth way w' hva hvb hvc (hrv.ext E) (hov.ext E) (hwv.ext E) (by simp [largeB] at hl; omega) (by simp [largeB] at hl; omega) (by simp [largeB] at hl; omega))
  have hback := Lib.hid (fun (hok : encOk i rev.length oth.length way.length = true) (w' : World) (v : Value) (hv : Sl w' v (sigB i.toNat rev oth way)) => by
    obtain ⟨hwh, h0, h30, h6⟩ := (encOk_iff _ _ _ _).1 hok
    obtain ⟨hwe, hwm⟩ := (wholeB_iff _ _).1 hwh
    have hb := sig_back (i := i.toNat) (b := rev.length) hrv.2 hov.2 hwv.2 rfl (by omega) (by omega)
    have hl := sigB_length (i := i.toNat) (b := rev.length) hrv.2 hov.2 hwv.2 rfl (by omega)
    obtain ⟨hmm1, hmm2, _⟩ := (mayB_iff _).1 hwm
    have hd := sDecode_yes rev.length way.length z32 v _ w' (by simp) ((mayK_iff _ _).2 ⟨hwm, by omega, by omega⟩) hv (by omega) hb.1
    rw [hb.2.1, hb.2.2.1, hb.2.2.2.1, hb.2.2.2.2, show ((i.toNat : Nat) : Int) = i by omega] at hd
    exact hd)
  have hbu := pk_built (rev.length : Int) (way.length : Int)
  obtain ⟨Ab, cb, rfl, _⟩ := SlR.form hbv
  obtain ⟨Ar, cr, rfl, _⟩ := hrv.form
  obtain ⟨Ao, co, rfl, _⟩ := hov.form
  obtain ⟨Aw, cw, rfl, _⟩ := hwv.form
  have hi := info_pkC b h r hr
  have HL := fun w' => Lib.hid (r9Large_any i Ar Ao Aw rev.length oth.length way.length cr co cw w')
  have Hlv := Lib.hid (fun w' (E : Ext w w') => lives9_any w' (hK.ext E))
  have hB0 := Blk.new w 45 (pkC b h r)
  have hB1 := Blk.new (w.alloc (.cells (pkC b h r) 45)) 37 (sigC i (.slice Ar rev.length cr) (.slice Ao oth.length co) (.slice Aw way.length cw))
  have hB0' := hB0.alloc (.cells (sigC i (.slice Ar rev.length cr) (.slice Ao oth.length co) (.slice Aw way.length cw)) 37)
  rw [World.size_alloc] at hB1
  have Ew3 : Ext w ((w.alloc (.cells (pkC b h r) 45)).alloc (.cells (sigC i (.slice Ar rev.length cr) (.slice Ao oth.length co) (.slice Aw way.length cw)) 37)) := ((Ext.refl w).alloc _).alloc _
  have is0 : Hid ((Tryd.prog.info? 37).map (·.size) = some (sigC i (.slice Ar rev.length cr) (.slice Ao oth.length co) (.slice Aw way.length cw)).size) := Lib.hid info_sig
  have hsc := Lib.hid (fun (w' : World) (hB : Blk w' (w.heap.size + 1) 37 (sigC i (.slice Ar rev.length cr) (.slice Ao oth.length co) (.slice Aw way.length cw))) => sigC_cells hB)
  obtain ⟨P, hP⟩ : ∃ P, P = pkC b h r := ⟨_, rfl⟩
  obtain ⟨S, hS⟩ : ∃ S, S = sigC i (.slice Ar rev.length cr) (.slice Ao oth.length co) (.slice Aw way.length cw) := ⟨_, rfl⟩
  simp only [← hS] at hB1 hB0' Ew3 HL he1 he2 is0 hsame hsc ⊢
  simp only [← hP] at hB1 hB0' Ew3 hi hd2 ⊢
  clear hP hS hB0 hbv hrv hov hwv
  cases hlg : largeB rev.length oth.length way.length with
  | true =>
    rw [hlg] at HL
    clear hd2 he1 he2 hf hsame hback hbu hsc
    go_enter Tryd.func7, Tryd.ntmps7
    go_wp2_with (first | (refine wpList_load_blk hB1 rfl 37 _ rfl rfl Tryd.underlying37 rfl is0.out ?_))
    clear hB0' hB1
    with_reducible refine (HL _).out.mono ?_
    rintro e w1 ⟨rfl, E1⟩
    go_wp2_with fail
    with_reducible refine (Hlv.out _ (Ew3.trans E1)).mono ?_
    rintro e w2 ⟨rfl, E2⟩
    go_wp2
    go_ret
    exact ⟨rfl, (Ew3.trans E1).trans E2⟩
  | false =>
    rw [hlg] at HL
    by_cases hlen : (bs.length : Int) > 20000
    · clear hd2 he1 he2 hf hsame hback hbu hsc
      go_enter Tryd.func7, Tryd.ntmps7
      go_wp2_with (first | (refine wpList_load_blk hB1 rfl 37 _ rfl rfl Tryd.underlying37 rfl is0.out ?_))
      clear hB0' hB1
      with_reducible refine (HL _).out.mono ?_
      rintro e w1 ⟨rfl, E1⟩
      go_wp2_with fail
      with_reducible refine (Hlv.out _ (Ew3.trans E1)).mono ?_
      rintro e w2 ⟨rfl, E2⟩
      go_wp2
      go_ret
      exact ⟨rfl, (Ew3.trans E1).trans E2⟩
    · obtain ⟨I, g, R, O, W, hR, hO, hW, hd1, hd2'⟩ := hd2 hlen
      have HE1 := Lib.hid he1
      have HE2 := Lib.hid he2
      have HD1 := Lib.hid hd1
      have HD2 := Lib.hid hd2'
      have HF := Lib.hid hf
      have Hsm := Lib.hid (fun w' E va vb vc h1 h2 h3 => hsame.out w' E va vb vc h1 h2 h3 hlg)
      clear he1 he2 hd1 hd2' hd2 hf hlg hsame
      go_enter Tryd.func7, Tryd.ntmps7
      go_wp2_with (first | (refine wpList_load_blk hB1 rfl 37 _ rfl rfl Tryd.underlying37 rfl is0.out ?_))
      with_reducible refine (HL _).out.mono ?_
      rintro e w1 ⟨rfl, E1⟩
      have F1 := Ew3.trans E1
      have B0 := hB0'.ext E1
      have B1 := hB1.ext E1
      clear hB0' hB1 Ew3 E1 HL
      go_wp2_with (first | (refine wpList_load_blk B1 rfl 37 _ rfl rfl Tryd.underlying37 rfl is0.out ?_))
      with_reducible refine (HE1.out _ F1).mono ?_
      rintro e w2 ⟨v1, rfl, S1, E2⟩
      have F2 := F1.trans E2
      replace B0 := B0.ext E2
      replace B1 := B1.ext E2
      clear HE1 F1 E2
      go_wp2_with (first | (refine wpList_load_blk B1 rfl 37 _ rfl rfl Tryd.underlying37 rfl is0.out ?_))
      with_reducible refine (HE2.out _ F2).mono ?_
      rintro e w3 ⟨v2, rfl, S2, E3⟩
      have F3 := F2.trans E3
      replace B0 := B0.ext E3
      replace B1 := B1.ext E3
      replace S1 := S1.ext E3
      clear HE2 F2 E3
      go_wp2_with (first | (refine wpList_load_blk B0 rfl 45 _ rfl rfl Tryd.underlying45 rfl hi ?_))
      with_reducible refine (HD1.out _ F3).mono ?_
      rintro e w4 ⟨r1, o1, p1, rfl, hr1, ho1, hp1, E4⟩
      obtain ⟨A1, c1, rfl, _⟩ := hr1.form
      obtain ⟨A2, c2, rfl, _⟩ := ho1.form
      obtain ⟨A3, c3, rfl, _⟩ := hp1.form
      have F4 := F3.trans E4
      replace B0 := B0.ext E4
      replace B1 := B1.ext E4
      replace S1 := S1.ext E4
      replace S2 := S2.ext E4
      have Hr1 := Lib.hid hr1
      have Ho1 := Lib.hid ho1
      have Hp1 := Lib.hid hp1
      clear HD1 F3 E4 hr1 ho1 hp1
      have hone : ∀ (A1 A2 A3 : Option Addr) (c1 c2 c3 : Nat), (sigC I (.slice A1 R.length c1) (.slice A2 O.length c2) (.slice A3 W.length c3)).all (·.oneCell') = true := fun _ _ _ _ _ _ => by simp [sigC, Value.oneCell']
      have hinf : ∀ (A1 A2 A3 : Option Addr) (c1 c2 c3 : Nat), (Tryd.prog.info? 37).map (·.size) = some (sigC I (.slice A1 R.length c1) (.slice A2 O.length c2) (.slice A3 W.length c3)).size := fun _ _ _ _ _ _ => info_sig
      have hzs : ∀ (A1 A2 A3 : Option Addr) (c1 c2 c3 : Nat), noSig.size = (sigC I (.slice A1 R.length c1) (.slice A2 O.length c2) (.slice A3 W.length c3)).size := fun _ _ _ _ _ _ => rfl
      obtain ⟨X1, hX1⟩ : ∃ X, X = sigC I (.slice A1 R.length c1) (.slice A2 O.length c2) (.slice A3 W.length c3) := ⟨_, rfl⟩
      have i1 := hinf A1 A2 A3 c1 c2 c3
      have z1 := hzs A1 A2 A3 c1 c2 c3
      have o1 := hone A1 A2 A3 c1 c2 c3
      rw [← hX1] at i1 z1 o1 ⊢
      have HX1 := Lib.hid hX1
      clear hX1
      go_wp2_with (first | (refine wpList_var rfl rfl 37 rfl _ _ rfl (.agg noSig) zero_sig X1 rfl rfl i1 z1 o1 ?_; intro w5 D5 E5; have B0' := B0.ext E5) | (refine wpList_load_blk B0' rfl 45 _ rfl rfl Tryd.underlying45 rfl hi ?_))
      have F5 := F4.trans E5
      have B1' := B1.ext E5
      have S1' := S1.ext E5
      have S2' := S2.ext E5
      have HR5 := Lib.hid (Hr1.out.ext E5)
      have HO5 := Lib.hid (Ho1.out.ext E5)
      have HW5 := Lib.hid (Hp1.out.ext E5)
      clear Hr1 Ho1 Hp1 F4 B0 B1 S1 S2 B0'
      with_reducible refine (HD2.out _ F5).mono ?_
      rintro e w6 ⟨r2, o2, p2, rfl, hr2, ho2, hp2, E6⟩
      obtain ⟨A4, c4, rfl, _⟩ := hr2.form
      obtain ⟨A5, c5, rfl, _⟩ := ho2.form
      obtain ⟨A6, c6, rfl, _⟩ := hp2.form
      have F6 := F5.trans E6
      have D6 := D5.ext E6
      have i2 := hinf A4 A5 A6 c4 c5 c6
      have z2 := hzs A4 A5 A6 c4 c5 c6
      have o2 := hone A4 A5 A6 c4 c5 c6
      have Hs2 := Lib.hid (fun w' (E : Ext w6 w') => r9Same_eq I _ _ _ _ _ _ R O W w' ((HR5.out.ext E6).ext E) ((HO5.out.ext E6).ext E) ((HW5.out.ext E6).ext E) (hr2.ext E) (ho2.ext E) (hp2.ext E) hR hO hW)
      rw [← HX1.out] at Hs2
      obtain ⟨X2, hX2⟩ : ∃ X, X = sigC I (.slice A4 R.length c4) (.slice A5 O.length c5) (.slice A6 W.length c6) := ⟨_, rfl⟩
      rw [← hX2] at i2 z2 o2 Hs2 ⊢
      have HB1 := Lib.hid (B1'.ext E6)
      have HS1 := Lib.hid (S1'.ext E6)
      have HS2 := Lib.hid (S2'.ext E6)
      clear hX2 hr2 ho2 hp2 HR5 HO5 HW5 D5 F5 B1' S1' S2' E6 HD2 hinf hzs hone HX1 hR hO hW
      go_wp2_with (first | (refine wpList_var rfl rfl 37 rfl _ _ rfl (.agg noSig) zero_sig X2 rfl rfl i2 z2 o2 ?_; intro w7 D7 E7))
      have F7 := F6.trans E7
      with_reducible refine (Hlv.out _ F7).mono ?_
      rintro e w8 ⟨rfl, E8⟩
      have F8 := F7.trans E8
      have D68 := (D6.ext E7).ext E8
      have D78 := D7.ext E8
      have HB8 := Lib.hid ((HB1.out.ext E7).ext E8)
      have HS8 := Lib.hid ((HS1.out.ext E7).ext E8)
      have hc1 := run_conv_str ((HS1.out.ext E7).ext E8)
      have hc2 := run_conv_str ((HS2.out.ext E7).ext E8)
      have Hs8 := Lib.hid (Hs2.out _ (E7.trans E8))
      obtain ⟨z, hz⟩ : ∃ z, z = strB cs := ⟨_, rfl⟩
      rw [← hz] at hc1 hc2
      have hsame : (z.toList == z.toList) = true := by simp
      clear hz F7 E8 E7 D6 D7 HB1 HS1 HS2 Hs2 F6
      go_wp2_with (first | (refine wpList_unguard rfl ?_; refine wpList_load_blk D68 rfl 37 _ rfl rfl Tryd.underlying37 rfl i1 ?_) | (refine wpList_unguard rfl ?_; refine wpList_load_blk D78 rfl 37 _ rfl rfl Tryd.underlying37 rfl i2 ?_))
      with_reducible refine Hs8.out.mono ?_
      rintro e w9 ⟨rfl, E9⟩
      have F9 := F8.trans E9
      have HB9 := Lib.hid (HB8.out.ext E9)
      have HS9 := Lib.hid (HS8.out.ext E9)
      clear D68 D78 HB8 HS8 Hs8 hc1 hc2 F8 E9
      rcases HF.out with hf | ⟨rfl, hok, rfl⟩
      · clear hback hbu
        go_wp2
        go_ret
        exact ⟨rfl, F9⟩
      · have Hbk := Lib.hid (hback.out hok w9 v1 HS9.out)
        have hsc9 := hsc.out _ HB9.out
        have q1 := hsc9.2.1
        have q3 := hsc9.2.2.2
        have hB9 := HB9.out
        clear hsc9 hback HF HS9 hsc hbu
        go_wp2_with fail
        refine Hbk.out.mono ?_
        rintro e w10 ⟨r3, o3, p3, rfl, hr3, ho3, hp3, E10⟩
        obtain ⟨A7, c7, rfl, _⟩ := hr3.form
        obtain ⟨A8, c8, rfl, _⟩ := ho3.form
        obtain ⟨A9, c9, rfl, _⟩ := hp3.form
        have o3 : (sigC i (.slice A7 rev.length c7) (.slice A8 oth.length c8) (.slice A9 way.length c9)).all (·.oneCell') = true := by simp [sigC, Value.oneCell']
        have i3 : (Tryd.prog.info? 37).map (·.size) = some (sigC i (.slice A7 rev.length c7) (.slice A8 oth.length c8) (.slice A9 way.length c9)).size := info_sig
        have F10 := F9.trans E10
        have Hs3 := Lib.hid (fun w' (E : Ext w10 w') => Hsm.out w' (F10.trans E) _ _ _ (hr3.ext E) (ho3.ext E) (hp3.ext E))
        have z3 : noSig.size = (sigC i (.slice A7 rev.length c7) (.slice A8 oth.length c8) (.slice A9 way.length c9)).size := rfl
        obtain ⟨X3, hX3⟩ : ∃ X, X = sigC i (.slice A7 rev.length c7) (.slice A8 oth.length c8) (.slice A9 way.length c9) := ⟨_, rfl⟩
        rw [← hX3] at o3 i3 z3 Hs3 ⊢
        have hB10 := hB9.ext E10
        clear hX3 hr3 ho3 hp3 Hsm E10 hB9 F9 Hbk
        go_wp2_with (first | (refine wpList_var rfl rfl 37 rfl _ _ rfl (.agg noSig) zero_sig X3 rfl rfl i3 z3 o3 ?_; intro w11 D11 E11; have hB11 := hB10.ext E11) | (refine wpList_unguard rfl ?_; refine wpList_load_blk D11 rfl 37 _ rfl rfl Tryd.underlying37 rfl i3 ?_) | (refine wpList_unguard rfl ?_; refine wpList_load_blk hB11 rfl 37 _ rfl rfl Tryd.underlying37 rfl is0.out ?_))
        with_reducible refine (Hs3.out _ E11).mono ?_
        rintro e w12 ⟨rfl, E12⟩
        go_wp2
        go_ret
        exact ⟨rfl, (F10.trans E11).trans E12⟩
end Go.Proofs.YtddbmddblhjkkaaDoor
/- PROVED: the law SignerCodes of package pursuivantlaw09 returns true at every input and leaves its arguments as they were: any signature's code is the reference's, what any bytes are as one is the reference's, and a code is decoded to its signature. CONDITION: the package-level variable sha.constants holds what its initialiser lays (the card ties it). -/
namespace Go.Proofs.YtddbmddblhjkkaaDoor.signerCodes
open Go.ChangeShapes Go.WideShapes Go.ChangeAt Go.RowKit

set_option maxRecDepth 100000 in
set_option maxHeartbeats 1000000 in
theorem contract (H : Type) (enc : TypeId × Value → H) (W : World) (base : Nat) (args : Array Value) (ds gs : List (DataW H)) (before : List MemPlace)
    (hval : ∀ (j : Nat) t v, Tryd.f7.params[j]? = some t → args[j]? = some v → Value.okWide Tryd.prog W .any base t v)
    (hW : DataW.Whole enc Tryd.prog Tryd.f7.params.toList Rows.signerCodesSpec.vars false W args.toList ds gs before) (hL : laidMetH Tryd.prog Rows.signerCodesRow.laid W) :
    Calls Tryd.prog 7 args W fun e W' => ∃ v, e = .returned v ∧ Rows.signerCodesSpec.post enc Tryd.prog Tryd.f7 false true false false W args v W' := by
  have hW' := hW
  obtain ⟨p, q, hA0, hV, rfl, hfz, hnd⟩ := hW
  have hA : DataW.TrodAll enc Tryd.prog W 0 (fun _ => true) true Tryd.f7.params.toList args.toList ds p := hA0
  rw [Tryd.params7] at hA hval
  obtain ⟨v0, vs0, d0, ds0, p0, q0, hargs, rfl, rfl, h0, r0⟩ := trodAll_cons hA
  obtain ⟨v1, vs1, d1, ds1, p1, q1, rfl, rfl, rfl, h1, r1⟩ := trodAll_cons r0
  obtain ⟨v2, vs2, d2, ds2, p2, q2, rfl, rfl, rfl, h2, r2⟩ := trodAll_cons r1
  obtain ⟨rfl, rfl, rfl⟩ := trodAll_nil r2
  obtain rfl : args = #[v0, v1, v2] := by cases args; simp_all
  have hts : ∀ t ∈ Tryd.f7.params.toList, Tryd.prog.readableRec t = true ∧ t < Tryd.prog.types.size := by
    rw [Tryd.params7]
    intro t ht
    simp at ht
    rcases ht with rfl | rfl | rfl
    · exact ⟨by kernel_rfl, of_decide_eq_true (by kernel_rfl)⟩
    · exact ⟨by kernel_rfl, of_decide_eq_true (by kernel_rfl)⟩
    · exact ⟨by kernel_rfl, of_decide_eq_true (by kernel_rfl)⟩
  obtain ⟨x0, y0, g0, rfl, hr0, hx0, hy0⟩ := open_PubKey (hval 0 45 v0 rfl rfl) h0
  obtain ⟨i1, a1, b1, c1, x1, y1, z1, rfl, hi1, hx1, hy1, hz1⟩ := open_Sig (hval 1 37 v1 rfl rfl) h1
  obtain ⟨x2, hx2, hm2⟩ := open_bytes (hval 2 22 v2 rfl rfl) h2
  refine (signerCodes_any x0 y0 g0 i1 a1 b1 c1 x1 y1 z1 v2 x2 W (kst_of hL) hr0 hx0 hy0 hi1 hx1 hy1 hz1 hx2).mono fun e W' ⟨he, hE⟩ => ?_
  subst he
  exact ⟨_, rfl, post_true 4 (by kernel_rfl) Tryd.underlying4 rfl laidOut hts hW' rfl hE⟩

noncomputable def args0 : Array Value := #[.agg #[.int .i64 0, .int .i64 0, .int .u8 0, .int .u8 0, .int .u8 0, .int .u8 0, .int .u8 0, .int .u8 0, .int .u8 0, .int .u8 0, .int .u8 0, .int .u8 0, .int .u8 0, .int .u8 0, .int .u8 0, .int .u8 0, .int .u8 0, .int .u8 0, .int .u8 0, .int .u8 0, .int .u8 0, .int .u8 0, .int .u8 0, .int .u8 0, .int .u8 0, .int .u8 0, .int .u8 0, .int .u8 0, .int .u8 0, .int .u8 0, .int .u8 0, .int .u8 0, .int .u8 0, .int .u8 0], .agg #[.int .i64 0, .slice none 0 0, .slice none 0 0, .slice none 0 0], .slice none 0 0]
theorem laid_met (os : Os) : laidMet Tryd.prog Rows.signerCodesRow.laid ((laidWorld os).forCall (fun _ _ => 0) ⟨#[], args0, []⟩).memory :=
  laidMet_of_run' 8 (by kernel_rfl) (by kernel_rfl)
theorem reads (os : Os) {H : Type} (enc : TypeId × Value → H) : DataW.whole enc Tryd.prog ((laidWorld os).forCall (fun _ _ => 0) ⟨#[], args0, []⟩).memory Tryd.f7.params.toList Rows.signerCodesSpec.vars false args0.toList 8 = some ([.agg [.lit (.int .i64 0), .lit (.int .i64 0), .agg [.lit (.int .u8 0), .lit (.int .u8 0), .lit (.int .u8 0), .lit (.int .u8 0), .lit (.int .u8 0), .lit (.int .u8 0), .lit (.int .u8 0), .lit (.int .u8 0), .lit (.int .u8 0), .lit (.int .u8 0), .lit (.int .u8 0), .lit (.int .u8 0), .lit (.int .u8 0), .lit (.int .u8 0), .lit (.int .u8 0), .lit (.int .u8 0), .lit (.int .u8 0), .lit (.int .u8 0), .lit (.int .u8 0), .lit (.int .u8 0), .lit (.int .u8 0), .lit (.int .u8 0), .lit (.int .u8 0), .lit (.int .u8 0), .lit (.int .u8 0), .lit (.int .u8 0), .lit (.int .u8 0), .lit (.int .u8 0), .lit (.int .u8 0), .lit (.int .u8 0), .lit (.int .u8 0), .lit (.int .u8 0)]], .agg [.lit (.int .i64 0), .agg [.nil, .nil], .nil], .nil], [], []) := by kernel_rfl

set_option maxRecDepth 100000 in
theorem lifted (os : Os) (started : os.Started) (H : Type) (enc : TypeId × Value → H) (F : Stop.Interp) :
    ReturnsInHanded {} Tryd.checked os 7 .any ((OpenSpec.ofChange Rows.signerCodesSpec).preRow enc Tryd.prog Tryd.f7 Rows.signerCodesRow.domain false Rows.signerCodesRow.laid) (((OpenSpec.ofChange Rows.signerCodesSpec).at F).post enc Tryd.prog Tryd.f7 false true false false) := by
  refine returnsInHanded_of_row (C := Tryd.checked) (s := OpenSpec.ofChange Rows.signerCodesSpec) own started (by kernel_rfl) Tryd.func7
    (witness_row_at (enc := enc) (C := Tryd.checked) false (laidWorld os) args0 rfl (by kernel_rfl) (by kernel_rfl) (by kernel_rfl)
      (OpenSpec.preRow_of_cond 8 (reads os enc) (by kernel_rfl) (fun k hk => by cases hk) (by kernel_rfl) (laid_met os))) ?_
  intro W base args ds gs before hval hW _ _ _ hL _ _
  exact contract H enc W base args ds gs before hval hW hL

theorem named : Tryd.prog.funcNamed "pursuivant/pursuivantlaw09.SignerCodes" = some 7 := by kernel_rfl
theorem facts : joinedFacts Tryd.prog 7 Tryd.f7 (OpenSpec.ofChange Rows.signerCodesSpec).bare Rows.signerCodesRow = true := by kernel_rfl
theorem inst : Tryd.f7.isInstance Tryd.prog Rows.signerCodesRow.origin Rows.signerCodesRow.targs := of_decide_eq_true (by kernel_rfl)
theorem wrap : Tryd.f7.isWrapper Tryd.prog Rows.signerCodesRow.wrapper Rows.signerCodesRow.mainSum := by unfold Func.isWrapper; first | (rw [if_pos (by decide +kernel)]; kernel_rfl) | (rw [if_neg (by decide +kernel)]; exact ⟨rfl, rfl⟩)
theorem said : Rows.SignerCodesSaid :=
  OpenClaim.holds_of_cond 7 Tryd.f7 rfl rfl rfl rfl rfl rfl rfl ⟨rfl, rfl, rfl, rfl, rfl⟩ rfl rfl rfl rfl rfl named Tryd.func7 facts inst wrap
    (fun os started H enc _ F => by rw [OpenClaim.pre_eq_preRow]; exact lifted os started H enc F)

theorem plain (f : FuncId) (fn : Func) (hf : Tryd.pinned.checked.prog.funcNamed "pursuivant/pursuivantlaw09.SignerCodes" = some f) (hfn : Tryd.pinned.checked.prog.funcs[f]? = some fn) :
    false = Tryd.pinned.checked.prog.looks [] ∧ ∀ (j : Nat) t, fn.params[j]? = some t → Tryd.pinned.checked.prog.wantsStandIn t = false := by
  obtain rfl : f = 7 := Option.some.inj ((show Tryd.prog.funcNamed "pursuivant/pursuivantlaw09.SignerCodes" = some 7 by kernel_rfl).symm.trans hf) |>.symm
  obtain rfl : fn = Tryd.f7 := (Option.some.inj (Tryd.func7.symm.trans hfn)).symm
  refine ⟨by kernel_rfl, fun j t ht => ?_⟩
  rw [Tryd.params7] at ht
  have ht' := Array.mem_of_getElem? ht
  simp at ht'
  rcases ht' with rfl | rfl | rfl
  · exact (show Tryd.prog.wantsStandIn 45 = false by kernel_rfl)
  · exact (show Tryd.prog.wantsStandIn 37 = false by kernel_rfl)
  · exact (show Tryd.prog.wantsStandIn 22 = false by kernel_rfl)

theorem card : Rows.SignerCodesCardSaid :=
  Claim7.holds_tied_plain_at .later [] _ _ _ _ said (fun _ h => by cases h) (by kernel_rfl) (fun _ h => by cases h) signerCodes_row_tie rfl ⟨rfl, rfl⟩ (by kernel_rfl) rfl plain (by kernel_rfl)
#print axioms card
end Go.Proofs.YtddbmddblhjkkaaDoor.signerCodes
