/- PROVED: the law SignerNobody of package pursuivantlaw09 returns true at every input and leaves its arguments as they were: a nil signer signs nothing, has no public part, no leaf left and none used. CONDITION: the package-level variable sha.constants holds what its initialiser lays (the card ties it). -/
import Derived.Test.YtddbmddblhjkkaaDoorMgA5
import Derived.Test.YtddbmddblhjkkaaDoorMgA4
import Derived.Deep.Strs
import Derived.Test.YtddbmddblhjkkaaDoorCards
import Derived.Test.YtddbmddblhjkkaaDoorTie
/- Arguments that are public keys, signatures and calls of a signer, opened. -/
namespace Go.Proofs.YtddbmddblhjkkaaDoor
open Go.ChangeShapes Go.WideShapes Go.ChangeAt Go.RowKit

section
variable {H : Type} {enc : TypeId × Value → H}
theorem cells_int : Tryd.prog.cellsOf 3 = 1 := by kernel_rfl
theorem i64_wf {x : Int} (wx : (Lit.int .i64 x).wf = true) : -9223372036854775808 ≤ x ∧ x ≤ 9223372036854775807 := by
  simp [Lit.wf, IntKind.min, IntKind.max, IntKind.signed, IntKind.bits] at wx
  omega
theorem cells_pk : Tryd.prog.cellsOf 45 = 34 := by kernel_rfl
set_option maxRecDepth 100000 in
theorem open_PubKey {w : World} {r : Reach} {b0 : Nat} {base : Nat} {spare : Nat → Bool} {held : Bool} {v : Value} {d : DataW H} {ps : List MemPlace} (hval : Value.okWide Tryd.prog w r b0 45 v) (h : DataW.Trod enc Tryd.prog w base spare held 45 v d ps) :
    ∃ (b h : Int) (r : List UInt8), v = .agg (pkC b h r) ∧ r.length = 32 ∧ (-9223372036854775808 ≤ b ∧ b ≤ 9223372036854775807) ∧ (-9223372036854775808 ≤ h ∧ h ≤ 9223372036854775807) := by
  obtain ⟨cs, rfl, hsz⟩ := okWide_struct Tryd.underlying45 hval
  obtain ⟨fuel, hf⟩ := h
  obtain ⟨y0, y1, y2, n, _, _, h0, h1, h2⟩ := Deep.trod_struct3 Tryd.underlying45 hf
  rw [cells_pk] at hsz
  obtain ⟨l⟩ := cs
  match l, hsz with
  | u0 :: u1 :: rest, hsz =>
    have hr : rest.length = 32 := by simpa using hsz
    dsimp only at h0 h1 h2
    rw [cells_int] at h0 h1
    rw [cells_a32] at h2
    obtain ⟨i0, e0, _, w0⟩ := DataW.trod_int Tryd.underlying3 h0
    obtain ⟨i1, e1, _, w1⟩ := DataW.trod_int Tryd.underlying3 h1
    obtain ⟨r, e2, hl⟩ := trod_a32 h2
    simp [Value.cells] at e0 e1 e2
    rw [List.take_of_length_le (by omega)] at e2
    subst e0 e1 e2
    exact ⟨i0, i1, r, rfl, hl, i64_wf w0, i64_wf w1⟩
theorem cells_once : Tryd.prog.cellsOf 35 = 2 := by kernel_rfl
theorem cells_sig : Tryd.prog.cellsOf 37 = 4 := by kernel_rfl
set_option maxRecDepth 100000 in
theorem open_Sig {w : World} {r : Reach} {b0 : Nat} {base : Nat} {spare : Nat → Bool} {held : Bool} {v : Value} {d : DataW H} {ps : List MemPlace} (hval : Value.okWide Tryd.prog w r b0 37 v) (h : DataW.Trod enc Tryd.prog w base spare held 37 v d ps) :
    ∃ (i : Int) (rv ov wv : Value) (rev oth way : List (List UInt8)), v = .agg (sigC i rv ov wv) ∧ (-9223372036854775808 ≤ i ∧ i ≤ 9223372036854775807) ∧ SlD w rv rev ∧ SlD w ov oth ∧ SlD w wv way := by
  obtain ⟨cs, rfl, hsz⟩ := okWide_struct Tryd.underlying37 hval
  obtain ⟨fuel, hf⟩ := h
  obtain ⟨y0, y1, y2, n, _, _, h0, h1, h2⟩ := Deep.trod_struct3 Tryd.underlying37 hf
  rw [cells_sig] at hsz
  obtain ⟨l⟩ := cs
  match l, hsz with
  | [u0, u1, u2, u3], _ =>
    dsimp only at h0 h1 h2
    rw [cells_int] at h0
    rw [cells_once] at h1
    rw [cells_ds] at h2
    obtain ⟨i0, e0, _, w0⟩ := DataW.trod_int Tryd.underlying3 h0
    obtain ⟨y3, y4, n', _, _, h3, h4⟩ := trod_struct2 Tryd.underlying35 h1
    dsimp only at h3 h4
    rw [cells_ds] at h3 h4
    obtain ⟨rev, hr, _⟩ := trod_ds h3
    obtain ⟨oth, ho, _⟩ := trod_ds h4
    obtain ⟨way, hw, _⟩ := trod_ds h2
    simp [Value.cells] at e0
    subst e0
    exact ⟨i0, u1, u2, u3, rev, oth, way, rfl, i64_wf w0, hr, ho, hw⟩
theorem cells_Op : Tryd.prog.cellsOf 32 = 3 := by kernel_rfl
set_option maxRecDepth 100000 in
theorem open_Op {w : World} {r : Reach} {b0 : Nat} {base : Nat} {spare : Nat → Bool} {held : Bool} {v : Value} {d : DataW H} {ps : List MemPlace} (hval : Value.okWide Tryd.prog w r b0 32 v) (h : DataW.Trod enc Tryd.prog w base spare held 32 v d ps) :
    ∃ (k l : Int) (mv : Value), v = .agg #[.int .i64 k, .int .i64 l, mv] := by
  obtain ⟨v0, v1, v2, y0, y1, y2, n, rfl, _, _, h0, h1, _⟩ := Joins.open_agg3 Tryd.underlying32 (by kernel_rfl) cells_Op hval h
  obtain ⟨i0, e0, _, _⟩ := DataW.trod_int Tryd.underlying3 h0
  obtain ⟨i1, e1, _, _⟩ := DataW.trod_int Tryd.underlying3 h1
  simp at e0 e1
  subst e0 e1
  exact ⟨i0, i1, v2, rfl⟩
end
end Go.Proofs.YtddbmddblhjkkaaDoor
/- The walk of the law SignerNobody. -/
namespace Go.Proofs.YtddbmddblhjkkaaDoor
open Go.RowKit Go.Maps

set_option maxRecDepth 100000 in
set_option maxHeartbeats 1000000 in
theorem signerNobody_any (k l : Int) (mv : Value) (w : World) (hK : Kst w) :
    Calls Tryd.prog 4 #[.agg #[.int .i64 k, .int .i64 l, mv]] w fun e w' => e = .returned (.bool true) ∧ Ext w w' := by
  have hB := Blk.new w 32 #[.int .i64 k, .int .i64 l, mv]
  have E0 : Ext w (w.alloc (.cells #[.int .i64 k, .int .i64 l, mv] 32)) := (Ext.refl w).alloc _
  have c1 : (w.alloc (.cells #[.int .i64 k, .int .i64 l, mv] 32)).cell? ⟨w.heap.size, 1, none⟩ = some (.int .i64 l) := hB.cell 1
  have c2 : (w.alloc (.cells #[.int .i64 k, .int .i64 l, mv] 32)).cell? ⟨w.heap.size, 2, none⟩ = some mv := hB.cell 2
  have Hlv := Lib.hid (fun w' (E : Ext w w') => lives9_any w' (hK.ext E))
  have Hsm := fun w' => Lib.hid (r9Same_eq 0 (.slice none 0 0) (.slice none 0 0) (.slice none 0 0) (.slice none 0 0) (.slice none 0 0) (.slice none 0 0) [] [] [] w' (SlD.none_ _ _ _) (SlD.none_ _ _ _) (SlD.none_ _ _ _) (SlD.none_ _ _ _) (SlD.none_ _ _ _) (SlD.none_ _ _ _) (by simp) (by simp) (by simp))
  change ∀ w', Hid (Calls Tryd.prog 12 #[.agg noSig, .agg noSig] w' _) at Hsm
  have heq : ∀ w, (Op.equalIn 10000 45 (.agg zeroPk) (.agg zeroPk)).run Tryd.prog w = .ok true w := equal_pk 0 0 (List.replicate 32 0) (by simp)
  have H1 := fun v w => Lib.hid (sSign_nil v w)
  have H2 := fun i v w => Lib.hid (sSignAt_nil i v w)
  have H3 := fun w => Lib.hid (sPublic_nil w)
  have H4 := fun w => Lib.hid (sLeft_nil w)
  have H5 := fun i w => Lib.hid (sUsed_nil i w)
  have pack := And.intro E0 (And.intro c1 c2)
  clear hB E0 c1 c2
  go_enter Tryd.func4, Tryd.ntmps4
  obtain ⟨E0, c1, c2⟩ := pack
  go_wp2_with fail
  with_reducible refine (H1 _ _).out.mono ?_
  rintro e w1 ⟨rfl, E1⟩
  have F1 := E0.trans E1
  replace c1 := E1.cell c1
  replace c2 := E1.cell c2
  clear E0 E1
  go_wp2_with (first | (refine wpList_var rfl rfl 37 rfl _ _ rfl (.agg noSig) zero_sig noSig rfl rfl info_sig rfl noSig_one ?_; intro w2 D2 E2; have F2 := F1.trans E2; replace c1 := E2.cell c1; replace c2 := E2.cell c2))
  clear F1 E2
  with_reducible refine (H2 _ _ _).out.mono ?_
  rintro e w3 ⟨rfl, E3⟩
  have F3 := F2.trans E3
  replace c1 := E3.cell c1
  replace c2 := E3.cell c2
  replace D2 := D2.ext E3
  clear F2 E3
  go_wp2_with (first | (refine wpList_var rfl rfl 37 rfl _ _ rfl (.agg noSig) zero_sig noSig rfl rfl info_sig rfl noSig_one ?_; intro w4 D4 E4; have F4 := F3.trans E4; replace c1 := E4.cell c1; replace D2 := D2.ext E4))
  clear F3 E4 c2
  with_reducible refine (Hlv.out _ F4).mono ?_
  rintro e w5 ⟨rfl, E5⟩
  have F5 := F4.trans E5
  replace c1 := E5.cell c1
  replace D2 := D2.ext E5
  replace D4 := D4.ext E5
  clear F4 E5
  go_wp2_with (first | (refine wpList_unguard rfl ?_; refine wpList_load_blk D2 rfl 37 _ rfl rfl Tryd.underlying37 rfl info_sig ?_) | (refine wpList_unguard rfl ?_; refine wpList_build_to rfl 37 _ rfl noSig (by kernel_rfl) ?_))
  with_reducible refine (Hsm _).out.mono ?_
  rintro e w6 ⟨rfl, E6⟩
  have F6 := F5.trans E6
  replace c1 := E6.cell c1
  replace D4 := D4.ext E6
  clear F5 E6 D2
  go_wp2_with (first | (refine wpList_unguard rfl ?_; refine wpList_load_blk D4 rfl 37 _ rfl rfl Tryd.underlying37 rfl info_sig ?_) | (refine wpList_unguard rfl ?_; refine wpList_build_to rfl 37 _ rfl noSig (by kernel_rfl) ?_))
  with_reducible refine (Hsm _).out.mono ?_
  rintro e w7 ⟨rfl, E7⟩
  have F7 := F6.trans E7
  replace c1 := E7.cell c1
  clear F6 E7 D4
  go_wp2_with fail
  with_reducible refine (H3 _).out.mono ?_
  rintro e w8 ⟨rfl, E8⟩
  have F8 := F7.trans E8
  replace c1 := E8.cell c1
  clear F7 E8
  go_wp2_with (first | (refine wpList_unguard rfl ?_; refine wpList_build_to rfl 45 _ rfl zeroPk (by kernel_rfl) ?_))
  with_reducible refine (H4 _).out.mono ?_
  rintro e w9 ⟨rfl, rfl⟩
  go_wp2_with fail
  with_reducible refine (H5 _ _).out.mono ?_
  rintro e w10 ⟨rfl, rfl⟩
  go_wp2
  go_ret
  exact ⟨rfl, F8⟩
end Go.Proofs.YtddbmddblhjkkaaDoor
/- PROVED: the law SignerNobody of package pursuivantlaw09 returns true at every input and leaves its arguments as they were: a nil signer signs nothing, has no public part, no leaf left and none used. CONDITION: the package-level variable sha.constants holds what its initialiser lays (the card ties it). -/
namespace Go.Proofs.YtddbmddblhjkkaaDoor.signerNobody
open Go.ChangeShapes Go.WideShapes Go.ChangeAt Go.RowKit

set_option maxRecDepth 100000 in
theorem contract (H : Type) (enc : TypeId × Value → H) (W : World) (base : Nat) (args : Array Value) (ds gs : List (DataW H)) (before : List MemPlace)
    (hval : ∀ (j : Nat) t v, Tryd.f4.params[j]? = some t → args[j]? = some v → Value.okWide Tryd.prog W .any base t v)
    (hW : DataW.Whole enc Tryd.prog Tryd.f4.params.toList Rows.signerNobodySpec.vars false W args.toList ds gs before) (hL : laidMetH Tryd.prog Rows.signerNobodyRow.laid W) :
    Calls Tryd.prog 4 args W fun e W' => ∃ v, e = .returned v ∧ Rows.signerNobodySpec.post enc Tryd.prog Tryd.f4 false true false false W args v W' := by
  have hW' := hW
  obtain ⟨p, q, hA0, hV, rfl, hfz, hnd⟩ := hW
  have hA : DataW.TrodAll enc Tryd.prog W 0 (fun _ => true) true Tryd.f4.params.toList args.toList ds p := hA0
  rw [Tryd.params4] at hA hval
  obtain ⟨v0, vs0, d0, ds0, p0, q0, hargs, rfl, rfl, h0, r0⟩ := trodAll_cons hA
  obtain ⟨rfl, rfl, rfl⟩ := trodAll_nil r0
  obtain rfl : args = #[v0] := by cases args; simp_all
  have hts : ∀ t ∈ Tryd.f4.params.toList, Tryd.prog.readableRec t = true ∧ t < Tryd.prog.types.size := by
    rw [Tryd.params4]
    intro t ht
    simp at ht
    subst ht
    exact ⟨by kernel_rfl, of_decide_eq_true (by kernel_rfl)⟩
  obtain ⟨x0, y0, a0, rfl⟩ := open_Op (hval 0 32 v0 rfl rfl) h0
  refine (signerNobody_any x0 y0 a0 W (kst_of hL)).mono fun e W' ⟨he, hE⟩ => ?_
  subst he
  exact ⟨_, rfl, post_true 4 (by kernel_rfl) Tryd.underlying4 rfl laidOut hts hW' rfl hE⟩

noncomputable def args0 : Array Value := #[.agg #[.int .i64 0, .int .i64 0, .slice none 0 0]]
theorem laid_met (os : Os) : laidMet Tryd.prog Rows.signerNobodyRow.laid ((laidWorld os).forCall (fun _ _ => 0) ⟨#[], args0, []⟩).memory :=
  laidMet_of_run' 8 (by kernel_rfl) (by kernel_rfl)
theorem reads (os : Os) {H : Type} (enc : TypeId × Value → H) : DataW.whole enc Tryd.prog ((laidWorld os).forCall (fun _ _ => 0) ⟨#[], args0, []⟩).memory Tryd.f4.params.toList Rows.signerNobodySpec.vars false args0.toList 8 = some ([.agg [.lit (.int .i64 0), .lit (.int .i64 0), .nil]], [], []) := by kernel_rfl

set_option maxRecDepth 100000 in
theorem lifted (os : Os) (started : os.Started) (H : Type) (enc : TypeId × Value → H) (F : Stop.Interp) :
    ReturnsInHanded {} Tryd.checked os 4 .any ((OpenSpec.ofChange Rows.signerNobodySpec).preRow enc Tryd.prog Tryd.f4 Rows.signerNobodyRow.domain false Rows.signerNobodyRow.laid) (((OpenSpec.ofChange Rows.signerNobodySpec).at F).post enc Tryd.prog Tryd.f4 false true false false) := by
  refine returnsInHanded_of_row (C := Tryd.checked) (s := OpenSpec.ofChange Rows.signerNobodySpec) own started (by kernel_rfl) Tryd.func4
    (witness_row_at (enc := enc) (C := Tryd.checked) false (laidWorld os) args0 rfl (by kernel_rfl) (by kernel_rfl) (by kernel_rfl)
      (OpenSpec.preRow_of_cond 8 (reads os enc) (by kernel_rfl) (fun k hk => by cases hk) (by kernel_rfl) (laid_met os))) ?_
  intro W base args ds gs before hval hW _ _ _ hL _ _
  exact contract H enc W base args ds gs before hval hW hL

theorem named : Tryd.prog.funcNamed "pursuivant/pursuivantlaw09.SignerNobody" = some 4 := by kernel_rfl
theorem facts : joinedFacts Tryd.prog 4 Tryd.f4 (OpenSpec.ofChange Rows.signerNobodySpec).bare Rows.signerNobodyRow = true := by kernel_rfl
theorem inst : Tryd.f4.isInstance Tryd.prog Rows.signerNobodyRow.origin Rows.signerNobodyRow.targs := of_decide_eq_true (by kernel_rfl)
theorem wrap : Tryd.f4.isWrapper Tryd.prog Rows.signerNobodyRow.wrapper Rows.signerNobodyRow.mainSum := by unfold Func.isWrapper; first | (rw [if_pos (by decide +kernel)]; kernel_rfl) | (rw [if_neg (by decide +kernel)]; exact ⟨rfl, rfl⟩)
theorem said : Rows.SignerNobodySaid :=
  OpenClaim.holds_of_cond 4 Tryd.f4 rfl rfl rfl rfl rfl rfl rfl ⟨rfl, rfl, rfl, rfl, rfl⟩ rfl rfl rfl rfl rfl named Tryd.func4 facts inst wrap
    (fun os started H enc _ F => by rw [OpenClaim.pre_eq_preRow]; exact lifted os started H enc F)

theorem plain (f : FuncId) (fn : Func) (hf : Tryd.pinned.checked.prog.funcNamed "pursuivant/pursuivantlaw09.SignerNobody" = some f) (hfn : Tryd.pinned.checked.prog.funcs[f]? = some fn) :
    false = Tryd.pinned.checked.prog.looks [] ∧ ∀ (j : Nat) t, fn.params[j]? = some t → Tryd.pinned.checked.prog.wantsStandIn t = false := by
  obtain rfl : f = 4 := Option.some.inj ((show Tryd.prog.funcNamed "pursuivant/pursuivantlaw09.SignerNobody" = some 4 by kernel_rfl).symm.trans hf) |>.symm
  obtain rfl : fn = Tryd.f4 := (Option.some.inj (Tryd.func4.symm.trans hfn)).symm
  refine ⟨by kernel_rfl, fun j t ht => ?_⟩
  rw [Tryd.params4] at ht
  have ht' := Array.mem_of_getElem? ht
  simp at ht'
  subst ht'
  exact (show Tryd.prog.wantsStandIn 32 = false by kernel_rfl)

theorem card : Rows.SignerNobodyCardSaid :=
  Claim7.holds_tied_plain_at .later [] _ _ _ _ said (fun _ h => by cases h) (by kernel_rfl) (fun _ h => by cases h) signerNobody_row_tie rfl ⟨rfl, rfl⟩ (by kernel_rfl) rfl plain (by kernel_rfl)
#print axioms card
end Go.Proofs.YtddbmddblhjkkaaDoor.signerNobody
