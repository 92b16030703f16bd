/- The table from the row's list; arguments of bytes and of the eight words opened; a world for the witness. -/
import Derived.Test.YtafjnlikmjahfaaDoorJoin
import Derived.Test.YtafjnlikmjahfaaDoorRows
namespace Go.Proofs.YtafjnlikmjahfaaDoor
open Go.ChangeShapes Go.WideShapes Go.ChangeAt Go.RowKit

theorem g_ks : Tryd.prog.globalNamed "pursuivant/sha.constants" = some 0 := by kernel_rfl
theorem g_ks_type : (Tryd.prog.globals[0]?).map (·.type) = some 86 := by kernel_rfl
theorem cells_a64 : Tryd.prog.cellsOf 86 = 64 := by kernel_rfl
theorem cells_u32 : Tryd.prog.cellsOf 70 = 1 := by kernel_rfl
theorem cells_u8 : Tryd.prog.cellsOf 5 = 1 := by kernel_rfl
theorem cells_a8 : Tryd.prog.cellsOf 73 = 8 := by kernel_rfl

/-- the row's list gives the table -/
theorem kst_of {W : World} (h : laidMetH Tryd.prog [("pursuivant/sha.constants", Rows.laid_pursuivant_sha_constants)] W) : Kst W := by
  have ht : Lib.TabIs Tryd.prog W "pursuivant/sha.constants" .u32 ks := Lib.tabIs_of_head (rest := []) g_ks g_ks_type Tryd.underlying86 Tryd.underlying70 cells_u32 cells_a64 h
  intro j v hv
  rw [Nat.zero_add]
  have hj : j < ks.length := by
    have := (List.getElem?_eq_some_iff.1 hv).1
    simpa [kvals] using this
  rw [ht.cell g_ks j hj, ← hv]
  simp [kvals, List.getElem?_eq_getElem hj]

section
variable {H : Type} {enc : TypeId × Value → H}
theorem u8_of {z : Int} (h : (Lit.int .u8 z).wf = true) : ((UInt8.ofNat z.toNat).toNat : Int) = z := by
  simp [Lit.wf, IntKind.min, IntKind.max, IntKind.signed, IntKind.bits] at h
  simp only [UInt8.toNat_ofNat']
  omega
theorem trod_bytes {w : World} {base : Nat} {spare : Nat → Bool} {held : Bool} {fuel : Nat} {v : Value} {x : DataW H × List MemPlace} (h : DataW.trod enc Tryd.prog w base spare held fuel 51 [v] = some x) : ∃ bs, Sl w v bs ∧ bs.length ≤ maxLen := by
  rcases open_ints Tryd.underlying51 Tryd.underlying5 cells_u8 h with ⟨hcs, _⟩ | ⟨a, len, cap, zs, hcs, _, hl, hm, hz, _, hcell, hwz⟩
  · simp at hcs
    subst hcs
    exact ⟨[], SlR.none_ _ _ _ _, by simp⟩
  · simp at hcs
    subst hcs
    have hlz : len ≤ zs.length := by rw [hz]; split <;> omega
    refine ⟨(zs.take len).map fun z => UInt8.ofNat z.toNat, ?_, by simp; omega⟩
    have hlen : ((zs.take len).map fun z => UInt8.ofNat z.toNat).length = len := by simp; omega
    unfold Sl
    rw [hlen]
    by_cases h0 : len = 0
    · subst h0
      exact ⟨by simp [bytesV], some a, cap, rfl, by omega, fun h => absurd h (by omega)⟩
    · obtain ⟨ab, ao, spot⟩ := a
      have hspot : spot = none := by simpa [Addr.add] using World.cell?_spot (hcell 0 (by omega))
      subst hspot
      refine SlR.of_cells (by rw [bytesV_length, hlen]; omega) hl (fun j u hu => ?_)
      have hj : j < len := by have := (List.getElem?_eq_some_iff.1 hu).1; rw [bytesV_length, hlen] at this; exact this
      have hc := hcell j (by omega)
      rw [Addr.add_lit] at hc
      rw [hc, ← hu]
      have hw := hwz zs[j] (List.getElem_mem _)
      have hw' := u8_of hw
      simp at hw'
      simp [bytesV, byteV, hj, List.getElem?_eq_getElem (show j < zs.length by omega)]
      omega
set_option maxRecDepth 100000 in
theorem open_bytes {w : World} {r : Reach} {b0 : Nat} {base : Nat} {spare : Nat → Bool} {held : Bool} {v : Value} {d : DataW H} {ps : List MemPlace} (hval : Value.okWide Tryd.prog w r b0 51 v) (h : DataW.Trod enc Tryd.prog w base spare held 51 v d ps) : ∃ bs, Sl w v bs ∧ bs.length ≤ maxLen := by
  obtain ⟨a1, len, cap, rfl⟩ := okWide_slice Tryd.underlying51 hval
  obtain ⟨fuel, hf⟩ := h
  exact trod_bytes hf
set_option maxRecDepth 100000 in
theorem open_a8 {w : World} {r : Reach} {b0 : Nat} {base : Nat} {spare : Nat → Bool} {held : Bool} {v : Value} {d : DataW H} {ps : List MemPlace} (hval : Value.okWide Tryd.prog w r b0 73 v) (h : DataW.Trod enc Tryd.prog w base spare held 73 v d ps) : ∃ s : St, v = .agg s.vals := by
  have hk := hval
  unfold Value.okWide at hk
  rw [Tryd.underlying73] at hk
  obtain ⟨cs, rfl, _, _⟩ := hk
  obtain ⟨fuel, hf⟩ := h
  obtain ⟨zs, hz, hl, _⟩ := trod_ints Tryd.underlying73 Tryd.underlying70 cells_u32 cells_a8 hf
  match zs, hl with
  | [a, b, c, d, e, f, g, h], _ =>
    refine ⟨⟨a, b, c, d, e, f, g, h⟩, ?_⟩
    have : cs = #[.int .u32 a, .int .u32 b, .int .u32 c, .int .u32 d, .int .u32 e, .int .u32 f, .int .u32 g, .int .u32 h] := by
      cases cs; simpa [Value.cells] using hz
    rw [this]; rfl
end

/-- a world for the witness: the table holds what its initialiser lays -/
noncomputable def laidWorld (os : Os) : World :=
  { World.holding Tryd.prog os ⟨#[], #[], []⟩ with heap := (World.holding Tryd.prog os ⟨#[], #[], []⟩).heap.modify 0 fun
      | .cells _ t frozen => .cells kvals.toArray t frozen
      | o => o }
end Go.Proofs.YtafjnlikmjahfaaDoor
