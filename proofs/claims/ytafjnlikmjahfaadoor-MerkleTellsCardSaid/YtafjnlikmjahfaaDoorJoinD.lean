/- Arguments that are digests, slices of digests and one-time signatures, opened. -/
import Derived.Test.YtafjnlikmjahfaaDoorJoinC
import Derived.Test.YtafjnlikmjahfaaDoorDigs
import Derived.Lib.SmallJoins
namespace Go.Proofs.YtafjnlikmjahfaaDoor
open Go.ChangeShapes Go.WideShapes Go.ChangeAt Go.RowKit

section
variable {H : Type} {enc : TypeId × Value → H}
theorem cells_a32 : Tryd.prog.cellsOf 30 = 32 := by kernel_rfl
theorem cells_ds : Tryd.prog.cellsOf 22 = 1 := by kernel_rfl
/-- integers of bytes are bytes -/
theorem bytes_of {zs : List Int} (h : ∀ z ∈ zs, (Lit.int .u8 z).wf = true) : zs.map (Value.int .u8) = bytesV (zs.map fun z => UInt8.ofNat z.toNat) := by
  simp only [bytesV, List.map_map]
  refine List.map_congr_left (fun z hz => ?_)
  simp only [Function.comp, byteV]
  rw [u8_of (h z hz)]
theorem trod_a32 {w : World} {base : Nat} {spare : Nat → Bool} {held : Bool} {fuel : Nat} {cs : List Value} {x : DataW H × List MemPlace} (h : DataW.trod enc Tryd.prog w base spare held fuel 30 cs = some x) : ∃ d : List UInt8, cs = bytesV d ∧ d.length = 32 := by
  obtain ⟨zs, hz, hl, hw⟩ := trod_ints Tryd.underlying30 Tryd.underlying5 cells_u8 cells_a32 h
  exact ⟨zs.map fun z => UInt8.ofNat z.toNat, by rw [hz, bytes_of hw], by simp [hl]⟩
theorem trod_ds {w : World} {base : Nat} {spare : Nat → Bool} {held : Bool} {fuel : Nat} {v : Value} {x : DataW H × List MemPlace} (h : DataW.trod enc Tryd.prog w base spare held fuel 22 [v] = some x) : ∃ ds, SlD w v ds ∧ ds.length ≤ maxLen := by
  rcases Deep.open_slice Tryd.underlying22 h with ⟨hcs, _⟩ | ⟨a, len, cap, m, n, D, Pl, hcs, _, hl, hm, hmm, _, hx⟩
  · simp at hcs
    subst hcs
    exact ⟨[], SlD.none_ _ _ _, by simp⟩
  · simp at hcs
    subst hcs
    rw [cells_a32] at hx
    have hlm : len ≤ m := by rw [hmm]; split <;> omega
    obtain ⟨ds, hdl, hds⟩ := list_of len (fun i d => d.length = 32 ∧ ∀ j, j < 32 → w.cell? ((a.add (i * 32)).add j) = (bytesV d)[j]?) (fun i hi => by
      obtain ⟨cs', h1, h2⟩ := hx i (by omega)
      obtain ⟨d, rfl, hd⟩ := trod_a32 h2
      obtain ⟨_, _, h3⟩ := World.cells?_some h1
      exact ⟨d, hd, h3⟩)
    have hok : dsOk ds := fun d hd => by
      obtain ⟨i, hi, rfl⟩ := List.getElem_of_mem hd
      exact (hds i _ (List.getElem?_eq_getElem hi)).1
    refine ⟨ds, ⟨?_, hok⟩, by omega⟩
    rw [hdl]
    have hfl : (bytesV ds.flatten).length = len * 32 := by rw [bytesV_length, dsOk_length hok, hdl]; omega
    by_cases h0 : len = 0
    · subst h0
      exact ⟨hfl, some a, cap, rfl, by omega, fun h => absurd h (by omega)⟩
    · obtain ⟨ab, ao, spot⟩ := a
      have h00 := (hds 0 _ (List.getElem?_eq_getElem (by omega))).2 0 (by omega)
      have hd0 := (hds 0 _ (List.getElem?_eq_getElem (by omega))).1
      rw [bytesV_get _ 0 (by omega)] at h00
      have hspot : spot = none := by simpa [Addr.add] using World.cell?_spot h00
      subst hspot
      refine SlR.of_cells hfl hl (fun j u hu => ?_)
      have hj : j < 32 * ds.length := by have := (List.getElem?_eq_some_iff.1 hu).1; rw [bytesV_length, dsOk_length hok] at this; exact this
      have hk : j / 32 < ds.length := by omega
      have h1 := (hds (j / 32) _ (List.getElem?_eq_getElem hk)).2 (j % 32) (by omega)
      rw [Addr.add_lit, Addr.add_lit] at h1
      rw [show ao + j = ao + j / 32 * 32 + j % 32 by omega, h1, ← hu]
      have h2 := dsOk_get hok hk (show j % 32 < 32 by omega)
      rw [show j / 32 * 32 + j % 32 = j by omega] at h2
      simp only [bytesV, List.getElem?_map, h2]
set_option maxRecDepth 100000 in
theorem open_ds {w : World} {r : Reach} {b0 : Nat} {base : Nat} {spare : Nat → Bool} {held : Bool} {v : Value} {d : DataW H} {ps : List MemPlace} (hval : Value.okWide Tryd.prog w r b0 22 v) (h : DataW.Trod enc Tryd.prog w base spare held 22 v d ps) : ∃ ds, SlD w v ds ∧ ds.length ≤ maxLen := by
  obtain ⟨a1, len, cap, rfl⟩ := okWide_slice Tryd.underlying22 hval
  obtain ⟨fuel, hf⟩ := h
  exact trod_ds hf
set_option maxRecDepth 100000 in
theorem open_a32 {w : World} {r : Reach} {b0 : Nat} {base : Nat} {spare : Nat → Bool} {held : Bool} {v : Value} {d : DataW H} {ps : List MemPlace} (hval : Value.okWide Tryd.prog w r b0 30 v) (h : DataW.Trod enc Tryd.prog w base spare held 30 v d ps) : ∃ l : List UInt8, v = .agg (bytesV l).toArray ∧ l.length = 32 := by
  have hk := hval
  unfold Value.okWide at hk
  rw [Tryd.underlying30] at hk
  obtain ⟨cs, rfl, _, _⟩ := hk
  obtain ⟨fuel, hf⟩ := h
  obtain ⟨l, hl, h32⟩ := trod_a32 hf
  refine ⟨l, ?_, h32⟩
  have hcs : cs.toList = bytesV l := hl
  rw [← hcs]
end
end Go.Proofs.YtafjnlikmjahfaaDoor
