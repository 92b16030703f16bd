/- Arguments that are integers, strings, slices of slices of bytes, opened. -/
import Derived.Test.YtafjnlikmjahfaaDoorJoinB
import Derived.Test.YtafjnlikmjahfaaDoorByteA
import Derived.Deep.Slices
namespace Go.Proofs.YtafjnlikmjahfaaDoor
open Go.ChangeShapes Go.WideShapes Go.ChangeAt Go.RowKit
open Go.ChangeMaps (open_string)

section
variable {H : Type} {enc : TypeId × Value → H}
theorem open_i64 {w : World} {r : Reach} {b0 : Nat} {base : Nat} {spare : Nat → Bool} {held : Bool} {v : Value} {d : DataW H} {ps : List MemPlace} (hval : Value.okWide Tryd.prog w r b0 3 v) (h : DataW.Trod enc Tryd.prog w base spare held 3 v d ps) : ∃ x : Int, v = .int .i64 x ∧ -9223372036854775808 ≤ x ∧ x ≤ 9223372036854775807 := by
  obtain ⟨x, rfl, rfl, rfl, wx⟩ := open_int Tryd.underlying3 hval h
  refine ⟨x, rfl, ?_⟩
  simp [Lit.wf, IntKind.min, IntKind.max, IntKind.signed, IntKind.bits] at wx
  omega
theorem open_str {w : World} {r : Reach} {b0 : Nat} {base : Nat} {spare : Nat → Bool} {held : Bool} {v : Value} {d : DataW H} {ps : List MemPlace} (hval : Value.okWide Tryd.prog w r b0 9 v) (h : DataW.Trod enc Tryd.prog w base spare held 9 v d ps) : ∃ s : ByteArray, v = .string s ∧ s.size ≤ maxLen := by
  obtain ⟨s, rfl, rfl, rfl, hs⟩ := open_string Tryd.underlying9 hval h
  exact ⟨s, rfl, hs⟩
theorem cells_bytes : Tryd.prog.cellsOf 51 = 1 := by kernel_rfl
theorem list_of {α : Type} (n : Nat) (f : Nat → α → Prop) (h : ∀ i, i < n → ∃ x, f i x) : ∃ l : List α, l.length = n ∧ ∀ i x, l[i]? = some x → f i x := by
  induction n with
  | zero => exact ⟨[], rfl, by intro i x h; simp at h⟩
  | succ n ih =>
    obtain ⟨l, hl, hx⟩ := ih (fun i hi => h i (by omega))
    obtain ⟨y, hy⟩ := h n (by omega)
    refine ⟨l ++ [y], by simp [hl], fun i x hi => ?_⟩
    by_cases hlt : i < l.length
    · rw [List.getElem?_append_left hlt] at hi
      exact hx i x hi
    · rw [List.getElem?_append_right (by omega)] at hi
      have h0 : i - l.length = 0 := by
        rcases Nat.eq_zero_or_pos (i - l.length) with h | h
        · exact h
        · rw [List.getElem?_eq_none (by simp; omega)] at hi; cases hi
      rw [h0] at hi
      simp at hi
      subst hi
      obtain rfl : i = n := by omega
      exact hy
set_option maxRecDepth 100000 in
theorem open_bb {w : World} {r : Reach} {b0 : Nat} {base : Nat} {spare : Nat → Bool} {held : Bool} {v : Value} {d : DataW H} {ps : List MemPlace} (hval : Value.okWide Tryd.prog w r b0 59 v) (h : DataW.Trod enc Tryd.prog w base spare held 59 v d ps) : ∃ bss, SlAll w v bss ∧ bss.length ≤ maxLen := by
  obtain ⟨a1, len, cap, rfl⟩ := okWide_slice Tryd.underlying59 hval
  obtain ⟨fuel, hf0⟩ := h
  have hf : DataW.trod enc Tryd.prog w base spare held fuel 59 [.slice a1 len cap] = some (d, ps) := hf0
  rcases Deep.open_slice1 Tryd.underlying59 cells_bytes hf with ⟨hcs, _⟩ | ⟨a, len', cap', m, n, V, D, Pl, hcs, _, hl, hm, hmm, _, hx⟩
  · simp at hcs
    obtain ⟨rfl, rfl, rfl⟩ := hcs
    exact ⟨[], ⟨[], SlR.none_ _ _ _ _, by intro i bs hi; simp at hi⟩, by simp⟩
  · simp at hcs
    obtain ⟨rfl, rfl, rfl⟩ := hcs
    have hlm : len ≤ m := by rw [hmm]; split <;> omega
    obtain ⟨bss, hbl, hbs⟩ := list_of len (fun i bs => Sl w (V i) bs) (fun i hi => by
      obtain ⟨bs, h1, _⟩ := trod_bytes (hx i (by omega)).2
      exact ⟨bs, h1⟩)
    refine ⟨bss, ⟨(List.range len).map V, ?_, fun i bs hi => ?_⟩, by omega⟩
    · rw [hbl]
      by_cases h0 : len = 0
      · subst h0
        exact ⟨by simp, some a, cap, rfl, by omega, fun h => absurd h (by omega)⟩
      · obtain ⟨ab, ao, spot⟩ := a
        have hspot : spot = none := by simpa [Addr.add] using World.cell?_spot (hx 0 (by omega)).1
        subst hspot
        refine SlR.of_cells (by simp) hl (fun j u hu => ?_)
        have hj : j < len := by have := (List.getElem?_eq_some_iff.1 hu).1; simpa using this
        have hc := (hx j (by omega)).1
        rw [Addr.add_lit] at hc
        rw [hc, ← hu]
        simp [hj]
    · have hi' : i < len := by have := (List.getElem?_eq_some_iff.1 hi).1; omega
      exact ⟨V i, by simp [hi'], hbs i bs hi⟩
end
end Go.Proofs.YtafjnlikmjahfaaDoor
