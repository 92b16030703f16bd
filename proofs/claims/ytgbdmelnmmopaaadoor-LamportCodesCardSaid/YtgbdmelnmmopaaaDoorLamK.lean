/- lamport: what is decoded of a signature's code is that signature. Plain. -/
import Derived.Test.YtgbdmelnmmopaaaDoorLamJ
namespace Go.Proofs.YtgbdmelnmmopaaaDoor
open Go.RowKit

def inter (rev oth : List (List UInt8)) (j : Nat) : List UInt8 := if j % 2 = 0 then dAt rev (j / 2) else dAt oth (j / 2)
def interL (rev oth : List (List UInt8)) (n : Nat) : List (List UInt8) := (List.range n).map (inter rev oth)
theorem interL_length (rev oth : List (List UInt8)) (n : Nat) : (interL rev oth n).length = n := by simp [interL]
theorem encS_inter (rev oth : List (List UInt8)) (n : Nat) : encS rev oth n = (interL rev oth (2 * n)).flatten := by
  induction n with
  | zero => rfl
  | succ n ih =>
    have h0 : inter rev oth (2 * n) = dAt rev n := by unfold inter; rw [if_pos (by omega), show 2 * n / 2 = n by omega]
    have h1 : inter rev oth (2 * n + 1) = dAt oth n := by unfold inter; rw [if_neg (by omega), show (2 * n + 1) / 2 = n by omega]
    rw [encS_succ, ih, show 2 * (n + 1) = 2 * n + 1 + 1 by omega]
    simp only [interL, List.range_succ, List.map_append, List.flatten_append, List.map_cons, List.map_nil, List.flatten_cons, List.flatten_nil, List.append_nil, h0, h1, List.append_assoc]
theorem dAt_length {ds : List (List UInt8)} (h : dsOk ds) {k : Nat} (hk : k < ds.length) : (dAt ds k).length = 32 := by rw [dAt_eq hk]; exact h _ (List.getElem_mem hk)
theorem interL_ok {rev oth : List (List UInt8)} {n : Nat} (hr : dsOk rev) (ho : dsOk oth) (h1 : n ≤ rev.length) (h2 : n ≤ oth.length) : dsOk (interL rev oth (2 * n)) := by
  intro d hd
  simp only [interL, List.mem_map, List.mem_range] at hd
  obtain ⟨j, hj, rfl⟩ := hd
  unfold inter
  split
  · exact dAt_length hr (by omega)
  · exact dAt_length ho (by omega)
theorem decR_enc {rev oth : List (List UInt8)} {n : Nat} (hr : dsOk rev) (ho : dsOk oth) (h1 : rev.length = n) (h2 : oth.length = n) : decR (encS rev oth n) n = rev := by
  have hok := interL_ok (n := n) hr ho (by omega) (by omega)
  apply List.ext_getElem
  · simp [decR, h1]
  · intro k hk1 hk2
    have hk : k < n := by omega
    have := dsOk_at hok (k := 2 * k) (by rw [interL_length]; omega)
    simp only [decR, List.getElem_map, List.getElem_range, dR]
    rw [encS_inter, show k * 64 = 2 * k * 32 by omega, this]
    simp only [interL, List.getElem_map, List.getElem_range, inter]
    rw [if_pos (by omega), show 2 * k / 2 = k by omega, dAt_eq hk2]
theorem decO_enc {rev oth : List (List UInt8)} {n : Nat} (hr : dsOk rev) (ho : dsOk oth) (h1 : rev.length = n) (h2 : oth.length = n) : decO (encS rev oth n) n = oth := by
  have hok := interL_ok (n := n) hr ho (by omega) (by omega)
  apply List.ext_getElem
  · simp [decO, h2]
  · intro k hk1 hk2
    have hk : k < n := by omega
    have := dsOk_at hok (k := 2 * k + 1) (by rw [interL_length]; omega)
    simp only [decO, List.getElem_map, List.getElem_range, dO]
    rw [encS_inter, show k * 64 + 32 = (2 * k + 1) * 32 by omega, this]
    simp only [interL, List.getElem_map, List.getElem_range, inter]
    rw [if_neg (by omega), show (2 * k + 1) / 2 = k by omega, dAt_eq hk2]
end Go.Proofs.YtgbdmelnmmopaaaDoor
