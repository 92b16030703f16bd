/- merkle, in plain words: levels, ways, climbing; a way climbs to the root. -/
import Derived.Test.YtafjnlikmjahfaaDoorMerA
namespace Go.Proofs.YtafjnlikmjahfaaDoor
open Go.RowKit

def nodeAt (ds : List (List UInt8)) (k : Nat) : List UInt8 := nodeB (dAt ds (2 * k)) (dAt ds (2 * k + 1))
/-- the first k nodes of the level above -/
def upT (ds : List (List UInt8)) (k : Nat) : List (List UInt8) := (List.range k).map (nodeAt ds)
def upB (ds : List (List UInt8)) : List (List UInt8) := upT ds (ds.length / 2)
theorem upT_length (ds : List (List UInt8)) (k : Nat) : (upT ds k).length = k := by simp [upT]
theorem upT_succ (ds : List (List UInt8)) (k : Nat) : upT ds (k + 1) = upT ds k ++ [nodeAt ds k] := by simp [upT, List.range_succ]
theorem upB_length (ds : List (List UInt8)) : (upB ds).length = ds.length / 2 := upT_length _ _
theorem upT_ok (ds : List (List UInt8)) (k : Nat) : dsOk (upT ds k) := by
  intro d hd
  simp only [upT, List.mem_map] at hd
  obtain ⟨j, _, rfl⟩ := hd
  exact nodeB_length _ _
theorem upB_at (ds : List (List UInt8)) (k : Nat) (h : k < ds.length / 2) : dAt (upB ds) k = nodeAt ds k := by
  rw [dAt_eq (by rw [upB_length]; exact h)]
  simp [upB, upT]
/-- the k-th level -/
def lev (ds : List (List UInt8)) : Nat → List (List UInt8)
  | 0 => ds
  | k + 1 => upB (lev ds k)
theorem lev_length {ds : List (List UInt8)} {H : Nat} (h : ds.length = 2 ^ H) : ∀ k, k ≤ H → (lev ds k).length = 2 ^ (H - k)
  | 0, _ => h
  | k + 1, hk => by
    have ih := lev_length h k (by omega)
    rw [lev, upB_length, ih, show H - k = (H - (k + 1)) + 1 by omega, Nat.pow_succ]
    omega
theorem lev_ok {ds : List (List UInt8)} (h : dsOk ds) : ∀ k, dsOk (lev ds k)
  | 0 => h
  | _ + 1 => upT_ok _ _
def levels (ds : List (List UInt8)) (n : Nat) : List (List (List UInt8)) := (List.range n).map (lev ds)
theorem levels_length (ds : List (List UInt8)) (n : Nat) : (levels ds n).length = n := by simp [levels]
theorem levels_succ (ds : List (List UInt8)) (n : Nat) : levels ds (n + 1) = levels ds n ++ [lev ds n] := by simp [levels, List.range_succ]
theorem levels_get (ds : List (List UInt8)) (n k : Nat) (h : k < n) : (levels ds n)[k]? = some (lev ds k) := by simp [levels, h]
def rootB (ds : List (List UInt8)) (H : Nat) : List UInt8 := dAt (lev ds H) 0
theorem rootB_length {ds : List (List UInt8)} {H : Nat} (hk : dsOk ds) (h : ds.length = 2 ^ H) : (rootB ds H).length = 32 := by
  have hl := lev_length h H (Nat.le_refl _)
  unfold rootB
  rw [dAt_eq (by rw [hl]; simp)]
  exact lev_ok hk H _ (List.getElem_mem _)
/-- what lies beside -/
def bes (i : Nat) : Nat := if i % 2 = 1 then i - 1 else i + 1
def wayT (ds : List (List UInt8)) (i n : Nat) : List (List UInt8) := (List.range n).map fun k => dAt (lev ds k) (bes (i / 2 ^ k))
theorem wayT_length (ds : List (List UInt8)) (i n : Nat) : (wayT ds i n).length = n := by simp [wayT]
theorem wayT_succ (ds : List (List UInt8)) (i n : Nat) : wayT ds i (n + 1) = wayT ds i n ++ [dAt (lev ds n) (bes (i / 2 ^ n))] := by simp [wayT, List.range_succ]
theorem div_lt {H i k : Nat} (h : i < 2 ^ H) (hk : k < H) : i / 2 ^ k < 2 ^ (H - k) := by
  rw [Nat.div_lt_iff_lt_mul (Nat.two_pow_pos k), ← Nat.pow_add, show H - k + k = H by omega]
  exact h
theorem bes_lt {i n : Nat} (h : i < 2 ^ (n + 1)) : bes i < 2 ^ (n + 1) := by
  have : 2 ^ (n + 1) = 2 * 2 ^ n := by rw [Nat.pow_succ]; omega
  unfold bes
  split <;> omega
theorem way_in {ds : List (List UInt8)} {H i k : Nat} (h : ds.length = 2 ^ H) (hi : i < 2 ^ H) (hk : k < H) : bes (i / 2 ^ k) < (lev ds k).length := by
  rw [lev_length h k (by omega)]
  have := div_lt hi hk
  rw [show H - k = (H - k - 1) + 1 by omega] at this ⊢
  exact bes_lt this
theorem wayT_ok {ds : List (List UInt8)} {H i n : Nat} (hok : dsOk ds) (h : ds.length = 2 ^ H) (hi : i < 2 ^ H) (hn : n ≤ H) : dsOk (wayT ds i n) := by
  intro d hd
  simp only [wayT, List.mem_map, List.mem_range] at hd
  obtain ⟨k, hk, rfl⟩ := hd
  rw [dAt_eq (way_in h hi (by omega))]
  exact lev_ok hok k _ (List.getElem_mem _)
/-- climbing -/
def climbB : List UInt8 → Nat → List (List UInt8) → List UInt8
  | x, _, [] => x
  | x, i, d :: ds => climbB (if i % 2 = 0 then nodeB x d else nodeB d x) (i / 2) ds
theorem climbB_snoc : ∀ (l : List (List UInt8)) (x : List UInt8) (i : Nat) (d : List UInt8), climbB x i (l ++ [d]) = if (i / 2 ^ l.length) % 2 = 0 then nodeB (climbB x i l) d else nodeB d (climbB x i l)
  | [], x, i, d => by simp [climbB]
  | e :: l, x, i, d => by
    have ih := climbB_snoc l (if i % 2 = 0 then nodeB x e else nodeB e x) (i / 2) d
    simp only [List.cons_append, climbB, List.length_cons, ih, Nat.div_div_eq_div_mul]
    rw [show 2 * 2 ^ l.length = 2 ^ (l.length + 1) by rw [Nat.pow_succ]; omega]
theorem climbB_length : ∀ (l : List (List UInt8)) (x : List UInt8) (i : Nat), x.length = 32 → (climbB x i l).length = 32
  | [], _, _, h => h
  | e :: l, x, i, _ => by
    unfold climbB
    refine climbB_length l _ _ ?_
    split <;> exact nodeB_length _ _
theorem climb_gen {ds : List (List UInt8)} {H : Nat} (h : ds.length = 2 ^ H) : ∀ (n j i : Nat), j + n = H → i < 2 ^ n →
    climbB (dAt (lev ds j) i) i ((List.range n).map fun k => dAt (lev ds (j + k)) (bes (i / 2 ^ k))) = rootB ds H
  | 0, j, i, hj, hi => by
    obtain rfl : j = H := by omega
    obtain rfl : i = 0 := by simpa using hi
    rfl
  | n + 1, j, i, hj, hi => by
    have hlen : (lev ds j).length = 2 * 2 ^ n := by rw [lev_length h j (by omega), show H - j = n + 1 by omega, Nat.pow_succ]; omega
    have hi2 : i / 2 < 2 ^ n := by rw [Nat.pow_succ] at hi; omega
    have ih := climb_gen h n (j + 1) (i / 2) (by omega) hi2
    have hup : dAt (lev ds (j + 1)) (i / 2) = nodeAt (lev ds j) (i / 2) := upB_at _ _ (by rw [hlen]; omega)
    rw [List.range_succ_eq_map, List.map_cons, List.map_map]
    unfold climbB
    rw [← ih, hup]
    congr 1
    · simp only [Nat.add_zero, Nat.pow_zero, Nat.div_one]
      unfold nodeAt bes
      by_cases h0 : i % 2 = 0
      · rw [if_pos h0, if_neg (by omega), show 2 * (i / 2) = i by omega]
      · rw [if_neg h0, if_pos (by omega), show 2 * (i / 2) + 1 = i by omega, show 2 * (i / 2) = i - 1 by omega]
    · apply List.map_congr_left
      intro k _
      simp only [Function.comp, Nat.succ_eq_add_one, Nat.div_div_eq_div_mul]
      rw [show j + (k + 1) = j + 1 + k by omega, show 2 * 2 ^ k = 2 ^ (k + 1) by rw [Nat.pow_succ]; omega]
/-- the way of a leaf climbs to the root -/
theorem climb_way {ds : List (List UInt8)} {H i : Nat} (h : ds.length = 2 ^ H) (hi : i < 2 ^ H) : climbB (dAt ds i) i (wayT ds i H) = rootB ds H := by
  have := climb_gen h H 0 i (by omega) hi
  simpa [wayT, lev] using this
/-- so many leaves may be: a power -/
theorem pow_of {n : Nat} (h : powB n = true) : ∃ H, H ≤ 6 ∧ n = 2 ^ H := by
  rcases (powB_iff n).1 h with rfl | rfl | rfl | rfl | rfl | rfl | rfl
  · exact ⟨0, by omega, rfl⟩
  · exact ⟨1, by omega, rfl⟩
  · exact ⟨2, by omega, rfl⟩
  · exact ⟨3, by omega, rfl⟩
  · exact ⟨4, by omega, rfl⟩
  · exact ⟨5, by omega, rfl⟩
  · exact ⟨6, by omega, rfl⟩
theorem pow_le {H : Nat} (h : H ≤ 6) : 2 ^ H ≤ 64 := Nat.pow_le_pow_right (by omega) h
theorem powB_pow {H : Nat} (h : H ≤ 6) : powB (2 ^ H) = true := by
  rcases H with _ | _ | _ | _ | _ | _ | _ | H
  all_goals first | decide | omega
end Go.Proofs.YtafjnlikmjahfaaDoor
