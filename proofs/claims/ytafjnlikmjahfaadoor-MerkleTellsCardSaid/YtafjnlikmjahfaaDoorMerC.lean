/- Slices of slices of digests: words, append; merkle.Levels. -/
import Derived.Test.YtafjnlikmjahfaaDoorMerB
namespace Go.Proofs.YtafjnlikmjahfaaDoor
open Go.RowKit

theorem info_ds : (Tryd.prog.info? 22).map (fun i => (i.zero, i.size, i.bytes)) = some (some (.slice none 0 0), 1, 24) := by kernel_rfl
/-- where a slice of digests lies: below base, or in a block of digests -/
def Apt (w : World) (base : Nat) (u : Value) : Prop := ∀ b o n c, u = .slice (some ⟨b, o, none⟩) n c → b < base ∨ ∃ cs fr, w.heap[b]? = some (.cells cs 30 fr)
theorem Apt.of_own {w : World} {base base' : Nat} {u : Value} {ds : List (List UInt8)} (h : OwnD w base' u ds) : Apt w base u := by
  intro b o n c hu
  rcases h.1.2 with ⟨rfl, _⟩ | ⟨g, cap, cur, rfl, _, hg, _⟩
  · cases hu
  · cases hu
    exact .inr ⟨_, _, hg⟩
theorem Apt.old {w : World} {u : Value} {ds : List (List UInt8)} (h : SlD w u ds) (h1 : 1 ≤ ds.length) (w' : World) : Apt w' w.heap.size u := by
  intro b o n c hu
  subst hu
  obtain ⟨A, c', hv, _⟩ := h.form
  cases hv
  obtain ⟨b', o', hA, hc⟩ := h.at_ (show 0 < ds.length by omega)
  cases hA
  have hl := h.len (show 0 < ds.length by omega)
  exact .inl (by simpa using World.block_lt_of_cell? w _ (hc 0 _ (bytesV_get _ 0 (by omega))))
theorem Apt.ext {w w' : World} {base : Nat} {u : Value} (h : Apt w base u) (he : Ext w w') : Apt w' base u := by
  intro b o n c hu
  rcases h b o n c hu with h | ⟨cs, fr, h⟩
  · exact .inl h
  · exact .inr ⟨cs, fr, (Below.block he b (Array.getElem?_eq_some_iff.1 h).1).trans h⟩

/-- a slice of levels that is read; one of the call's own -/
def SlDs (w : World) (v : Value) (lss : List (List (List UInt8))) : Prop :=
  ∃ vs : List Value, SlR w 1 v lss.length vs ∧ ∀ (i : Nat) (ls : List (List UInt8)), lss[i]? = some ls → ∃ u, vs[i]? = some u ∧ SlD w u ls
def OwnDs (w : World) (base : Nat) (v : Value) (lss : List (List (List UInt8))) : Prop :=
  ∃ vs : List Value, w.ownsRow base 22 1 v lss.length vs ∧ (∀ u ∈ vs, u.oneCell' = true) ∧ ∀ (i : Nat) (ls : List (List UInt8)), lss[i]? = some ls → ∃ u, vs[i]? = some u ∧ SlD w u ls ∧ Apt w base u
section
variable {w w' : World} {base : Nat} {v : Value} {lss : List (List (List UInt8))}
theorem SlDs.ext (h : SlDs w v lss) (he : Ext w w') : SlDs w' v lss := by
  obtain ⟨vs, h1, h2⟩ := h
  refine ⟨vs, h1.ext he, fun i ls hi => ?_⟩
  obtain ⟨u, hu, hs⟩ := h2 i ls hi
  exact ⟨u, hu, hs.ext he⟩
theorem SlDs.form (h : SlDs w v lss) : ∃ A c, v = .slice A lss.length c ∧ lss.length ≤ c := by
  obtain ⟨vs, h1, _⟩ := h
  exact h1.form
theorem SlDs.at_ {A : Option Addr} {n c k : Nat} (h : SlDs w (.slice A n c) lss) (hn : n = lss.length) (hk : k < lss.length) : ∃ b o u, A = some ⟨b, o, none⟩ ∧ w.cell? ⟨b, o + k, none⟩ = some u ∧ SlD w u lss[k] := by
  subst hn
  obtain ⟨vs, h1, h2⟩ := h
  obtain ⟨b, o, hA, hc⟩ := h1.here (by omega)
  obtain ⟨u, hu, hs⟩ := h2 k _ (List.getElem?_eq_getElem hk)
  exact ⟨b, o, u, hA, hc k u hu, hs⟩
theorem OwnDs.sl (h : OwnDs w base v lss) : SlDs w v lss := by
  obtain ⟨vs, h1, _, h2⟩ := h
  refine ⟨vs, SlR.of_own h1, fun i ls hi => ?_⟩
  obtain ⟨u, hu, hs, _⟩ := h2 i ls hi
  exact ⟨u, hu, hs⟩
theorem OwnDs.ext (h : OwnDs w base v lss) (he : Ext w w') : OwnDs w' base v lss := by
  obtain ⟨vs, h1, h0, h2⟩ := h
  refine ⟨vs, own_kept h1 he, h0, fun i ls hi => ?_⟩
  obtain ⟨u, hu, hs, ha⟩ := h2 i ls hi
  exact ⟨u, hu, hs.ext he, ha.ext he⟩
theorem OwnDs.form (h : OwnDs w base v lss) : ∃ A c, v = .slice A lss.length c ∧ lss.length ≤ c := h.sl.form
theorem OwnDs.from (h : OwnDs w base v lss) : ∀ j, v.ownBlock = some j → base ≤ j := by
  obtain ⟨vs, h1, _⟩ := h
  exact fun j hj => (World.ownsRow.lt h1 j hj).1
/-- a slice of digests stays where a row of levels is appended to -/
theorem far_ds {u : Value} {ls : List (List UInt8)} {n : Nat} {vs : List Value} (hown : w.ownsRow base 22 1 v n vs) (hs : SlD w u ls) (ha : Apt w base u) (hg : w.grownBy w' v.ownBlock) : SlD w' u ls ∧ Apt w' base u := by
  have hne : ∀ b o n c, u = .slice (some ⟨b, o, none⟩) n c → v.ownBlock ≠ some b := by
    intro b o n c hu e
    rcases ha b o n c hu with h | ⟨cs, fr, h⟩
    · have := (World.ownsRow.lt hown b e).1
      omega
    · rcases hown.2 with ⟨rfl, _⟩ | ⟨g, cap, cur, rfl, _, hg', _⟩
      · simp [Value.ownBlock] at e
      · obtain rfl : g = b := by simpa [Value.ownBlock] using e
        rw [hg'] at h
        injection h with h
        injection h with _ h
        exact absurd h (by decide)
  constructor
  · obtain ⟨A, c, rfl, _⟩ := hs.form
    exact ⟨SlR.far hs.1 hg (fun b o e => by subst e; exact hne b o _ _ rfl), hs.2⟩
  · intro b o n c hu
    rcases ha b o n c hu with h | ⟨cs, fr, h⟩
    · exact .inl h
    · exact .inr ⟨cs, fr, (hg.block b (Array.getElem?_eq_some_iff.1 h).1 (Ne.symm (hne b o n c hu))).trans h⟩
/-- a slice of one slice, just built -/
theorem ownDs_one (w : World) (u : Value) (ls : List (List UInt8)) (hu : SlD w u ls) (ha : Apt w w.heap.size u) (h1 : u.oneCell' = true) : OwnDs (w.alloc (.cells #[u] 22)) w.heap.size (.slice (some ⟨w.heap.size, 0, none⟩) 1 1) [ls] := by
  refine ⟨[u], own_of_blk (xs := [u]) (Blk.new w 22 #[u]) (Nat.le_refl _) (by simp [maxLen]), by simpa using h1, fun i l hi => ?_⟩
  rcases i with _ | i
  · simp at hi; subst hi; exact ⟨u, rfl, hu.ext ((Ext.refl w).alloc _), ha.ext ((Ext.refl w).alloc _)⟩
  · simp at hi
/-- the same, of the whole -/
theorem ownDs_one0 (w : World) (u : Value) (ls : List (List UInt8)) (hu : SlD w u ls) (ha : Apt w 0 u) (h1 : u.oneCell' = true) : OwnDs (w.alloc (.cells #[u] 22)) 0 (.slice (some ⟨w.heap.size, 0, none⟩) 1 1) [ls] := by
  refine ⟨[u], own_of_blk (xs := [u]) (Blk.new w 22 #[u]) (Nat.zero_le _) (by simp [maxLen]), by simpa using h1, fun i l hi => ?_⟩
  rcases i with _ | i
  · simp at hi; subst hi; exact ⟨u, rfl, hu.ext ((Ext.refl w).alloc _), ha.ext ((Ext.refl w).alloc _)⟩
  · simp at hi
/-- a row of levels stays where a block turns that is neither its own nor of digests -/
theorem OwnDs.far {g : Nat} (h : OwnDs w 0 v lss) (hg : w.grownBy w' (some g)) (hne : v.ownBlock ≠ some g) (hty : ∀ cs fr, w.heap[g]? ≠ some (.cells cs 30 fr)) : OwnDs w' 0 v lss := by
  obtain ⟨vs, h1, h0, h2⟩ := h
  refine ⟨vs, h1.kept hg ?_, h0, fun i l hi => ?_⟩
  · cases hv : v.ownBlock with
    | none => exact .inl rfl
    | some j => exact .inr (by rw [← hv]; exact hne)
  · obtain ⟨u, hu, hs, ha⟩ := h2 i l hi
    have hno : ∀ b o n c, u = .slice (some ⟨b, o, none⟩) n c → g ≠ b := by
      intro b o n c e hgb
      rcases ha b o n c e with h | ⟨cs, fr, h⟩
      · omega
      · rw [← hgb] at h; exact hty cs fr h
    refine ⟨u, hu, ?_, ?_⟩
    · obtain ⟨A, c, rfl, _⟩ := hs.form
      exact ⟨SlR.far hs.1 hg (fun b o e => by subst e; intro e'; injection e' with e'; exact hno b o _ _ rfl e'), hs.2⟩
    · intro b o n c e
      rcases ha b o n c e with h | ⟨cs, fr, h⟩
      · exact .inl h
      · exact .inr ⟨cs, fr, (hg.block b (Array.getElem?_eq_some_iff.1 h).1 (fun e' => hno b o n c e (by injection e' with e'; exact e'.symm))).trans h⟩
theorem slR_one (w : World) (t : TypeId) (u : Value) (H : Nat) (hH : w.heap.size = H) : SlR (w.alloc (.cells #[u] t)) 1 (.slice (some ⟨H, 0, none⟩) 1 1) 1 [u] := by
  subst hH
  exact SlR.of_cells rfl (Nat.le_refl _) (fun j v hv => by rw [Nat.zero_add, (Blk.new w t _).cell]; simpa using hv)
/-- append(out, l) of levels -/
theorem wpList_appDs {ops : Array Oper} {rest : List Oper} {o : Oper} {a : Act} {Q : Exit → Act → World → Prop} {u : Value} {ls : List (List UInt8)} {A : Option Addr} {c : Nat} (hown : OwnDs w base v lss) (hu : SlD w u ls) (ha : Apt w base u) (h1 : u.oneCell' = true) (hr : SlR w 1 (.slice A 1 c) 1 [u]) (hgd : o.guard = none) (s x : Operand)
    (ho : o.op = .call { callee := .builtin .append, args := #[s, x], argTypes := #[24, 24] }) (hs : a.eval s = v) (hx : a.eval x = .slice A 1 c) (hlen : lss.length ≤ 1073741824) (hbase : base ≤ w.heap.size)
    (h : ∀ v' w', OwnDs w' base v' (lss ++ [ls]) → w.grownBy w' v.ownBlock → SlD w' u ls → (v'.ownBlock = v.ownBlock ∨ v'.ownBlock = some w.heap.size) → wpList Tryd.prog ops Q rest (a.put o.dst v') w') : wpList Tryd.prog ops Q (o :: rest) a w := by
  obtain ⟨vs, k1, k0, k2⟩ := hown
  obtain ⟨i0, hi, hz0, hz1, hz2⟩ := info_parts info_ds
  refine wpList_append_sl (P := Tryd.prog) w hgd s x 24 ho base 22 i0 (.slice none 0 0) 1 24 Tryd.underlying24 hi hz0 hz1 hz2 rfl (by omega) v lss.length vs hs k1 A 1 c [u] hx hr (by simpa using h1) (by unfold maxLen; omega) (by omega) hbase ?_
  intro v' w' h3 h4 h5
  refine h v' w' ⟨vs ++ [u], by rw [List.length_append]; exact h3, ?_, fun i l hi => ?_⟩ h4 (far_ds k1 hu ha h4).1 h5
  · intro y hy
    rcases List.mem_append.1 hy with hy | hy
    · exact k0 y hy
    · obtain rfl : y = u := by simpa using hy
      exact h1
  · have hvl : vs.length = lss.length := by have := k1.1; omega
    by_cases hlt : i < lss.length
    · rw [List.getElem?_append_left hlt] at hi
      obtain ⟨y, hy, hs', ha'⟩ := k2 i l hi
      exact ⟨y, by rw [List.getElem?_append_left (by omega)]; exact hy, (far_ds k1 hs' ha' h4).1, (far_ds k1 hs' ha' h4).2⟩
    · have hil : i < (lss ++ [ls]).length := (List.getElem?_eq_some_iff.1 hi).1
      rw [List.length_append, List.length_singleton] at hil
      obtain rfl : i = lss.length := by omega
      rw [List.getElem?_append_right (Nat.le_refl _), Nat.sub_self] at hi
      obtain rfl : ls = l := by simpa using hi
      exact ⟨u, by rw [List.getElem?_append_right (by omega), hvl, Nat.sub_self]; rfl, (far_ds k1 hu ha h4).1, (far_ds k1 hu ha h4).2⟩
end

set_option maxRecDepth 100000 in
set_option maxHeartbeats 400000 in
theorem mLevels_no (A : Option Addr) (n c : Nat) (w : World) (hno : powB n = false) :
    Calls Tryd.prog 8 #[.slice A n c] w fun e w' => e = .returned (.tuple #[.slice none 0 0, .int .i64 1]) ∧ w = w' := by
  have Hm := fun w => Lib.hid (mmay_any n w)
  rw [hno] at Hm
  clear hno
  go_enter Tryd.func8, Tryd.ntmps8
  go_wp2_with fail
  with_reducible refine (Hm _).out.mono ?_
  rintro e w1 ⟨rfl, rfl⟩
  go_wp2
  go_ret2
  exact ⟨rfl, rfl⟩

def slen : Value → Nat
  | .slice _ n _ => n
  | _ => 0

set_option maxRecDepth 100000 in
set_option maxHeartbeats 1000000 in
theorem mLevels_own (v : Value) (ds : List (List UInt8)) (H : Nat) (w : World) (hK : Kst w) (hv : SlD w v ds) (hl : ds.length = 2 ^ H) (hH : H ≤ 6) :
    Calls Tryd.prog 8 #[v] w fun e w' => ∃ vo, e = .returned (.tuple #[vo, .int .i64 0]) ∧ OwnDs w' 0 vo (levels ds (H + 1)) ∧ Ext w w' := by
  obtain ⟨A, c, rfl, hc⟩ := hv.form
  have hle := pow_le hH
  have hge : 1 ≤ 2 ^ H := Nat.one_le_two_pow
  have Hm := fun w => Lib.hid (mmay_any ds.length w)
  rw [hl, powB_pow hH, ← hl] at Hm
  have HV := Lib.hid hv
  have Hl := Lib.hid hl
  have Hcl := Lib.hid (cloneD_any _ ds w hv (by omega) (by omega))
  clear hv hl
  go_enter Tryd.func8, Tryd.ntmps8
  go_wp2_with fail
  with_reducible refine (Hm _).out.mono ?_
  rintro e w1 ⟨rfl, rfl⟩
  go_wp2_with fail
  with_reducible refine Hcl.out.mono ?_
  rintro e w1 ⟨v1, rfl, O1, E1⟩
  obtain ⟨A1, c1, rfl, hc1⟩ := O1.form
  clear Hcl Hm
  have hO2 := ownDs_one0 w1 _ ds O1.sl (Apt.of_own O1) rfl
  have hS2 := O1.sl.ext ((Ext.refl w1).alloc (.cells #[.slice A1 ds.length c1] 22))
  have E2 : Ext w (w1.alloc (.cells #[.slice A1 ds.length c1] 22)) := E1.alloc _
  have HO2 := Lib.hid hO2
  have HS2 := Lib.hid hS2
  have hsz : w.heap.size ≤ w1.heap.size := E1.size
  clear O1 hO2 hS2
  go_wp2
  go_loopw [4, 5] (fun out l wr => ∃ k : Nat, k ≤ H ∧ OwnDs wr 0 out (levels ds (k + 1)) ∧ (∀ j, out.ownBlock = some j → w1.heap.size ≤ j) ∧ SlD wr l (lev ds k) ∧ Ext w wr ∧ w1.heap.size ≤ wr.heap.size) (fun _ l _ => slen l)
  case atStart => exact ⟨0, by omega, HO2.out, fun j hj => by simp [Value.ownBlock] at hj; omega, HS2.out, E2, by simp⟩
  case round =>
    obtain ⟨k, hk, hO, hof, hS, E, hws⟩ := hrel
    have hll := lev_length Hl.out k hk
    have hlv := levels_length ds (k + 1)
    have hvs := levels_succ ds (k + 1)
    obtain ⟨Ao, co, rfl, hco⟩ := hO.form
    obtain ⟨Al, cl, rfl, hcl⟩ := hS.form
    rw [hlv] at hof
    have Hof := Lib.hid hof
    clear hof
    have HO := Lib.hid hO
    have HS := Lib.hid hS
    obtain ⟨l, hlE⟩ : ∃ l, l = lev ds k := ⟨_, rfl⟩
    by_cases hlt : k < H
    · obtain ⟨N, hN⟩ : ∃ N, N = 2 ^ (H - k - 1) := ⟨_, rfl⟩
      have hN1 : 2 ^ (H - k) = N * 2 := by rw [hN, show H - k = (H - k - 1) + 1 by omega, Nat.pow_succ]; simp
      have hNge : 1 ≤ N := by rw [hN]; exact Nat.one_le_two_pow
      have hNle : N ≤ 32 := by rw [hN]; have : 2 ^ (H - k - 1) ≤ 2 ^ 5 := Nat.pow_le_pow_right (by omega) (by omega); omega
      have hup : upB (lev ds k) = lev ds (k + 1) := rfl
      have Hup := Lib.hid (mup_any _ (lev ds k) N wr (hK.ext E) HS.out (by rw [hll, hN1]) hNge hNle)
      rw [hup] at Hup
      have hln := lev_length Hl.out (k + 1) (by omega)
      rw [show H - (k + 1) = H - k - 1 by omega, ← hN] at hln
      obtain ⟨n2, hn2⟩ : ∃ n2, n2 = 2 ^ (H - k) := ⟨_, rfl⟩
      have hNn : N < n2 := by omega
      rw [hll, ← hn2] at Hup HS hcl ⊢
      rw [hlv] at HO hco ⊢
      have Hvs := Lib.hid hvs
      have Hln := Lib.hid hln
      have Hlv := Lib.hid hlv
      clear hO hS hll hup hln hvs hlv hN hN1 hlE hn2
      have t1 : (n2 : Int) > 1 := by omega
      go_wp2_with fail
      with_reducible refine Hup.out.mono ?_
      rintro e w5 ⟨v5, rfl, O5, E5⟩
      have F5 := E.trans E5
      have HO5 := Lib.hid (HO.out.ext E5)
      have S5 := O5.sl
      have AP5 := Lib.hid (Apt.of_own (base := 0) O5)
      obtain ⟨A5, c5, rfl, hc5⟩ := fromN (lev ds (k + 1)) N Hln.out S5
      have hws5 : w1.heap.size ≤ w5.heap.size := Nat.le_trans hws E5.size
      have HO6 := Lib.hid (HO5.out.ext ((Ext.refl w5).alloc (.cells #[.slice A5 N c5] 22)))
      have HS6 := Lib.hid (S5.ext ((Ext.refl w5).alloc (.cells #[.slice A5 N c5] 22)))
      have HA6 := Lib.hid (AP5.out.ext ((Ext.refl w5).alloc (.cells #[.slice A5 N c5] 22)))
      have HR6 := Lib.hid (slR_one w5 22 (.slice A5 N c5) _ rfl)
      have E6 := F5.alloc (.cells #[.slice A5 N c5] 22)
      clear O5 S5 AP5 HO5 HO HS Hup E5 F5
      go_wp2_with (at_builtin; refine wpList_appDs HO6.out HS6.out HA6.out rfl HR6.out rfl _ _ rfl rfl rfl (by rw [Hlv.out]; omega) (Nat.zero_le _) ?_; intro v7 w7 ho7 hg7 hs7 hq7)
      have E7 := E6.grown hg7 (fun j hj => Nat.le_trans hsz (Hof.out j hj))
      have hof7 : Hid (∀ j, v7.ownBlock = some j → w1.heap.size ≤ j) := by
        intro j hj
        rcases hq7 with hq7 | hq7
        · rw [hq7] at hj
          exact Hof.out j hj
        · rw [hq7] at hj
          injection hj with hj
          rw [World.size_alloc] at hj
          omega
      have hws7 : w1.heap.size ≤ w7.heap.size := by have := hg7.size; rw [World.size_alloc] at this; omega
      rw [← Hvs.out] at ho7
      have HO7 := Lib.hid ho7
      have HS7 := Lib.hid hs7
      clear hg7 hq7 ho7 hs7 HO6 HS6 HA6 HR6 E6 Hvs
      go_wp2
      go_roundw
      case rel => exact ⟨k + 1, hlt, HO7.out, hof7.out, HS7.out, E7, hws7⟩
      case measure => exact hNn
    · obtain rfl : k = H := by omega
      rw [hll, Nat.sub_self] at HS hcl ⊢
      have E' := Lib.hid E
      clear hO hS hll hlE hvs hlv
      go_wp2
      go_ret2
      exact ⟨_, rfl, HO.out, E'.out⟩
theorem mLevels_yes (v : Value) (ds : List (List UInt8)) (H : Nat) (w : World) (hK : Kst w) (hv : SlD w v ds) (hl : ds.length = 2 ^ H) (hH : H ≤ 6) :
    Calls Tryd.prog 8 #[v] w fun e w' => ∃ vo, e = .returned (.tuple #[vo, .int .i64 0]) ∧ SlDs w' vo (levels ds (H + 1)) ∧ Ext w w' :=
  (mLevels_own v ds H w hK hv hl hH).mono fun _ _ ⟨vo, he, hO, E⟩ => ⟨vo, he, hO.sl, E⟩
end Go.Proofs.YtafjnlikmjahfaaDoor
