/- Part 3 of the texts: MerC MerD MerE LamA LamB LamC LamD LamE LamF LamG LamH. -/
import Derived.Test.YtddbmddblhjkkaaGreatDoorMgA2
import Derived.Laws.ResultCell
/- Slices of slices of digests: words, append; merkle.Levels. -/
namespace Go.Proofs.YtddbmddblhjkkaaGreatDoor
open Go.RowKit

theorem info_ds : (Tryz.prog.info? 40).map (fun i => (i.zero, i.size, i.bytes)) = some (some (.slice none 0 0), 1, 24) := by kernel_rfl
/-- where a slice of digests lies: below base, or in a block of digests -/
def Apt (w : World) (base : Nat) (u : Value) : Prop := ∀ b o n c, u = .slice (some ⟨b, o, none⟩) n c → b < base ∨ ∃ cs fr, w.heap[b]? = some (.cells cs 33 fr)
theorem Apt.of_own {w : World} {base base' : Nat} {u : Value} {ds : List (List UInt8)} (h : OwnD w base' u ds) : Apt w base u := by
  intro b o n c hu
  rcases h.1.2 with ⟨rfl, _⟩ | ⟨g, cap, cur, rfl, _, hg, _⟩
  · cases hu
  · cases hu
    exact .inr ⟨_, _, hg⟩
theorem Apt.old {w : World} {u : Value} {ds : List (List UInt8)} (h : SlD w u ds) (h1 : 1 ≤ ds.length) (w' : World) : Apt w' w.heap.size u := by
  intro b o n c hu
  subst hu
  obtain ⟨A, c', hv, _⟩ := h.form
  cases hv
  obtain ⟨b', o', hA, hc⟩ := h.at_ (show 0 < ds.length by omega)
  cases hA
  have hl := h.len (show 0 < ds.length by omega)
  exact .inl (by simpa using World.block_lt_of_cell? w _ (hc 0 _ (bytesV_get _ 0 (by omega))))
theorem Apt.ext {w w' : World} {base : Nat} {u : Value} (h : Apt w base u) (he : Ext w w') : Apt w' base u := by
  intro b o n c hu
  rcases h b o n c hu with h | ⟨cs, fr, h⟩
  · exact .inl h
  · exact .inr ⟨cs, fr, (Below.block he b (Array.getElem?_eq_some_iff.1 h).1).trans h⟩

/-- a slice of levels that is read; one of the call's own -/
def SlDs (w : World) (v : Value) (lss : List (List (List UInt8))) : Prop :=
  ∃ vs : List Value, SlR w 1 v lss.length vs ∧ ∀ (i : Nat) (ls : List (List UInt8)), lss[i]? = some ls → ∃ u, vs[i]? = some u ∧ SlD w u ls
def OwnDs (w : World) (base : Nat) (v : Value) (lss : List (List (List UInt8))) : Prop :=
  ∃ vs : List Value, w.ownsRow base 40 1 v lss.length vs ∧ (∀ u ∈ vs, u.oneCell' = true) ∧ ∀ (i : Nat) (ls : List (List UInt8)), lss[i]? = some ls → ∃ u, vs[i]? = some u ∧ SlD w u ls ∧ Apt w base u
section
variable {w w' : World} {base : Nat} {v : Value} {lss : List (List (List UInt8))}
theorem SlDs.ext (h : SlDs w v lss) (he : Ext w w') : SlDs w' v lss := by
  obtain ⟨vs, h1, h2⟩ := h
  refine ⟨vs, h1.ext he, fun i ls hi => ?_⟩
  obtain ⟨u, hu, hs⟩ := h2 i ls hi
  exact ⟨u, hu, hs.ext he⟩
theorem SlDs.form (h : SlDs w v lss) : ∃ A c, v = .slice A lss.length c ∧ lss.length ≤ c := by
  obtain ⟨vs, h1, _⟩ := h
  exact h1.form
theorem SlDs.at_ {A : Option Addr} {n c k : Nat} (h : SlDs w (.slice A n c) lss) (hn : n = lss.length) (hk : k < lss.length) : ∃ b o u, A = some ⟨b, o, none⟩ ∧ w.cell? ⟨b, o + k, none⟩ = some u ∧ SlD w u lss[k] := by
  subst hn
  obtain ⟨vs, h1, h2⟩ := h
  obtain ⟨b, o, hA, hc⟩ := h1.here (by omega)
  obtain ⟨u, hu, hs⟩ := h2 k _ (List.getElem?_eq_getElem hk)
  exact ⟨b, o, u, hA, hc k u hu, hs⟩
theorem OwnDs.sl (h : OwnDs w base v lss) : SlDs w v lss := by
  obtain ⟨vs, h1, _, h2⟩ := h
  refine ⟨vs, SlR.of_own h1, fun i ls hi => ?_⟩
  obtain ⟨u, hu, hs, _⟩ := h2 i ls hi
  exact ⟨u, hu, hs⟩
theorem OwnDs.ext (h : OwnDs w base v lss) (he : Ext w w') : OwnDs w' base v lss := by
  obtain ⟨vs, h1, h0, h2⟩ := h
  refine ⟨vs, own_kept h1 he, h0, fun i ls hi => ?_⟩
  obtain ⟨u, hu, hs, ha⟩ := h2 i ls hi
  exact ⟨u, hu, hs.ext he, ha.ext he⟩
theorem OwnDs.form (h : OwnDs w base v lss) : ∃ A c, v = .slice A lss.length c ∧ lss.length ≤ c := h.sl.form
theorem OwnDs.from (h : OwnDs w base v lss) : ∀ j, v.ownBlock = some j → base ≤ j := by
  obtain ⟨vs, h1, _⟩ := h
  exact fun j hj => (World.ownsRow.lt h1 j hj).1
/-- a slice of digests stays where a row of levels is appended to -/
theorem far_ds {u : Value} {ls : List (List UInt8)} {n : Nat} {vs : List Value} (hown : w.ownsRow base 40 1 v n vs) (hs : SlD w u ls) (ha : Apt w base u) (hg : w.grownBy w' v.ownBlock) : SlD w' u ls ∧ Apt w' base u := by
  have hne : ∀ b o n c, u = .slice (some ⟨b, o, none⟩) n c → v.ownBlock ≠ some b := by
    intro b o n c hu e
    rcases ha b o n c hu with h | ⟨cs, fr, h⟩
    · have := (World.ownsRow.lt hown b e).1
      omega
    · rcases hown.2 with ⟨rfl, _⟩ | ⟨g, cap, cur, rfl, _, hg', _⟩
      · simp [Value.ownBlock] at e
      · obtain rfl : g = b := by simpa [Value.ownBlock] using e
        rw [hg'] at h
        injection h with h
        injection h with _ h
        exact absurd h (by decide)
  constructor
  · obtain ⟨A, c, rfl, _⟩ := hs.form
    exact ⟨SlR.far hs.1 hg (fun b o e => by subst e; exact hne b o _ _ rfl), hs.2⟩
  · intro b o n c hu
    rcases ha b o n c hu with h | ⟨cs, fr, h⟩
    · exact .inl h
    · exact .inr ⟨cs, fr, (hg.block b (Array.getElem?_eq_some_iff.1 h).1 (Ne.symm (hne b o n c hu))).trans h⟩
/-- a slice of one slice, just built -/
theorem ownDs_one (w : World) (u : Value) (ls : List (List UInt8)) (hu : SlD w u ls) (ha : Apt w w.heap.size u) (h1 : u.oneCell' = true) : OwnDs (w.alloc (.cells #[u] 40)) w.heap.size (.slice (some ⟨w.heap.size, 0, none⟩) 1 1) [ls] := by
  refine ⟨[u], own_of_blk (xs := [u]) (Blk.new w 40 #[u]) (Nat.le_refl _) (by simp [maxLen]), by simpa using h1, fun i l hi => ?_⟩
  rcases i with _ | i
  · simp at hi; subst hi; exact ⟨u, rfl, hu.ext ((Ext.refl w).alloc _), ha.ext ((Ext.refl w).alloc _)⟩
  · simp at hi
/-- the same, of the whole -/
theorem ownDs_one0 (w : World) (u : Value) (ls : List (List UInt8)) (hu : SlD w u ls) (ha : Apt w 0 u) (h1 : u.oneCell' = true) : OwnDs (w.alloc (.cells #[u] 40)) 0 (.slice (some ⟨w.heap.size, 0, none⟩) 1 1) [ls] := by
  refine ⟨[u], own_of_blk (xs := [u]) (Blk.new w 40 #[u]) (Nat.zero_le _) (by simp [maxLen]), by simpa using h1, fun i l hi => ?_⟩
  rcases i with _ | i
  · simp at hi; subst hi; exact ⟨u, rfl, hu.ext ((Ext.refl w).alloc _), ha.ext ((Ext.refl w).alloc _)⟩
  · simp at hi
/-- a row of levels stays where a block turns that is neither its own nor of digests -/
theorem OwnDs.far {g : Nat} (h : OwnDs w 0 v lss) (hg : w.grownBy w' (some g)) (hne : v.ownBlock ≠ some g) (hty : ∀ cs fr, w.heap[g]? ≠ some (.cells cs 33 fr)) : OwnDs w' 0 v lss := by
  obtain ⟨vs, h1, h0, h2⟩ := h
  refine ⟨vs, h1.kept hg ?_, h0, fun i l hi => ?_⟩
  · cases hv : v.ownBlock with
    | none => exact .inl rfl
    | some j => exact .inr (by rw [← hv]; exact hne)
  · obtain ⟨u, hu, hs, ha⟩ := h2 i l hi
    have hno : ∀ b o n c, u = .slice (some ⟨b, o, none⟩) n c → g ≠ b := by
      intro b o n c e hgb
      rcases ha b o n c e with h | ⟨cs, fr, h⟩
      · omega
      · rw [← hgb] at h; exact hty cs fr h
    refine ⟨u, hu, ?_, ?_⟩
    · obtain ⟨A, c, rfl, _⟩ := hs.form
      exact ⟨SlR.far hs.1 hg (fun b o e => by subst e; intro e'; injection e' with e'; exact hno b o _ _ rfl e'), hs.2⟩
    · intro b o n c e
      rcases ha b o n c e with h | ⟨cs, fr, h⟩
      · exact .inl h
      · exact .inr ⟨cs, fr, (hg.block b (Array.getElem?_eq_some_iff.1 h).1 (fun e' => hno b o n c e (by injection e' with e'; exact e'.symm))).trans h⟩
theorem slR_one (w : World) (t : TypeId) (u : Value) (H : Nat) (hH : w.heap.size = H) : SlR (w.alloc (.cells #[u] t)) 1 (.slice (some ⟨H, 0, none⟩) 1 1) 1 [u] := by
  subst hH
  exact SlR.of_cells rfl (Nat.le_refl _) (fun j v hv => by rw [Nat.zero_add, (Blk.new w t _).cell]; simpa using hv)
/-- append(out, l) of levels -/
theorem wpList_appDs {ops : Array Oper} {rest : List Oper} {o : Oper} {a : Act} {Q : Exit → Act → World → Prop} {u : Value} {ls : List (List UInt8)} {A : Option Addr} {c : Nat} (hown : OwnDs w base v lss) (hu : SlD w u ls) (ha : Apt w base u) (h1 : u.oneCell' = true) (hr : SlR w 1 (.slice A 1 c) 1 [u]) (hgd : o.guard = none) (s x : Operand)
    (ho : o.op = .call { callee := .builtin .append, args := #[s, x], argTypes := #[70, 70] }) (hs : a.eval s = v) (hx : a.eval x = .slice A 1 c) (hlen : lss.length ≤ 1073741824) (hbase : base ≤ w.heap.size)
    (h : ∀ v' w', OwnDs w' base v' (lss ++ [ls]) → w.grownBy w' v.ownBlock → SlD w' u ls → (v'.ownBlock = v.ownBlock ∨ v'.ownBlock = some w.heap.size) → wpList Tryz.prog ops Q rest (a.put o.dst v') w') : wpList Tryz.prog ops Q (o :: rest) a w := by
  obtain ⟨vs, k1, k0, k2⟩ := hown
  obtain ⟨i0, hi, hz0, hz1, hz2⟩ := info_parts info_ds
  refine wpList_append_sl (P := Tryz.prog) w hgd s x 70 ho base 40 i0 (.slice none 0 0) 1 24 Tryz.underlying70 hi hz0 hz1 hz2 rfl (by omega) v lss.length vs hs k1 A 1 c [u] hx hr (by simpa using h1) (by unfold maxLen; omega) (by omega) hbase ?_
  intro v' w' h3 h4 h5
  refine h v' w' ⟨vs ++ [u], by rw [List.length_append]; exact h3, ?_, fun i l hi => ?_⟩ h4 (far_ds k1 hu ha h4).1 h5
  · intro y hy
    rcases List.mem_append.1 hy with hy | hy
    · exact k0 y hy
    · obtain rfl : y = u := by simpa using hy
      exact h1
  · have hvl : vs.length = lss.length := by have := k1.1; omega
    by_cases hlt : i < lss.length
    · rw [List.getElem?_append_left hlt] at hi
      obtain ⟨y, hy, hs', ha'⟩ := k2 i l hi
      exact ⟨y, by rw [List.getElem?_append_left (by omega)]; exact hy, (far_ds k1 hs' ha' h4).1, (far_ds k1 hs' ha' h4).2⟩
    · have hil : i < (lss ++ [ls]).length := (List.getElem?_eq_some_iff.1 hi).1
      rw [List.length_append, List.length_singleton] at hil
      obtain rfl : i = lss.length := by omega
      rw [List.getElem?_append_right (Nat.le_refl _), Nat.sub_self] at hi
      obtain rfl : ls = l := by simpa using hi
      exact ⟨u, by rw [List.getElem?_append_right (by omega), hvl, Nat.sub_self]; rfl, (far_ds k1 hu ha h4).1, (far_ds k1 hu ha h4).2⟩
end

set_option maxRecDepth 100000 in
set_option maxHeartbeats 400000 in
theorem mLevels_no (A : Option Addr) (n c : Nat) (w : World) (hno : powB n = false) :
    Calls Tryz.prog 54 #[.slice A n c] w fun e w' => e = .returned (.tuple #[.slice none 0 0, .int .i64 1]) ∧ w = w' := by
  have Hm := fun w => Lib.hid (mmay_any n w)
  rw [hno] at Hm
  clear hno
  go_enter Tryz.func54, Tryz.ntmps54
  go_wp2_with fail
  with_reducible refine (Hm _).out.mono ?_
  rintro e w1 ⟨rfl, rfl⟩
  go_wp2
  go_ret2
  exact ⟨rfl, rfl⟩

def slen : Value → Nat
  | .slice _ n _ => n
  | _ => 0

set_option maxRecDepth 100000 in
set_option maxHeartbeats 1000000 in
theorem mLevels_own (v : Value) (ds : List (List UInt8)) (H : Nat) (w : World) (hK : Kst w) (hv : SlD w v ds) (hl : ds.length = 2 ^ H) (hH : H ≤ 6) :
    Calls Tryz.prog 54 #[v] w fun e w' => ∃ vo, e = .returned (.tuple #[vo, .int .i64 0]) ∧ OwnDs w' 0 vo (levels ds (H + 1)) ∧ Ext w w' := by
  obtain ⟨A, c, rfl, hc⟩ := hv.form
  have hle := pow_le hH
  have hge : 1 ≤ 2 ^ H := Nat.one_le_two_pow
  have Hm := fun w => Lib.hid (mmay_any ds.length w)
  rw [hl, powB_pow hH, ← hl] at Hm
  have HV := Lib.hid hv
  have Hl := Lib.hid hl
  have Hcl := Lib.hid (cloneD_any _ ds w hv (by omega) (by omega))
  clear hv hl
  go_enter Tryz.func54, Tryz.ntmps54
  go_wp2_with fail
  with_reducible refine (Hm _).out.mono ?_
  rintro e w1 ⟨rfl, rfl⟩
  go_wp2_with fail
  with_reducible refine Hcl.out.mono ?_
  rintro e w1 ⟨v1, rfl, O1, E1⟩
  obtain ⟨A1, c1, rfl, hc1⟩ := O1.form
  clear Hcl Hm
  have hO2 := ownDs_one0 w1 _ ds O1.sl (Apt.of_own O1) rfl
  have hS2 := O1.sl.ext ((Ext.refl w1).alloc (.cells #[.slice A1 ds.length c1] 40))
  have E2 : Ext w (w1.alloc (.cells #[.slice A1 ds.length c1] 40)) := E1.alloc _
  have HO2 := Lib.hid hO2
  have HS2 := Lib.hid hS2
  have hsz : w.heap.size ≤ w1.heap.size := E1.size
  clear O1 hO2 hS2
  go_wp2
  go_loopw [4, 5] (fun out l wr => ∃ k : Nat, k ≤ H ∧ OwnDs wr 0 out (levels ds (k + 1)) ∧ (∀ j, out.ownBlock = some j → w1.heap.size ≤ j) ∧ SlD wr l (lev ds k) ∧ Ext w wr ∧ w1.heap.size ≤ wr.heap.size) (fun _ l _ => slen l)
  case atStart => exact ⟨0, by omega, HO2.out, fun j hj => by simp [Value.ownBlock] at hj; omega, HS2.out, E2, by simp⟩
  case round =>
    obtain ⟨k, hk, hO, hof, hS, E, hws⟩ := hrel
    have hll := lev_length Hl.out k hk
    have hlv := levels_length ds (k + 1)
    have hvs := levels_succ ds (k + 1)
    obtain ⟨Ao, co, rfl, hco⟩ := hO.form
    obtain ⟨Al, cl, rfl, hcl⟩ := hS.form
    rw [hlv] at hof
    have Hof := Lib.hid hof
    clear hof
    have HO := Lib.hid hO
    have HS := Lib.hid hS
    obtain ⟨l, hlE⟩ : ∃ l, l = lev ds k := ⟨_, rfl⟩
    by_cases hlt : k < H
    · obtain ⟨N, hN⟩ : ∃ N, N = 2 ^ (H - k - 1) := ⟨_, rfl⟩
      have hN1 : 2 ^ (H - k) = N * 2 := by rw [hN, show H - k = (H - k - 1) + 1 by omega, Nat.pow_succ]; simp
      have hNge : 1 ≤ N := by rw [hN]; exact Nat.one_le_two_pow
      have hNle : N ≤ 32 := by rw [hN]; have : 2 ^ (H - k - 1) ≤ 2 ^ 5 := Nat.pow_le_pow_right (by omega) (by omega); omega
      have hup : upB (lev ds k) = lev ds (k + 1) := rfl
      have Hup := Lib.hid (mup_any _ (lev ds k) N wr (hK.ext E) HS.out (by rw [hll, hN1]) hNge hNle)
      rw [hup] at Hup
      have hln := lev_length Hl.out (k + 1) (by omega)
      rw [show H - (k + 1) = H - k - 1 by omega, ← hN] at hln
      obtain ⟨n2, hn2⟩ : ∃ n2, n2 = 2 ^ (H - k) := ⟨_, rfl⟩
      have hNn : N < n2 := by omega
      rw [hll, ← hn2] at Hup HS hcl ⊢
      rw [hlv] at HO hco ⊢
      have Hvs := Lib.hid hvs
      have Hln := Lib.hid hln
      have Hlv := Lib.hid hlv
      clear hO hS hll hup hln hvs hlv hN hN1 hlE hn2
      have t1 : (n2 : Int) > 1 := by omega
      go_wp2_with fail
      with_reducible refine Hup.out.mono ?_
      rintro e w5 ⟨v5, rfl, O5, E5⟩
      have F5 := E.trans E5
      have HO5 := Lib.hid (HO.out.ext E5)
      have S5 := O5.sl
      have AP5 := Lib.hid (Apt.of_own (base := 0) O5)
      obtain ⟨A5, c5, rfl, hc5⟩ := fromN (lev ds (k + 1)) N Hln.out S5
      have hws5 : w1.heap.size ≤ w5.heap.size := Nat.le_trans hws E5.size
      have HO6 := Lib.hid (HO5.out.ext ((Ext.refl w5).alloc (.cells #[.slice A5 N c5] 40)))
      have HS6 := Lib.hid (S5.ext ((Ext.refl w5).alloc (.cells #[.slice A5 N c5] 40)))
      have HA6 := Lib.hid (AP5.out.ext ((Ext.refl w5).alloc (.cells #[.slice A5 N c5] 40)))
      have HR6 := Lib.hid (slR_one w5 40 (.slice A5 N c5) _ rfl)
      have E6 := F5.alloc (.cells #[.slice A5 N c5] 40)
      clear O5 S5 AP5 HO5 HO HS Hup E5 F5
      go_wp2_with (at_builtin; refine wpList_appDs HO6.out HS6.out HA6.out rfl HR6.out rfl _ _ rfl rfl rfl (by rw [Hlv.out]; omega) (Nat.zero_le _) ?_; intro v7 w7 ho7 hg7 hs7 hq7)
      have E7 := E6.grown hg7 (fun j hj => Nat.le_trans hsz (Hof.out j hj))
      have hof7 : Hid (∀ j, v7.ownBlock = some j → w1.heap.size ≤ j) := by
        intro j hj
        rcases hq7 with hq7 | hq7
        · rw [hq7] at hj
          exact Hof.out j hj
        · rw [hq7] at hj
          injection hj with hj
          rw [World.size_alloc] at hj
          omega
      have hws7 : w1.heap.size ≤ w7.heap.size := by have := hg7.size; rw [World.size_alloc] at this; omega
      rw [← Hvs.out] at ho7
      have HO7 := Lib.hid ho7
      have HS7 := Lib.hid hs7
      clear hg7 hq7 ho7 hs7 HO6 HS6 HA6 HR6 E6 Hvs
      go_wp2
      go_roundw
      case rel => exact ⟨k + 1, hlt, HO7.out, hof7.out, HS7.out, E7, hws7⟩
      case measure => exact hNn
    · obtain rfl : k = H := by omega
      rw [hll, Nat.sub_self] at HS hcl ⊢
      have E' := Lib.hid E
      clear hO hS hll hlE hvs hlv
      go_wp2
      go_ret2
      exact ⟨_, rfl, HO.out, E'.out⟩
theorem mLevels_yes (v : Value) (ds : List (List UInt8)) (H : Nat) (w : World) (hK : Kst w) (hv : SlD w v ds) (hl : ds.length = 2 ^ H) (hH : H ≤ 6) :
    Calls Tryz.prog 54 #[v] w fun e w' => ∃ vo, e = .returned (.tuple #[vo, .int .i64 0]) ∧ SlDs w' vo (levels ds (H + 1)) ∧ Ext w w' :=
  (mLevels_own v ds H w hK hv hl hH).mono fun _ _ ⟨vo, he, hO, E⟩ => ⟨vo, he, hO.sl, E⟩
end Go.Proofs.YtddbmddblhjkkaaGreatDoor
/- merkle: Root, way, Way. -/
namespace Go.Proofs.YtddbmddblhjkkaaGreatDoor
open Go.RowKit

set_option maxRecDepth 100000 in
set_option maxHeartbeats 400000 in
theorem mRoot_no (A : Option Addr) (n c : Nat) (w : World) (hno : powB n = false) :
    Calls Tryz.prog 26 #[.slice A n c] w fun e w' => e = .returned (.tuple #[.agg zb32, .int .i64 1]) ∧ Ext w w' := by
  have Hn := fun w => Lib.hid (mLevels_no A n c w hno)
  clear hno
  go_enter Tryz.func26, Tryz.ntmps26
  go_wp2_with (first | (refine wpList_alloc_blk rfl 33 rfl (.agg zb32) zero_a32 ?_; intro w1 hs1 hb1 he1; clear hs1))
  with_reducible refine (Hn _).out.mono ?_
  rintro e w2 ⟨rfl, rfl⟩
  go_wp2_with (first | (refine wpList_build_to rfl 33 _ rfl zb32 (by kernel_rfl) ?_) | (refine wpList_store_blk rfl 33 _ _ rfl w.heap.size zb32 rfl rfl 33 zb32 hb1 info_a32 rfl zb32_one ?_; intro w7 hs7 hb7 hg7))
  refine bodyPost_ret (v := .tuple #[.agg zb32, .int .i64 1]) (ret2_blk hb7 rfl rfl Tryz.underlying33 rfl info_a32 rfl) rfl ?_
  exact ⟨rfl, he1.grown hg7 (by simp)⟩

set_option maxRecDepth 100000 in
set_option maxHeartbeats 1000000 in
theorem mRoot_yes (v : Value) (ds : List (List UInt8)) (H : Nat) (w : World) (hK : Kst w) (hv : SlD w v ds) (hl : ds.length = 2 ^ H) (hH : H ≤ 6) :
    Calls Tryz.prog 26 #[v] w fun e w' => e = .returned (.tuple #[dgV (rootB ds H), .int .i64 0]) ∧ Ext w w' := by
  obtain ⟨A, c, rfl, hc⟩ := hv.form
  have Hy := Lib.hid (fun w' (E : Ext w w') => mLevels_yes _ ds H w' (hK.ext E) (hv.ext E) hl hH)
  have hn := rootB_length hv.2 hl
  have hll := lev_length hl H (Nat.le_refl _)
  have hlv := levels_length ds (H + 1)
  rw [Nat.sub_self, Nat.pow_zero] at hll
  have hz : rootB ds H = (lev ds H)[0]'(by omega) := dAt_eq (by omega)
  obtain ⟨z, hzE⟩ : ∃ z, z = rootB ds H := ⟨_, rfl⟩
  rw [← hzE] at hn hz ⊢
  have Hn := Lib.hid hn
  have hz32 : Hid (zb32.size = (bytesV z).toArray.size) := zb32_size _ Hn.out
  have hi32 : Hid ((Tryz.prog.info? 33).map (·.size) = some (bytesV z).toArray.size) := dg_i z Hn.out
  clear hv hn hzE hl
  go_enter Tryz.func26, Tryz.ntmps26
  go_wp2_with (first | (refine wpList_alloc_blk rfl 33 rfl (.agg zb32) zero_a32 ?_; intro w1 hs1 hb1 he1; clear hs1))
  with_reducible refine (Hy.out _ he1).mono ?_
  rintro e w2 ⟨vo, rfl, S2, E2⟩
  obtain ⟨Ao, co, rfl, hco⟩ := S2.form
  obtain ⟨b, o, u, rfl, hcell, hu⟩ := S2.at_ (k := H) rfl (by rw [hlv]; omega)
  have hge : (levels ds (H + 1))[H]'(by rw [hlv]; omega) = lev ds H := by simp [levels]
  rw [hge] at hu
  obtain ⟨Au, cu, rfl, hcu⟩ := hu.form
  obtain ⟨bu, ou, rfl, hcd⟩ := hu.at_ (k := 0) (by omega)
  rw [← hz] at hcd
  rw [hll] at hcell hcu
  rw [hlv] at hco ⊢
  have B2 := hb1.ext E2
  have Hcd := Lib.hid hcd
  have F2 := he1.trans E2
  have e1 : IntKind.i64.wrap (((H + 1 : Nat) : Int) - 1) = (H : Int) := by rw [IntWalk.i64_in _ (by omega)]; omega
  clear Hy S2 hu hlv hge hll hz hb1 he1 E2 hcd
  have hcell' : w2.cell? ⟨b, o + H, none⟩ = some (.slice (some ⟨bu, ou, none⟩) 1 cu) := hcell
  go_wp2_with (first | (refine wpList_load_dg Hcd.out Hn.out rfl _ rfl rfl ?_) | (refine wpList_store_blk rfl 33 _ _ rfl w.heap.size (bytesV z).toArray rfl rfl 33 zb32 B2 hi32.out hz32.out (bytes_one _) ?_; intro w7 hs7 hb7 hg7))
  refine bodyPost_ret (v := .tuple #[dgV z, .int .i64 0]) (ret2_blk hb7 rfl rfl Tryz.underlying33 rfl hi32.out rfl) rfl ?_
  exact ⟨rfl, F2.grown hg7 (by simp)⟩

theorem xor_one : ∀ i : Fin 64, bits .xor .i64 (i.1 : Int) 1 = (bes i.1 : Int) := by decide +kernel

set_option maxRecDepth 100000 in
set_option maxHeartbeats 1000000 in
theorem mway_any (v : Value) (ds : List (List UInt8)) (H i : Nat) (w : World) (hv : SlDs w v (levels ds (H + 1))) (hl : ds.length = 2 ^ H) (hH : H ≤ 6) (hi : i < 2 ^ H) :
    Calls Tryz.prog 58 #[v, .int .i64 (i : Int)] w fun e w' => ∃ vo, e = .returned vo ∧ OwnD w' w.heap.size vo (wayT ds i H) ∧ Ext w w' := by
  obtain ⟨A, c, rfl, hc⟩ := hv.form
  have hlv := levels_length ds (H + 1)
  obtain ⟨b, o, u, rfl, hx1, hx2⟩ := hv.at_ (k := 0) rfl (by rw [hlv]; omega)
  clear hx1 hx2
  have HV := Lib.hid hv
  have Hl := Lib.hid hl
  have Hlv := Lib.hid hlv
  rw [hlv] at hc HV ⊢
  have hle := pow_le hH
  clear hv hl hlv
  go_enter Tryz.func58, Tryz.ntmps58
  go_wp2
  go_loopw [5, 1, 14] (fun out j n wr => ∃ k : Nat, k ≤ H ∧ n = .int .i64 (k : Int) ∧ j = .int .i64 ((i / 2 ^ k : Nat) : Int) ∧ OwnD wr w.heap.size out (wayT ds i k) ∧ Ext w wr) (fun _ _ n _ => H - (intOf n).toNat)
  case atStart => exact ⟨0, by omega, rfl, by simp, OwnD.none_ _ _, Ext.refl w⟩
  case round =>
    obtain ⟨k, hk, rfl, rfl, hO, E⟩ := hrel
    have hwl := wayT_length ds i k
    obtain ⟨Ao, co, rfl, hco⟩ := hO.form
    rw [hwl] at hO hco ⊢
    have HO := Lib.hid hO
    clear hO
    by_cases hlt : k < H
    · have hin := way_in Hl.out hi hlt
      have hll := lev_length Hl.out k hk
      obtain ⟨b', o', u, hA, hcell, hu⟩ := (HV.out.ext E).at_ (k := k) Hlv.out.symm (by rw [Hlv.out]; omega)
      obtain ⟨rfl, rfl⟩ : b = b' ∧ o = o' := by simpa using hA
      have hge : (levels ds (H + 1))[k]'(by rw [Hlv.out]; omega) = lev ds k := by simp [levels]
      rw [hge] at hu
      obtain ⟨Au, cu, rfl, hcu⟩ := hu.form
      obtain ⟨bu, ou, rfl, hcd⟩ := hu.at_ hin
      have hld := hu.len hin
      have hws := wayT_succ ds i k
      rw [dAt_eq hin] at hws
      have hx := xor_one ⟨i / 2 ^ k, by have := Nat.div_le_self i (2 ^ k); omega⟩
      dsimp only at hx
      have hp2 : i / 2 ^ (k + 1) = i / 2 ^ k / 2 := by rw [Nat.pow_succ, ← Nat.div_div_eq_div_mul]
      obtain ⟨p, hp⟩ : ∃ p, p = i / 2 ^ k := ⟨_, rfl⟩
      obtain ⟨q, hq⟩ : ∃ q, q = bes p := ⟨_, rfl⟩
      obtain ⟨z, hz⟩ : ∃ z, z = (lev ds k)[bes (i / 2 ^ k)] := ⟨_, rfl⟩
      obtain ⟨n, hn⟩ : ∃ n, n = (lev ds k).length := ⟨_, rfl⟩
      rw [← hz] at hcd hld hws
      rw [← hp, ← hq] at hcd hin
      rw [← hp] at hx hp2 ⊢
      rw [← hq] at hx
      rw [← hn] at hcell hcu hin
      have hpb : p ≤ 64 := by have := Nat.div_le_self i (2 ^ k); omega
      have Hcd := Lib.hid hcd
      have Hld := Lib.hid hld
      have Hws := Lib.hid hws
      have Hp2 := Lib.hid hp2
      have Hwl := Lib.hid hwl
      have hsz := E.size
      clear hcd hld hws hp hq hz hn hge hu hll hA hp2 hwl
      go_wp2_with (first | (refine wpList_load_dg Hcd.out Hld.out rfl _ rfl rfl ?_) | (refine wpList_build_dg z Hld.out rfl _ rfl rfl ?_; intro w6 E6 hs6 hnew; have HN6 := Lib.hid hnew; have HO6 := Lib.hid (HO.out.ext E6); clear hnew hs6) | (at_builtin; refine wpList_appD HO6.out Hld.out HN6.out rfl _ _ rfl rfl rfl (by rw [Hwl.out]; omega) (by have := E6.size; omega) ?_; intro v7 w7 ho7 hg7 hq7))
      have E7 := (E.trans E6).grown hg7 HO6.out.from
      rw [← Hws.out] at ho7
      exact ⟨⟨k + 1, hlt, by go_num, by rw [Hp2.out]; go_num, ho7, E7⟩, by simp [intOf]; omega⟩
    · obtain rfl : k = H := by omega
      clear hwl
      go_wp2
      go_ret
      exact ⟨_, rfl, HO.out, E⟩

set_option maxRecDepth 100000 in
set_option maxHeartbeats 400000 in
theorem mWay_no (A : Option Addr) (n c : Nat) (i : Int) (w : World) (hno : powB n = false) :
    Calls Tryz.prog 31 #[.slice A n c, .int .i64 i] w fun e w' => e = .returned (.tuple #[.slice none 0 0, .int .i64 1]) ∧ w = w' := by
  have Hn := fun w => Lib.hid (mLevels_no A n c w hno)
  clear hno
  go_enter Tryz.func31, Tryz.ntmps31
  go_wp2_with fail
  with_reducible refine (Hn _).out.mono ?_
  rintro e w2 ⟨rfl, rfl⟩
  go_wp2
  go_ret2
  exact ⟨rfl, rfl⟩

set_option maxRecDepth 100000 in
set_option maxHeartbeats 400000 in
theorem mWay_none (v : Value) (ds : List (List UInt8)) (H : Nat) (i : Int) (w : World) (hK : Kst w) (hv : SlD w v ds) (hl : ds.length = 2 ^ H) (hH : H ≤ 6) (hi : i < 0 ∨ (0 ≤ i ∧ (ds.length : Int) ≤ i)) :
    Calls Tryz.prog 31 #[v, .int .i64 i] w fun e w' => e = .returned (.tuple #[.slice none 0 0, .int .i64 4]) ∧ Ext w w' := by
  obtain ⟨A, c, rfl, hc⟩ := hv.form
  have Hy := Lib.hid (mLevels_yes _ ds H w hK hv hl hH)
  have hlv := Lib.hid (levels_length ds (H + 1))
  clear hv hl
  rcases hi with hi | ⟨hi0, hi⟩
  all_goals
    go_enter Tryz.func31, Tryz.ntmps31
    go_wp2_with fail
    with_reducible refine Hy.out.mono ?_
    rintro e w2 ⟨vo, rfl, S2, E2⟩
    obtain ⟨Ao, co, rfl, hco⟩ := S2.form
    clear S2 Hy
    go_wp2
    go_ret2
    exact ⟨rfl, E2⟩

set_option maxRecDepth 100000 in
set_option maxHeartbeats 400000 in
theorem mWay_yes (v : Value) (ds : List (List UInt8)) (H i : Nat) (w : World) (hK : Kst w) (hv : SlD w v ds) (hl : ds.length = 2 ^ H) (hH : H ≤ 6) (hi : i < ds.length) :
    Calls Tryz.prog 31 #[v, .int .i64 (i : Int)] w fun e w' => ∃ vo, e = .returned (.tuple #[vo, .int .i64 0]) ∧ SlD w' vo (wayT ds i H) ∧ Ext w w' := by
  obtain ⟨A, c, rfl, hc⟩ := hv.form
  have Hy := Lib.hid (mLevels_yes _ ds H w hK hv hl hH)
  have Hw := Lib.hid (fun vo w' (S : SlDs w' vo (levels ds (H + 1))) => mway_any vo ds H i w' S hl hH (by omega))
  have hi' : (i : Int) < (ds.length : Int) := by omega
  clear hv hl
  go_enter Tryz.func31, Tryz.ntmps31
  go_wp2_with fail
  with_reducible refine Hy.out.mono ?_
  rintro e w2 ⟨vo, rfl, S2, E2⟩
  have HS2 := Lib.hid S2
  clear S2 Hy
  go_wp2_with fail
  with_reducible refine (Hw.out vo w2 HS2.out).mono ?_
  rintro e w3 ⟨v3, rfl, O3, E3⟩
  have F3 := E2.trans E3
  have HO3 := Lib.hid O3
  clear O3 E3 E2
  go_wp2
  go_ret2
  exact ⟨_, rfl, HO3.out.sl, F3⟩

/-- may one climb -/
def climbOk (n : Nat) (i : Int) : Bool := decide (n ≤ 6) && (decide (0 ≤ i) && decide (i < 2 ^ n))
theorem climbOk_iff (n : Nat) (i : Int) : climbOk n i = true ↔ n ≤ 6 ∧ 0 ≤ i ∧ i < 2 ^ n := by simp [climbOk]

theorem wrap_pow7 : ∀ k : Fin 7, wrap64 ((2 : Int) ^ k.1) = (2 : Int) ^ k.1 := by decide +kernel
theorem wrap_pow {n : Nat} (h : n ≤ 6) : wrap64 ((2 : Int) ^ n) = (2 : Int) ^ n := wrap_pow7 ⟨n, by omega⟩

set_option maxRecDepth 100000 in
set_option maxHeartbeats 400000 in
theorem mClimb_no (x : List UInt8) (i : Int) (A : Option Addr) (n c : Nat) (w : World) (hno : climbOk n i = false) :
    Calls Tryz.prog 38 #[dgV x, .int .i64 i, .slice A n c] w fun e w' => e = .returned (.tuple #[.agg zb32, .int .i64 1]) ∧ Ext w w' := by
  have E0 : Ext w (w.alloc (.cells (bytesV x).toArray 33)) := (Ext.refl w).alloc _
  by_cases h6 : n ≤ 6
  · by_cases h0 : 0 ≤ i
    · have hi : (2 : Int) ^ n ≤ i := by simpa [climbOk, h6, h0] using hno
      obtain ⟨p, hp⟩ : ∃ p, p = (2 : Int) ^ n := ⟨_, rfl⟩
      have hw : wrap64 ((2 : Int) ^ n) = p := by rw [hp]; exact wrap_pow h6
      rw [← hp] at hi
      clear hno hp
      go_enter Tryz.func38, Tryz.ntmps38
      go_wp2_with (first | (refine wpList_alloc_blk rfl 33 rfl (.agg zb32) zero_a32 ?_; intro w1 hs1 hb1 he1; clear hs1; simp only [World.size_alloc] at hb1) | (refine wpList_build_to rfl 33 _ rfl zb32 (by kernel_rfl) ?_) | (refine wpList_store_blk rfl 33 _ _ rfl (w.heap.size + 1) zb32 rfl rfl 33 zb32 hb1 info_a32 rfl zb32_one ?_; intro w7 hs7 hb7 hg7))
      refine bodyPost_ret (v := .tuple #[.agg zb32, .int .i64 1]) (ret2_blk hb7 rfl rfl Tryz.underlying33 rfl info_a32 rfl) rfl ?_
      exact ⟨rfl, (E0.trans he1).grown hg7 (by simp)⟩
    · have hi : i < 0 := by omega
      clear hno
      go_enter Tryz.func38, Tryz.ntmps38
      go_wp2_with (first | (refine wpList_alloc_blk rfl 33 rfl (.agg zb32) zero_a32 ?_; intro w1 hs1 hb1 he1; clear hs1; simp only [World.size_alloc] at hb1) | (refine wpList_build_to rfl 33 _ rfl zb32 (by kernel_rfl) ?_) | (refine wpList_store_blk rfl 33 _ _ rfl (w.heap.size + 1) zb32 rfl rfl 33 zb32 hb1 info_a32 rfl zb32_one ?_; intro w7 hs7 hb7 hg7))
      refine bodyPost_ret (v := .tuple #[.agg zb32, .int .i64 1]) (ret2_blk hb7 rfl rfl Tryz.underlying33 rfl info_a32 rfl) rfl ?_
      exact ⟨rfl, (E0.trans he1).grown hg7 (by simp)⟩
  · have hi : (6 : Int) < (n : Int) := by omega
    clear hno
    go_enter Tryz.func38, Tryz.ntmps38
    go_wp2_with (first | (refine wpList_alloc_blk rfl 33 rfl (.agg zb32) zero_a32 ?_; intro w1 hs1 hb1 he1; clear hs1; simp only [World.size_alloc] at hb1) | (refine wpList_build_to rfl 33 _ rfl zb32 (by kernel_rfl) ?_) | (refine wpList_store_blk rfl 33 _ _ rfl (w.heap.size + 1) zb32 rfl rfl 33 zb32 hb1 info_a32 rfl zb32_one ?_; intro w7 hs7 hb7 hg7))
    refine bodyPost_ret (v := .tuple #[.agg zb32, .int .i64 1]) (ret2_blk hb7 rfl rfl Tryz.underlying33 rfl info_a32 rfl) rfl ?_
    exact ⟨rfl, (E0.trans he1).grown hg7 (by simp)⟩
end Go.Proofs.YtddbmddblhjkkaaGreatDoor
/- merkle.Climb by a way that may be climbed; the reference's Climb. -/
namespace Go.Proofs.YtddbmddblhjkkaaGreatDoor
open Go.RowKit

theorem climb_take {x : List UInt8} {i : Nat} {ds : List (List UInt8)} {k : Nat} (h : k < ds.length) :
    climbB x i (ds.take (k + 1)) = if (i / 2 ^ k) % 2 = 0 then nodeB (climbB x i (ds.take k)) ds[k] else nodeB ds[k] (climbB x i (ds.take k)) := by
  rw [List.take_succ_eq_append_getElem h, climbB_snoc, List.length_take, Nat.min_eq_left (by omega)]

set_option maxRecDepth 100000 in
set_option maxHeartbeats 1000000 in
theorem mClimb_yes (x : List UInt8) (i : Nat) (v : Value) (ds : List (List UInt8)) (w : World) (hK : Kst w) (hx : x.length = 32) (hv : SlD w v ds) (hn : ds.length ≤ 6) (hi : i < 2 ^ ds.length) :
    Calls Tryz.prog 38 #[dgV x, .int .i64 (i : Int), v] w fun e w' => e = .returned (.tuple #[dgV (climbB x i ds), .int .i64 0]) ∧ Ext w w' := by
  obtain ⟨A, c, rfl, hc⟩ := hv.form
  have hB0 := Blk.new w 33 (bytesV x).toArray
  have E0 : Ext w (w.alloc (.cells (bytesV x).toArray 33)) := (Ext.refl w).alloc _
  have hle := pow_le hn
  obtain ⟨p, hp⟩ : ∃ p, p = (2 : Int) ^ ds.length := ⟨_, rfl⟩
  have hw : wrap64 ((2 : Int) ^ ds.length) = p := by rw [hp]; exact wrap_pow hn
  have hip : (i : Int) < p := by rw [hp]; exact_mod_cast hi
  have Hx := Lib.hid hx
  have HV := Lib.hid hv
  have HB0 := Lib.hid hB0
  have Hi := Lib.hid hi
  have H64 := Lib.hid (Nat.lt_of_lt_of_le hi hle)
  clear hv hx hB0 hp hi hle
  go_enter Tryz.func38, Tryz.ntmps38
  go_wp2_with (first | (refine wpList_alloc_blk rfl 33 rfl (.agg zb32) zero_a32 ?_; intro w1 hs1 hb1 he1; clear hs1; simp only [World.size_alloc] at hb1))
  have HB1 := Lib.hid (HB0.out.ext he1)
  have HZ1 := Lib.hid hb1
  have E1 := E0.trans he1
  clear hb1 HB0 he1 hip hw
  go_loopw [1, 27] (fun j n wr => ∃ k : Nat, k ≤ ds.length ∧ n = .int .i64 (k : Int) ∧ j = .int .i64 ((i / 2 ^ k : Nat) : Int) ∧ Blk wr w.heap.size 33 (bytesV (climbB x i (ds.take k))).toArray ∧ Blk wr (w.heap.size + 1) 33 zb32 ∧ Ext w wr) (fun _ n _ => ds.length - (intOf n).toNat)
  case atStart => exact ⟨0, by omega, rfl, by simp, by simpa [climbB] using HB1.out, HZ1.out, E1⟩
  case round =>
    obtain ⟨k, hk, rfl, rfl, hB, hZ, E⟩ := hrel
    clear HB1 HZ1 E1
    have hcl := climbB_length (ds.take k) x i Hx.out
    by_cases hlt : k < ds.length
    · obtain ⟨b, o, rfl, hcd⟩ := (HV.out.ext E).at_ hlt
      have hld := HV.out.len hlt
      have hstep := climb_take (x := x) (i := i) hlt
      have hp2 : i / 2 ^ (k + 1) = i / 2 ^ k / 2 := by rw [Nat.pow_succ, ← Nat.div_div_eq_div_mul]
      obtain ⟨q, hq⟩ : ∃ q, q = i / 2 ^ k := ⟨_, rfl⟩
      obtain ⟨z, hz⟩ : ∃ z, z = ds[k] := ⟨_, rfl⟩
      obtain ⟨y, hy⟩ : ∃ y, y = climbB x i (ds.take k) := ⟨_, rfl⟩
      have hqb : q ≤ 64 := by have := Nat.div_le_self i (2 ^ k); have := H64.out; omega
      rw [← hq, ← hz, ← hy] at hstep
      rw [← hz] at hcd hld
      rw [← hy] at hB hcl
      rw [← hq] at hp2 ⊢
      have Hcd := Lib.hid hcd
      have Hld := Lib.hid hld
      have Hcl := Lib.hid hcl
      have Hst := Lib.hid hstep
      have Hp2 := Lib.hid hp2
      have iz : Hid ((Tryz.prog.info? 33).map (·.size) = some (bytesV z).toArray.size) := dg_i z Hld.out
      have sz : Hid (zb32.size = (bytesV z).toArray.size) := zb32_size _ Hld.out
      have iy : Hid ((Tryz.prog.info? 33).map (·.size) = some (bytesV y).toArray.size) := dg_i y Hcl.out
      clear hcd hld hcl hstep hq hz hy hp2
      by_cases h2 : q % 2 = 0
      · have hb : (((q : Int) % 2) == 0) = true := by rw [beq_iff_eq]; omega
        have Hnd := Lib.hid (fun w' (E' : Ext w w') => mNode_any y z Hcl.out Hld.out w' (hK.ext E'))
        have hnl := nodeB_length y z
        rw [if_pos h2] at Hst
        obtain ⟨r, hr⟩ : ∃ r, r = nodeB y z := ⟨_, rfl⟩
        rw [← hr] at Hnd hnl Hst
        have ir : Hid ((Tryz.prog.info? 33).map (·.size) = some (bytesV r).toArray.size) := dg_i r hnl
        have sr : Hid ((bytesV y).toArray.size = (bytesV r).toArray.size) := by show _ = _; simp [bytesV_length, Hcl.out, hnl]
        clear hr hnl
        go_wp2_with (first | (refine wpList_load_dg Hcd.out Hld.out rfl _ rfl rfl ?_) | (refine wpList_var rfl rfl 33 rfl _ _ rfl (.agg zb32) zero_a32 (bytesV z).toArray rfl rfl iz.out sz.out (bytes_one _) ?_; intro w4 D4 E4; have HB4 := Lib.hid (hB.ext E4); have HZ4 := Lib.hid (hZ.ext E4); have F4 := E.trans E4) | (refine wpList_load_blk HB4.out rfl 33 _ rfl rfl Tryz.underlying33 rfl iy.out ?_) | (refine wpList_load_blk D4 rfl 33 _ rfl rfl Tryz.underlying33 rfl iz.out ?_))
        with_reducible refine (Hnd.out _ F4).mono ?_
        rintro e w5 ⟨rfl, E5⟩
        have HB5 := Lib.hid (HB4.out.ext E5)
        have HZ5 := Lib.hid (HZ4.out.ext E5)
        have F5 := F4.trans E5
        clear HB4 HZ4 hB hZ E4 E5 D4 F4
        go_wp2_with (first | (refine wpList_store_blk rfl 33 _ _ rfl w.heap.size (bytesV r).toArray rfl rfl 33 _ HB5.out ir.out sr.out (bytes_one _) ?_; intro w7 hs7 hb7 hg7))
        go_roundw
        case rel => exact ⟨k + 1, hlt, by go_num, by rw [Hp2.out]; go_num, by rw [Hst.out]; exact hb7, HZ5.out.grown hg7 (by simp), F5.grown hg7 (by simp)⟩
        case measure => simp [intOf]; omega
      · have hb : (((q : Int) % 2) == 0) = false := by rw [beq_eq_false_iff_ne]; omega
        have Hnd := Lib.hid (fun w' (E' : Ext w w') => mNode_any z y Hld.out Hcl.out w' (hK.ext E'))
        have hnl := nodeB_length z y
        rw [if_neg h2] at Hst
        obtain ⟨r, hr⟩ : ∃ r, r = nodeB z y := ⟨_, rfl⟩
        rw [← hr] at Hnd hnl Hst
        have ir : Hid ((Tryz.prog.info? 33).map (·.size) = some (bytesV r).toArray.size) := dg_i r hnl
        have sr : Hid ((bytesV y).toArray.size = (bytesV r).toArray.size) := by show _ = _; simp [bytesV_length, Hcl.out, hnl]
        clear hr hnl
        go_wp2_with (first | (refine wpList_load_dg Hcd.out Hld.out rfl _ rfl rfl ?_) | (refine wpList_var rfl rfl 33 rfl _ _ rfl (.agg zb32) zero_a32 (bytesV z).toArray rfl rfl iz.out sz.out (bytes_one _) ?_; intro w4 D4 E4; have HB4 := Lib.hid (hB.ext E4); have HZ4 := Lib.hid (hZ.ext E4); have F4 := E.trans E4) | (refine wpList_load_blk HB4.out rfl 33 _ rfl rfl Tryz.underlying33 rfl iy.out ?_) | (refine wpList_load_blk D4 rfl 33 _ rfl rfl Tryz.underlying33 rfl iz.out ?_))
        with_reducible refine (Hnd.out _ F4).mono ?_
        rintro e w5 ⟨rfl, E5⟩
        have HB5 := Lib.hid (HB4.out.ext E5)
        have HZ5 := Lib.hid (HZ4.out.ext E5)
        have F5 := F4.trans E5
        clear HB4 HZ4 hB hZ E4 E5 D4 F4
        go_wp2_with (first | (refine wpList_store_blk rfl 33 _ _ rfl w.heap.size (bytesV r).toArray rfl rfl 33 _ HB5.out ir.out sr.out (bytes_one _) ?_; intro w7 hs7 hb7 hg7))
        go_roundw
        case rel => exact ⟨k + 1, hlt, by go_num, by rw [Hp2.out]; go_num, by rw [Hst.out]; exact hb7, HZ5.out.grown hg7 (by simp), F5.grown hg7 (by simp)⟩
        case measure => simp [intOf]; omega
    · obtain rfl : k = ds.length := by omega
      rw [List.take_length] at hB hcl
      obtain ⟨y, hy⟩ : ∃ y, y = climbB x i ds := ⟨_, rfl⟩
      rw [← hy] at hB hcl
      have Hy := Lib.hid hy
      have iy : Hid ((Tryz.prog.info? 33).map (·.size) = some (bytesV y).toArray.size) := dg_i y hcl
      have sy : Hid (zb32.size = (bytesV y).toArray.size) := zb32_size _ hcl
      clear hy
      go_wp2_with (first | (refine wpList_load_blk hB rfl 33 _ rfl rfl Tryz.underlying33 rfl iy.out ?_) | (refine wpList_store_blk rfl 33 _ _ rfl (w.heap.size + 1) (bytesV y).toArray rfl rfl 33 zb32 hZ iy.out sy.out (bytes_one _) ?_; intro w7 hs7 hb7 hg7))
      refine bodyPost_ret (v := .tuple #[dgV y, .int .i64 0]) (ret2_blk hb7 rfl rfl Tryz.underlying33 rfl iy.out rfl) rfl ?_
      exact ⟨by rw [Hy.out], E.grown hg7 (by simp)⟩
end Go.Proofs.YtddbmddblhjkkaaGreatDoor
/- lamport: what its functions compute, in plain words; contracts of May, key, of, side, secret, Secret, Side of both. -/
namespace Go.Proofs.YtddbmddblhjkkaaGreatDoor
open Go.RowKit

def mayB (b : Int) : Bool := decide (8 ≤ b) && decide (b ≤ 256) && decide (b % 8 = 0)
def keyB (n : Nat) (leaf : Int) : Bool := decide (n ≤ 64) && decide (0 ≤ leaf) && decide (leaf ≤ 1073741824)
theorem mayB_iff (b : Int) : mayB b = true ↔ 8 ≤ b ∧ b ≤ 256 ∧ b % 8 = 0 := by simp [mayB, and_assoc]
theorem keyB_iff (n : Nat) (leaf : Int) : keyB n leaf = true ↔ n ≤ 64 ∧ 0 ≤ leaf ∧ leaf ≤ 1073741824 := by simp [keyB, and_assoc]
abbrev msgA : ByteArray := ⟨#[108, 97, 109, 112, 111, 114, 116, 32, 109, 101, 115, 115, 97, 103, 101]⟩
abbrev secA : ByteArray := ⟨#[108, 97, 109, 112, 111, 114, 116, 32, 115, 101, 99, 114, 101, 116]⟩
abbrev keyA : ByteArray := ⟨#[108, 97, 109, 112, 111, 114, 116, 32, 107, 101, 121]⟩
/-- a message's digest -/
def msgB (m : List UInt8) : List UInt8 := tagB msgA.data.toList [m]
theorem msgB_length (m : List UInt8) : (msgB m).length = 32 := tagB_length _ _
/-- a bit of a digest -/
def sideB (d : List UInt8) (bit : Nat) : Nat := (d[bit / 8]?.getD 0).toNat / 2 ^ (7 - bit % 8) % 2
theorem sideB_lt (d : List UInt8) (bit : Nat) : sideB d bit < 2 := by unfold sideB; omega
/-- a secret -/
def secB (seed : List UInt8) (leaf bit side : Nat) : List UInt8 := tagB secA.data.toList [seed, putB leaf 4, putB bit 2, [UInt8.ofNat side]]
theorem secB_length (seed : List UInt8) (leaf bit side : Nat) : (secB seed leaf bit side).length = 32 := tagB_length _ _
/-- a key's digest -/
def digB (sums : List UInt8) : List UInt8 := tagB keyA.data.toList [sums]
theorem digB_length (s : List UInt8) : (digB s).length = 32 := tagB_length _ _

set_option maxHeartbeats 400000 in
theorem lMay_any (b : Int) (w : World) : Calls Tryz.prog 48 #[.int .i64 b] w fun e w' => e = .returned (.bool (mayB b)) ∧ w = w' := by
  by_cases h1 : 8 ≤ b
  · by_cases h2 : b ≤ 256
    · by_cases h3 : b % 8 = 0
      · have hm : mayB b = true := (mayB_iff b).2 ⟨h1, h2, h3⟩
        have h3' : (b % 8 == 0) = true := by simp [h3]
        rw [hm]
        clear h3 hm
        go_enter Tryz.func48, Tryz.ntmps48
        go_wp2
        go_ret
        exact ⟨rfl, rfl⟩
      · have hm : mayB b = false := by simp [mayB, h3]
        have h3' : (b % 8 == 0) = false := by simp [h3]
        rw [hm]
        clear h3 hm
        go_enter Tryz.func48, Tryz.ntmps48
        go_wp2
        go_ret
        exact ⟨rfl, rfl⟩
    · have hm : mayB b = false := by simp [mayB, h2]
      rw [hm]
      clear hm
      go_enter Tryz.func48, Tryz.ntmps48
      go_wp2
      go_ret
      exact ⟨rfl, rfl⟩
  · have hm : mayB b = false := by simp [mayB, h1]
    rw [hm]
    clear hm
    go_enter Tryz.func48, Tryz.ntmps48
    go_wp2
    go_ret
    exact ⟨rfl, rfl⟩
set_option maxHeartbeats 400000 in
theorem r7May_any (b : Int) (w : World) : Calls Tryz.prog 19 #[.int .i64 b] w fun e w' => e = .returned (.bool (mayB b)) ∧ w = w' := by
  by_cases h1 : 8 ≤ b
  · by_cases h2 : b ≤ 256
    · by_cases h3 : b % 8 = 0
      · have hm : mayB b = true := (mayB_iff b).2 ⟨h1, h2, h3⟩
        have h3' : (b % 8 == 0) = true := by simp [h3]
        rw [hm]
        clear h3 hm
        go_enter Tryz.func19, Tryz.ntmps19
        go_wp2
        go_ret
        exact ⟨rfl, rfl⟩
      · have hm : mayB b = false := by simp [mayB, h3]
        have h3' : (b % 8 == 0) = false := by simp [h3]
        rw [hm]
        clear h3 hm
        go_enter Tryz.func19, Tryz.ntmps19
        go_wp2
        go_ret
        exact ⟨rfl, rfl⟩
    · have hm : mayB b = false := by simp [mayB, h2]
      rw [hm]
      clear hm
      go_enter Tryz.func19, Tryz.ntmps19
      go_wp2
      go_ret
      exact ⟨rfl, rfl⟩
  · have hm : mayB b = false := by simp [mayB, h1]
    rw [hm]
    clear hm
    go_enter Tryz.func19, Tryz.ntmps19
    go_wp2
    go_ret
    exact ⟨rfl, rfl⟩
set_option maxHeartbeats 400000 in
theorem lkey_any (A : Option Addr) (n c : Nat) (leaf : Int) (w : World) : Calls Tryz.prog 49 #[.slice A n c, .int .i64 leaf] w fun e w' => e = .returned (.bool (keyB n leaf)) ∧ w = w' := by
  by_cases h1 : n ≤ 64
  · by_cases h2 : 0 ≤ leaf
    · by_cases h3 : leaf ≤ 1073741824
      · have hm : keyB n leaf = true := (keyB_iff n leaf).2 ⟨h1, h2, h3⟩
        rw [hm]
        clear hm
        go_enter Tryz.func49, Tryz.ntmps49
        go_wp2
        go_ret
        exact ⟨rfl, rfl⟩
      · have hm : keyB n leaf = false := by simp [keyB, h3]
        rw [hm]
        clear hm
        go_enter Tryz.func49, Tryz.ntmps49
        go_wp2
        go_ret
        exact ⟨rfl, rfl⟩
    · have hm : keyB n leaf = false := by simp [keyB, h2]
      rw [hm]
      clear hm
      go_enter Tryz.func49, Tryz.ntmps49
      go_wp2
      go_ret
      exact ⟨rfl, rfl⟩
  · have hm : keyB n leaf = false := by simp [keyB, h1]
    rw [hm]
    clear hm
    go_enter Tryz.func49, Tryz.ntmps49
    go_wp2
    go_ret
    exact ⟨rfl, rfl⟩
set_option maxHeartbeats 400000 in
theorem r7key_any (A : Option Addr) (n c : Nat) (leaf : Int) (w : World) : Calls Tryz.prog 61 #[.slice A n c, .int .i64 leaf] w fun e w' => e = .returned (.bool (keyB n leaf)) ∧ w = w' := by
  by_cases h1 : n ≤ 64
  · by_cases h2 : 0 ≤ leaf
    · by_cases h3 : leaf ≤ 1073741824
      · have hm : keyB n leaf = true := (keyB_iff n leaf).2 ⟨h1, h2, h3⟩
        rw [hm]
        clear hm
        go_enter Tryz.func61, Tryz.ntmps61
        go_wp2
        go_ret
        exact ⟨rfl, rfl⟩
      · have hm : keyB n leaf = false := by simp [keyB, h3]
        rw [hm]
        clear hm
        go_enter Tryz.func61, Tryz.ntmps61
        go_wp2
        go_ret
        exact ⟨rfl, rfl⟩
    · have hm : keyB n leaf = false := by simp [keyB, h2]
      rw [hm]
      clear hm
      go_enter Tryz.func61, Tryz.ntmps61
      go_wp2
      go_ret
      exact ⟨rfl, rfl⟩
  · have hm : keyB n leaf = false := by simp [keyB, h1]
    rw [hm]
    clear hm
    go_enter Tryz.func61, Tryz.ntmps61
    go_wp2
    go_ret
    exact ⟨rfl, rfl⟩

theorem zero_digest (w : World) : (zeroValue 109).run Tryz.prog w = .ok (.agg zb32) w := by kernel_rfl
theorem info_digest : (Tryz.prog.info? 109).map (·.size) = some 32 := by kernel_rfl

set_option maxRecDepth 100000 in
set_option maxHeartbeats 400000 in
theorem lof_any (mv : Value) (m : List UInt8) (w : World) (hK : Kst w) (hv : Sl w mv m) (hm : m.length ≤ 1048576) :
    Calls Tryz.prog 59 #[mv] w fun e w' => e = .returned (dgV (msgB m)) ∧ Ext w w' := by
  obtain ⟨A, c, rfl, hc⟩ := hv.form
  have HV := Lib.hid hv
  clear hv
  have hl := msgB_length m
  obtain ⟨z, hz⟩ : ∃ z, z = msgB m := ⟨_, rfl⟩
  rw [← hz] at hl ⊢
  have Hl := Lib.hid hl
  have Hz := Lib.hid hz
  clear hl hz
  have hz32 : Hid (zb32.size = (bytesV z).toArray.size) := zb32_size _ Hl.out
  have hi32 : Hid ((Tryz.prog.info? 109).map (·.size) = some (bytesV z).toArray.size) := by rw [List.size_toArray, bytesV_length, Hl.out]; exact info_digest
  go_enter Tryz.func59, Tryz.ntmps59
  go_wp2_with (first | (refine wpList_alloc_blk rfl 109 rfl (.agg zb32) zero_digest ?_; intro w1 hs1 hb1 he1))
  have Hc : Hid (Calls Tryz.prog 72 #[.string msgA, .slice (some ⟨w1.heap.size, 0, none⟩) 1 1] (w1.alloc (.cells #[.slice A m.length c] 22)) fun e w' => e = .returned (dgV z) ∧ Ext (w1.alloc (.cells #[.slice A m.length c] 22)) w') := by
    have := tagged_any msgA _ _ _ (hK.ext (he1.alloc _)) (slAll_one 22 _ rfl (HV.out.ext he1)) (by decide) (by simpa using hm) (by simp)
    rw [Hz.out]
    exact this
  rw [hs1] at Hc
  clear hs1
  refine Hc.out.mono ?_
  rintro e w3 ⟨rfl, E3⟩
  have B3 := (hb1.alloc (.cells #[.slice A m.length c] 22)).ext E3
  go_wp2_with (first | (refine wpList_store_blk rfl 109 _ _ rfl w.heap.size (bytesV z).toArray rfl rfl 109 zb32 B3 hi32.out hz32.out (bytes_one _) ?_; intro w7 hs7 hb7 hg7))
  refine bodyPost_ret (v := dgV z) (ret_blk hb7 rfl rfl Tryz.underlying109 rfl hi32.out) rfl ?_
  exact ⟨rfl, ((he1.alloc _).trans E3).grown hg7 (by simp)⟩

theorem and_one (y : Nat) (h : y < 256) : bits .and .i64 (wrap64 (y : Int)) 1 = ((y % 2 : Nat) : Int) := by
  have : ∀ m : Fin 256, bits .and .i64 (wrap64 (m.val : Int)) 1 = ((m.val % 2 : Nat) : Int) := by decide +kernel
  exact this ⟨y, h⟩
set_option maxRecDepth 100000 in
set_option maxHeartbeats 400000 in
theorem lside_any (d : List UInt8) (hd : d.length = 32) (bit : Nat) (hb : bit < 256) (w : World) :
    Calls Tryz.prog 60 #[dgV d, .int .i64 (bit : Int)] w fun e w' => e = .returned (.int .i64 (sideB d bit : Int)) ∧ Ext w w' := by
  have hB := Blk.new w 109 (bytesV d).toArray
  have hc : (w.alloc (.cells (bytesV d).toArray 109)).cell? ⟨w.heap.size, bit / 8, none⟩ = some (.int .u8 ((d[bit / 8]?.getD 0).toNat : Int)) := by
    rw [hB.cell]; have := bytesV_get d (bit / 8) (by omega); simpa using this
  obtain ⟨x, hx⟩ : ∃ x : UInt8, x = d[bit / 8]?.getD 0 := ⟨_, rfl⟩
  rw [← hx] at hc
  have hs : sideB d bit = x.toNat / 2 ^ (7 - bit % 8) % 2 := by rw [hx]; rfl
  rw [hs]
  clear hB hx hs hd
  go_enter Tryz.func60, Tryz.ntmps60
  go_wp2
  go_ret
  refine ⟨?_, (Ext.refl w).alloc _⟩
  have hlt : x.toNat / 2 ^ (7 - bit % 8) < 256 := Nat.lt_of_le_of_lt (Nat.div_le_self _ _) x.toNat_lt
  have e1 : ((x.toNat : Int) / 2 ^ (7 - bit % 8)) = ((x.toNat / 2 ^ (7 - bit % 8) : Nat) : Int) := by simp
  rw [e1, and_one _ hlt]
  rfl

theorem slAll_four {w : World} {v0 v1 v2 v3 : Value} {b0 b1 b2 b3 : List UInt8} (t : TypeId) (H : Nat) (hH : w.heap.size = H) (h0 : Sl w v0 b0) (h1 : Sl w v1 b1) (h2 : Sl w v2 b2) (h3 : Sl w v3 b3) : SlAll (w.alloc (.cells #[v0, v1, v2, v3] t)) (.slice (some ⟨H, 0, none⟩) 4 4) [b0, b1, b2, b3] :=
  slAll_at w t [v0, v1, v2, v3] [b0, b1, b2, b3] H hH rfl (by
    intro i bs hi
    rcases i with _ | _ | _ | _ | i
    · simp at hi; subst hi; exact ⟨_, rfl, h0⟩
    · simp at hi; subst hi; exact ⟨_, rfl, h1⟩
    · simp at hi; subst hi; exact ⟨_, rfl, h2⟩
    · simp at hi; subst hi; exact ⟨_, rfl, h3⟩
    · simp at hi)
theorem sl_put {w : World} {base n size : Nat} {v : Value} (h : w.ownsRow base 5 1 v size (bytesV (putB n size))) : Sl w v (putB n size) := by
  have := SlR.of_own h
  rw [Sl, putB_length]
  exact this
theorem u8_small (side : Nat) (h : side ≤ 1) : ((UInt8.ofNat side).toNat : Int) = (side : Int) := by
  rw [UInt8.toNat_ofNat']; omega

set_option maxRecDepth 100000 in
set_option maxHeartbeats 1000000 in
theorem lsecret_any (sv : Value) (seed : List UInt8) (la ba sa : Int) (leaf bit side : Nat) (hla : la = leaf) (hba : ba = bit) (hsa : sa = side) (w : World) (hK : Kst w) (hv : Sl w sv seed) (hs : seed.length ≤ 1048576) (hl : leaf ≤ 1073741824) (hb : bit ≤ 255) (hsd : side ≤ 1) :
    Calls Tryz.prog 52 #[sv, .int .i64 la, .int .i64 ba, .int .i64 sa] w fun e w' => e = .returned (dgV (secB seed leaf bit side)) ∧ Ext w w' := by
  obtain ⟨A, c, rfl, hc⟩ := hv.form
  have HV := Lib.hid hv
  subst hla hba hsa
  clear hv
  have hl32 := secB_length seed leaf bit side
  obtain ⟨z, hz⟩ : ∃ z, z = secB seed leaf bit side := ⟨_, rfl⟩
  rw [← hz] at hl32 ⊢
  have Hl := Lib.hid hl32
  have Hz := Lib.hid hz
  clear hl32 hz
  have hz32 : Hid (zb32.size = (bytesV z).toArray.size) := zb32_size _ Hl.out
  have hi32 : Hid ((Tryz.prog.info? 33).map (·.size) = some (bytesV z).toArray.size) := by rw [List.size_toArray, bytesV_length, Hl.out]; exact info_a32
  go_enter Tryz.func52, Tryz.ntmps52
  go_wp2_with (first | (refine wpList_alloc_blk rfl 33 rfl (.agg zb32) zero_a32 ?_; intro w1 hs1 hb1 he1; clear hs1))
  refine (oPut_int _ _ leaf 4 rfl rfl (by omega) (by omega) (by omega) (fit4 _ (by omega)) _).mono ?_
  rintro e w2 ⟨v2, rfl, O2, E2⟩
  obtain ⟨A2, c2, rfl, hc2⟩ := own_form O2
  have HO2 := Lib.hid O2
  clear O2
  go_wp2_with fail
  refine (oPut_int _ _ bit 2 rfl rfl (by omega) (by omega) (by omega) (fit2 _ (by omega)) _).mono ?_
  rintro e w3 ⟨v3, rfl, O3, E3⟩
  obtain ⟨A3, c3, rfl, hc3⟩ := own_form O3
  have HO3 := Lib.hid O3
  clear O3
  have E13 := E2.trans E3
  have Ew3 := he1.trans E13
  have Hc : Hid (Calls Tryz.prog 72 #[.string secA, .slice (some ⟨w3.heap.size + 1, 0, none⟩) 4 4] ((w3.alloc (.cells #[.int .u8 (side : Int)] 5)).alloc (.cells #[.slice A seed.length c, .slice A2 4 c2, .slice A3 2 c3, .slice (some ⟨w3.heap.size, 0, none⟩) 1 1] 22)) fun e w' => e = .returned (dgV z) ∧ Ext ((w3.alloc (.cells #[.int .u8 (side : Int)] 5)).alloc (.cells #[.slice A seed.length c, .slice A2 4 c2, .slice A3 2 c3, .slice (some ⟨w3.heap.size, 0, none⟩) 1 1] 22)) w') := by
    have := tagged_any secA _ _ _ (hK.ext ((Ew3.alloc _).alloc _)) (slAll_four (w := w3.alloc (.cells #[.int .u8 (side : Int)] 5)) 22 (w3.heap.size + 1) (by simp) (HV.out.ext (Ew3.alloc _)) ((sl_put HO2.out).ext (E3.alloc _)) ((sl_put HO3.out).ext ((Ext.refl w3).alloc _)) (sl_one (UInt8.ofNat side) (u8_small side hsd).symm)) (by decide) (by simp [putB_length]; omega) (by simp)
    rw [Hz.out]
    exact this
  go_wp2_with fail
  refine Hc.out.mono ?_
  rintro e w5 ⟨rfl, E5⟩
  have E15 : Ext w1 w5 := ((E13.alloc _).alloc _).trans E5
  have B5 := hb1.ext E15
  go_wp2_with (first | (refine wpList_store_blk rfl 33 _ _ rfl w.heap.size (bytesV z).toArray rfl rfl 33 zb32 B5 hi32.out hz32.out (bytes_one _) ?_; intro w7 hs7 hb7 hg7))
  refine bodyPost_ret (v := dgV z) (ret_blk hb7 rfl rfl Tryz.underlying33 rfl hi32.out) rfl ?_
  exact ⟨rfl, (he1.trans E15).grown hg7 (by simp)⟩
end Go.Proofs.YtddbmddblhjkkaaGreatDoor
/- lamport: contracts of Secret, Side, sum, add, digest of both. -/
namespace Go.Proofs.YtddbmddblhjkkaaGreatDoor
open Go.RowKit
attribute [local go_sem] Later.cell?
attribute [local go_sem ↓] Go.wp_at_zero Go.wp_at_succ


/-- may a secret be? -/
def okSec (n : Nat) (la ba sa : Int) : Bool := keyB n la && (decide (0 ≤ ba) && decide (ba ≤ 255) && decide (0 ≤ sa) && decide (sa ≤ 1))
theorem okSec_iff (n : Nat) (la ba sa : Int) : okSec n la ba sa = true ↔ keyB n la = true ∧ 0 ≤ ba ∧ ba ≤ 255 ∧ 0 ≤ sa ∧ sa ≤ 1 := by simp [okSec, and_assoc]
theorem okSec_no {n : Nat} {la ba sa : Int} (h : okSec n la ba sa = false) : keyB n la = false ∨ (keyB n la = true ∧ (ba < 0 ∨ (0 ≤ ba ∧ 255 < ba) ∨ (0 ≤ ba ∧ ba ≤ 255 ∧ sa < 0) ∨ (0 ≤ ba ∧ ba ≤ 255 ∧ 0 ≤ sa ∧ 1 < sa))) := by
  cases hk : keyB n la with
  | false => exact .inl rfl
  | true =>
    refine .inr ⟨rfl, ?_⟩
    have h' : ¬ (0 ≤ ba ∧ ba ≤ 255 ∧ 0 ≤ sa ∧ sa ≤ 1) := fun hh => by rw [(okSec_iff n la ba sa).2 ⟨hk, hh⟩] at h; cases h
    omega

set_option maxRecDepth 100000 in
set_option maxHeartbeats 1000000 in
theorem r7Secret_no (sv : Value) (seed : List UInt8) (la ba sa : Int) (w : World) (hv : Sl w sv seed) (hno : okSec seed.length la ba sa = false) :
    Calls Tryz.prog 63 #[sv, .int .i64 la, .int .i64 ba, .int .i64 sa] w fun e w' => e = .returned (.tuple #[.agg zb32, .int .i64 1]) ∧ Ext w w' := by
  obtain ⟨A, c, rfl, hc⟩ := hv.form
  clear hv
  have Hk := fun w => Lib.hid (r7key_any A seed.length c la w)
  rcases okSec_no hno with hk | ⟨hk, h | ⟨h1, h⟩ | ⟨h1, h2, h⟩ | ⟨h1, h2, h3, h⟩⟩
  all_goals
    rw [hk] at Hk
    clear hno hk
    go_enter Tryz.func63, Tryz.ntmps63
    go_wp2_with (first | (refine wpList_alloc_blk rfl 33 rfl (.agg zb32) zero_a32 ?_; intro w1 hs1 hb1 he1; clear hs1))
    refine ((Hk _).out).mono ?_
    rintro e w1' ⟨rfl, rfl⟩
    go_wp2_with (first | (refine wpList_build_to rfl 33 _ rfl zb32 (by kernel_rfl) ?_) | (refine wpList_store_blk rfl 33 _ _ rfl w.heap.size zb32 rfl rfl 33 zb32 hb1 info_a32 rfl zb32_one ?_; intro w7 hs7 hb7 hg7))
    refine bodyPost_ret (v := .tuple #[.agg zb32, .int .i64 1]) (ret2_blk hb7 rfl rfl Tryz.underlying33 rfl info_a32 rfl) rfl ?_
    exact ⟨rfl, he1.grown hg7 (by simp)⟩

set_option maxRecDepth 100000 in
set_option maxHeartbeats 1000000 in
theorem r7Secret_yes (sv : Value) (seed : List UInt8) (la ba sa : Int) (w : World) (hv : Sl w sv seed) (hyes : okSec seed.length la ba sa = true) :
    Calls Tryz.prog 63 #[sv, .int .i64 la, .int .i64 ba, .int .i64 sa] w fun e w' => e = .returned (.tuple #[dgV (secB seed la.toNat ba.toNat sa.toNat), .int .i64 0]) ∧ Ext w w' := by
  obtain ⟨A, c, rfl, hc⟩ := hv.form
  have HV := Lib.hid hv
  clear hv
  obtain ⟨hk, h1, h2, h3, h4⟩ := (okSec_iff _ _ _ _).1 hyes
  have hkk := (keyB_iff _ _).1 hk
  obtain ⟨hk1, hk2, hk3⟩ := hkk
  have Hk := fun w => Lib.hid (r7key_any A seed.length c la w)
  rw [hk] at Hk
  clear hyes hk
  obtain ⟨leaf, rfl⟩ := Int.eq_ofNat_of_zero_le hk2
  obtain ⟨bit, rfl⟩ := Int.eq_ofNat_of_zero_le h1
  obtain ⟨side, rfl⟩ := Int.eq_ofNat_of_zero_le h3
  simp only [Int.toNat_natCast]
  have hl32 := secB_length seed leaf bit side
  obtain ⟨z, hz⟩ : ∃ z, z = secB seed leaf bit side := ⟨_, rfl⟩
  rw [← hz] at hl32 ⊢
  have Hl := Lib.hid hl32
  have Hz := Lib.hid hz
  clear hl32 hz
  have hz32 : Hid (zb32.size = (bytesV z).toArray.size) := zb32_size _ Hl.out
  have hi32 : Hid ((Tryz.prog.info? 33).map (·.size) = some (bytesV z).toArray.size) := by rw [List.size_toArray, bytesV_length, Hl.out]; exact info_a32
  go_enter Tryz.func63, Tryz.ntmps63
  go_wp2_with (first | (refine wpList_alloc_blk rfl 33 rfl (.agg zb32) zero_a32 ?_; intro w1 hs1 hb1 he1; clear hs1))
  refine ((Hk _).out).mono ?_
  rintro e w1' ⟨rfl, rfl⟩
  go_wp2_with fail
  refine (rPut_int _ _ leaf 4 rfl rfl (by omega) (by omega) (by omega) (fit4 _ (by omega)) _).mono ?_
  rintro e w2 ⟨v2, rfl, O2, E2⟩
  obtain ⟨A2, c2, rfl, hc2⟩ := own_form O2
  have HO2 := Lib.hid O2
  clear O2
  go_wp2_with fail
  refine (rPut_int _ _ bit 2 rfl rfl (by omega) (by omega) (by omega) (fit2 _ (by omega)) _).mono ?_
  rintro e w3 ⟨v3, rfl, O3, E3⟩
  obtain ⟨A3, c3, rfl, hc3⟩ := own_form O3
  have HO3 := Lib.hid O3
  clear O3
  have E13 := E2.trans E3
  have Ew3 := he1.trans E13
  have Hc : Hid (Calls Tryz.prog 76 #[.string secA, .slice (some ⟨w3.heap.size + 1, 0, none⟩) 4 4] ((w3.alloc (.cells #[.int .u8 (side : Int)] 5)).alloc (.cells #[.slice A seed.length c, .slice A2 4 c2, .slice A3 2 c3, .slice (some ⟨w3.heap.size, 0, none⟩) 1 1] 22)) fun e w' => e = .returned (dgV z) ∧ Ext ((w3.alloc (.cells #[.int .u8 (side : Int)] 5)).alloc (.cells #[.slice A seed.length c, .slice A2 4 c2, .slice A3 2 c3, .slice (some ⟨w3.heap.size, 0, none⟩) 1 1] 22)) w') := by
    have := rTagged_any secA _ _ _ (slAll_four (w := w3.alloc (.cells #[.int .u8 (side : Int)] 5)) 22 (w3.heap.size + 1) (by simp) (HV.out.ext (Ew3.alloc _)) ((sl_put HO2.out).ext (E3.alloc _)) ((sl_put HO3.out).ext ((Ext.refl w3).alloc _)) (sl_one (UInt8.ofNat side) (u8_small side (by omega)).symm)) (by decide) (by simp [putB_length]; omega) (by simp)
    rw [Hz.out]
    exact this
  go_wp2_with fail
  refine Hc.out.mono ?_
  rintro e w5 ⟨rfl, E5⟩
  have E15 : Ext w1 w5 := ((E13.alloc _).alloc _).trans E5
  have B5 := hb1.ext E15
  go_wp2_with (first | (refine wpList_store_blk rfl 33 _ _ rfl w.heap.size (bytesV z).toArray rfl rfl 33 zb32 B5 hi32.out hz32.out (bytes_one _) ?_; intro w7 hs7 hb7 hg7))
  refine bodyPost_ret (v := .tuple #[dgV z, .int .i64 0]) (ret2_blk hb7 rfl rfl Tryz.underlying33 rfl hi32.out rfl) rfl ?_
  exact ⟨rfl, (he1.trans E15).grown hg7 (by simp)⟩

/-- a bit of a message, 0 where there is none -/
def sideOf (m : List UInt8) (bit : Int) : Nat := if 0 ≤ bit ∧ bit ≤ 255 ∧ m.length ≤ 1048576 then sideB (msgB m) bit.toNat else 0

theorem side_val (x : UInt8) (k : Nat) : (wrap64 (x.toNat : Int) / 2 ^ k).tmod 2 = ((x.toNat / 2 ^ k % 2 : Nat) : Int) := by
  have hx := x.toNat_lt
  rw [IntWalk.wrap64_in _ ⟨by omega, by omega⟩]
  have e1 : ((x.toNat : Int) / 2 ^ k) = ((x.toNat / 2 ^ k : Nat) : Int) := by simp
  rw [e1, Int.tmod_eq_emod_of_nonneg (Int.natCast_nonneg _)]
  generalize x.toNat / 2 ^ k = y
  omega

set_option maxRecDepth 100000 in
set_option maxHeartbeats 400000 in
theorem lsum_any (d : List UInt8) (hd : d.length = 32) (w : World) (hK : Kst w) :
    Calls Tryz.prog 51 #[dgV d] w fun e w' => e = .returned (dgV (sumB d)) ∧ Ext w w' := by
  have hl := sumB_length d
  obtain ⟨z, hz⟩ : ∃ z, z = sumB d := ⟨_, rfl⟩
  rw [← hz] at hl ⊢
  have Hl := Lib.hid hl
  have Hz := Lib.hid hz
  have Hd := Lib.hid hd
  clear hz hl hd
  have hz32 : Hid (zb32.size = (bytesV z).toArray.size) := zb32_size _ Hl.out
  have hi32 : Hid ((Tryz.prog.info? 33).map (·.size) = some (bytesV z).toArray.size) := by rw [List.size_toArray, bytesV_length, Hl.out]; exact info_a32
  have B0 := Blk.new w 33 (bytesV d).toArray
  go_enter Tryz.func51, Tryz.ntmps51
  go_wp2_with (first | (refine wpList_alloc_blk rfl 33 rfl (.agg zb32) zero_a32 ?_; intro w1 hs1 hb1 he1; clear hs1))
  have E1 : Ext w w1 := ((Ext.refl w).alloc _).trans he1
  have S1 : Sl w1 (.slice (some ⟨w.heap.size, 0, none⟩) 32 32) d := by have := sl_of_blk (B0.ext he1); rw [Hd.out] at this; exact this
  have Hc : Hid (Calls Tryz.prog 71 #[.slice (some ⟨w1.heap.size, 0, none⟩) 1 1] (w1.alloc (.cells #[.slice (some ⟨w.heap.size, 0, none⟩) 32 32] 22)) fun e w' => e = .returned (dgV z) ∧ Ext (w1.alloc (.cells #[.slice (some ⟨w.heap.size, 0, none⟩) 32 32] 22)) w') := by
    have := of_any _ _ _ (hK.ext (E1.alloc _)) (slAll_one 22 _ rfl S1) (by simp) (by simp [total, Hd.out])
    rw [Hz.out]
    rw [show ([d] : List (List UInt8)).flatten = d from by simp] at this
    exact this
  go_wp2_with fail
  refine Hc.out.mono ?_
  rintro e w3 ⟨rfl, E3⟩
  have E13 : Ext w1 w3 := ((Ext.refl w1).alloc _).trans E3
  have B3 := hb1.ext E13
  simp only [World.size_alloc] at B3
  go_wp2_with (first | (refine wpList_store_blk rfl 33 _ _ rfl (w.heap.size + 1) (bytesV z).toArray rfl rfl 33 zb32 B3 hi32.out hz32.out (bytes_one _) ?_; intro w7 hs7 hb7 hg7))
  refine bodyPost_ret (v := dgV z) (ret_blk hb7 rfl rfl Tryz.underlying33 rfl hi32.out) rfl ?_
  exact ⟨rfl, (E1.trans E13).grown hg7 (by simp)⟩
end Go.Proofs.YtddbmddblhjkkaaGreatDoor
/- lamport: the sums that are gathered: contracts of add, digest; pursuivantref07.digest. -/
namespace Go.Proofs.YtddbmddblhjkkaaGreatDoor
open Go.RowKit


set_option maxRecDepth 100000 in
set_option maxHeartbeats 1000000 in
theorem ladd_any (g base : Nat) (v : Value) (bs d1 d2 : List UInt8) (w : World) (hB : Blk w g 100 #[v]) (hO : Own w base v bs) (hb : base ≤ g) (h1 : d1.length = 32) (h2 : d2.length = 32) (hlen : bs.length ≤ 1073741824) :
    Calls Tryz.prog 50 #[.pointer (some ⟨g, 0, none⟩), dgV d1, dgV d2] w fun e w' => e = .returned (.tuple #[]) ∧ ∃ v', Blk w' g 100 #[v'] ∧ Own w' base v' (bs ++ (d1 ++ d2)) ∧ Below base w w' := by
  obtain ⟨A, c, rfl, hc⟩ := hO.form
  have HO := Lib.hid hO
  have hgl : g < w.heap.size := hB.lt
  have H1 := Lib.hid h1
  have H2 := Lib.hid h2
  have HB := Lib.hid hB
  clear hO h1 h2 hB
  go_enter Tryz.func50, Tryz.ntmps50
  go_wp2
  have D1 := Blk.new w 33 (bytesV d1).toArray
  have D2 := Blk.new (w.alloc (.cells (bytesV d1).toArray 33)) 33 (bytesV d2).toArray
  rw [World.size_alloc] at D2
  have E1 : Ext w ((w.alloc (.cells (bytesV d1).toArray 33)).alloc (.cells (bytesV d2).toArray 33)) := ((Ext.refl w).alloc _).alloc _
  have D1' := D1.alloc (.cells (bytesV d2).toArray 33)
  revert D1' D2 E1
  generalize (w.alloc (.cells (bytesV d1).toArray 33)).alloc (.cells (bytesV d2).toArray 33) = w1
  intro D2 E1 D1'
  clear D1
  have hc0 : w1.drew.cell? ⟨g, 0, none⟩ = some (.slice A bs.length c) := (HB.out.ext E1).cell 0
  have S1 : Sl w1.drew (.slice (some ⟨w.heap.size, 0, none⟩) 32 32) d1 := by have := sl_of_blk D1'; rw [H1.out] at this; exact this.ext (Ext.refl w1).drew
  have S2 : Sl w1.drew (.slice (some ⟨w.heap.size + 1, 0, none⟩) 32 32) d2 := by have := sl_of_blk D2; rw [H2.out] at this; exact this.ext (Ext.refl w1).drew
  have HO1 := Lib.hid ((HO.out.ext E1).ext (Ext.refl w1).drew)
  refine wp_region_chain 9 [(true, 0), (true, 1), (true, 2), (true, 3), (true, 4), (true, 5), (true, 7), (false, 6), (false, 8)] (fun w' => w'.cell? ⟨g, 0, none⟩ = some (.slice A bs.length c)) (by kernel_rfl) (by kernel_rfl) hc0 ?_
  iterate 7
    refine wpTake_read _ _ ?_ rfl rfl ?_ ?_
    rotate_left 1
    focus
      intro wS hS
      try dsimp only at hS
      go_simp
      first | done | with_reducible rfl
    simp only [Act.put, List.setIfInBounds_toArray, List.set_cons_zero, List.set_cons_succ]
  have hB0 : Blk w1.drew g 100 #[.slice A bs.length c] := (HB.out.ext E1).drew
  have hne0 := HO1.out.ne hB0 (by decide)
  have hw1 : w.heap.size < w1.heap.size := D1'.lt
  have Hv1 := Lib.hid D1'
  have Hv2 := Lib.hid D2
  clear D1' D2
  have Hne0 := Lib.hid hne0
  have HS1 := Lib.hid S1
  have HS2 := Lib.hid S2
  have HB0 := Lib.hid hB0
  clear hne0 S1 S2 hB0
  refine wpTake_do _ _ rfl rfl (fun K hK => ?_)
  refine wp_appB HO1.out HS1.out _ _ rfl rfl rfl (by rw [H1.out]; omega) (by show base ≤ w1.heap.size; omega) ?_
  intro v2 w2 ho2 hg2 hq2
  refine hK _ _ (hg2.cell hc0 (Ne.symm Hne0.out)) ?_
  clear hK K
  simp only [Act.put, List.setIfInBounds_toArray, List.set_cons_zero, List.set_cons_succ]
  have hB2 := HB0.out.grown hg2 (Ne.symm Hne0.out)
  have S2' : Sl w2 (.slice (some ⟨w.heap.size + 1, 0, none⟩) 32 32) d2 := by
    have h5 := Hv2.out.grown (w := w1.drew) hg2 (fun e => HO1.out.ne (Hv2.out.drew) (by decide) e.symm)
    have := sl_of_blk h5
    rw [H2.out] at this
    exact this
  have hz2 : w1.heap.size ≤ w2.heap.size := hg2.size
  have hc2 : w2.cell? ⟨g, 0, none⟩ = some (.slice A bs.length c) := hg2.cell hc0 (Ne.symm Hne0.out)
  have hne2 := ho2.ne hB2 (by decide)
  refine wpTake_do _ _ rfl rfl (fun K hK => ?_)
  refine wp_appB ho2 S2' _ _ rfl rfl rfl (by rw [List.length_append, H1.out, H2.out]; omega) (by omega) ?_
  intro v3 w3 ho3 hg3 hq3
  refine hK _ _ (hg3.cell hc2 (Ne.symm hne2)) ?_
  clear hK K
  simp only [Act.put, List.setIfInBounds_toArray, List.set_cons_zero, List.set_cons_succ]
  refine wpTake_nil ?_
  simp only [List.drop_succ_cons, List.drop_zero]
  have hB3 := hB2.grown hg3 (Ne.symm hne2)
  have hc3 : w3.cell? ⟨g, 0, none⟩ = some (.slice A bs.length c) := hg3.cell hc2 (Ne.symm hne2)
  have hf3 := hB3.frozen 0
  have b01 : Below base w w1 := Below.mono E1 (by omega)
  have b12 : Below base w w2 := Below.grown (Below.drew b01) hg2 (by show base ≤ w1.heap.size; omega) HO1.out.from
  have b3 : Below base w w3 := Below.grown b12 hg3 (by omega) ho2.from
  have hne3 := ho3.ne hB3 (by decide)
  obtain ⟨A3, c3, rfl, hc3'⟩ := ho3.form
  have HO3 := Lib.hid ho3
  have HB3 := Lib.hid hB3
  have Hne3 := Lib.hid hne3
  clear hg3 hq3 ho3 hB3 hne3 hc2 S2' hB2 hg2 hq2 ho2 hne2 hc0
  go_wp2
  refine NoPanic.normal ?_
  go_wp2
  go_end0
  refine ⟨rfl, .slice A3 (bs.length + (d1.length + d2.length)) c3, HB3.out.set 0 _, ?_, Below.setCell b3 hb _⟩
  have hN : (bs ++ d1 ++ d2).length = bs.length + (d1.length + d2.length) := by simp
  have hg4 : w3.grownBy (w3.setCell ⟨g, 0, none⟩ (.slice A3 (bs.length + (d1.length + d2.length)) c3)) (some g) := ⟨rfl, rfl, rfl, by simp [World.setCell], fun k _ hk => heap_setCell_other w3 _ k _ (fun e => hk (by rw [e]))⟩
  have h9 := World.ownsRow.kept HO3.out hg4 (Or.inr Hne3.out)
  rw [hN, List.append_assoc] at h9
  exact own_mk h9 (by simp) rfl


set_option maxRecDepth 100000 in
set_option maxHeartbeats 400000 in
theorem ldigest_any (g : Nat) (v : Value) (bs : List UInt8) (w : World) (hK : Kst w) (hB : Blk w g 100 #[v]) (hS : Sl w v bs) (hlen : bs.length ≤ 1048576) :
    Calls Tryz.prog 53 #[.pointer (some ⟨g, 0, none⟩)] w fun e w' => e = .returned (dgV (digB bs)) ∧ Ext w w' := by
  obtain ⟨A, c, rfl, hc⟩ := hS.form
  have HV := Lib.hid hS
  have HB := Lib.hid hB
  clear hS hB
  have hl := digB_length bs
  obtain ⟨z, hz⟩ : ∃ z, z = digB bs := ⟨_, rfl⟩
  rw [← hz] at hl ⊢
  have Hl := Lib.hid hl
  have Hz := Lib.hid hz
  clear hl hz
  have hz32 : Hid (zb32.size = (bytesV z).toArray.size) := zb32_size _ Hl.out
  have hi32 : Hid ((Tryz.prog.info? 33).map (·.size) = some (bytesV z).toArray.size) := by rw [List.size_toArray, bytesV_length, Hl.out]; exact info_a32
  go_enter Tryz.func53, Tryz.ntmps53
  go_wp2_with (first | (refine wpList_alloc_blk rfl 33 rfl (.agg zb32) zero_a32 ?_; intro w1 hs1 hb1 he1; clear hs1; have hc0 : w1.cell? ⟨g, 0, none⟩ = some (.slice A bs.length c) := (HB.out.ext he1).cell 0))
  have Hc : Hid (Calls Tryz.prog 72 #[.string keyA, .slice (some ⟨w1.heap.size, 0, none⟩) 1 1] (w1.alloc (.cells #[.slice A bs.length c] 22)) fun e w' => e = .returned (dgV z) ∧ Ext (w1.alloc (.cells #[.slice A bs.length c] 22)) w') := by
    have := tagged_any keyA _ _ _ (hK.ext (he1.alloc _)) (slAll_own 22 (HV.out.ext he1)) (by decide) (by simpa using hlen) (by simp)
    rw [Hz.out]
    exact this
  refine Hc.out.mono ?_
  rintro e w3 ⟨rfl, E3⟩
  have B3 := (hb1.alloc (.cells #[.slice A bs.length c] 22)).ext E3
  go_wp2_with (first | (refine wpList_store_blk rfl 33 _ _ rfl w.heap.size (bytesV z).toArray rfl rfl 33 zb32 B3 hi32.out hz32.out (bytes_one _) ?_; intro w7 hs7 hb7 hg7))
  refine bodyPost_ret (v := dgV z) (ret_blk hb7 rfl rfl Tryz.underlying33 rfl hi32.out) rfl ?_
  exact ⟨rfl, ((he1.alloc _).trans E3).grown hg7 (by simp)⟩

set_option maxRecDepth 100000 in
set_option maxHeartbeats 400000 in
theorem r7digest_any (v : Value) (bs : List UInt8) (w : World) (hS : Sl w v bs) (hlen : bs.length ≤ 1048576) :
    Calls Tryz.prog 77 #[v] w fun e w' => e = .returned (dgV (digB bs)) ∧ Ext w w' := by
  obtain ⟨A, c, rfl, hc⟩ := hS.form
  have HV := Lib.hid hS
  clear hS
  have hl := digB_length bs
  obtain ⟨z, hz⟩ : ∃ z, z = digB bs := ⟨_, rfl⟩
  rw [← hz] at hl ⊢
  have Hl := Lib.hid hl
  have Hz := Lib.hid hz
  clear hl hz
  have hz32 : Hid (zb32.size = (bytesV z).toArray.size) := zb32_size _ Hl.out
  have hi32 : Hid ((Tryz.prog.info? 33).map (·.size) = some (bytesV z).toArray.size) := by rw [List.size_toArray, bytesV_length, Hl.out]; exact info_a32
  go_enter Tryz.func77, Tryz.ntmps77
  go_wp2_with (first | (refine wpList_alloc_blk rfl 33 rfl (.agg zb32) zero_a32 ?_; intro w1 hs1 hb1 he1; clear hs1))
  have Hc : Hid (Calls Tryz.prog 76 #[.string keyA, .slice (some ⟨w1.heap.size, 0, none⟩) 1 1] (w1.alloc (.cells #[.slice A bs.length c] 22)) fun e w' => e = .returned (dgV z) ∧ Ext (w1.alloc (.cells #[.slice A bs.length c] 22)) w') := by
    have := rTagged_any keyA _ _ _ (slAll_own 22 (HV.out.ext he1)) (by decide) (by simpa using hlen) (by simp)
    rw [Hz.out]
    exact this
  refine Hc.out.mono ?_
  rintro e w3 ⟨rfl, E3⟩
  have B3 := (hb1.alloc (.cells #[.slice A bs.length c] 22)).ext E3
  go_wp2_with (first | (refine wpList_store_blk rfl 33 _ _ rfl w.heap.size (bytesV z).toArray rfl rfl 33 zb32 B3 hi32.out hz32.out (bytes_one _) ?_; intro w7 hs7 hb7 hg7))
  refine bodyPost_ret (v := dgV z) (ret_blk hb7 rfl rfl Tryz.underlying33 rfl hi32.out) rfl ?_
  exact ⟨rfl, ((he1.alloc _).trans E3).grown hg7 (by simp)⟩
end Go.Proofs.YtddbmddblhjkkaaGreatDoor
/- lamport: a leaf's key's digest: contracts of Leaf of both. -/
namespace Go.Proofs.YtddbmddblhjkkaaGreatDoor
open Go.RowKit

/-- the sums of both sides of the first k bits -/
def leafS (seed : List UInt8) (leaf k : Nat) : List UInt8 := ((List.range k).map fun b => sumB (secB seed leaf b 0) ++ sumB (secB seed leaf b 1)).flatten
def leafB (seed : List UInt8) (leaf bits : Nat) : List UInt8 := digB (leafS seed leaf bits)
theorem leafB_length (seed : List UInt8) (leaf bits : Nat) : (leafB seed leaf bits).length = 32 := digB_length _
theorem leafS_succ (seed : List UInt8) (leaf k : Nat) : leafS seed leaf (k + 1) = leafS seed leaf k ++ (sumB (secB seed leaf k 0) ++ sumB (secB seed leaf k 1)) := by
  simp [leafS, List.range_succ]
theorem leafS_length (seed : List UInt8) (leaf k : Nat) : (leafS seed leaf k).length = 64 * k := by
  induction k with
  | zero => rfl
  | succ k ih => rw [leafS_succ]; simp [ih, sumB_length]; omega
/-- as the reference goes -/
def leafR (seed : List UInt8) (leaf k : Nat) : List UInt8 := ((List.range k).map fun j => sumB (secB seed leaf (j / 2) (j % 2))).flatten
theorem leafR_succ (seed : List UInt8) (leaf k : Nat) : leafR seed leaf (k + 1) = leafR seed leaf k ++ sumB (secB seed leaf (k / 2) (k % 2)) := by
  simp [leafR, List.range_succ]
theorem leafR_length (seed : List UInt8) (leaf k : Nat) : (leafR seed leaf k).length = 32 * k := by
  induction k with
  | zero => rfl
  | succ k ih => rw [leafR_succ]; simp [ih, sumB_length]; omega
theorem leafR_all (seed : List UInt8) (leaf k : Nat) : leafR seed leaf (2 * k) = leafS seed leaf k := by
  induction k with
  | zero => simp [leafR, leafS]
  | succ k ih =>
    rw [show 2 * (k + 1) = 2 * k + 1 + 1 by omega, leafR_succ, leafR_succ, leafS_succ, ih]
    rw [show (2 * k) / 2 = k by omega, show (2 * k) % 2 = 0 by omega, show (2 * k + 1) / 2 = k by omega, show (2 * k + 1) % 2 = 1 by omega, List.append_assoc]


set_option maxRecDepth 100000 in
set_option maxHeartbeats 1000000 in
theorem lLeaf_no (sv : Value) (seed : List UInt8) (la ba : Int) (w : World) (hv : Sl w sv seed) (hno : mayB ba = false ∨ (mayB ba = true ∧ keyB seed.length la = false)) :
    Calls Tryz.prog 25 #[sv, .int .i64 la, .int .i64 ba] w fun e w' => e = .returned (.tuple #[.agg zb32, .int .i64 1]) ∧ Ext w w' := by
  obtain ⟨A, c, rfl, hc⟩ := hv.form
  clear hv
  have Hm := fun w => Lib.hid (lMay_any ba w)
  have Hk := fun w => Lib.hid (lkey_any A seed.length c la w)
  rcases hno with hm | ⟨hm, hk⟩
  · rw [hm] at Hm
    clear hm
    go_enter Tryz.func25, Tryz.ntmps25
    go_wp2_with (first | (refine wpList_alloc_blk rfl 33 rfl (.agg zb32) zero_a32 ?_; intro w1 hs1 hb1 he1; clear hs1))
    refine ((Hm _).out).mono ?_
    rintro e w1' ⟨rfl, rfl⟩
    go_wp2_with (first | (refine wpList_build_to rfl 33 _ rfl zb32 (by kernel_rfl) ?_) | (refine wpList_store_blk rfl 33 _ _ rfl w.heap.size zb32 rfl rfl 33 zb32 hb1 info_a32 rfl zb32_one ?_; intro w7 hs7 hb7 hg7))
    refine bodyPost_ret (v := .tuple #[.agg zb32, .int .i64 1]) (ret2_blk hb7 rfl rfl Tryz.underlying33 rfl info_a32 rfl) rfl ?_
    exact ⟨rfl, he1.grown hg7 (by simp)⟩
  · rw [hm] at Hm
    rw [hk] at Hk
    clear hm hk
    go_enter Tryz.func25, Tryz.ntmps25
    go_wp2_with (first | (refine wpList_alloc_blk rfl 33 rfl (.agg zb32) zero_a32 ?_; intro w1 hs1 hb1 he1; clear hs1))
    refine ((Hm _).out).mono ?_
    rintro e w1' ⟨rfl, rfl⟩
    go_wp2_with fail
    refine ((Hk _).out).mono ?_
    rintro e w1' ⟨rfl, rfl⟩
    go_wp2_with (first | (refine wpList_build_to rfl 33 _ rfl zb32 (by kernel_rfl) ?_) | (refine wpList_store_blk rfl 33 _ _ rfl w.heap.size zb32 rfl rfl 33 zb32 hb1 info_a32 rfl zb32_one ?_; intro w7 hs7 hb7 hg7))
    refine bodyPost_ret (v := .tuple #[.agg zb32, .int .i64 1]) (ret2_blk hb7 rfl rfl Tryz.underlying33 rfl info_a32 rfl) rfl ?_
    exact ⟨rfl, he1.grown hg7 (by simp)⟩

set_option maxRecDepth 100000 in
set_option maxHeartbeats 2000000 in
theorem lLeaf_yes (sv : Value) (seed : List UInt8) (la ba : Int) (w : World) (hK : Kst w) (hv : Sl w sv seed) (hm : mayB ba = true) (hk : keyB seed.length la = true) :
    Calls Tryz.prog 25 #[sv, .int .i64 la, .int .i64 ba] w fun e w' => e = .returned (.tuple #[dgV (leafB seed la.toNat ba.toNat), .int .i64 0]) ∧ Ext w w' := by
  obtain ⟨A, c, rfl, hc⟩ := hv.form
  have HV := Lib.hid hv
  clear hv
  obtain ⟨hm1, hm2, hm3⟩ := (mayB_iff _).1 hm
  obtain ⟨hk1, hk2, hk3⟩ := (keyB_iff _ _).1 hk
  have Hm := fun w => Lib.hid (lMay_any ba w)
  have Hk := fun w => Lib.hid (lkey_any A seed.length c la w)
  rw [hm] at Hm
  rw [hk] at Hk
  clear hm hk hm3
  obtain ⟨leaf, rfl⟩ := Int.eq_ofNat_of_zero_le hk2
  obtain ⟨bits, rfl⟩ := Int.eq_ofNat_of_zero_le (show 0 ≤ ba by omega)
  simp only [Int.toNat_natCast]
  have hl := leafB_length seed leaf bits
  obtain ⟨z, hz⟩ : ∃ z, z = leafB seed leaf bits := ⟨_, rfl⟩
  rw [← hz] at hl ⊢
  have Hl := Lib.hid hl
  have Hz := Lib.hid hz
  clear hz hl
  have hz32 : Hid (zb32.size = (bytesV z).toArray.size) := zb32_size _ Hl.out
  have hi32 : Hid ((Tryz.prog.info? 33).map (·.size) = some (bytesV z).toArray.size) := by rw [List.size_toArray, bytesV_length, Hl.out]; exact info_a32
  go_enter Tryz.func25, Tryz.ntmps25
  go_wp2_with (first | (refine wpList_alloc_blk rfl 33 rfl (.agg zb32) zero_a32 ?_; intro w1 hs1 hb1 he1; clear hs1))
  refine ((Hm _).out).mono ?_
  rintro e w1' ⟨rfl, rfl⟩
  go_wp2_with fail
  refine ((Hk _).out).mono ?_
  rintro e w1' ⟨rfl, rfl⟩
  clear Hm Hk
  go_wp2
  have hg0 : Blk (w1.alloc (.cells #[.slice none 0 0] 100)) w1.heap.size 100 #[.slice none 0 0] := Blk.new w1 _ _
  have E0 : Ext w1 (w1.alloc (.cells #[.slice none 0 0] 100)) := (Ext.refl w1).alloc _
  have hlw : w.heap.size < w1.heap.size := hb1.lt
  go_loopw [23] (fun i wr => ∃ k : Nat, k ≤ bits ∧ i = .int .i64 k ∧ (∃ v, Blk wr w1.heap.size 100 #[v] ∧ Own wr w1.heap.size v (leafS seed leaf k)) ∧ Ext w1 wr) (fun i _ => bits - (intOf i).toNat)
  case atStart => exact ⟨0, by omega, rfl, ⟨_, hg0, Own.none_ _ _⟩, E0⟩
  case round =>
    clear hg0 E0
    obtain ⟨k, hkb, rfl, ⟨v, hB, hO⟩, E⟩ := hrel
    have HB := Lib.hid hB
    have HO := Lib.hid hO
    have hlen := leafS_length seed leaf k
    have Hlen := Lib.hid hlen
    clear hB hO hlen
    have Ew := he1.trans E
    by_cases hlt : k < bits
    · have s0 := secB_length seed leaf k 0
      have s1 := secB_length seed leaf k 1
      have Hc0 := Lib.hid (fun w' (E' : Ext w w') => lsecret_any (.slice A seed.length c) seed (leaf : Int) (k : Int) 0 leaf k 0 rfl rfl rfl w' (hK.ext E') (HV.out.ext E') (by omega) (by omega) (by omega) (by omega))
      have Hc1 := Lib.hid (fun w' (E' : Ext w w') => lsecret_any (.slice A seed.length c) seed (leaf : Int) (k : Int) 1 leaf k 1 rfl rfl rfl w' (hK.ext E') (HV.out.ext E') (by omega) (by omega) (by omega) (by omega))
      obtain ⟨z0, hz0⟩ : ∃ z, z = secB seed leaf k 0 := ⟨_, rfl⟩
      obtain ⟨z1, hz1⟩ : ∃ z, z = secB seed leaf k 1 := ⟨_, rfl⟩
      rw [← hz0] at Hc0 s0
      rw [← hz1] at Hc1 s1
      have Hz0 := Lib.hid hz0
      have Hz1 := Lib.hid hz1
      have S0 := Lib.hid s0
      have S1 := Lib.hid s1
      clear hz0 hz1 s0 s1
      go_wp2_with fail
      refine (Hc0.out _ Ew).mono ?_
      rintro e w2 ⟨rfl, E2⟩
      go_wp2_with fail
      refine (lsum_any z0 S0.out w2 (hK.ext (Ew.trans E2))).mono ?_
      rintro e w3 ⟨rfl, E3⟩
      have E13 := E2.trans E3
      clear E2 E3
      go_wp2_with fail
      refine (Hc1.out _ (Ew.trans E13)).mono ?_
      rintro e w4 ⟨rfl, E4⟩
      have E14 := E13.trans E4
      clear E13 E4
      go_wp2_with fail
      refine (lsum_any z1 S1.out w4 (hK.ext (Ew.trans E14))).mono ?_
      rintro e w5 ⟨rfl, E5⟩
      have E15 := E14.trans E5
      clear E14 E5
      go_wp2_with fail
      refine (ladd_any w1.heap.size w1.heap.size v (leafS seed leaf k) (sumB z0) (sumB z1) w5 (HB.out.ext E15) (HO.out.ext E15) (Nat.le_refl _) (sumB_length _) (sumB_length _) (by rw [Hlen.out]; omega)).mono ?_
      rintro e w6 ⟨rfl, v', hB6, hO6, hb6⟩
      have E6 : Ext w1 w6 := (E.trans E15).below hb6
      have hO6' : Own w6 w1.heap.size v' (leafS seed leaf (k + 1)) := by rw [leafS_succ, ← Hz0.out, ← Hz1.out]; exact hO6
      have HB6 := Lib.hid hB6
      have HO6 := Lib.hid hO6'
      clear hB6 hO6 hO6' hb6
      go_wp2
      go_roundw
      case rel => exact ⟨k + 1, by omega, by go_num, ⟨v', HB6.out, HO6.out⟩, E6⟩
      case measure => simp [intOf]; omega
    · obtain rfl : k = bits := by omega
      have Hc := Lib.hid (ldigest_any w1.heap.size v (leafS seed leaf k) wr (hK.ext Ew) HB.out HO.out.sl (by rw [Hlen.out]; omega))
      rw [show digB (leafS seed leaf k) = z from Hz.out.symm] at Hc
      go_wp2_with fail
      refine Hc.out.mono ?_
      rintro e w3 ⟨rfl, E3⟩
      have B3 := hb1.ext (E.trans E3)
      go_wp2_with (first | (refine wpList_store_blk rfl 33 _ _ rfl w.heap.size (bytesV z).toArray rfl rfl 33 zb32 B3 hi32.out hz32.out (bytes_one _) ?_; intro w7 hs7 hb7 hg7))
      refine bodyPost_ret (v := .tuple #[dgV z, .int .i64 0]) (ret2_blk hb7 rfl rfl Tryz.underlying33 rfl hi32.out rfl) rfl ?_
      exact ⟨rfl, (Ew.trans E3).grown hg7 (by simp)⟩

set_option maxRecDepth 100000 in
set_option maxHeartbeats 1000000 in
theorem r7Leaf_no (sv : Value) (seed : List UInt8) (la ba : Int) (w : World) (hv : Sl w sv seed) (hno : mayB ba = false ∨ (mayB ba = true ∧ keyB seed.length la = false)) :
    Calls Tryz.prog 57 #[sv, .int .i64 la, .int .i64 ba] w fun e w' => e = .returned (.tuple #[.agg zb32, .int .i64 1]) ∧ Ext w w' := by
  obtain ⟨A, c, rfl, hc⟩ := hv.form
  clear hv
  have Hm := fun w => Lib.hid (r7May_any ba w)
  have Hk := fun w => Lib.hid (r7key_any A seed.length c la w)
  rcases hno with hm | ⟨hm, hk⟩
  · rw [hm] at Hm
    clear hm
    go_enter Tryz.func57, Tryz.ntmps57
    go_wp2_with (first | (refine wpList_alloc_blk rfl 33 rfl (.agg zb32) zero_a32 ?_; intro w1 hs1 hb1 he1; clear hs1))
    refine ((Hm _).out).mono ?_
    rintro e w1' ⟨rfl, rfl⟩
    go_wp2_with (first | (refine wpList_build_to rfl 33 _ rfl zb32 (by kernel_rfl) ?_) | (refine wpList_store_blk rfl 33 _ _ rfl w.heap.size zb32 rfl rfl 33 zb32 hb1 info_a32 rfl zb32_one ?_; intro w7 hs7 hb7 hg7))
    refine bodyPost_ret (v := .tuple #[.agg zb32, .int .i64 1]) (ret2_blk hb7 rfl rfl Tryz.underlying33 rfl info_a32 rfl) rfl ?_
    exact ⟨rfl, he1.grown hg7 (by simp)⟩
  · rw [hm] at Hm
    rw [hk] at Hk
    clear hm hk
    go_enter Tryz.func57, Tryz.ntmps57
    go_wp2_with (first | (refine wpList_alloc_blk rfl 33 rfl (.agg zb32) zero_a32 ?_; intro w1 hs1 hb1 he1; clear hs1))
    refine ((Hm _).out).mono ?_
    rintro e w1' ⟨rfl, rfl⟩
    go_wp2_with fail
    refine ((Hk _).out).mono ?_
    rintro e w1' ⟨rfl, rfl⟩
    go_wp2_with (first | (refine wpList_build_to rfl 33 _ rfl zb32 (by kernel_rfl) ?_) | (refine wpList_store_blk rfl 33 _ _ rfl w.heap.size zb32 rfl rfl 33 zb32 hb1 info_a32 rfl zb32_one ?_; intro w7 hs7 hb7 hg7))
    refine bodyPost_ret (v := .tuple #[.agg zb32, .int .i64 1]) (ret2_blk hb7 rfl rfl Tryz.underlying33 rfl info_a32 rfl) rfl ?_
    exact ⟨rfl, he1.grown hg7 (by simp)⟩

set_option maxRecDepth 100000 in
set_option maxHeartbeats 2000000 in
theorem r7Leaf_yes (sv : Value) (seed : List UInt8) (la ba : Int) (w : World) (hv : Sl w sv seed) (hm : mayB ba = true) (hk : keyB seed.length la = true) :
    Calls Tryz.prog 57 #[sv, .int .i64 la, .int .i64 ba] w fun e w' => e = .returned (.tuple #[dgV (leafB seed la.toNat ba.toNat), .int .i64 0]) ∧ Ext w w' := by
  obtain ⟨A, c, rfl, hc⟩ := hv.form
  have HV := Lib.hid hv
  clear hv
  obtain ⟨hm1, hm2, hm3⟩ := (mayB_iff _).1 hm
  obtain ⟨hk1, hk2, hk3⟩ := (keyB_iff _ _).1 hk
  have Hm := fun w => Lib.hid (r7May_any ba w)
  have Hk := fun w => Lib.hid (r7key_any A seed.length c la w)
  have Hkk := Lib.hid hk
  rw [hm] at Hm
  rw [hk] at Hk
  clear hm hk hm3
  obtain ⟨leaf, rfl⟩ := Int.eq_ofNat_of_zero_le hk2
  obtain ⟨bits, rfl⟩ := Int.eq_ofNat_of_zero_le (show 0 ≤ ba by omega)
  simp only [Int.toNat_natCast]
  have hl := leafB_length seed leaf bits
  obtain ⟨z, hz⟩ : ∃ z, z = leafB seed leaf bits := ⟨_, rfl⟩
  rw [← hz] at hl ⊢
  have Hl := Lib.hid hl
  have Hz := Lib.hid hz
  clear hz hl
  have hz32 : Hid (zb32.size = (bytesV z).toArray.size) := zb32_size _ Hl.out
  have hi32 : Hid ((Tryz.prog.info? 33).map (·.size) = some (bytesV z).toArray.size) := by rw [List.size_toArray, bytesV_length, Hl.out]; exact info_a32
  go_enter Tryz.func57, Tryz.ntmps57
  go_wp2_with (first | (refine wpList_alloc_blk rfl 33 rfl (.agg zb32) zero_a32 ?_; intro w1 hs1 hb1 he1; clear hs1))
  refine ((Hm _).out).mono ?_
  rintro e w1' ⟨rfl, rfl⟩
  go_wp2_with fail
  refine ((Hk _).out).mono ?_
  rintro e w1' ⟨rfl, rfl⟩
  clear Hm Hk
  go_wp2
  have hlw : w.heap.size < w1.heap.size := hb1.lt
  go_loopw [9, 8] (fun i v wr => ∃ k : Nat, k ≤ 2 * bits ∧ i = .int .i64 k ∧ Own wr w1.heap.size v (leafR seed leaf k) ∧ Ext w1 wr) (fun i _ _ => 2 * bits - (intOf i).toNat)
  case atStart => exact ⟨0, by omega, rfl, Own.none_ _ _, Ext.refl _⟩
  case round =>
    obtain ⟨k, hkb, rfl, hO, E⟩ := hrel
    have HO := Lib.hid hO
    have hlen := leafR_length seed leaf k
    have Hlen := Lib.hid hlen
    clear hO hlen
    have Ew := he1.trans E
    by_cases hlt : k < 2 * bits
    · have s0 := secB_length seed leaf (k / 2) (k % 2)
      have hok : okSec seed.length (leaf : Int) ((k : Int) / 2) ((k : Int) % 2) = true := (okSec_iff _ _ _ _).2 ⟨Hkk.out, by omega, by omega, by omega, by omega⟩
      have Hc0 := Lib.hid (r7Secret_yes (.slice A seed.length c) seed (leaf : Int) ((k : Int) / 2) ((k : Int) % 2) wr (HV.out.ext Ew) hok)
      rw [show (leaf : Int).toNat = leaf from by omega, show ((k : Int) / 2).toNat = k / 2 from by omega, show ((k : Int) % 2).toNat = k % 2 from by omega] at Hc0
      obtain ⟨z0, hz0⟩ : ∃ z, z = secB seed leaf (k / 2) (k % 2) := ⟨_, rfl⟩
      rw [← hz0] at Hc0 s0
      obtain ⟨y0, hy0⟩ : ∃ y, y = sumB z0 := ⟨_, rfl⟩
      have Hz0 := Lib.hid hz0
      have Hy0 := Lib.hid hy0
      have S0 := Lib.hid s0
      have L0 : Hid (y0.length = 32) := by show _ = _; rw [hy0]; exact sumB_length _
      clear hz0 hy0 s0 hok
      have i0 : Hid ((Tryz.prog.info? 33).map (·.size) = some (bytesV z0).toArray.size) := by rw [List.size_toArray, bytesV_length, S0.out]; exact info_a32
      have i1 : Hid ((Tryz.prog.info? 33).map (·.size) = some (bytesV y0).toArray.size) := by rw [List.size_toArray, bytesV_length, L0.out]; exact info_a32
      have s0 : Hid (zb32.size = (bytesV z0).toArray.size) := zb32_size _ S0.out
      have s1 : Hid (zb32.size = (bytesV y0).toArray.size) := zb32_size _ L0.out
      go_wp2_with fail
      refine Hc0.out.mono ?_
      rintro e w2 ⟨rfl, E2⟩
      go_wp2_with (first | (refine wpList_alloc_blk rfl 33 rfl (.agg zb32) zero_a32 ?_; intro w3 hs3 hb3 he3; clear hs3) | (refine wpList_store_blk rfl 33 _ _ rfl w2.heap.size (bytesV z0).toArray rfl rfl 33 zb32 hb3 i0.out s0.out (bytes_one _) ?_; intro w4 hs4 hb4 hg4))
      have E24 : Ext w2 w4 := he3.grown hg4 (by simp)
      have S4 : Sl w4 (.slice (some ⟨w2.heap.size, 0, none⟩) 32 32) z0 := by have := sl_of_blk hb4; rw [S0.out] at this; exact this
      have Hr := Lib.hid (rOf_any _ z0 w4 S4 (by rw [S0.out]; omega))
      rw [← Hy0.out] at Hr
      have E14 := E2.trans E24
      clear hb3 he3 hs4 hb4 hg4 S4 E24 E2
      refine Hr.out.mono ?_
      rintro e w5 ⟨rfl, E5⟩
      have E15 := E14.trans E5
      clear E14 E5 Hr
      go_wp2_with (first | (refine wpList_alloc_blk rfl 33 rfl (.agg zb32) zero_a32 ?_; intro w6 hs6 hb6 he6; clear hs6) | (refine wpList_store_blk rfl 33 _ _ rfl w5.heap.size (bytesV y0).toArray rfl rfl 33 zb32 hb6 i1.out s1.out (bytes_one _) ?_; intro w7 hs7 hb7 hg7; have E57 : Ext w5 w7 := he6.grown hg7 (by simp); have S7 : Sl w7 (.slice (some ⟨w5.heap.size, 0, none⟩) 32 32) y0 := (by have := sl_of_blk hb7; rw [L0.out] at this; exact this); have E17 := E15.trans E57) | (at_builtin; refine wpList_appB (HO.out.ext E17) S7 rfl _ _ rfl rfl rfl (by rw [Hlen.out, L0.out]; omega) (by have := (E.trans E17).size; exact this) ?_; intro v8 w8 ho8 hg8 _))
      have O8 : Own w8 w1.heap.size v8 (leafR seed leaf (k + 1)) := by rw [leafR_succ, ← Hz0.out, ← Hy0.out]; exact ho8
      have E8 := (E.trans E17).grown hg8 HO.out.from
      clear ho8 hg8 S7 E57 hb7 hs7 hg7 hb6 he6
      go_roundw
      case rel => exact ⟨k + 1, by omega, by go_num, O8, E8⟩
      case measure => simp [intOf]; omega
    · obtain rfl : k = 2 * bits := by omega
      rw [leafR_all] at HO Hlen
      have Hc := Lib.hid (r7digest_any _ (leafS seed leaf bits) wr HO.out.sl (by rw [Hlen.out]; omega))
      rw [show digB (leafS seed leaf bits) = z from Hz.out.symm] at Hc
      go_wp2_with fail
      refine Hc.out.mono ?_
      rintro e w3 ⟨rfl, E3⟩
      have B3 := hb1.ext (E.trans E3)
      go_wp2_with (first | (refine wpList_store_blk rfl 33 _ _ rfl w.heap.size (bytesV z).toArray rfl rfl 33 zb32 B3 hi32.out hz32.out (bytes_one _) ?_; intro w7 hs7 hb7 hg7))
      refine bodyPost_ret (v := .tuple #[dgV z, .int .i64 0]) (ret2_blk hb7 rfl rfl Tryz.underlying33 rfl hi32.out rfl) rfl ?_
      exact ⟨rfl, (Ew.trans E3).grown hg7 (by simp)⟩
end Go.Proofs.YtddbmddblhjkkaaGreatDoor
/- lamport: signatures: contracts of Sign of both, and of pursuivantref07.Sides. -/
namespace Go.Proofs.YtddbmddblhjkkaaGreatDoor
open Go.RowKit

def signR (seed : List UInt8) (leaf : Nat) (m : List UInt8) (k : Nat) : List (List UInt8) := (List.range k).map fun b => secB seed leaf b (sideB (msgB m) b)
def signO (seed : List UInt8) (leaf : Nat) (m : List UInt8) (k : Nat) : List (List UInt8) := (List.range k).map fun b => sumB (secB seed leaf b (1 - sideB (msgB m) b))
theorem signR_succ (seed : List UInt8) (leaf : Nat) (m : List UInt8) (k : Nat) : signR seed leaf m (k + 1) = signR seed leaf m k ++ [secB seed leaf k (sideB (msgB m) k)] := by simp [signR, List.range_succ]
theorem signO_succ (seed : List UInt8) (leaf : Nat) (m : List UInt8) (k : Nat) : signO seed leaf m (k + 1) = signO seed leaf m k ++ [sumB (secB seed leaf k (1 - sideB (msgB m) k))] := by simp [signO, List.range_succ]
theorem signR_length (seed : List UInt8) (leaf : Nat) (m : List UInt8) (k : Nat) : (signR seed leaf m k).length = k := by simp [signR]
theorem signO_length (seed : List UInt8) (leaf : Nat) (m : List UInt8) (k : Nat) : (signO seed leaf m k).length = k := by simp [signO]

def noOne : Array Value := #[.slice none 0 0, .slice none 0 0]
theorem zero_one (w : World) : (zeroValue 42).run Tryz.prog w = .ok (.agg noOne) w := by kernel_rfl
theorem info_one : (Tryz.prog.info? 42).map (·.size) = some 2 := by kernel_rfl
theorem noOne_one : noOne.all (·.oneCell') = true := by decide +kernel
theorem two_one (A B : Option Addr) (n m c d : Nat) : (#[.slice A n c, .slice B m d] : Array Value).all (·.oneCell') = true := by simp [Value.oneCell']

set_option maxRecDepth 100000 in
set_option maxHeartbeats 1000000 in
theorem lSign_yes (sv mv : Value) (seed m : List UInt8) (la ba : Int) (w : World) (hK : Kst w) (hv : Sl w sv seed) (hmv : Sl w mv m) (hm : mayB ba = true) (hk : keyB seed.length la = true) (hlm : m.length ≤ 1048576) :
    Calls Tryz.prog 32 #[sv, .int .i64 la, .int .i64 ba, mv] w fun e w' => ∃ vr vo, e = .returned (.tuple #[.agg #[vr, vo], .int .i64 0]) ∧ SlD w' vr (signR seed la.toNat m ba.toNat) ∧ SlD w' vo (signO seed la.toNat m ba.toNat) ∧ Ext w w' := by
  obtain ⟨A, c, rfl, hc⟩ := hv.form
  obtain ⟨Am, cm, rfl, hcm⟩ := hmv.form
  have HV := Lib.hid hv
  have HM := Lib.hid hmv
  clear hv hmv
  obtain ⟨hm1, hm2, hm3⟩ := (mayB_iff _).1 hm
  obtain ⟨hk1, hk2, hk3⟩ := (keyB_iff _ _).1 hk
  have Hm := fun w => Lib.hid (lMay_any ba w)
  have Hk := fun w => Lib.hid (lkey_any A seed.length c la w)
  rw [hm] at Hm
  rw [hk] at Hk
  clear hm hk hm3
  obtain ⟨leaf, rfl⟩ := Int.eq_ofNat_of_zero_le hk2
  obtain ⟨bits, rfl⟩ := Int.eq_ofNat_of_zero_le (show 0 ≤ ba by omega)
  simp only [Int.toNat_natCast]
  go_enter Tryz.func32, Tryz.ntmps32
  go_wp2_with (first | (refine wpList_alloc_blk rfl 42 rfl (.agg noOne) zero_one ?_; intro w1 hs1 hb1 he1; clear hs1))
  refine ((Hm _).out).mono ?_
  rintro e w1' ⟨rfl, rfl⟩
  go_wp2_with fail
  refine ((Hk _).out).mono ?_
  rintro e w1' ⟨rfl, rfl⟩
  clear Hm Hk
  have hz := msgB_length m
  have Hof := Lib.hid (lof_any _ m w1 (hK.ext he1) (HM.out.ext he1) hlm)
  obtain ⟨z, hzz⟩ : ∃ z, z = msgB m := ⟨_, rfl⟩
  rw [← hzz] at hz Hof
  have Hz := Lib.hid hzz
  have HL := Lib.hid hz
  clear hz hzz
  go_wp2_with fail
  refine Hof.out.mono ?_
  rintro e w2 ⟨rfl, E2⟩
  clear Hof
  go_wp2_with (first | (refine wpList_alloc_blk rfl 42 rfl (.agg noOne) zero_one ?_; intro w3 hs3 hb3 he3; clear hs3))
  have hlw : w.heap.size < w1.heap.size := hb1.lt
  have h12 := E2.size
  have E12 := he1.trans E2
  go_loopw [33] (fun i wr => ∃ k : Nat, k ≤ bits ∧ i = .int .i64 k ∧ (∃ vr vo, Blk wr w2.heap.size 42 #[vr, vo] ∧ OwnD wr w2.heap.size vr (signR seed leaf m k) ∧ OwnD wr w2.heap.size vo (signO seed leaf m k) ∧ (∀ j, vr.ownBlock = some j → vo.ownBlock ≠ some j)) ∧ Ext w2 wr) (fun i _ => bits - (intOf i).toNat)
  case atStart => exact ⟨0, by omega, rfl, ⟨_, _, hb3, OwnD.none_ _ _, OwnD.none_ _ _, fun j hj => by cases hj⟩, he3⟩
  case round =>
    clear hb3 he3
    obtain ⟨k, hkb, rfl, ⟨vr, vo, hB, hR, hO, hap⟩, E⟩ := hrel
    obtain ⟨Ar, cr, rfl, hcr⟩ := hR.form
    obtain ⟨Ao, co, rfl, hco⟩ := hO.form
    rw [signR_length, signO_length] at *
    have HB := Lib.hid hB
    have HR := Lib.hid hR
    have HO := Lib.hid hO
    have Hap := Lib.hid hap
    clear hB hR hO hap
    have Ew := E12.trans E
    by_cases hlt : k < bits
    · have hsd := sideB_lt z k
      obtain ⟨sd, hsdz⟩ : ∃ sd, sd = sideB z k := ⟨_, rfl⟩
      rw [← hsdz] at hsd
      have Hsd := Lib.hid hsdz
      clear hsdz
      have s0 := secB_length seed leaf k sd
      have s1 := secB_length seed leaf k (1 - sd)
      have Hside := Lib.hid (fun w' => lside_any z HL.out k (by omega) w')
      rw [← Hsd.out] at Hside
      have Hc0 := Lib.hid (fun w' (E' : Ext w w') => lsecret_any (.slice A seed.length c) seed (leaf : Int) (k : Int) (sd : Int) leaf k sd rfl rfl rfl w' (hK.ext E') (HV.out.ext E') (by omega) (by omega) (by omega) (by omega))
      have Hc1 := Lib.hid (fun w' (E' : Ext w w') => lsecret_any (.slice A seed.length c) seed (leaf : Int) (k : Int) (1 - (sd : Int)) leaf k (1 - sd) rfl rfl (by omega) w' (hK.ext E') (HV.out.ext E') (by omega) (by omega) (by omega) (by omega))
      obtain ⟨z0, hz0⟩ : ∃ z, z = secB seed leaf k sd := ⟨_, rfl⟩
      obtain ⟨z1, hz1⟩ : ∃ z, z = secB seed leaf k (1 - sd) := ⟨_, rfl⟩
      rw [← hz0] at Hc0 s0
      rw [← hz1] at Hc1 s1
      have Hz0 := Lib.hid hz0
      have Hz1 := Lib.hid hz1
      have S0 := Lib.hid s0
      have S1 := Lib.hid s1
      clear hz0 hz1 s0 s1
      have hc0 : wr.drew.cell? ⟨w2.heap.size, 0, none⟩ = some (.slice Ar k cr) := HB.out.cell 0
      go_wp2
      refine wp_region_chain 10 [(true, 0), (true, 1), (true, 2), (true, 3), (true, 4), (true, 5), (true, 6), (false, 7), (false, 8), (false, 9)] (fun w' => w'.cell? ⟨w2.heap.size, 0, none⟩ = some (.slice Ar k cr)) (by kernel_rfl) (by kernel_rfl) hc0 ?_
      iterate 7
        refine wpTake_read _ _ ?_ rfl rfl ?_ ?_
        rotate_left 1
        focus
          intro wS hS
          try dsimp only at hS
          go_simp
          first | done | with_reducible rfl
        simp only [Act.put, List.setIfInBounds_toArray, List.set_cons_zero, List.set_cons_succ]
      refine wpTake_do _ _ rfl rfl (fun K hK' => ?_)
      go_simp
      refine (Hside.out _).mono ?_
      rintro e w4 ⟨rfl, E4⟩
      have E4' : Ext wr w4 := (Ext.refl wr).drew.trans E4
      refine hK' _ _ (E4.cell hc0) ?_
      clear hK' K
      refine wpTake_do _ _ rfl rfl (fun K hK' => ?_)
      go_simp
      refine (Hc0.out _ (Ew.trans E4')).mono ?_
      rintro e w5 ⟨rfl, E5⟩
      have E5' : Ext wr w5 := E4'.trans E5
      refine hK' _ _ (E5.cell (E4.cell hc0)) ?_
      clear hK' K
      have hc5 : w5.cell? ⟨w2.heap.size, 0, none⟩ = some (.slice Ar k cr) := E5.cell (E4.cell hc0)
      clear hc0 E4 E5 E4'
      refine wpTake_do _ _ rfl rfl (fun K hK' => ?_)
      refine wp_build_dg z0 S0.out _ rfl rfl ?_
      intro w6 E56 hs6 hnew
      have E6 : Ext wr w6 := E5'.trans E56
      refine hK' _ _ (E56.cell hc5) ?_
      clear hK' K
      refine wpTake_nil ?_
      simp only [Act.put, List.setIfInBounds_toArray, List.set_cons_zero, List.set_cons_succ, List.drop_succ_cons, List.drop_zero]
      have HR6 := Lib.hid (HR.out.ext E6)
      have Hnew := Lib.hid hnew
      have HB6 := Lib.hid (HB.out.ext E6)
      have HO6 := Lib.hid (HO.out.ext E6)
      have Ew6 := E.trans E6
      clear hnew HR HO HB hc5 E5' E56 hs6
      go_wp2_with (at_builtin; refine wpList_appD HR6.out S0.out Hnew.out rfl _ _ rfl rfl rfl (by rw [signR_length]; omega) (by have := Ew6.size; exact this) ?_; intro v7 w7 ho7 hg7 hq7; have hn7 := HR6.out.ne HB6.out (by decide); have hB7 := HB6.out.grown hg7 (Ne.symm hn7); have hc7 : w7.cell? ⟨w2.heap.size, 0, none⟩ = some (.slice Ar k cr) := hB7.cell 0; have hf7 := hB7.frozen 0; obtain ⟨A7, c7, e7, hc7'⟩ := ho7.form; rw [List.length_append, signR_length, List.length_singleton] at e7; subst e7; have HB7 := Lib.hid hB7; have HO7 := Lib.hid ho7; have Hg7 := Lib.hid hg7; have Hq7 := Lib.hid hq7; clear hB7 ho7 hg7 hq7 hn7)
      refine NoPanic.normal ?_
      have hR8 : OwnD (w7.setCell ⟨w2.heap.size, 0, none⟩ (.slice A7 (k + 1) c7)) w2.heap.size (.slice A7 (k + 1) c7) (signR seed leaf m (k + 1)) := by
        rw [signR_succ, ← Hz.out, ← Hsd.out, ← Hz0.out]; exact HO7.out.set HB7.out (by decide)
      have hO7 := HO6.out.apart Hg7.out (fun j hj e => Hap.out j e hj)
      have hO8 := hO7.set (o := 0) (u := .slice A7 (k + 1) c7) HB7.out (by decide)
      have hB8 : Blk (w7.setCell ⟨w2.heap.size, 0, none⟩ (.slice A7 (k + 1) c7)) w2.heap.size 42 #[.slice A7 (k + 1) c7, .slice Ao k co] := HB7.out.set 0 _
      have hap8 := apart_app Hap.out HO6.out.lt Hq7.out
      have E8 : Ext w2 (w7.setCell ⟨w2.heap.size, 0, none⟩ (.slice A7 (k + 1) c7)) := (Ew6.grown Hg7.out HR6.out.from).setCell (by simp) _
      clear hf7 hc7 hc7' HB7 HO7 Hg7 Hq7 HR6 HO6 HB6 Hnew hO7
      revert hR8 hO8 hB8 E8
      generalize w7.setCell ⟨w2.heap.size, 0, none⟩ (.slice A7 (k + 1) c7) = w8
      intro hR8 hO8 hB8 E8
      have HR8 := Lib.hid hR8
      have HO8 := Lib.hid hO8
      have HB8 := Lib.hid hB8
      have Hap8 := Lib.hid hap8
      clear hR8 hO8 hB8 hap8 Hap E6 Ew6
      have Ew8 := E12.trans E8
      have hd0 : w8.drew.cell? ⟨w2.heap.size, 1, none⟩ = some (.slice Ao k co) := HB8.out.cell 1
      go_wp2
      refine wp_region_chain 12 [(true, 0), (true, 1), (true, 2), (true, 3), (true, 4), (true, 5), (true, 6), (false, 7), (true, 8), (false, 9), (false, 10), (false, 11)] (fun w' => w'.cell? ⟨w2.heap.size, 1, none⟩ = some (.slice Ao k co)) (by kernel_rfl) (by kernel_rfl) hd0 ?_
      iterate 7
        refine wpTake_read _ _ ?_ rfl rfl ?_ ?_
        rotate_left 1
        focus
          intro wS hS
          try dsimp only at hS
          go_simp
          first | done | with_reducible rfl
        simp only [Act.put, List.setIfInBounds_toArray, List.set_cons_zero, List.set_cons_succ]
      refine wpTake_do _ _ rfl rfl (fun K hK' => ?_)
      go_simp
      refine (Hside.out _).mono ?_
      rintro e w4 ⟨rfl, E4⟩
      have E4' : Ext w8 w4 := (Ext.refl w8).drew.trans E4
      refine hK' _ _ (E4.cell hd0) ?_
      clear hK' K
      have hwr : IntKind.i64.wrap (1 - (sd : Int)) = 1 - (sd : Int) := IntWalk.i64_in _ (by omega)
      iterate 1
        refine wpTake_read _ _ ?_ rfl rfl ?_ ?_
        rotate_left 1
        focus
          intro wS hS
          try dsimp only at hS
          go_simp
          first | done | with_reducible rfl
        simp only [Act.put, List.setIfInBounds_toArray, List.set_cons_zero, List.set_cons_succ]
      refine wpTake_do _ _ rfl rfl (fun K hK' => ?_)
      go_simp
      clear hwr
      with_reducible refine (Hc1.out _ (Ew8.trans E4')).mono ?_
      rintro e w5 ⟨rfl, E5⟩
      have E5' : Ext w8 w5 := E4'.trans E5
      refine hK' _ _ (E5.cell (E4.cell hd0)) ?_
      clear hK' K
      have hc5 : w5.cell? ⟨w2.heap.size, 1, none⟩ = some (.slice Ao k co) := E5.cell (E4.cell hd0)
      clear hd0 E4 E5 E4'
      refine wpTake_do _ _ rfl rfl (fun K hK' => ?_)
      go_simp
      refine (lsum_any z1 S1.out w5 (hK.ext (Ew8.trans E5'))).mono ?_
      rintro e w6 ⟨rfl, E6⟩
      have E6' : Ext w8 w6 := E5'.trans E6
      refine hK' _ _ (E6.cell hc5) ?_
      clear hK' K
      have hc6 := E6.cell hc5
      clear hc5 E5' E6
      refine wpTake_do _ _ rfl rfl (fun K hK' => ?_)
      refine wp_build_dg (sumB z1) (sumB_length _) _ rfl rfl ?_
      intro w9 E69 hs9 hnew
      have E9 : Ext w8 w9 := E6'.trans E69
      refine hK' _ _ (E69.cell hc6) ?_
      clear hK' K
      refine wpTake_nil ?_
      simp only [Act.put, List.setIfInBounds_toArray, List.set_cons_zero, List.set_cons_succ, List.drop_succ_cons, List.drop_zero]
      have HO9 := Lib.hid (HO8.out.ext E9)
      have Hnew := Lib.hid hnew
      have HB9 := Lib.hid (HB8.out.ext E9)
      have HR9 := Lib.hid (HR8.out.ext E9)
      have Ew9 := E8.trans E9
      clear hnew HR8 HO8 HB8 hc6 E6' E69 hs9
      go_wp2_with (at_builtin; refine wpList_appD HO9.out (sumB_length z1) Hnew.out rfl _ _ rfl rfl rfl (by rw [signO_length]; omega) (by have := Ew9.size; exact this) ?_; intro v10 w10 ho10 hg10 hq10; have hn10 := HO9.out.ne HB9.out (by decide); have hB10 := HB9.out.grown hg10 (Ne.symm hn10); have hc10 : w10.cell? ⟨w2.heap.size, 1, none⟩ = some (.slice Ao k co) := hB10.cell 1; have hf10 := hB10.frozen 1; obtain ⟨A10, c10, e10, hc10'⟩ := ho10.form; rw [List.length_append, signO_length, List.length_singleton] at e10; subst e10; have HB10 := Lib.hid hB10; have HO10 := Lib.hid ho10; have Hg10 := Lib.hid hg10; have Hq10 := Lib.hid hq10; clear hB10 ho10 hg10 hq10 hn10)
      refine NoPanic.normal ?_
      have hO11 : OwnD (w10.setCell ⟨w2.heap.size, 1, none⟩ (.slice A10 (k + 1) c10)) w2.heap.size (.slice A10 (k + 1) c10) (signO seed leaf m (k + 1)) := by
        rw [signO_succ, ← Hz.out, ← Hsd.out, ← Hz1.out]; exact HO10.out.set HB10.out (by decide)
      have hR10 := HR9.out.apart Hg10.out (fun j hj => Hap8.out j hj)
      have hR11 := hR10.set (o := 1) (u := .slice A10 (k + 1) c10) HB10.out (by decide)
      have hB11 : Blk (w10.setCell ⟨w2.heap.size, 1, none⟩ (.slice A10 (k + 1) c10)) w2.heap.size 42 #[.slice A7 (k + 1) c7, .slice A10 (k + 1) c10] := HB10.out.set 1 _
      have hap11 : ∀ j, (Value.slice A7 (k + 1) c7).ownBlock = some j → (Value.slice A10 (k + 1) c10).ownBlock ≠ some j := fun j hj e => apart_app (v := .slice Ao k co) (u := .slice A7 (k + 1) c7) (fun j h1 h2 => Hap8.out j h2 h1) HR9.out.lt Hq10.out j e hj
      have E11 : Ext w2 (w10.setCell ⟨w2.heap.size, 1, none⟩ (.slice A10 (k + 1) c10)) := (Ew9.grown Hg10.out HO9.out.from).setCell (by simp) _
      clear hf10 hc10 hc10' HB10 HO10 Hg10 Hq10 HR9 HO9 HB9 Hnew hR10
      go_wp2
      go_roundw
      case rel => exact ⟨k + 1, by omega, by go_num, ⟨_, _, hB11, hR11, hO11, hap11⟩, E11⟩
      case measure => simp [intOf]; omega
    · obtain rfl : k = bits := by omega
      have hB1 := hb1.ext (E2.trans E)
      have hi2 := info_one
      go_wp2_with (first | (refine wpList_load_blk HB.out rfl 42 _ rfl rfl Tryz.underlying42 rfl info_one ?_) | (refine wpList_store_blk rfl 42 _ _ rfl w.heap.size _ rfl rfl 42 noOne hB1 info_one rfl (two_one _ _ _ _ _ _) ?_; intro w7 hs7 hb7 hg7))
      refine bodyPost_ret (v := .tuple #[.agg #[.slice Ar k cr, .slice Ao k co], .int .i64 0]) (ret2_blk hb7 rfl rfl Tryz.underlying42 rfl info_one rfl) rfl ?_
      have hne : ∀ (u : Value) (ds : List (List UInt8)), OwnD wr w2.heap.size u ds → SlD w7 u ds := fun u ds h => (h.apart hg7 (fun j hj e => by have := h.from j hj; injection e with e; omega)).sl
      exact ⟨_, _, rfl, hne _ _ HR.out, hne _ _ HO.out, Ew.grown hg7 (by simp)⟩
end Go.Proofs.YtddbmddblhjkkaaGreatDoor
/- lamport: contracts of Sign where it may not be, of pursuivantref07.Sides and Sign. -/
namespace Go.Proofs.YtddbmddblhjkkaaGreatDoor
open Go.RowKit

/-- the bits of a digest, as cells -/
def sidesV (z : List UInt8) (k : Nat) : List Value := (List.range k).map fun b => .int .i64 (sideB z b : Int)
theorem sidesV_length (z : List UInt8) (k : Nat) : (sidesV z k).length = k := by simp [sidesV]
theorem sidesV_succ (z : List UInt8) (k : Nat) : sidesV z (k + 1) = sidesV z k ++ [.int .i64 (sideB z k : Int)] := by simp [sidesV, List.range_succ]
theorem sidesV_get (z : List UInt8) (k b : Nat) (h : b < k) : (sidesV z k)[b]? = some (.int .i64 (sideB z b : Int)) := by simp [sidesV, h]

set_option maxRecDepth 100000 in
set_option maxHeartbeats 1000000 in
theorem r7Sides_any (mv : Value) (m : List UInt8) (bits : Nat) (w : World) (hv : Sl w mv m) (hm : m.length ≤ 1048576) (hb : bits ≤ 256) :
    Calls Tryz.prog 62 #[mv, .int .i64 (bits : Int)] w fun e w' => ∃ v, e = .returned v ∧ w'.ownsRow w.heap.size 3 1 v bits (sidesV (msgB m) bits) ∧ Ext w w' := by
  obtain ⟨A, c, rfl, hc⟩ := hv.form
  have HV := Lib.hid hv
  clear hv
  obtain ⟨i0, hi, hz0, hz1, hz2⟩ := info_parts info_int
  have hl := msgB_length m
  obtain ⟨z, hz⟩ : ∃ z, z = msgB m := ⟨_, rfl⟩
  rw [← hz] at hl ⊢
  have Hl := Lib.hid hl
  have Hz := Lib.hid hz
  clear hz hl
  have hz32 : Hid (zb32.size = (bytesV z).toArray.size) := zb32_size _ Hl.out
  have hi32 : Hid ((Tryz.prog.info? 33).map (·.size) = some (bytesV z).toArray.size) := by rw [List.size_toArray, bytesV_length, Hl.out]; exact info_a32
  have Hc : Hid (Calls Tryz.prog 76 #[.string msgA, .slice (some ⟨w.heap.size, 0, none⟩) 1 1] (w.alloc (.cells #[.slice A m.length c] 22)) fun e w' => e = .returned (dgV z) ∧ Ext (w.alloc (.cells #[.slice A m.length c] 22)) w') := by
    have := rTagged_any msgA _ _ _ (slAll_one 22 _ rfl HV.out) (by decide) (by simpa using hm) (by simp)
    rw [Hz.out]
    exact this
  go_enter Tryz.func62, Tryz.ntmps62
  go_wp2_with fail
  refine Hc.out.mono ?_
  rintro e w1 ⟨rfl, E1⟩
  have E1' : Ext w w1 := ((Ext.refl w).alloc _).trans E1
  clear Hc
  go_wp2_with (first | (refine wpList_alloc_blk rfl 33 rfl (.agg zb32) zero_a32 ?_; intro w4 hs4 hb4 he4; clear hs4) | (refine wpList_store_blk rfl 33 _ _ rfl w1.heap.size (bytesV z).toArray rfl rfl 33 zb32 hb4 hi32.out hz32.out (bytes_one _) ?_; intro w5 hs5 hb5 hg5))
  have E15 : Ext w1 w5 := he4.grown hg5 (by simp)
  have E5 : Ext w w5 := E1'.trans E15
  clear hb4 he4 hs5 hg5 E1 E15
  have h1 := E1'.size
  have h15 : w1.heap.size < w5.heap.size := hb5.lt
  go_loopw [7, 6] (fun i v wr => ∃ k : Nat, k ≤ bits ∧ i = .int .i64 k ∧ wr.ownsRow w5.heap.size 3 1 v k (sidesV z k) ∧ Ext w5 wr) (fun i _ _ => bits - (intOf i).toNat)
  case atStart => exact ⟨0, by omega, rfl, World.ownsRow_nil _ _ _ _, Ext.refl _⟩
  case round =>
    obtain ⟨k, hkb, rfl, hO, E⟩ := hrel
    obtain ⟨A6, c6, rfl, hc6⟩ := own_form hO
    have HO := Lib.hid hO
    clear hO
    by_cases hlt : k < bits
    · have hcc : wr.cell? ⟨w1.heap.size, k / 8, none⟩ = some (.int .u8 ((z[k / 8]?.getD 0).toNat : Int)) := by
        have := (hb5.ext E).cell (k / 8)
        rw [this]
        have := bytesV_get z (k / 8) (by rw [Hl.out]; omega)
        simpa using this
      obtain ⟨x, hx⟩ : ∃ x, x = z[k / 8]?.getD 0 := ⟨_, rfl⟩
      rw [← hx] at hcc
      have Hx := Lib.hid hx
      clear hx
      go_wp2_with (at_builtin; refine wpList_append_sl _ rfl _ _ 111 rfl w5.heap.size 3 i0 (.int .i64 0) 1 8 Tryz.underlying111 hi hz0 hz1 hz2 rfl (by omega) (.slice A6 k c6) k (sidesV z k) rfl (own_kept HO.out ((Ext.refl wr).alloc _)) (some ⟨wr.heap.size, 0, none⟩) 1 1 [.int .i64 ((wrap64 (x.toNat : Int) / 2 ^ (7 - k % 8)).tmod 2)] rfl (SlR.of_cells rfl (Nat.le_refl _) (fun j v hv => by rw [Nat.zero_add, (Blk.new wr 3 _).cell]; simpa using hv)) (by simp [Value.oneCell']) (by unfold maxLen; omega) (by omega) (by have := E.size; simp; omega) ?_; intro v7 w7 ho7 hg7 hq7)
      have E7 : Ext w5 w7 := (E.alloc _).grown hg7 (fun j hj => (World.ownsRow.lt HO.out j hj).1)
      have ho7' : w7.ownsRow w5.heap.size 3 1 v7 (k + 1) (sidesV z (k + 1)) := by
        rw [sidesV_succ]
        rw [side_val, Hx.out] at ho7
        exact ho7
      clear ho7 hg7 hq7
      go_roundw
      case rel => exact ⟨k + 1, by omega, by go_num, ho7', E7⟩
      case measure => simp [intOf]; omega
    · obtain rfl : k = bits := by omega
      go_wp2
      go_ret
      exact ⟨_, rfl, own_base HO.out E5.size, E5.trans E⟩

set_option maxRecDepth 100000 in
set_option maxHeartbeats 1000000 in
theorem lSign_no (sv mv : Value) (seed : List UInt8) (la ba : Int) (w : World) (hv : Sl w sv seed) (hno : mayB ba = false ∨ (mayB ba = true ∧ keyB seed.length la = false)) :
    Calls Tryz.prog 32 #[sv, .int .i64 la, .int .i64 ba, mv] w fun e w' => e = .returned (.tuple #[.agg noOne, .int .i64 1]) ∧ Ext w w' := by
  obtain ⟨A, c, rfl, hc⟩ := hv.form
  clear hv
  have Hm := fun w => Lib.hid (lMay_any ba w)
  have Hk := fun w => Lib.hid (lkey_any A seed.length c la w)
  rcases hno with hm | ⟨hm, hk⟩
  · rw [hm] at Hm
    clear hm
    go_enter Tryz.func32, Tryz.ntmps32
    go_wp2_with (first | (refine wpList_alloc_blk rfl 42 rfl (.agg noOne) zero_one ?_; intro w1 hs1 hb1 he1; clear hs1))
    refine ((Hm _).out).mono ?_
    rintro e w1' ⟨rfl, rfl⟩
    go_wp2_with (first | (refine wpList_build_to rfl 42 _ rfl noOne (by kernel_rfl) ?_) | (refine wpList_store_blk rfl 42 _ _ rfl w.heap.size noOne rfl rfl 42 noOne hb1 info_one rfl noOne_one ?_; intro w7 hs7 hb7 hg7))
    refine bodyPost_ret (v := .tuple #[.agg noOne, .int .i64 1]) (ret2_blk hb7 rfl rfl Tryz.underlying42 rfl info_one rfl) rfl ?_
    exact ⟨rfl, he1.grown hg7 (by simp)⟩
  · rw [hm] at Hm
    rw [hk] at Hk
    clear hm hk
    go_enter Tryz.func32, Tryz.ntmps32
    go_wp2_with (first | (refine wpList_alloc_blk rfl 42 rfl (.agg noOne) zero_one ?_; intro w1 hs1 hb1 he1; clear hs1))
    refine ((Hm _).out).mono ?_
    rintro e w1' ⟨rfl, rfl⟩
    go_wp2_with fail
    refine ((Hk _).out).mono ?_
    rintro e w1' ⟨rfl, rfl⟩
    go_wp2_with (first | (refine wpList_build_to rfl 42 _ rfl noOne (by kernel_rfl) ?_) | (refine wpList_store_blk rfl 42 _ _ rfl w.heap.size noOne rfl rfl 42 noOne hb1 info_one rfl noOne_one ?_; intro w7 hs7 hb7 hg7))
    refine bodyPost_ret (v := .tuple #[.agg noOne, .int .i64 1]) (ret2_blk hb7 rfl rfl Tryz.underlying42 rfl info_one rfl) rfl ?_
    exact ⟨rfl, he1.grown hg7 (by simp)⟩
set_option maxRecDepth 100000 in
set_option maxHeartbeats 1000000 in
theorem r7Sign_no (sv mv : Value) (seed : List UInt8) (la ba : Int) (w : World) (hv : Sl w sv seed) (hno : mayB ba = false ∨ (mayB ba = true ∧ keyB seed.length la = false)) :
    Calls Tryz.prog 33 #[sv, .int .i64 la, .int .i64 ba, mv] w fun e w' => e = .returned (.tuple #[.agg noOne, .int .i64 1]) ∧ Ext w w' := by
  obtain ⟨A, c, rfl, hc⟩ := hv.form
  clear hv
  have Hm := fun w => Lib.hid (r7May_any ba w)
  have Hk := fun w => Lib.hid (r7key_any A seed.length c la w)
  rcases hno with hm | ⟨hm, hk⟩
  · rw [hm] at Hm
    clear hm
    go_enter Tryz.func33, Tryz.ntmps33
    go_wp2_with (first | (refine wpList_alloc_blk rfl 42 rfl (.agg noOne) zero_one ?_; intro w1 hs1 hb1 he1; clear hs1))
    refine ((Hm _).out).mono ?_
    rintro e w1' ⟨rfl, rfl⟩
    go_wp2_with (first | (refine wpList_build_to rfl 42 _ rfl noOne (by kernel_rfl) ?_) | (refine wpList_store_blk rfl 42 _ _ rfl w.heap.size noOne rfl rfl 42 noOne hb1 info_one rfl noOne_one ?_; intro w7 hs7 hb7 hg7))
    refine bodyPost_ret (v := .tuple #[.agg noOne, .int .i64 1]) (ret2_blk hb7 rfl rfl Tryz.underlying42 rfl info_one rfl) rfl ?_
    exact ⟨rfl, he1.grown hg7 (by simp)⟩
  · rw [hm] at Hm
    rw [hk] at Hk
    clear hm hk
    go_enter Tryz.func33, Tryz.ntmps33
    go_wp2_with (first | (refine wpList_alloc_blk rfl 42 rfl (.agg noOne) zero_one ?_; intro w1 hs1 hb1 he1; clear hs1))
    refine ((Hm _).out).mono ?_
    rintro e w1' ⟨rfl, rfl⟩
    go_wp2_with fail
    refine ((Hk _).out).mono ?_
    rintro e w1' ⟨rfl, rfl⟩
    go_wp2_with (first | (refine wpList_build_to rfl 42 _ rfl noOne (by kernel_rfl) ?_) | (refine wpList_store_blk rfl 42 _ _ rfl w.heap.size noOne rfl rfl 42 noOne hb1 info_one rfl noOne_one ?_; intro w7 hs7 hb7 hg7))
    refine bodyPost_ret (v := .tuple #[.agg noOne, .int .i64 1]) (ret2_blk hb7 rfl rfl Tryz.underlying42 rfl info_one rfl) rfl ?_
    exact ⟨rfl, he1.grown hg7 (by simp)⟩


set_option maxRecDepth 100000 in
set_option maxHeartbeats 1000000 in
theorem r7Sign_yes (sv mv : Value) (seed m : List UInt8) (la ba : Int) (w : World) (hv : Sl w sv seed) (hmv : Sl w mv m) (hm : mayB ba = true) (hk : keyB seed.length la = true) (hlm : m.length ≤ 1048576) :
    Calls Tryz.prog 33 #[sv, .int .i64 la, .int .i64 ba, mv] w fun e w' => ∃ vr vo, e = .returned (.tuple #[.agg #[vr, vo], .int .i64 0]) ∧ SlD w' vr (signR seed la.toNat m ba.toNat) ∧ SlD w' vo (signO seed la.toNat m ba.toNat) ∧ Ext w w' := by
  obtain ⟨A, c, rfl, hc⟩ := hv.form
  obtain ⟨Am, cm, rfl, hcm⟩ := hmv.form
  have HV := Lib.hid hv
  have HM := Lib.hid hmv
  clear hv hmv
  obtain ⟨hm1, hm2, hm3⟩ := (mayB_iff _).1 hm
  obtain ⟨hk1, hk2, hk3⟩ := (keyB_iff _ _).1 hk
  have Hkk := Lib.hid hk
  have Hm := fun w => Lib.hid (r7May_any ba w)
  have Hk := fun w => Lib.hid (r7key_any A seed.length c la w)
  rw [hm] at Hm
  rw [hk] at Hk
  clear hm hk hm3
  obtain ⟨leaf, rfl⟩ := Int.eq_ofNat_of_zero_le hk2
  obtain ⟨bits, rfl⟩ := Int.eq_ofNat_of_zero_le (show 0 ≤ ba by omega)
  simp only [Int.toNat_natCast]
  go_enter Tryz.func33, Tryz.ntmps33
  go_wp2_with (first | (refine wpList_alloc_blk rfl 42 rfl (.agg noOne) zero_one ?_; intro w1 hs1 hb1 he1; clear hs1))
  refine ((Hm _).out).mono ?_
  rintro e w1' ⟨rfl, rfl⟩
  go_wp2_with fail
  refine ((Hk _).out).mono ?_
  rintro e w1' ⟨rfl, rfl⟩
  clear Hm Hk
  go_wp2_with (first | (refine wpList_alloc_blk rfl 42 rfl (.agg noOne) zero_one ?_; intro w2 hs2 hb2 he2; clear hs2))
  have Hs := Lib.hid (r7Sides_any _ m bits w2 (HM.out.ext (he1.trans he2)) hlm (by omega))
  have hz := msgB_length m
  obtain ⟨z, hzz⟩ : ∃ z, z = msgB m := ⟨_, rfl⟩
  rw [← hzz] at hz Hs
  have Hz := Lib.hid hzz
  clear hz hzz
  refine Hs.out.mono ?_
  rintro e w3 ⟨v3, rfl, hO3, E3⟩
  obtain ⟨A3, c3, rfl, hc3⟩ := own_form hO3
  have HS := Lib.hid (SlR.of_own hO3)
  have hA3 : ∀ b o, A3 = some ⟨b, o, none⟩ → w2.heap.size ≤ b ∧ b < w3.heap.size := by
    rintro b o rfl
    refine ⟨own_from hO3 _ rfl, ?_⟩
    obtain ⟨b', o', e, hx⟩ := HS.out.here (by omega)
    cases e
    have := World.block_lt_of_cell? w3 _ (hx 0 _ (sidesV_get z bits 0 (by omega)))
    simpa using this
  have HA3 := Lib.hid hA3
  clear hO3 Hs hA3
  have hlw : w.heap.size < w1.heap.size := hb1.lt
  have hl12 : w1.heap.size < w2.heap.size := hb2.lt
  have h23 := E3.size
  have hB3 := hb2.ext E3
  have HB3 := Lib.hid hB3
  have E23 := he2.trans E3
  clear hB3 hb2 he2
  go_wp2
  go_loopw [12] (fun i wr => ∃ k : Nat, k ≤ bits ∧ i = .int .i64 k ∧ (∃ vr vo, Blk wr w1.heap.size 42 #[vr, vo] ∧ OwnD wr w3.heap.size vr (signR seed leaf m k) ∧ OwnD wr w3.heap.size vo (signO seed leaf m k) ∧ (∀ j, vr.ownBlock = some j → vo.ownBlock ≠ some j)) ∧ SlR wr 1 (.slice A3 bits c3) bits (sidesV z bits) ∧ Ext w1 wr ∧ w3.heap.size ≤ wr.heap.size) (fun i _ => bits - (intOf i).toNat)
  case atStart => exact ⟨0, by omega, rfl, ⟨_, _, HB3.out, OwnD.none_ _ _, OwnD.none_ _ _, fun j hj => by cases hj⟩, HS.out, E23, Nat.le_refl _⟩
  case round =>
    clear HB3
    obtain ⟨k, hkb, rfl, ⟨vr, vo, hB, hR, hO, hap⟩, hsd, E, hsz⟩ := hrel
    obtain ⟨Ar, cr, rfl, hcr⟩ := hR.form
    obtain ⟨Ao, co, rfl, hco⟩ := hO.form
    rw [signR_length, signO_length] at *
    have HB := Lib.hid hB
    have HR := Lib.hid hR
    have HO := Lib.hid hO
    have Hap := Lib.hid hap
    have HSd := Lib.hid hsd
    clear hB hR hO hap hsd
    have Ew := he1.trans E
    by_cases hlt : k < bits
    · have hsd := sideB_lt z k
      obtain ⟨b3, o3, rfl, hx3⟩ := HSd.out.here (by omega)
      have hcs := hx3 k _ (sidesV_get z bits k hlt)
      obtain ⟨hb3l, hb3u⟩ := HA3.out b3 o3 rfl
      obtain ⟨sd, hsdz⟩ : ∃ sd, sd = sideB z k := ⟨_, rfl⟩
      rw [← hsdz] at hsd hcs
      have Hsd := Lib.hid hsdz
      clear hsdz hx3
      have s0 := secB_length seed leaf k sd
      have s1 := secB_length seed leaf k (1 - sd)
      have hok0 : okSec seed.length (leaf : Int) (k : Int) (sd : Int) = true := (okSec_iff _ _ _ _).2 ⟨Hkk.out, by omega, by omega, by omega, by omega⟩
      have hok1 : okSec seed.length (leaf : Int) (k : Int) (1 - (sd : Int)) = true := (okSec_iff _ _ _ _).2 ⟨Hkk.out, by omega, by omega, by omega, by omega⟩
      have Hc0 := Lib.hid (fun w' (E' : Ext w w') => r7Secret_yes (.slice A seed.length c) seed (leaf : Int) (k : Int) (sd : Int) w' (HV.out.ext E') hok0)
      have Hc1 := Lib.hid (fun w' (E' : Ext w w') => r7Secret_yes (.slice A seed.length c) seed (leaf : Int) (k : Int) (1 - (sd : Int)) w' (HV.out.ext E') hok1)
      rw [show (leaf : Int).toNat = leaf from by omega, show (k : Int).toNat = k from by omega, show (sd : Int).toNat = sd from by omega] at Hc0
      rw [show (leaf : Int).toNat = leaf from by omega, show (k : Int).toNat = k from by omega, show (1 - (sd : Int)).toNat = 1 - sd from by omega] at Hc1
      obtain ⟨z0, hz0⟩ : ∃ z, z = secB seed leaf k sd := ⟨_, rfl⟩
      obtain ⟨z1, hz1⟩ : ∃ z, z = secB seed leaf k (1 - sd) := ⟨_, rfl⟩
      rw [← hz0] at Hc0 s0
      rw [← hz1] at Hc1 s1
      have Hz0 := Lib.hid hz0
      have Hz1 := Lib.hid hz1
      have S0 := Lib.hid s0
      have S1 := Lib.hid s1
      clear hz0 hz1 s0 s1 hok0 hok1
      have i0 : Hid ((Tryz.prog.info? 33).map (·.size) = some (bytesV z0).toArray.size) := by rw [List.size_toArray, bytesV_length, S0.out]; exact info_a32
      have i1 : Hid ((Tryz.prog.info? 33).map (·.size) = some (bytesV z1).toArray.size) := by rw [List.size_toArray, bytesV_length, S1.out]; exact info_a32
      have q0 : Hid (zb32.size = (bytesV z0).toArray.size) := zb32_size _ S0.out
      have q1 : Hid (zb32.size = (bytesV z1).toArray.size) := zb32_size _ S1.out
      go_wp2_with fail
      with_reducible refine (Hc0.out _ Ew).mono ?_
      rintro e w4 ⟨rfl, E4⟩
      go_wp2_with (first | (refine wpList_alloc_blk rfl 33 rfl (.agg zb32) zero_a32 ?_; intro w5 hs5 hb5 he5; clear hs5) | (refine wpList_store_blk rfl 33 _ _ rfl w4.heap.size (bytesV z0).toArray rfl rfl 33 zb32 hb5 i0.out q0.out (bytes_one _) ?_; intro w6 hs6 hb6 hg6; have E46 : Ext w4 w6 := he5.grown hg6 (by simp); have hcs6 := (E4.trans E46).cell hcs))
      have Er6 := E4.trans E46
      clear hb5 he5 hs6 hg6 E4 E46
      with_reducible refine (Hc1.out _ (Ew.trans Er6)).mono ?_
      rintro e w7 ⟨rfl, E7⟩
      go_wp2_with (first | (refine wpList_alloc_blk rfl 33 rfl (.agg zb32) zero_a32 ?_; intro w8 hs8 hb8 he8; clear hs8) | (refine wpList_store_blk rfl 33 _ _ rfl w7.heap.size (bytesV z1).toArray rfl rfl 33 zb32 hb8 i1.out q1.out (bytes_one _) ?_; intro w9 hs9 hb9 hg9; have E79 : Ext w7 w9 := he8.grown hg9 (by simp); have E69 := E7.trans E79; have Er9 := Er6.trans E69; have D0 := hb6.ext E69; have HB9 := Lib.hid (HB.out.ext Er9); have hcr9 : w9.cell? ⟨w1.heap.size, 0, none⟩ = some (.slice Ar k cr) := HB9.out.cell 0) | (refine wpList_load_blk D0 rfl 33 _ rfl rfl Tryz.underlying33 rfl i0.out ?_) | (refine wpList_build_dg z0 S0.out rfl _ rfl rfl ?_; intro w10 E10 hs10 hn10; have HR10 := Lib.hid (HR.out.ext (Er9.trans E10)); have HB10 := Lib.hid (HB9.out.ext E10); have hs1010 : w3.heap.size ≤ w10.heap.size := (by have := Er9.size; omega)) | (at_builtin; refine wpList_appD HR10.out S0.out hn10 rfl _ _ rfl rfl rfl (by rw [signR_length]; omega) hs1010 ?_; intro v11 w11 ho11 hg11 hq11; have hn11 := HR10.out.ne HB10.out (by decide); have hB11 := HB10.out.grown hg11 (Ne.symm hn11); have hc11 : w11.cell? ⟨w1.heap.size, 0, none⟩ = some (.slice Ar k cr) := hB11.cell 0; have hf11 := hB11.frozen 0; obtain ⟨A11, c11, e11, hc11'⟩ := ho11.form; rw [List.length_append, signR_length, List.length_singleton] at e11; subst e11; have HB11 := Lib.hid hB11; have HO11 := Lib.hid ho11; have Hg11 := Lib.hid hg11; have Hq11 := Lib.hid hq11; clear hB11 ho11 hg11 hq11 hn11))
      have hR12 : OwnD (w11.setCell ⟨w1.heap.size, 0, none⟩ (.slice A11 (k + 1) c11)) w3.heap.size (.slice A11 (k + 1) c11) (signR seed leaf m (k + 1)) := by
        rw [signR_succ, ← Hz.out, ← Hsd.out, ← Hz0.out]; exact HO11.out.set HB11.out (by decide)
      have HO10 := Lib.hid (HO.out.ext (Er9.trans E10))
      have hO11 := HO10.out.apart Hg11.out (fun j hj e => Hap.out j e hj)
      have hO12 := hO11.set (o := 0) (u := .slice A11 (k + 1) c11) HB11.out (by decide)
      have hB12 : Blk (w11.setCell ⟨w1.heap.size, 0, none⟩ (.slice A11 (k + 1) c11)) w1.heap.size 42 #[.slice A11 (k + 1) c11, .slice Ao k co] := HB11.out.set 0 _
      have hap12 := apart_app Hap.out HO10.out.lt Hq11.out
      have Er10 := Er9.trans E10
      have hfr : ∀ j, (Value.slice Ar k cr).ownBlock = some j → w1.heap.size ≤ j := fun j hj => by have := HR.out.from j hj; omega
      have E12' : Ext w1 (w11.setCell ⟨w1.heap.size, 0, none⟩ (.slice A11 (k + 1) c11)) := ((E.trans Er10).grown Hg11.out hfr).setCell (by simp) _
      have h69 := E69.size
      have h7r := E7.size
      have h6r := Er6.size
      have h1r := E.size
      have hD1 : Blk (w11.setCell ⟨w1.heap.size, 0, none⟩ (.slice A11 (k + 1) c11)) w7.heap.size 33 (bytesV z1).toArray :=
        ((hb9.ext E10).grown Hg11.out (fun e => by have := HR.out.lt _ e.symm; omega)).far (by simp; omega) _
      have hS12 : SlR (w11.setCell ⟨w1.heap.size, 0, none⟩ (.slice A11 (k + 1) c11)) 1 (.slice (some ⟨b3, o3, none⟩) bits c3) bits (sidesV z bits) := by
        have h1 := (HSd.out.ext Er10).far Hg11.out (fun b o e e' => by cases e; have := HR.out.from _ e'; omega)
        exact h1.far (grown_setCell _ _ _ _) (fun b o e e' => by cases e; injection e' with e'; omega)
      have hz12 : w10.heap.size ≤ (w11.setCell ⟨w1.heap.size, 0, none⟩ (.slice A11 (k + 1) c11)).heap.size := by simp [World.setCell]; exact Hg11.out.size
      clear hf11 hc11 hc11' HB11 HO11 Hg11 Hq11 HR10 HO10 HB10 HB9 hn10 hO11 D0 hcr9 hcs6
      revert hR12 hO12 hB12 E12' hD1 hS12 hz12
      generalize w11.setCell ⟨w1.heap.size, 0, none⟩ (.slice A11 (k + 1) c11) = w12
      intro hR12 hO12 hB12 E12' hD1 hS12 hz12
      have HR12 := Lib.hid hR12
      have HO12 := Lib.hid hO12
      have HB12 := Lib.hid hB12
      have Hap12 := Lib.hid hap12
      have HS12 := Lib.hid hS12
      have HD1 := Lib.hid hD1
      have Hr := Lib.hid (fun w' (E' : Ext w12 w') => rOf_any (.slice (some ⟨w7.heap.size, 0, none⟩) 32 32) z1 w' (by have := sl_of_blk (hD1.ext E'); rw [S1.out] at this; exact this) (by rw [S1.out]; omega))
      clear hR12 hO12 hB12 hap12 Hap hS12 hD1 HR HO HB HSd hb6 hb9 hb8 he8 hs9 hg9
      have hd0 : w12.drew.cell? ⟨w1.heap.size, 1, none⟩ = some (.slice Ao k co) := HB12.out.cell 1
      go_wp2
      refine wp_region_chain 5 [(true, 0), (true, 1), (true, 2), (false, 3), (false, 4)] (fun w' => w'.cell? ⟨w1.heap.size, 1, none⟩ = some (.slice Ao k co)) (by kernel_rfl) (by kernel_rfl) hd0 ?_
      iterate 3
        refine wpTake_read _ _ ?_ rfl rfl ?_ ?_
        rotate_left 1
        focus
          intro wS hS
          try dsimp only at hS
          go_simp
          first | done | with_reducible rfl
        simp only [Act.put, List.setIfInBounds_toArray, List.set_cons_zero, List.set_cons_succ]
      refine wpTake_do _ _ rfl rfl (fun K hK' => ?_)
      go_simp
      with_reducible refine (Hr.out _ (Ext.refl w12).drew).mono ?_
      rintro e w13 ⟨rfl, E13⟩
      have E13' : Ext w12 w13 := (Ext.refl w12).drew.trans E13
      refine hK' _ _ (E13.cell hd0) ?_
      clear hK' K
      have hc13 := E13.cell hd0
      clear hd0 E13
      refine wpTake_do _ _ rfl rfl (fun K hK' => ?_)
      refine wp_build_dg (sumB z1) (sumB_length _) _ rfl rfl ?_
      intro w14 E14 hs14 hnew
      have E14' : Ext w12 w14 := E13'.trans E14
      refine hK' _ _ (E14.cell hc13) ?_
      clear hK' K
      refine wpTake_nil ?_
      simp only [Act.put, List.setIfInBounds_toArray, List.set_cons_zero, List.set_cons_succ, List.drop_succ_cons, List.drop_zero]
      have HO14 := Lib.hid (HO12.out.ext E14')
      have Hnew := Lib.hid hnew
      have HB14 := Lib.hid (HB12.out.ext E14')
      have HR14 := Lib.hid (HR12.out.ext E14')
      have HS14 := Lib.hid (HS12.out.ext E14')
      have Ew14 := E12'.trans E14'
      have hz14 := E14'.size
      have hs1414 : w3.heap.size ≤ w14.heap.size := by omega
      clear hnew HR12 HO12 HB12 HS12 hc13 E13' E14 hs14
      go_wp2_with (at_builtin; refine wpList_appD HO14.out (sumB_length z1) Hnew.out rfl _ _ rfl rfl rfl (by rw [signO_length]; omega) hs1414 ?_; intro v15 w15 ho15 hg15 hq15; have hn15 := HO14.out.ne HB14.out (by decide); have hB15 := HB14.out.grown hg15 (Ne.symm hn15); have hc15 : w15.cell? ⟨w1.heap.size, 1, none⟩ = some (.slice Ao k co) := hB15.cell 1; have hf15 := hB15.frozen 1; obtain ⟨A15, c15, e15, hc15'⟩ := ho15.form; rw [List.length_append, signO_length, List.length_singleton] at e15; subst e15; have HB15 := Lib.hid hB15; have HO15 := Lib.hid ho15; have Hg15 := Lib.hid hg15; have Hq15 := Lib.hid hq15; clear hB15 ho15 hg15 hq15 hn15)
      refine NoPanic.normal ?_
      have hO16 : OwnD (w15.setCell ⟨w1.heap.size, 1, none⟩ (.slice A15 (k + 1) c15)) w3.heap.size (.slice A15 (k + 1) c15) (signO seed leaf m (k + 1)) := by
        rw [signO_succ, ← Hz.out, ← Hsd.out, ← Hz1.out]; exact HO15.out.set HB15.out (by decide)
      have hR15 := HR14.out.apart Hg15.out (fun j hj => Hap12.out j hj)
      have hR16 := hR15.set (o := 1) (u := .slice A15 (k + 1) c15) HB15.out (by decide)
      have hB16 : Blk (w15.setCell ⟨w1.heap.size, 1, none⟩ (.slice A15 (k + 1) c15)) w1.heap.size 42 #[.slice A11 (k + 1) c11, .slice A15 (k + 1) c15] := HB15.out.set 1 _
      have hap16 : ∀ j, (Value.slice A11 (k + 1) c11).ownBlock = some j → (Value.slice A15 (k + 1) c15).ownBlock ≠ some j := fun j hj e => apart_app (v := .slice Ao k co) (u := .slice A11 (k + 1) c11) (fun j h1 h2 => Hap12.out j h2 h1) HR14.out.lt Hq15.out j e hj
      have hfr2 : ∀ j, (Value.slice Ao k co).ownBlock = some j → w1.heap.size ≤ j := fun j hj => by have := HO14.out.from j hj; omega
      have E16 : Ext w1 (w15.setCell ⟨w1.heap.size, 1, none⟩ (.slice A15 (k + 1) c15)) := (Ew14.grown Hg15.out hfr2).setCell (by simp) _
      have hS16 : SlR (w15.setCell ⟨w1.heap.size, 1, none⟩ (.slice A15 (k + 1) c15)) 1 (.slice (some ⟨b3, o3, none⟩) bits c3) bits (sidesV z bits) := by
        have h1 := HS14.out.far Hg15.out (fun b o e e' => by cases e; have := HO14.out.from _ e'; omega)
        exact h1.far (grown_setCell _ _ _ _) (fun b o e e' => by cases e; injection e' with e'; omega)
      have hz16 : w3.heap.size ≤ (w15.setCell ⟨w1.heap.size, 1, none⟩ (.slice A15 (k + 1) c15)).heap.size := by have := Hg15.out.size; simp [World.setCell]; omega
      clear hf15 hc15 hc15' HB15 HO15 Hg15 Hq15 HR14 HO14 HB14 Hnew hR15 HS14
      go_wp2
      go_roundw
      case rel => exact ⟨k + 1, by omega, by go_num, ⟨_, _, hB16, hR16, hO16, hap16⟩, hS16, E16, hz16⟩
      case measure => simp [intOf]; omega
    · obtain rfl : k = bits := by omega
      have hB1 := hb1.ext E
      go_wp2_with (first | (refine wpList_load_blk HB.out rfl 42 _ rfl rfl Tryz.underlying42 rfl info_one ?_) | (refine wpList_store_blk rfl 42 _ _ rfl w.heap.size _ rfl rfl 42 noOne hB1 info_one rfl (two_one _ _ _ _ _ _) ?_; intro w7 hs7 hb7 hg7))
      refine bodyPost_ret (v := .tuple #[.agg #[.slice Ar k cr, .slice Ao k co], .int .i64 0]) (ret2_blk hb7 rfl rfl Tryz.underlying42 rfl info_one rfl) rfl ?_
      have hne : ∀ (u : Value) (ds : List (List UInt8)), OwnD wr w3.heap.size u ds → SlD w7 u ds := fun u ds h => (h.apart hg7 (fun j hj e => by have := h.from j hj; injection e with e; omega)).sl
      exact ⟨_, _, rfl, hne _ _ HR.out, hne _ _ HO.out, Ew.grown hg7 (by simp)⟩
end Go.Proofs.YtddbmddblhjkkaaGreatDoor
/- lamport: what a signature implies: contracts of whole, Implied and Encode. -/
namespace Go.Proofs.YtddbmddblhjkkaaGreatDoor
open Go.RowKit

def wholeB (nr no : Nat) : Bool := decide (nr = no) && mayB nr
theorem wholeB_iff (nr no : Nat) : wholeB nr no = true ↔ nr = no ∧ mayB nr = true := by simp [wholeB]
def impS (m : List UInt8) (rev oth : List (List UInt8)) (k : Nat) : List UInt8 := ((List.range k).map fun b => if sideB (msgB m) b = 0 then sumB (dAt rev b) ++ dAt oth b else dAt oth b ++ sumB (dAt rev b)).flatten
def impB (m : List UInt8) (rev oth : List (List UInt8)) : List UInt8 := digB (impS m rev oth rev.length)
theorem impB_length (m : List UInt8) (rev oth : List (List UInt8)) : (impB m rev oth).length = 32 := digB_length _
theorem impS_succ (m : List UInt8) (rev oth : List (List UInt8)) (k : Nat) : impS m rev oth (k + 1) = impS m rev oth k ++ (if sideB (msgB m) k = 0 then sumB (dAt rev k) ++ dAt oth k else dAt oth k ++ sumB (dAt rev k)) := by simp [impS, List.range_succ]
theorem impS_length (m : List UInt8) (rev oth : List (List UInt8)) (k : Nat) (ho : dsOk oth) (hk : k ≤ oth.length) : (impS m rev oth k).length = 64 * k := by
  induction k with
  | zero => rfl
  | succ k ih =>
    have h1 : (dAt oth k).length = 32 := by rw [dAt_eq (by omega)]; exact ho _ (List.getElem_mem _)
    rw [impS_succ, List.length_append, ih (by omega)]
    split <;> simp [sumB_length, h1] <;> omega
def encS (rev oth : List (List UInt8)) (k : Nat) : List UInt8 := ((List.range k).map fun b => dAt rev b ++ dAt oth b).flatten
theorem encS_succ (rev oth : List (List UInt8)) (k : Nat) : encS rev oth (k + 1) = encS rev oth k ++ (dAt rev k ++ dAt oth k) := by simp [encS, List.range_succ]
theorem encS_length (rev oth : List (List UInt8)) (k : Nat) (hr : dsOk rev) (ho : dsOk oth) (hkr : k ≤ rev.length) (hk : k ≤ oth.length) : (encS rev oth k).length = 64 * k := by
  induction k with
  | zero => rfl
  | succ k ih =>
    have h1 : (dAt oth k).length = 32 := by rw [dAt_eq (by omega)]; exact ho _ (List.getElem_mem _)
    have h2 : (dAt rev k).length = 32 := by rw [dAt_eq (by omega)]; exact hr _ (List.getElem_mem _)
    rw [encS_succ, List.length_append, ih (by omega) (by omega)]
    simp [h1, h2]
    omega
/-- what is signed implies the leaf's key -/
theorem impS_sign (seed m : List UInt8) (leaf bits k : Nat) (hk : k ≤ bits) : impS m (signR seed leaf m bits) (signO seed leaf m bits) k = leafS seed leaf k := by
  induction k with
  | zero => simp [impS, leafS]
  | succ k ih =>
    rw [impS_succ, leafS_succ, ih (by omega)]
    have hr : dAt (signR seed leaf m bits) k = secB seed leaf k (sideB (msgB m) k) := by simp [dAt, signR, show k < bits by omega]
    have ho : dAt (signO seed leaf m bits) k = sumB (secB seed leaf k (1 - sideB (msgB m) k)) := by simp [dAt, signO, show k < bits by omega]
    rw [hr, ho]
    have hs := sideB_lt (msgB m) k
    by_cases h0 : sideB (msgB m) k = 0
    · rw [if_pos h0, h0]
    · rw [if_neg h0, show sideB (msgB m) k = 1 by omega]
theorem impB_sign (seed m : List UInt8) (leaf bits : Nat) : impB m (signR seed leaf m bits) (signO seed leaf m bits) = leafB seed leaf bits := by
  rw [impB, signR_length, impS_sign _ _ _ _ _ (Nat.le_refl _)]
  rfl

set_option maxRecDepth 100000 in
set_option maxHeartbeats 400000 in
theorem lwhole_any (Ar Ao : Option Addr) (nr no cr co : Nat) (w : World) :
    Calls Tryz.prog 65 #[.agg #[.slice Ar nr cr, .slice Ao no co]] w fun e w' => e = .returned (.bool (wholeB nr no)) ∧ Ext w w' := by
  by_cases h : nr = no
  · have hm : wholeB nr no = mayB nr := by simp [wholeB, h]
    have hb : ((nr : Int) == (no : Int)) = true := by simp [h]
    rw [hm]
    have Hm := fun w => Lib.hid (lMay_any (nr : Int) w)
    clear h hm
    go_enter Tryz.func65, Tryz.ntmps65
    go_wp2_with fail
    refine (Hm _).out.mono ?_
    rintro e w1 ⟨rfl, rfl⟩
    go_wp2
    go_ret
    exact ⟨rfl, (Ext.refl w).alloc _⟩
  · have hm : wholeB nr no = false := by simp [wholeB, h]
    have hb : ((nr : Int) == (no : Int)) = false := by simp; omega
    rw [hm]
    clear h hm
    go_enter Tryz.func65, Tryz.ntmps65
    go_wp2
    go_ret
    exact ⟨rfl, (Ext.refl w).alloc _⟩

/-- a block of two slices -/
theorem one_cells {w : World} {g : Nat} {a b : Value} (h : Blk w g 42 #[a, b]) : w.cell? ⟨g, 0, none⟩ = some a ∧ w.cell? ⟨g, 1, none⟩ = some b := ⟨h.cell 0, h.cell 1⟩

set_option maxRecDepth 100000 in
set_option maxHeartbeats 400000 in
theorem lImplied_no (mv : Value) (Ar Ao : Option Addr) (nr no cr co : Nat) (w : World) (hno : wholeB nr no = false) :
    Calls Tryz.prog 37 #[mv, .agg #[.slice Ar nr cr, .slice Ao no co]] w fun e w' => e = .returned (.tuple #[.agg zb32, .int .i64 1]) ∧ Ext w w' := by
  have Hw := fun w => Lib.hid (lwhole_any Ar Ao nr no cr co w)
  rw [hno] at Hw
  clear hno
  go_enter Tryz.func37, Tryz.ntmps37
  have hB0 := Blk.new w 42 #[.slice Ar nr cr, .slice Ao no co]
  go_wp2_with (first | (refine wpList_alloc_blk rfl 33 rfl (.agg zb32) zero_a32 ?_; intro w1 hs1 hb1 he1; clear hs1) | (refine wpList_load_blk (hB0.ext he1) rfl 42 _ rfl rfl Tryz.underlying42 rfl info_one ?_))
  refine (Hw _).out.mono ?_
  rintro e w2 ⟨rfl, E2⟩
  have hb2 := hb1.ext E2
  simp only [World.size_alloc] at hb2
  go_wp2_with (first | (refine wpList_build_to rfl 33 _ rfl zb32 (by kernel_rfl) ?_) | (refine wpList_store_blk rfl 33 _ _ rfl (w.heap.size + 1) zb32 rfl rfl 33 zb32 hb2 info_a32 rfl zb32_one ?_; intro w7 hs7 hb7 hg7))
  refine bodyPost_ret (v := .tuple #[.agg zb32, .int .i64 1]) (ret2_blk hb7 rfl rfl Tryz.underlying33 rfl info_a32 rfl) rfl ?_
  exact ⟨rfl, ((((Ext.refl w).alloc _).trans he1).trans E2).grown hg7 (by simp)⟩

set_option maxRecDepth 100000 in
set_option maxHeartbeats 1000000 in
theorem lImplied_yes (mv rv ov : Value) (m : List UInt8) (rev oth : List (List UInt8)) (w : World) (hK : Kst w) (hmv : Sl w mv m) (hr : SlD w rv rev) (ho : SlD w ov oth) (hw : wholeB rev.length oth.length = true) (hlm : m.length ≤ 1048576) :
    Calls Tryz.prog 37 #[mv, .agg #[rv, ov]] w fun e w' => e = .returned (.tuple #[dgV (impB m rev oth), .int .i64 0]) ∧ Ext w w' := by
  obtain ⟨Am, cm, rfl, hcm⟩ := hmv.form
  obtain ⟨Ar, cr, rfl, hcr⟩ := hr.form
  obtain ⟨Ao, co, rfl, hco⟩ := ho.form
  have HM := Lib.hid hmv
  have HR := Lib.hid hr
  have HO := Lib.hid ho
  have Hw := fun w => Lib.hid (lwhole_any Ar Ao rev.length oth.length cr co w)
  rw [hw] at Hw
  obtain ⟨hwe, hwm⟩ := (wholeB_iff _ _).1 hw
  obtain ⟨hm1, hm2, _⟩ := (mayB_iff _).1 hwm
  have Hwe := Lib.hid hwe
  have hle : oth.length ≤ 256 := by omega
  clear hmv hr ho hw hwm hwe
  have hz := msgB_length m
  obtain ⟨z, hzz⟩ : ∃ z, z = msgB m := ⟨_, rfl⟩
  rw [← hzz] at hz
  have Hz := Lib.hid hzz
  have HL := Lib.hid hz
  clear hz hzz
  have hl := impB_length m rev oth
  obtain ⟨y, hy⟩ : ∃ y, y = impB m rev oth := ⟨_, rfl⟩
  rw [← hy] at hl ⊢
  have Hl := Lib.hid hl
  have Hy := Lib.hid hy
  clear hl hy
  have hz32 : Hid (zb32.size = (bytesV y).toArray.size) := zb32_size _ Hl.out
  have hi32 : Hid ((Tryz.prog.info? 33).map (·.size) = some (bytesV y).toArray.size) := by rw [List.size_toArray, bytesV_length, Hl.out]; exact info_a32
  go_enter Tryz.func37, Tryz.ntmps37
  have hB0 := Blk.new w 42 #[.slice Ar rev.length cr, .slice Ao oth.length co]
  go_wp2_with (first | (refine wpList_alloc_blk rfl 33 rfl (.agg zb32) zero_a32 ?_; intro w1 hs1 hb1 he1; clear hs1) | (refine wpList_load_blk (hB0.ext he1) rfl 42 _ rfl rfl Tryz.underlying42 rfl info_one ?_))
  refine (Hw _).out.mono ?_
  rintro e w2 ⟨rfl, E2⟩
  simp only [World.size_alloc] at hb1
  have hb2 := hb1.ext E2
  have E12 := he1.trans E2
  have hB2 := hB0.ext E12
  have Ew2 : Ext w w2 := ((Ext.refl w).alloc _).trans E12
  clear hb1 hB0 he1 E2 E12 Hw
  have Hof := Lib.hid (lof_any _ m w2 (hK.ext Ew2) (HM.out.ext Ew2) hlm)
  rw [← Hz.out] at Hof
  go_wp2_with fail
  refine Hof.out.mono ?_
  rintro e w3 ⟨rfl, E3⟩
  clear Hof
  have hb3 := hb2.ext E3
  have hB3 := hB2.ext E3
  have Ew3 := Ew2.trans E3
  have HB3 := Lib.hid hB3
  have hr3 := (one_cells hB3).1
  have hlw : w.heap.size + 1 < w3.heap.size := hb3.lt
  have hr3' := ((Ext.refl w3).alloc (.cells #[.slice none 0 0] 100)).cell hr3
  clear hb2 hB2 E3 Ew2 hB3
  go_wp2
  have hg0 : Blk (w3.alloc (.cells #[.slice none 0 0] 100)) w3.heap.size 100 #[.slice none 0 0] := Blk.new w3 _ _
  have E0 : Ext w3 (w3.alloc (.cells #[.slice none 0 0] 100)) := (Ext.refl w3).alloc _
  clear hr3 hr3'
  go_loopw [28] (fun i wr => ∃ k : Nat, k ≤ rev.length ∧ i = .int .i64 k ∧ (∃ v, Blk wr w3.heap.size 100 #[v] ∧ Own wr w3.heap.size v (impS m rev oth k)) ∧ Ext w3 wr) (fun i _ => rev.length - (intOf i).toNat)
  case atStart => exact ⟨0, by omega, rfl, ⟨_, hg0, Own.none_ _ _⟩, E0⟩
  case round =>
    clear hg0 E0
    obtain ⟨k, hkb, rfl, ⟨v, hB, hO⟩, E⟩ := hrel
    have hlen := impS_length m rev oth k HO.out.2 (by rw [← Hwe.out]; omega)
    have HB := Lib.hid hB
    have HOw := Lib.hid hO
    have Hlen := Lib.hid hlen
    clear hB hO hlen
    have Ew := Ew3.trans E
    by_cases hlt : k < rev.length
    · obtain ⟨br, or, rfl, hcr'⟩ := (HR.out.ext Ew).at_ hlt
      obtain ⟨bo, oo, rfl, hco'⟩ := (HO.out.ext Ew).at_ (show k < oth.length by have := Hwe.out; omega)
      have hlr := HR.out.len hlt
      have hlo := HO.out.len (show k < oth.length by have := Hwe.out; omega)
      have hdr := dAt_eq hlt
      have hdo := dAt_eq (show k < oth.length by have := Hwe.out; omega)
      rw [← hdr] at hcr' hlr
      rw [← hdo] at hco' hlo
      obtain ⟨x, hx⟩ : ∃ x, x = dAt rev k := ⟨_, rfl⟩
      obtain ⟨t, ht⟩ : ∃ t, t = dAt oth k := ⟨_, rfl⟩
      rw [← hx] at hcr' hlr
      rw [← ht] at hco' hlo
      have Hx := Lib.hid hx
      have Ht := Lib.hid ht
      have Hlr := Lib.hid hlr
      have Hlo := Lib.hid hlo
      have Hcr := Lib.hid hcr'
      have Hco := Lib.hid hco'
      clear hx ht hlr hlo hcr' hco' hdr hdo
      have ix : Hid ((Tryz.prog.info? 33).map (·.size) = some (bytesV x).toArray.size) := by rw [List.size_toArray, bytesV_length, Hlr.out]; exact info_a32
      have qx : Hid (zb32.size = (bytesV x).toArray.size) := zb32_size _ Hlr.out
      have hkl : k < oth.length := by have := Hwe.out; omega
      have hsd := sideB_lt z k
      obtain ⟨sd, hsdz⟩ : ∃ sd, sd = sideB z k := ⟨_, rfl⟩
      rw [← hsdz] at hsd
      have Hsd := Lib.hid hsdz
      clear hsdz
      have Hside := Lib.hid (fun w' => lside_any z HL.out k (by omega) w')
      rw [← Hsd.out] at Hside
      go_wp2_with (first | (refine wpList_load_dg Hcr.out Hlr.out rfl _ rfl rfl ?_) | (refine wpList_alloc_blk rfl 33 rfl (.agg zb32) zero_a32 ?_; intro w4 hs4 hb4 he4; clear hs4) | (refine wpList_store_blk rfl 33 _ _ rfl wr.heap.size (bytesV x).toArray rfl rfl 33 zb32 hb4 ix.out qx.out (bytes_one _) ?_; intro w5 hs5 hb5 hg5))
      have E5 : Ext wr w5 := he4.grown hg5 (by simp)
      clear hb4 he4 hs5 hg5
      with_reducible refine (Hside.out _).mono ?_
      rintro e w6 ⟨rfl, E6⟩
      have D6 := hb5.ext E6
      have E36 := (E.trans E5).trans E6
      have Er6 := E5.trans E6
      have hov := (one_cells (HB3.out.ext E36)).2
      have HB6 := Lib.hid (HB.out.ext Er6)
      have HO6 := Lib.hid (HOw.out.ext Er6)
      have hco6 := Hco.out.ext Er6
      clear hb5 E5 E6
      have hcases : sd = 0 ∨ sd = 1 := by omega
      rcases hcases with h0 | h0
      focus
        subst h0
        go_wp2
        have Hsum := Lib.hid (fun w' (E' : Ext w6 w') => lsum_any x Hlr.out w' (hK.ext ((Ew3.trans E36).trans E')))
        refine wp_region_chain 8 [(true, 0), (true, 1), (true, 3), (true, 4), (true, 5), (true, 6), (true, 7), (false, 2)] (fun w' => Ext w6 w') (by kernel_rfl) (by kernel_rfl) (Ext.refl w6).drew ?_
        iterate 1
          refine wpTake_read _ _ ?_ rfl rfl ?_ ?_
          rotate_left 1
          focus
            intro wS hS
            try dsimp only at hS
            go_simp
            first | done | with_reducible rfl
          simp only [Act.put, List.setIfInBounds_toArray, List.set_cons_zero, List.set_cons_succ]
        refine wpTake_load _ _ rfl rfl 33 _ rfl (.agg (bytesV x).toArray) (fun wS hS => load_dg (D6.ext hS) Hlr.out) ?_
        simp only [Act.put, List.setIfInBounds_toArray, List.set_cons_zero, List.set_cons_succ]
        iterate 4
          refine wpTake_read _ _ ?_ rfl rfl ?_ ?_
          rotate_left 1
          focus
            intro wS hS
            try dsimp only at hS
            have hov' := Ext.cell hS hov
            go_simp
            first | done | with_reducible rfl
          simp only [Act.put, List.setIfInBounds_toArray, List.set_cons_zero, List.set_cons_succ]
        refine wpTake_load _ _ rfl rfl 33 _ rfl (.agg (bytesV t).toArray) (fun wS hS => run_load_dg (hco6.ext hS) Hlo.out) ?_
        simp only [Act.put, List.setIfInBounds_toArray, List.set_cons_zero, List.set_cons_succ]
        refine wpTake_do _ _ rfl rfl (fun K hK' => ?_)
        go_simp
        with_reducible refine (Hsum.out _ (Ext.refl w6).drew).mono ?_
        rintro e w7 ⟨rfl, E7⟩
        have E67 : Ext w6 w7 := (Ext.refl w6).drew.trans E7
        refine hK' _ _ E67 ?_
        clear hK' K
        refine wpTake_nil ?_
        simp only [List.drop_succ_cons, List.drop_zero]
        have Hadd := Lib.hid (ladd_any w3.heap.size w3.heap.size v (impS m rev oth k) (sumB x) t w7 (HB6.out.ext E67) (HO6.out.ext E67) (Nat.le_refl _) (sumB_length _) Hlo.out (by rw [Hlen.out]; omega))
        have hstep : Hid (impS m rev oth (k + 1) = impS m rev oth k ++ (sumB x ++ t)) := by show _ = _; rw [impS_succ, ← Hz.out, if_pos Hsd.out.symm, ← Hx.out, ← Ht.out]
      rotate_left
      focus
        subst h0
        go_wp2
        have Hsum := Lib.hid (fun w' (E' : Ext w6 w') => lsum_any x Hlr.out w' (hK.ext ((Ew3.trans E36).trans E')))
        refine wp_region_chain 8 [(true, 0), (true, 1), (true, 2), (true, 3), (true, 4), (true, 5), (true, 6), (false, 7)] (fun w' => Ext w6 w') (by kernel_rfl) (by kernel_rfl) (Ext.refl w6).drew ?_
        iterate 5
          refine wpTake_read _ _ ?_ rfl rfl ?_ ?_
          rotate_left 1
          focus
            intro wS hS
            try dsimp only at hS
            have hov' := Ext.cell hS hov
            go_simp
            first | done | with_reducible rfl
          simp only [Act.put, List.setIfInBounds_toArray, List.set_cons_zero, List.set_cons_succ]
        refine wpTake_load _ _ rfl rfl 33 _ rfl (.agg (bytesV t).toArray) (fun wS hS => run_load_dg (hco6.ext hS) Hlo.out) ?_
        simp only [Act.put, List.setIfInBounds_toArray, List.set_cons_zero, List.set_cons_succ]
        refine wpTake_load _ _ rfl rfl 33 _ rfl (.agg (bytesV x).toArray) (fun wS hS => load_dg (D6.ext hS) Hlr.out) ?_
        simp only [Act.put, List.setIfInBounds_toArray, List.set_cons_zero, List.set_cons_succ]
        refine wpTake_do _ _ rfl rfl (fun K hK' => ?_)
        go_simp
        with_reducible refine (Hsum.out _ (Ext.refl w6).drew).mono ?_
        rintro e w7 ⟨rfl, E7⟩
        have E67 : Ext w6 w7 := (Ext.refl w6).drew.trans E7
        refine hK' _ _ E67 ?_
        clear hK' K
        refine wpTake_nil ?_
        simp only [List.drop_succ_cons, List.drop_zero]
        have Hadd := Lib.hid (ladd_any w3.heap.size w3.heap.size v (impS m rev oth k) t (sumB x) w7 (HB6.out.ext E67) (HO6.out.ext E67) (Nat.le_refl _) Hlo.out (sumB_length _) (by rw [Hlen.out]; omega))
        have hstep : Hid (impS m rev oth (k + 1) = impS m rev oth k ++ (t ++ sumB x)) := by show _ = _; rw [impS_succ, ← Hz.out, if_neg (by rw [← Hsd.out]; omega), ← Hx.out, ← Ht.out]
      all_goals
        have E37 := E36.trans E67
        clear E7 Hsum HB6 HO6 hco6 hov D6 Er6
        go_wp2_with fail
        with_reducible refine Hadd.out.mono ?_
        rintro e w8 ⟨rfl, v', hB8, hO8, hb8⟩
        have E8 : Ext w3 w8 := E37.below hb8
        rw [← hstep.out] at hO8
        have HB8 := Lib.hid hB8
        have HO8 := Lib.hid hO8
        clear hB8 hO8 hb8 Hadd hstep
        go_wp2
        refine NoPanic.normal ?_
        go_wp2
        go_roundw
        case rel => exact ⟨k + 1, by omega, by go_num, ⟨v', HB8.out, HO8.out⟩, E8⟩
        case measure => simp [intOf]; omega
    · obtain rfl : k = rev.length := by omega
      have Hc := Lib.hid (ldigest_any w3.heap.size v (impS m rev oth rev.length) wr (hK.ext Ew) HB.out HOw.out.sl (by rw [Hlen.out]; omega))
      rw [show digB (impS m rev oth rev.length) = y from Hy.out.symm] at Hc
      go_wp2_with fail
      refine Hc.out.mono ?_
      rintro e w4 ⟨rfl, E4⟩
      have B4 := hb3.ext (E.trans E4)
      go_wp2_with (first | (refine wpList_store_blk rfl 33 _ _ rfl (w.heap.size + 1) (bytesV y).toArray rfl rfl 33 zb32 B4 hi32.out hz32.out (bytes_one _) ?_; intro w7 hs7 hb7 hg7))
      refine bodyPost_ret (v := .tuple #[dgV y, .int .i64 0]) (ret2_blk hb7 rfl rfl Tryz.underlying33 rfl hi32.out rfl) rfl ?_
      exact ⟨rfl, (Ew.trans E4).grown hg7 (by simp)⟩
end Go.Proofs.YtddbmddblhjkkaaGreatDoor
/- lamport: contracts of pursuivantref07.Implied, of Encode of both, of pursuivantref07.Same at equal signatures, and of Decode where it may not be. -/
namespace Go.Proofs.YtddbmddblhjkkaaGreatDoor
open Go.RowKit


end Go.Proofs.YtddbmddblhjkkaaGreatDoor
