/- Part 6 of the texts: JoinE OnceA JoinF SgnQ MerG RefA RefB SgnR SgnS SgnT SgnU SgnV SgnW WSignerPublics. -/
import Derived.Test.YtddbmddblhjkkaaGreatDoorMgA5
import Derived.Test.YtddbmddblhjkkaaGreatDoorMgA4
import Derived.Deep.Strs
import Derived.Test.YtddbmddblhjkkaaGreatDoorMgA3
import Derived.Laws.MakeOwn
/- Arguments that are public keys, signatures and calls of a signer, opened. -/
namespace Go.Proofs.YtddbmddblhjkkaaGreatDoor
open Go.ChangeShapes Go.WideShapes Go.ChangeAt Go.RowKit

section
variable {H : Type} {enc : TypeId × Value → H}
theorem cells_int : Tryz.prog.cellsOf 3 = 1 := by kernel_rfl
theorem i64_wf {x : Int} (wx : (Lit.int .i64 x).wf = true) : -9223372036854775808 ≤ x ∧ x ≤ 9223372036854775807 := by
  simp [Lit.wf, IntKind.min, IntKind.max, IntKind.signed, IntKind.bits] at wx
  omega
end
end Go.Proofs.YtddbmddblhjkkaaGreatDoor
/- What Sign and SignAt come to, whatever is asked; a slice of calls in memory. -/
namespace Go.Proofs.YtddbmddblhjkkaaGreatDoor
open Go.RowKit Go.Maps

/-- one call -/
structure OpV where
  kind : Int
  leaf : Int
  mv : Value
  m : List UInt8
def SlO (w : World) (v : Value) (l : List OpV) : Prop :=
  ∃ A c, v = .slice A l.length c ∧ l.length ≤ c ∧ ∀ (j : Nat) (x : OpV), l[j]? = some x → ∃ b o, A = some ⟨b, o, none⟩ ∧ w.cell? ⟨b, o + j * 3, none⟩ = some (.int .i64 x.kind) ∧ w.cell? ⟨b, o + j * 3 + 1, none⟩ = some (.int .i64 x.leaf) ∧
    w.cell? ⟨b, o + j * 3 + 2, none⟩ = some x.mv ∧ Sl w x.mv x.m ∧ -9223372036854775808 ≤ x.leaf ∧ x.leaf ≤ 9223372036854775807

/-- what is signed here: the answer, what the signer is then -/
def Signed (S M : Nat) (seed : List UInt8) (u : Int → Option (List UInt8)) (n : Nat) (m : List UInt8) (w : World) (e : Ending) (w' : World) : Prop :=
  ∃ (i : Int) (rv ov pv : Value) (f : Int) (u' : Int → Option (List UInt8)) (n' : Nat), e = .returned (.tuple #[.agg #[.int .i64 i, rv, ov, pv], .int .i64 f]) ∧ (#[.int .i64 i, rv, ov, pv] : Array Value).all (·.oneCell') = true ∧
    Sgn w' S M seed 8 2 u' n' ∧ n' ≤ n + 1 ∧ Mv M w w' ∧ (∀ j t, u j = some t → u' j = some t) ∧ (f = 0 → 0 ≤ i ∧ i < 4 ∧ u' i = some m) ∧ ∀ k : Int, rv ≠ .int .u8 k ∧ ov ≠ .int .u8 k ∧ pv ≠ .int .u8 k

theorem signed_no {S M : Nat} {seed : List UInt8} {u : Int → Option (List UInt8)} {n : Nat} {m : List UInt8} {w w' : World} {e : Ending} {f : Int} (s : Sgn w S M seed 8 2 u n) (he : e = .returned (.tuple #[.agg noSig, .int .i64 f])) (E : Ext w w') (hf : f ≠ 0) : Signed S M seed u n m w e w' :=
  ⟨0, _, _, _, f, u, n, he, noSig_one, s.ext E, by omega, Mv.of_ext E s.um.isMap, fun _ _ h => h, fun h => absurd h hf, fun k => ⟨fun e => (by cases e), fun e => (by cases e), fun e => (by cases e)⟩⟩
theorem least_or (u : Int → Option (List UInt8)) (n : Nat) : (∀ j : Nat, j < n → (u j).isSome = true) ∨ ∃ i : Nat, i < n ∧ u i = none ∧ ∀ j : Nat, j < i → (u j).isSome = true := by
  induction n with
  | zero => exact .inl (fun j hj => absurd hj (by omega))
  | succ n ih =>
    rcases ih with h | ⟨i, hi, h1, h2⟩
    · cases hu : u n with
      | none => exact .inr ⟨n, by omega, hu, h⟩
      | some t =>
        refine .inl (fun j hj => ?_)
        by_cases hjn : j < n
        · exact h j hjn
        · obtain rfl : j = n := by omega
          rw [hu]; rfl
    · exact .inr ⟨i, by omega, h1, h2⟩

theorem sign_once (S M : Nat) (seed : List UInt8) (u : Int → Option (List UInt8)) (n : Nat) (w : World) (hK : Kst w) (s : Sgn w S M seed 8 2 u n) (mv : Value) (m : List UInt8) (hm : Sl w mv m) (hl : m.length ≤ 3000) (hn : n ≤ 1000) :
    Calls Tryz.prog 9 #[.pointer (some ⟨S, 0, none⟩), mv] w (Signed S M seed u n m w) := by
  rcases least_or u (2 ^ 2) with h | ⟨i, hi, h1, h2⟩
  · exact (sSign_spent S M seed 8 2 u n w s mv m hm (by omega) h).mono fun e w' ⟨he, E⟩ => signed_no s he E (by decide)
  · refine (sSign_yes S M seed 8 2 u n w hK s mv m hm (by omega) i hi hn h1 h2).mono ?_
    rintro e w' ⟨rv, ov, pv, he, p1, p2, p3, s', hM⟩
    obtain ⟨A1, c1, rfl, _⟩ := p1.form
    obtain ⟨A2, c2, rfl, _⟩ := p2.form
    obtain ⟨A3, c3, rfl, _⟩ := p3.form
    refine ⟨i, _, _, _, 0, _, _, he, sig_one _ _ _ _ _ _ _ _ _ _, s', Nat.le_refl _, hM, fun j t hj => ?_, fun _ => ⟨by omega, by have : i < 4 := hi; omega, by simp⟩, fun k => ⟨fun e => (by cases e), fun e => (by cases e), fun e => (by cases e)⟩⟩
    by_cases hji : j = (i : Int)
    · rw [hji, h1] at hj; cases hj
    · rw [if_neg hji]; exact hj
theorem signAt_once (S M : Nat) (seed : List UInt8) (u : Int → Option (List UInt8)) (n : Nat) (w : World) (hK : Kst w) (s : Sgn w S M seed 8 2 u n) (l : Int) (mv : Value) (m : List UInt8) (hm : Sl w mv m) (hl : m.length ≤ 3000) (hn : n ≤ 1000) :
    Calls Tryz.prog 11 #[.pointer (some ⟨S, 0, none⟩), .int .i64 l, mv] w (Signed S M seed u n m w) := by
  by_cases hin : 0 ≤ l ∧ l < 4
  · obtain ⟨i, rfl⟩ : ∃ i : Nat, l = i := ⟨l.toNat, by omega⟩
    have hi : i < 2 ^ 2 := by omega
    have yes : ∀ (hu : u i = none ∨ u i = some m), Calls Tryz.prog 11 #[.pointer (some ⟨S, 0, none⟩), .int .i64 (i : Int), mv] w (Signed S M seed u n m w) := fun hu => by
      refine (sSignAt_yes S M seed 8 2 u n w hK s i mv m hm (by omega) hi hn hu).mono ?_
      rintro e w' ⟨rv, ov, pv, he, p1, p2, p3, s', hM⟩
      obtain ⟨A1, c1, rfl, _⟩ := p1.form
      obtain ⟨A2, c2, rfl, _⟩ := p2.form
      obtain ⟨A3, c3, rfl, _⟩ := p3.form
      refine ⟨i, _, _, _, 0, _, _, he, sig_one _ _ _ _ _ _ _ _ _ _, s', by split <;> omega, hM, fun j t hj => ?_, fun _ => ⟨by omega, by omega, by simp⟩, fun k => ⟨fun e => (by cases e), fun e => (by cases e), fun e => (by cases e)⟩⟩
      by_cases hji : j = (i : Int)
      · rw [hji] at hj
        rw [if_pos hji]
        rcases hu with hu | hu
        · rw [hu] at hj; cases hj
        · rw [← hu]; exact hj
      · rw [if_neg hji]; exact hj
    cases hu : u i with
    | none => exact yes (.inl hu)
    | some t =>
      by_cases htm : t = m
      · exact yes (.inr (by rw [hu, htm]))
      · exact (sSignAt_used S M seed 8 2 u n w hK s i mv m t hm (by omega) hi hu htm).mono fun e w' ⟨he, E⟩ => signed_no s he E (by decide)
  · exact (sSignAt_none S M seed 8 2 u n w hK s l mv m hm (by omega) (by have : ((2 ^ 2 : Nat) : Int) = 4 := rfl; omega)).mono fun e w' ⟨he, E⟩ => signed_no s he E (by decide)
end Go.Proofs.YtddbmddblhjkkaaGreatDoor
/- An argument that is a slice of calls, opened. -/
namespace Go.Proofs.YtddbmddblhjkkaaGreatDoor
open Go.ChangeShapes Go.WideShapes Go.ChangeAt Go.RowKit

section
variable {H : Type} {enc : TypeId × Value → H}
theorem cells_op3 : Tryz.prog.cellsOf 39 = 3 := by kernel_rfl
set_option maxRecDepth 100000 in
theorem trod_op {w : World} {base : Nat} {spare : Nat → Bool} {held : Bool} {fuel : Nat} {cs : List Value} {x : DataW H × List MemPlace} (h : DataW.trod enc Tryz.prog w base spare held fuel 39 cs = some x) :
    ∃ y : OpV, cs = [.int .i64 y.kind, .int .i64 y.leaf, y.mv] ∧ Sl w y.mv y.m ∧ -9223372036854775808 ≤ y.leaf ∧ y.leaf ≤ 9223372036854775807 := by
  obtain ⟨y0, y1, y2, n, _, hl, h0, h1, h2⟩ := Deep.trod_struct3 Tryz.underlying39 h
  rw [cells_op3] at hl
  match cs, hl with
  | [u0, u1, u2], _ =>
    dsimp only at h0 h1 h2
    rw [cells_int] at h0 h1
    rw [cells_bytes] at h2
    obtain ⟨i0, e0, _, _⟩ := DataW.trod_int Tryz.underlying3 h0
    obtain ⟨i1, e1, _, w1⟩ := DataW.trod_int Tryz.underlying3 h1
    obtain ⟨m, hm, _⟩ := trod_bytes h2
    simp at e0 e1
    subst e0 e1
    exact ⟨⟨i0, i1, u2, m⟩, rfl, hm, i64_wf w1⟩
set_option maxRecDepth 100000 in
theorem open_ops {w : World} {r : Reach} {b0 : Nat} {base : Nat} {spare : Nat → Bool} {held : Bool} {v : Value} {d : DataW H} {ps : List MemPlace} (hval : Value.okWide Tryz.prog w r b0 23 v) (h : DataW.Trod enc Tryz.prog w base spare held 23 v d ps) : ∃ l : List OpV, SlO w v l := by
  obtain ⟨a1, len0, cap0, rfl⟩ := okWide_slice Tryz.underlying23 hval
  obtain ⟨fuel, hf0⟩ := h
  have hf : DataW.trod enc Tryz.prog w base spare held fuel 23 [.slice a1 len0 cap0] = some (d, ps) := hf0
  rcases Deep.open_slice Tryz.underlying23 hf with ⟨hcs, _⟩ | ⟨a, len, cap, m, n, D, Pl, hcs, _, hl, hm, hmm, _, hx⟩
  · simp at hcs
    obtain ⟨rfl, rfl, rfl⟩ := hcs
    exact ⟨[], none, 0, rfl, by simp, fun j x hj => by simp at hj⟩
  · simp at hcs
    obtain ⟨rfl, rfl, rfl⟩ := hcs
    rw [cells_op3] at hx
    have hlm : len0 ≤ m := by rw [hmm]; split <;> omega
    by_cases h0 : len0 = 0
    · subst h0
      exact ⟨[], some a, cap0, rfl, by simp, fun j x hj => by simp at hj⟩
    · obtain ⟨ab, ao, spot⟩ := a
      have hspot : spot = none := by
        obtain ⟨cs', h1, h2⟩ := hx 0 (by omega)
        obtain ⟨y, rfl, _⟩ := trod_op h2
        obtain ⟨_, _, h3⟩ := World.cells?_some h1
        have q0 : w.cell? ((Addr.add ⟨ab, ao, spot⟩ (0 * 3)).add 0) = some (.int .i64 y.kind) := h3 0 (by omega)
        simpa [Addr.add] using World.cell?_spot q0
      subst hspot
      obtain ⟨l, hll, hds⟩ := list_of len0 (fun i (y : OpV) => (w.cell? ⟨ab, ao + i * 3, none⟩ = some (.int .i64 y.kind) ∧ w.cell? ⟨ab, ao + i * 3 + 1, none⟩ = some (.int .i64 y.leaf) ∧ w.cell? ⟨ab, ao + i * 3 + 2, none⟩ = some y.mv) ∧ Sl w y.mv y.m ∧ -9223372036854775808 ≤ y.leaf ∧ y.leaf ≤ 9223372036854775807) (fun i hi => by
        obtain ⟨cs', h1, h2⟩ := hx i (by omega)
        obtain ⟨y, rfl, hy⟩ := trod_op h2
        obtain ⟨_, _, h3⟩ := World.cells?_some h1
        have q0 := h3 0 (by omega)
        have q1 := h3 1 (by omega)
        have q2 := h3 2 (by omega)
        rw [Addr.add_lit, Addr.add_lit] at q0 q1 q2
        exact ⟨y, ⟨q0, q1, q2⟩, hy⟩)
      refine ⟨l, some ⟨ab, ao, none⟩, cap0, by rw [hll], by omega, fun j x hj => ?_⟩
      obtain ⟨⟨p0, p1, p2⟩, hS, hb⟩ := hds j x hj
      exact ⟨ab, ao, rfl, p0, p1, p2, hS, hb⟩
end
end Go.Proofs.YtddbmddblhjkkaaGreatDoor
/- What stays of a signer in memory where a block turns that is none of its own; operations of a drawing region that are left out. -/
namespace Go.Proofs.YtddbmddblhjkkaaGreatDoor
open Go.RowKit Go.Maps

theorem nu_of {w : World} {g : Nat} {t : TypeId} {cs : Array Value} (hb : Blk w g t cs) (h : ∀ v ∈ cs.toList, ∀ k : Int, v ≠ .int .u8 k) : ∀ (o : Nat) (k : Int), w.cell? ⟨g, o, none⟩ ≠ some (.int .u8 k) := fun o k e => by
  rw [hb.cell] at e
  exact h _ (by rw [← Array.getElem?_toList] at e; exact List.mem_of_getElem? e) k rfl
theorem sgn_grown {w w' : World} {S M : Nat} {seed : List UInt8} {b h : Nat} {u : Int → Option (List UInt8)} {n g : Nat} {t : TypeId} {cs : Array Value} (s : Sgn w S M seed b h u n) (hg : w.grownBy w' (some g)) (hb : Blk w g t cs) (ht : t ≠ 61)
    (hnu : ∀ (o : Nat) (k : Int), w.cell? ⟨g, o, none⟩ ≠ some (.int .u8 k)) : Sgn w' S M seed b h u n := by
  obtain ⟨sv, lv, hB, hS, hD⟩ := s.ex
  refine ⟨⟨sv, lv, hB.grown hg ?_, hS.grown hg hnu, ?_⟩, s.um.row (e := t) (fun j e => by cases e; exact ⟨_, _, hb⟩) hg, s.may, s.len⟩
  · intro e
    injection e with e
    subst e
    have h3 := hB.symm.trans hb
    injection h3 with h3
    injection h3 with _ h3
    exact ht h3.symm
  · refine ⟨SlR.kept hD.1 (fun b o u hu hm => ?_), hD.2⟩
    obtain ⟨k, rfl⟩ := bytesV_kind _ u hm
    by_cases hbg : b = g
    · subst hbg; exact absurd hu (hnu o k)
    · exact hg.cell hu (by simpa using hbg)
theorem wpTake_skip {P : Program} {ops : Array Oper} {Q : Exit → Act → World → Prop} {S : World → Prop} {L : Act → World → Prop} {i : Nat} {rest : List (Bool × Nat)} {a : Act} {w : World} (o : Oper) (r : List Oper) (ho : ops.toList.drop i = o :: r) (hw : Region.wanted o (yielded ops a.tmps) = false)
    (h : wpTake P ops Q S L rest (a.put o.dst undef) w) : wpTake P ops Q S L ((true, i) :: rest) a w := ⟨o, undef, at_of_drop ho, .inr ⟨hw, rfl⟩, h⟩

theorem wp_skip {P : Program} {o : Oper} {a : Act} {w w' : World} {K : Act → World → Prop} {Q : Exit → Act → World → Prop} (ho : (execOp a.eval o).run P w = .ok .skip w') (h : K (a.put o.dst undef) w') : o.wp P a w K Q := by
  unfold Oper.wp
  rw [ho]
  exact h
end Go.Proofs.YtddbmddblhjkkaaGreatDoor
/- pursuivantref08: Way of a leaf that is there; Climb. -/
namespace Go.Proofs.YtddbmddblhjkkaaGreatDoor
open Go.RowKit

theorem cells_blk {w : World} {g : Nat} {t : TypeId} {d : List UInt8} (h : Blk w g t (bytesV d).toArray) : Cells w g 0 (bytesV d) := fun j v hv => by
  rw [Nat.zero_add, h.cell]
  simpa using hv

set_option maxRecDepth 100000 in
set_option maxHeartbeats 1000000 in
theorem r8Way_yes (v : Value) (ds : List (List UInt8)) (H i : Nat) (w : World) (hv : SlD w v ds) (hl : ds.length = 2 ^ H) (hH : H ≤ 6) (hi : i < 2 ^ H) :
    Calls Tryz.prog 34 #[v, .int .i64 (i : Int)] w fun e w' => ∃ vo, e = .returned vo ∧ SlD w' vo (wayT ds i H) ∧ Ext w w' := by
  obtain ⟨A, c, rfl, hc⟩ := hv.form
  have Hy := Lib.hid (r8Levels_yes _ ds H w hv hl hH)
  have hlv := levels_length ds (H + 1)
  have Hl := Lib.hid hl
  have Hlv := Lib.hid hlv
  have hle := pow_le hH
  have H64 := Lib.hid (Nat.lt_of_lt_of_le hi hle)
  have Hi := Lib.hid hi
  clear hv hl hlv hi
  go_enter Tryz.func34, Tryz.ntmps34
  go_wp2_with fail
  with_reducible refine Hy.out.mono ?_
  rintro e w2 ⟨vo, rfl, S2, E2⟩
  obtain ⟨b, o, u, hA, hx1, hx2⟩ : ∃ b o u, vo = .slice (some ⟨b, o, none⟩) (H + 1) u ∧ True ∧ True := by
    obtain ⟨Ao, co, rfl, hco⟩ := S2.form
    obtain ⟨b, o, u, rfl, _⟩ := S2.at_ (k := 0) rfl (by rw [Hlv.out]; omega)
    exact ⟨b, o, co, by rw [Hlv.out], trivial, trivial⟩
  subst hA
  have HV := Lib.hid S2
  clear Hy S2 hx1 hx2
  have e1 : IntKind.i64.wrap (((H + 1 : Nat) : Int) - 1) = (H : Int) := by rw [IntWalk.i64_in _ (by omega)]; omega
  go_wp2
  go_loopw [1, 7, 8] (fun j out n wr => ∃ k : Nat, k ≤ H ∧ n = .int .i64 (k : Int) ∧ j = .int .i64 ((i / 2 ^ k : Nat) : Int) ∧ OwnD wr w2.heap.size out (wayT ds i k) ∧ Ext w2 wr) (fun _ _ n _ => H - (intOf n).toNat)
  case atStart => exact ⟨0, by omega, rfl, by simp, OwnD.none_ _ _, Ext.refl _⟩
  case round =>
    obtain ⟨k, hk, rfl, rfl, hO, E⟩ := hrel
    have hwl := wayT_length ds i k
    obtain ⟨Ao, co, rfl, hco⟩ := hO.form
    rw [hwl] at hO hco ⊢
    have HO := Lib.hid hO
    clear hO
    by_cases hlt : k < H
    · have hin := way_in Hl.out Hi.out hlt
      obtain ⟨b', o', u', hA, hcell, hu⟩ := (HV.out.ext E).at_ (k := k) Hlv.out.symm (by rw [Hlv.out]; omega)
      obtain ⟨rfl, rfl⟩ : b = b' ∧ o = o' := by simpa using hA
      have hge : (levels ds (H + 1))[k]'(by rw [Hlv.out]; omega) = lev ds k := by simp [levels]
      rw [hge] at hu
      obtain ⟨Au, cu, rfl, hcu⟩ := hu.form
      obtain ⟨bu, ou, rfl, hcd⟩ := hu.at_ hin
      have hld := hu.len hin
      have hws := wayT_succ ds i k
      rw [dAt_eq hin] at hws
      have hp2 : i / 2 ^ (k + 1) = i / 2 ^ k / 2 := by rw [Nat.pow_succ, ← Nat.div_div_eq_div_mul]
      have hpb0 : i / 2 ^ k ≤ 64 := by have := Nat.div_le_self i (2 ^ k); have := H64.out; omega
      obtain ⟨p, hp⟩ : ∃ p, p = i / 2 ^ k := ⟨_, rfl⟩
      obtain ⟨q, hq⟩ : ∃ q, q = bes p := ⟨_, rfl⟩
      obtain ⟨z, hz⟩ : ∃ z, z = (lev ds k)[bes (i / 2 ^ k)] := ⟨_, rfl⟩
      obtain ⟨n, hn⟩ : ∃ n, n = (lev ds k).length := ⟨_, rfl⟩
      rw [← hz] at hcd hld hws
      rw [← hp, ← hq] at hcd hin
      rw [← hp] at hpb0 hp2 ⊢
      rw [← hn] at hcell hcu hin
      unfold bes at hq
      have Hcd := Lib.hid hcd
      have Hld := Lib.hid hld
      have Hws := Lib.hid hws
      have Hp2 := Lib.hid hp2
      have Hwl := Lib.hid hwl
      have hsz := E.size
      have hqn : (q : Int) < (n : Int) := by omega
      clear hcd hld hws hp hz hn hge hu hA hp2 hwl hin
      by_cases h2 : p % 2 = 1
      · have hb : (((p : Int) % 2) == 1) = true := by rw [beq_iff_eq]; omega
        rw [if_pos h2] at hq
        have e2 : IntKind.i64.wrap ((p : Int) - 1) = (q : Int) := by rw [IntWalk.i64_in _ (by omega)]; omega
        have Hq := Lib.hid hq
        clear hq
        go_wp2_with (first | (refine wpList_load_dg Hcd.out Hld.out rfl _ rfl rfl ?_) | (refine wpList_build_dg z Hld.out rfl _ rfl rfl ?_; intro w6 E6 hs6 hnew; have HN6 := Lib.hid hnew; have HO6 := Lib.hid (HO.out.ext E6); clear hnew hs6) | (at_builtin; refine wpList_appD HO6.out Hld.out HN6.out rfl _ _ rfl rfl rfl (by rw [Hwl.out]; omega) (by have := E6.size; omega) ?_; intro v7 w7 ho7 hg7 hq7))
        have E7 := (E.trans E6).grown hg7 HO6.out.from
        rw [← Hws.out] at ho7
        go_roundw
        case rel => exact ⟨k + 1, hlt, by go_num, by rw [Hp2.out]; go_num, ho7, E7⟩
        case measure => simp [intOf]; omega
      · have hb : (((p : Int) % 2) == 1) = false := by rw [beq_eq_false_iff_ne]; omega
        rw [if_neg h2] at hq
        have e2 : IntKind.i64.wrap ((p : Int) + 1) = (q : Int) := by rw [IntWalk.i64_in _ (by omega)]; omega
        have Hq := Lib.hid hq
        clear hq
        go_wp2_with (first | (refine wpList_load_dg Hcd.out Hld.out rfl _ rfl rfl ?_) | (refine wpList_build_dg z Hld.out rfl _ rfl rfl ?_; intro w6 E6 hs6 hnew; have HN6 := Lib.hid hnew; have HO6 := Lib.hid (HO.out.ext E6); clear hnew hs6) | (at_builtin; refine wpList_appD HO6.out Hld.out HN6.out rfl _ _ rfl rfl rfl (by rw [Hwl.out]; omega) (by have := E6.size; omega) ?_; intro v7 w7 ho7 hg7 hq7))
        have E7 := (E.trans E6).grown hg7 HO6.out.from
        rw [← Hws.out] at ho7
        go_roundw
        case rel => exact ⟨k + 1, hlt, by go_num, by rw [Hp2.out]; go_num, ho7, E7⟩
        case measure => simp [intOf]; omega
    · obtain rfl : k = H := by omega
      clear hwl
      go_wp2
      go_ret
      exact ⟨_, rfl, HO.out.sl, E2.trans E⟩

end Go.Proofs.YtddbmddblhjkkaaGreatDoor
/- The reference's May and Verify of a signer. -/
namespace Go.Proofs.YtddbmddblhjkkaaGreatDoor
open Go.RowKit Go.Maps

end Go.Proofs.YtddbmddblhjkkaaGreatDoor
/- The reference's public part of a signer. -/
namespace Go.Proofs.YtddbmddblhjkkaaGreatDoor
open Go.RowKit Go.Maps

set_option maxRecDepth 100000 in
set_option maxHeartbeats 400000 in
theorem r9may_any (A : Option Addr) (n c : Nat) (b h : Int) (w : World) : Calls Tryz.prog 27 #[.slice A n c, .int .i64 b, .int .i64 h] w fun e w' => e = .returned (.bool (decide (n ≤ 64) && mayK b h)) ∧ w = w' := by
  have Hm := fun w => Lib.hid (r7May_any b w)
  have Hk : Hid (mayK b h = (mayB b && (decide (0 ≤ h) && decide (h ≤ 6)))) := Lib.hid rfl
  by_cases hn : (n : Int) ≤ 64
  · have hd : decide (n ≤ 64) = true := decide_eq_true (by omega)
    rw [hd, Bool.true_and]
    clear hd
    cases hm : mayB b with
    | false =>
      rw [hm] at Hm Hk
      go_enter Tryz.func27, Tryz.ntmps27
      go_wp2_with fail
      with_reducible refine (Hm _).out.mono ?_
      rintro e w2 ⟨rfl, rfl⟩
      go_wp2
      go_ret
      exact ⟨by rw [Hk.out]; rfl, rfl⟩
    | true =>
      rw [hm] at Hm Hk
      by_cases h0 : 0 ≤ h
      · by_cases h6 : h ≤ 6
        all_goals
          go_enter Tryz.func27, Tryz.ntmps27
          go_wp2_with fail
          with_reducible refine (Hm _).out.mono ?_
          rintro e w2 ⟨rfl, rfl⟩
          go_wp2
          go_ret
          exact ⟨by rw [Hk.out]; simp [h0, h6], rfl⟩
      · go_enter Tryz.func27, Tryz.ntmps27
        go_wp2_with fail
        with_reducible refine (Hm _).out.mono ?_
        rintro e w2 ⟨rfl, rfl⟩
        go_wp2
        go_ret
        exact ⟨by rw [Hk.out]; simp; omega, rfl⟩
  · have hd : decide (n ≤ 64) = false := decide_eq_false (by omega)
    rw [hd, Bool.false_and]
    clear hd Hm Hk
    go_enter Tryz.func27, Tryz.ntmps27
    go_wp2
    go_ret
    exact ⟨rfl, rfl⟩

set_option maxRecDepth 100000 in
set_option maxHeartbeats 1000000 in
theorem r9Leaves_any (v : Value) (seed : List UInt8) (b h : Nat) (w : World) (hv : Sl w v seed) (hl : seed.length ≤ 64) (hm : mayK b h = true) :
    Calls Tryz.prog 29 #[v, .int .i64 (b : Int), .int .i64 (h : Int)] w fun e w' => ∃ v', e = .returned v' ∧ SlD w' v' (lvsB seed b h) ∧ Ext w w' := by
  obtain ⟨hmb, h0, h6⟩ := (mayK_iff _ _).1 hm
  have hle := pow_le (show h ≤ 6 by omega)
  obtain ⟨N, hN⟩ : ∃ N, N = 2 ^ h := ⟨_, rfl⟩
  have hw : wrap64 ((2 : Int) ^ h) = (N : Int) := by rw [wrap_pow (by omega), hN]; simp
  rw [← hN] at hle
  have Hlf := Lib.hid (fun (k : Nat) w' (E : Ext w w') (hk : k ≤ 64) => r7Leaf_yes v seed (k : Int) (b : Int) w' (hv.ext E) hmb ((keyB_iff _ _).2 ⟨hl, by omega, by omega⟩))
  simp only [Int.toNat_natCast] at Hlf
  have HN := Lib.hid hN
  clear hm hmb hN hv
  go_enter Tryz.func29, Tryz.ntmps29
  go_wp2
  go_loopw [7, 8] (fun o i wr => ∃ k : Nat, k ≤ N ∧ i = .int .i64 k ∧ OwnD wr w.heap.size o (lvsT seed b k) ∧ Ext w wr) (fun _ i _ => N - (intOf i).toNat)
  case atStart => exact ⟨0, by omega, rfl, OwnD.none_ _ _, by first | exact Ext.refl _ | exact (Ext.refl _).alloc _⟩
  case round =>
    obtain ⟨k, hk, rfl, hO, E⟩ := hrel
    have hll := lvsT_length seed b k
    obtain ⟨Al, cl, rfl, hcl⟩ := hO.form
    rw [hll] at hcl hO ⊢
    by_cases hlt : k < N
    · have hlti : (k : Int) < (N : Int) := by omega
      have Hc := Lib.hid (Hlf.out k wr E (by omega))
      have hzl := leafB_length seed k b
      have hst := lvsT_succ seed b k
      obtain ⟨z, hz⟩ : ∃ z, z = leafB seed k b := ⟨_, rfl⟩
      rw [← hz] at Hc hzl hst
      have Hz := Lib.hid hzl
      have Hst := Lib.hid hst
      have HO := Lib.hid hO
      have Hll := Lib.hid hll
      have iz := dg_i z hzl
      have sz := zb32_size z hzl
      clear hz hzl hst hO hll
      go_wp2_with fail
      with_reducible refine Hc.out.mono ?_
      rintro e w2 ⟨rfl, E2⟩
      have HO2 := Lib.hid (HO.out.ext E2)
      have F2 := E.trans E2
      clear Hc HO E2 E
      go_wp2_with (first | (have _ := D3; refine wpList_load_blk D3 rfl 33 _ rfl rfl Tryz.underlying33 rfl iz ?_) | (have _ := D3; refine wpList_build_dg z Hz.out rfl _ rfl rfl ?_; intro w4 E4 hs4 hnew; have HO4 := Lib.hid (HO3.out.ext E4); have Hnew := Lib.hid hnew; have F4 := F3.trans E4; clear hnew hs4) | (have _ := D3; at_builtin; refine wpList_appD HO4.out Hz.out Hnew.out rfl _ _ rfl rfl rfl (by rw [Hll.out]; omega) F4.size ?_; intro v5 w5 ho5 hg5 hq5) | (refine wpList_var rfl rfl 33 rfl _ _ rfl (.agg zb32) zero_a32 (bytesV z).toArray rfl rfl iz sz (bytes_one _) ?_; intro w3 D3 E3; have HO3 := Lib.hid (HO2.out.ext E3); have F3 := F2.trans E3))
      have O5 : OwnD w5 w.heap.size v5 (lvsT seed b (k + 1)) := by rw [Hst.out]; exact ho5
      have F5 := F4.grown hg5 HO4.out.from
      exact ⟨⟨k + 1, by omega, by go_num, O5, F5⟩, by simp [intOf]; omega⟩
    · obtain rfl : k = N := by omega
      have e1 : lvsT seed b k = lvsB seed b h := by rw [HN.out]; exact lvsT_full seed b h
      have hS : SlD wr (.slice Al k cl) (lvsB seed b h) := by rw [← e1]; exact hO.sl
      clear hO hll
      go_wp2
      go_ret
      exact ⟨_, rfl, hS, E⟩

set_option maxRecDepth 100000 in
theorem pk_full' (b h : Int) (x0 x1 x2 x3 x4 x5 x6 x7 x8 x9 x10 x11 x12 x13 x14 x15 x16 x17 x18 x19 x20 x21 x22 x23 x24 x25 x26 x27 x28 x29 x30 x31 : UInt8) : Tryz.prog.built 35 [(0, .int .i64 b), (1, .int .i64 h), (2, .agg (bytesV [x0, x1, x2, x3, x4, x5, x6, x7, x8, x9, x10, x11, x12, x13, x14, x15, x16, x17, x18, x19, x20, x21, x22, x23, x24, x25, x26, x27, x28, x29, x30, x31]).toArray)] = some (pkC b h [x0, x1, x2, x3, x4, x5, x6, x7, x8, x9, x10, x11, x12, x13, x14, x15, x16, x17, x18, x19, x20, x21, x22, x23, x24, x25, x26, x27, x28, x29, x30, x31]) := by kernel_rfl
theorem pk_full (b h : Int) (r : List UInt8) (hr : r.length = 32) : Tryz.prog.built 35 [(0, .int .i64 b), (1, .int .i64 h), (2, .agg (bytesV r).toArray)] = some (pkC b h r) :=
  match r, hr with
  | [x0, x1, x2, x3, x4, x5, x6, x7, x8, x9, x10, x11, x12, x13, x14, x15, x16, x17, x18, x19, x20, x21, x22, x23, x24, x25, x26, x27, x28, x29, x30, x31], _ => pk_full' b h x0 x1 x2 x3 x4 x5 x6 x7 x8 x9 x10 x11 x12 x13 x14 x15 x16 x17 x18 x19 x20 x21 x22 x23 x24 x25 x26 x27 x28 x29 x30 x31

set_option maxRecDepth 100000 in
set_option maxHeartbeats 400000 in
theorem r9Public_no (A : Option Addr) (n c : Nat) (b h : Int) (w : World) (hno : (decide (n ≤ 64) && mayK b h) = false) :
    Calls Tryz.prog 8 #[.slice A n c, .int .i64 b, .int .i64 h] w fun e w' => e = .returned (.tuple #[.agg zeroPk, .int .i64 1]) ∧ Ext w w' := by
  have hi := info_pkC 0 0 (List.replicate 32 0) (by simp)
  have Hm := fun w => Lib.hid (r9may_any A n c b h w)
  rw [hno] at Hm
  clear hno
  go_enter Tryz.func8, Tryz.ntmps8
  go_wp2_with (first | (refine wpList_alloc_blk rfl 35 rfl (.agg zeroPk) zero_pk ?_; intro w1 hs1 hb1 he1; clear hs1))
  with_reducible refine (Hm _).out.mono ?_
  rintro e w2 ⟨rfl, rfl⟩
  go_wp2_with (first | (refine wpList_build_to rfl 35 _ rfl zeroPk (by kernel_rfl) ?_) | (refine wpList_store_blk rfl 35 _ _ rfl w.heap.size zeroPk rfl rfl 35 zeroPk hb1 hi rfl (pkC_one _ _ _) ?_; intro w7 hs7 hb7 hg7))
  refine bodyPost_ret (v := .tuple #[.agg zeroPk, .int .i64 1]) (ret2_blk hb7 rfl rfl Tryz.underlying35 rfl hi rfl) rfl ?_
  exact ⟨rfl, he1.grown hg7 (by simp)⟩

set_option maxRecDepth 100000 in
set_option maxHeartbeats 1000000 in
theorem r9Public_yes (v : Value) (seed : List UInt8) (b h : Nat) (w : World) (hv : Sl w v seed) (hl : seed.length ≤ 64) (hm : mayK b h = true) :
    Calls Tryz.prog 8 #[v, .int .i64 (b : Int), .int .i64 (h : Int)] w fun e w' => e = .returned (.tuple #[.agg (pkC b h (pubB seed b h)), .int .i64 0]) ∧ Ext w w' := by
  obtain ⟨A, c, rfl, hc⟩ := SlR.form hv
  obtain ⟨hmb, h0, h6⟩ := (mayK_iff _ _).1 hm
  have Hm := fun w => Lib.hid (r9may_any A seed.length c b h w)
  rw [hm, decide_eq_true hl] at Hm
  have Hlv := Lib.hid (fun w' (E : Ext w w') => r9Leaves_any (.slice A seed.length c) seed b h w' (hv.ext E) hl hm)
  have Hle := Lib.hid (fun v' w' (hs : SlD w' v' (lvsB seed b h)) => r8Levels_yes v' (lvsB seed b h) h w' hs (lvsB_length _ _ _) (by omega))
  have hr := pubB_length seed b h
  have hrd : pubB seed b h = dAt (lev (lvsB seed b h) h) 0 := rfl
  have hlv := levels_length (lvsB seed b h) (h + 1)
  have hlg := levels_get (lvsB seed b h) (h + 1) h (by omega)
  have hll := lev_length (lvsB_length seed b h) h (Nat.le_refl _)
  rw [Nat.sub_self] at hll
  obtain ⟨r, hre⟩ : ∃ r, r = pubB seed b h := ⟨_, rfl⟩
  obtain ⟨lss, hls⟩ : ∃ l, l = levels (lvsB seed b h) (h + 1) := ⟨_, rfl⟩
  obtain ⟨lh, hlh⟩ : ∃ l, l = lev (lvsB seed b h) h := ⟨_, rfl⟩
  rw [← hre] at hr hrd ⊢
  rw [← hls] at hlv hlg Hle
  rw [← hlh] at hlg hrd hll
  have hi := info_pkC b h r hr
  have hs := zeroPk_size b h r hr
  have hf := pk_full b h r hr
  have Hrd := Lib.hid hrd
  have Hr := Lib.hid hr
  have Hlv2 := Lib.hid hlv
  have Hlg := Lib.hid hlg
  have Hll := Lib.hid hll
  have hh6 : h ≤ 6 := by omega
  clear hv hm hmb h0 h6 hre hls hlh hrd hr hlv hlg hll
  go_enter Tryz.func8, Tryz.ntmps8
  go_wp2_with (first | (refine wpList_alloc_blk rfl 35 rfl (.agg zeroPk) zero_pk ?_; intro w1 hs1 hb1 he1; clear hs1))
  with_reducible refine (Hm _).out.mono ?_
  rintro e w2 ⟨rfl, rfl⟩
  go_wp2_with fail
  with_reducible refine (Hlv.out _ he1).mono ?_
  rintro e w3 ⟨v3, rfl, hS3, E3⟩
  have F3 := he1.trans E3
  replace hb1 := hb1.ext E3
  have Hle3 := Lib.hid (Hle.out _ _ hS3)
  clear he1 E3 Hlv Hm Hle hS3
  go_wp2_with fail
  with_reducible refine Hle3.out.mono ?_
  rintro e w4 ⟨v4, rfl, hS4, E4⟩
  have F4 := F3.trans E4
  replace hb1 := hb1.ext E4
  obtain ⟨A4, c4, rfl, hc4⟩ := hS4.form
  rw [Hlv2.out] at hS4 hc4 ⊢
  obtain ⟨b4, o4, u4, rfl, hcu, hSu⟩ := hS4.at_ Hlv2.out.symm (k := h) (by rw [Hlv2.out]; omega)
  have hge : lss[h]'(by rw [Hlv2.out]; omega) = lh := by
    have := Hlg.out
    rw [List.getElem?_eq_getElem (by rw [Hlv2.out]; omega)] at this
    injection this
  rw [hge] at hSu
  obtain ⟨Au, cu, rfl, hcu'⟩ := hSu.form
  rw [show lh.length = 1 from Hll.out] at hcu hcu'
  obtain ⟨b5, o5, rfl, hcd⟩ := hSu.at_ (k := 0) (by rw [Hll.out]; decide)
  rw [← dAt_eq, ← Hrd.out, Nat.zero_mul, Nat.add_zero] at hcd
  have Hcd := Lib.hid hcd
  clear Hle3 F3 E4 hS4 hSu hcd hge
  have hsub : IntKind.i64.wrap (((h + 1 : Nat) : Int) - 1) = (h : Int) := by rw [show (((h + 1 : Nat) : Int) - 1) = (h : Int) by omega]; exact IntWalk.i64_in _ (by omega)
  go_wp2_with (first | (refine wpList_load_dg Hcd.out Hr.out rfl _ rfl rfl ?_; refine wpList_build_to rfl 35 _ rfl (pkC b h r) (by simp only [List.map_toArray, List.map_cons, List.map_nil]; exact hf) ?_) | (refine wpList_store_blk rfl 35 _ _ rfl w.heap.size (pkC b h r) rfl rfl 35 zeroPk hb1 hi hs (pkC_one _ _ _) ?_; intro w7 hs7 hb7 hg7))
  refine bodyPost_ret (v := .tuple #[.agg (pkC b h r), .int .i64 0]) (ret2_blk hb7 rfl rfl Tryz.underlying35 rfl hi rfl) rfl ?_
  exact ⟨rfl, F4.grown hg7 (by simp)⟩
end Go.Proofs.YtddbmddblhjkkaaGreatDoor
/- The reference's signer in memory; what a call comes to. -/
namespace Go.Proofs.YtddbmddblhjkkaaGreatDoor
open Go.RowKit Go.Maps

def usedV (u : Int → Option (List UInt8)) (N : Nat) : List Value := (List.range N).map fun i : Nat => .bool (u (i : Int)).isSome
def forV (u : Int → Option (List UInt8)) (N : Nat) : List Value := (List.range N).map fun i : Nat => .string (strB' ((u (i : Int)).getD []))
def putU (u : Int → Option (List UInt8)) (i : Nat) (m : List UInt8) : Int → Option (List UInt8) := fun j => if j = (i : Int) then some m else u j
/-- how many of the first N are used -/
def cnt (u : Int → Option (List UInt8)) : Nat → Nat
  | 0 => 0
  | n + 1 => cnt u n + if (u (n : Int)).isSome then 1 else 0
theorem cnt_le (u : Int → Option (List UInt8)) (n : Nat) : cnt u n ≤ n := by
  induction n with
  | zero => exact Nat.le_refl _
  | succ n ih => rw [cnt]; split <;> omega
theorem cnt_none (n : Nat) : cnt (fun _ => none) n = 0 := by
  induction n with
  | zero => rfl
  | succ n ih => rw [cnt, ih]; rfl
theorem cnt_far (u : Int → Option (List UInt8)) (i : Nat) (m : List UInt8) (n : Nat) (h : n ≤ i) : cnt (putU u i m) n = cnt u n := by
  induction n with
  | zero => rfl
  | succ n ih =>
    have e : putU u i m (n : Int) = u (n : Int) := by rw [putU, if_neg (by omega)]
    rw [cnt, cnt, ih (by omega), e]
theorem cnt_put (u : Int → Option (List UInt8)) (i : Nat) (m : List UInt8) (n : Nat) (h : i < n) : cnt (putU u i m) n = if (u (i : Int)).isSome then cnt u n else cnt u n + 1 := by
  induction n with
  | zero => omega
  | succ n ih =>
    by_cases e : i = n
    · subst e
      rw [cnt, cnt, cnt_far u i m i (Nat.le_refl _)]
      have e2 : putU u i m (i : Int) = some m := by simp [putU]
      rw [e2]
      cases (u (i : Int)).isSome <;> simp
    · rw [cnt, cnt, ih (by omega)]
      have e2 : putU u i m (n : Int) = u (n : Int) := by
        rw [putU, if_neg (by omega)]
      rw [e2]
      split <;> omega
theorem usedV_length (u : Int → Option (List UInt8)) (N : Nat) : (usedV u N).length = N := by simp [usedV]
theorem forV_length (u : Int → Option (List UInt8)) (N : Nat) : (forV u N).length = N := by simp [forV]
theorem usedV_get (u : Int → Option (List UInt8)) (N i : Nat) (h : i < N) : (usedV u N).toArray[i]? = some (.bool (u (i : Int)).isSome) := by simp [usedV, h]
theorem forV_get (u : Int → Option (List UInt8)) (N i : Nat) (h : i < N) : (forV u N).toArray[i]? = some (.string (strB' ((u (i : Int)).getD []))) := by simp [forV, h]
theorem usedV_set (u : Int → Option (List UInt8)) (N i : Nat) (m : List UInt8) : (usedV u N).toArray.setIfInBounds i (.bool true) = (usedV (putU u i m) N).toArray := by
  rw [List.setIfInBounds_toArray]
  congr 1
  refine List.ext_getElem (by simp [usedV]) fun k h1 h2 => ?_
  rw [List.getElem_set]
  simp only [usedV, List.getElem_map, List.getElem_range, putU]
  by_cases e : i = k
  · subst e; simp
  · rw [if_neg e, if_neg (by omega)]
theorem forV_set (u : Int → Option (List UInt8)) (N i : Nat) (m : List UInt8) : (forV u N).toArray.setIfInBounds i (.string (strB' m)) = (forV (putU u i m) N).toArray := by
  rw [List.setIfInBounds_toArray]
  congr 1
  refine List.ext_getElem (by simp [forV]) fun k h1 h2 => ?_
  rw [List.getElem_set]
  simp only [forV, List.getElem_map, List.getElem_range, putU]
  by_cases e : i = k
  · subst e; simp
  · rw [if_neg e, if_neg (by omega)]
theorem usedV_nu (u : Int → Option (List UInt8)) (N : Nat) : ∀ v ∈ (usedV u N).toArray.toList, ∀ k : Int, v ≠ .int .u8 k := by
  intro v hv k e
  subst e
  simp [usedV] at hv
theorem forV_nu (u : Int → Option (List UInt8)) (N : Nat) : ∀ v ∈ (forV u N).toArray.toList, ∀ k : Int, v ≠ .int .u8 k := by
  intro v hv k e
  subst e
  simp [forV] at hv

/-- block X is the reference's signer, its slices are the blocks U and F -/
structure RSgn (w : World) (X U F : Nat) (seed : List UInt8) (b h : Nat) (u : Int → Option (List UInt8)) : Prop where
  ex : ∃ sv cu cf, Blk w X 69 #[sv, .int .i64 b, .int .i64 h, .slice (some ⟨U, 0, none⟩) (2 ^ h : Nat) cu, .slice (some ⟨F, 0, none⟩) (2 ^ h : Nat) cf] ∧ Sl w sv seed
  bu : Blk w U 4 (usedV u (2 ^ h)).toArray
  bf : Blk w F 9 (forV u (2 ^ h)).toArray
  may : mayK b h = true
  len : seed.length ≤ 64
section
variable {w w' : World} {X U F : Nat} {seed : List UInt8} {b h : Nat} {u : Int → Option (List UInt8)}
theorem RSgn.ext (s : RSgn w X U F seed b h u) (E : Ext w w') : RSgn w' X U F seed b h u := by
  obtain ⟨sv, cu, cf, h1, h2⟩ := s.ex
  exact ⟨⟨sv, cu, cf, h1.ext E, h2.ext E⟩, s.bu.ext E, s.bf.ext E, s.may, s.len⟩
theorem RSgn.ne (s : RSgn w X U F seed b h u) : U ≠ F ∧ X ≠ U ∧ X ≠ F := by
  obtain ⟨sv, cu, cf, h1, h2⟩ := s.ex
  refine ⟨?_, ?_, ?_⟩
  · rintro rfl
    have h3 := s.bu.symm.trans s.bf
    injection h3 with h3
    injection h3 with _ h3
    exact absurd h3 (by decide)
  · rintro rfl
    have h3 := h1.symm.trans s.bu
    injection h3 with h3
    injection h3 with _ h3
    exact absurd h3 (by decide)
  · rintro rfl
    have h3 := h1.symm.trans s.bf
    injection h3 with h3
    injection h3 with _ h3
    exact absurd h3 (by decide)
end
/-- only the used leaves of the reference's signer have turned -/
structure RMv (U F : Nat) (w w' : World) : Prop where
  os : w'.os = w.os
  tape : w'.tape = w.tape
  output : w'.output = w.output
  size : w.heap.size ≤ w'.heap.size
  keep : ∀ j, j < w.heap.size → j ≠ U → j ≠ F → w'.heap[j]? = w.heap[j]?
  bu : ∃ N u, Blk w U 4 (usedV u N).toArray
  bf : ∃ N u, Blk w F 9 (forV u N).toArray
section
variable {w w' w'' : World} {U F : Nat}
theorem RMv.refl {X : Nat} {seed : List UInt8} {b h : Nat} {u : Int → Option (List UInt8)} (s : RSgn w X U F seed b h u) : RMv U F w w := ⟨rfl, rfl, rfl, Nat.le_refl _, fun _ _ _ _ => rfl, ⟨_, _, s.bu⟩, ⟨_, _, s.bf⟩⟩
theorem RMv.grown (m : RMv U F w w') {row : Option Nat} (hg : w'.grownBy w'' row) (hr : ∀ j, row = some j → j = U ∨ j = F ∨ w.heap.size ≤ j) : RMv U F w w'' :=
  ⟨hg.os.trans m.os, hg.tape.trans m.tape, hg.output.trans m.output, Nat.le_trans m.size hg.size, fun j h1 h2 h3 => (hg.block j (Nat.lt_of_lt_of_le h1 m.size) (fun e => by rcases hr j e.symm with e | e | e <;> omega)).trans (m.keep j h1 h2 h3), m.bu, m.bf⟩
theorem RMv.ext (m : RMv U F w w') (E : Ext w' w'') : RMv U F w w'' := m.grown (ext_grown none E) fun j e => by cases e
theorem RMv.of_ext {X : Nat} {seed : List UInt8} {b h : Nat} {u : Int → Option (List UInt8)} (s : RSgn w X U F seed b h u) (E : Ext w w') : RMv U F w w' := (RMv.refl s).ext E
theorem RMv.trans (m : RMv U F w w') (k : RMv U F w' w'') : RMv U F w w'' :=
  ⟨k.os.trans m.os, k.tape.trans m.tape, k.output.trans m.output, Nat.le_trans m.size k.size, fun j h1 h2 h3 => (k.keep j (Nat.lt_of_lt_of_le h1 m.size) h2 h3).trans (m.keep j h1 h2 h3), m.bu, m.bf⟩
theorem RMv.split (m : RMv U F w w') (hne : U ≠ F) : ∃ wm, w.grownBy wm (some U) ∧ (∃ N u, Blk wm F 9 (forV u N).toArray) ∧ wm.grownBy w' (some F) := by
  obtain ⟨N, u, hF⟩ := m.bf
  have hlt : F < w'.heap.size := Nat.lt_of_lt_of_le hF.lt m.size
  refine ⟨w'.putObj F (.cells (forV u N).toArray 9 (0, 0)), ⟨m.os, m.tape, m.output, by simp [m.size], fun j hj hjU => ?_⟩, ⟨N, u, World.putObj_heap_same hlt⟩, ⟨rfl, rfl, rfl, by simp, fun j hj hjF => (World.putObj_heap_other (fun e => hjF (by rw [e]))).symm⟩⟩
  by_cases hjF : j = F
  · subst hjF
    exact (World.putObj_heap_same hlt).trans hF.symm
  · exact (World.putObj_heap_other hjF).trans (m.keep j hj (fun e => hjU (by rw [e])) hjF)
theorem RMv.blk (m : RMv U F w w') {g : Nat} {t : TypeId} {cs : Array Value} (hb : Blk w g t cs) (h1 : g ≠ U) (h2 : g ≠ F) : Blk w' g t cs := (m.keep g hb.lt h1 h2).trans hb
theorem RMv.blkT (m : RMv U F w w') {g : Nat} {t : TypeId} {cs : Array Value} (hb : Blk w g t cs) (h1 : t ≠ 4) (h2 : t ≠ 9) : Blk w' g t cs := by
  obtain ⟨N, u, bu⟩ := m.bu
  obtain ⟨N', u', bf⟩ := m.bf
  refine m.blk hb ?_ ?_
  · rintro rfl
    have h3 := hb.symm.trans bu
    injection h3 with h3
    injection h3 with _ h3
    exact h1 h3
  · rintro rfl
    have h3 := hb.symm.trans bf
    injection h3 with h3
    injection h3 with _ h3
    exact h2 h3
theorem RMv.slR (m : RMv U F w w') {size n : Nat} {v : Value} {bs : List UInt8} (hs : SlR w size v n (bytesV bs)) : SlR w' size v n (bytesV bs) := by
  refine SlR.kept hs (fun b0 o u hu hm => ?_)
  obtain ⟨k, rfl⟩ := bytesV_kind _ u hm
  obtain ⟨N, v1, bu⟩ := m.bu
  obtain ⟨N', v2, bf⟩ := m.bf
  have e := m.keep b0 (World.block_lt_of_cell? w _ hu) (fun e => by subst e; exact nu_of bu (usedV_nu _ _) _ _ hu) (fun e => by subst e; exact nu_of bf (forV_nu _ _) _ _ hu)
  rw [← hu]
  simp only [World.cell?, e]
theorem RMv.sl (m : RMv U F w w') {v : Value} {bs : List UInt8} (hs : Sl w v bs) : Sl w' v bs := m.slR hs
theorem RMv.slD (m : RMv U F w w') {v : Value} {ds : List (List UInt8)} (hs : SlD w v ds) : SlD w' v ds := ⟨m.slR hs.1, hs.2⟩
theorem RMv.over (m : RMv U F w w') {a : World} (E : Ext a w) (hU : a.heap.size ≤ U) (hF : a.heap.size ≤ F) : Ext a w' :=
  ⟨m.os.trans E.os, m.tape.trans E.tape, m.output.trans E.output, Nat.le_trans E.size m.size, fun k hk => (m.keep k (Nat.lt_of_lt_of_le hk E.size) (by omega) (by omega)).trans (E.block k hk)⟩
theorem RMv.sgn (m : RMv U F w w') (hne : U ≠ F) {S M : Nat} {seed : List UInt8} {b h : Nat} {u : Int → Option (List UInt8)} {n : Nat} (s : Sgn w S M seed b h u n) : Sgn w' S M seed b h u n := by
  obtain ⟨N, v, bu⟩ := m.bu
  obtain ⟨wm, gr1, ⟨N', u', b2⟩, gr2⟩ := m.split hne
  exact sgn_grown (sgn_grown s gr1 bu (by decide) (nu_of bu (usedV_nu _ _))) gr2 b2 (by decide) (nu_of b2 (forV_nu _ _))
/-- s.Used[i], s.For[i] = true, m -/
theorem RSgn.put {X : Nat} {seed : List UInt8} {b h : Nat} {u : Int → Option (List UInt8)} (s : RSgn w X U F seed b h u) (i : Nat) (m : List UInt8) :
    RSgn ((w.setCell ⟨U, i, none⟩ (.bool true)).setCell ⟨F, i, none⟩ (.string (strB' m))) X U F seed b h (putU u i m) ∧ RMv U F w ((w.setCell ⟨U, i, none⟩ (.bool true)).setCell ⟨F, i, none⟩ (.string (strB' m))) := by
  obtain ⟨h1, h2, h3⟩ := s.ne
  have g1 := grown_setCell w U i (.bool true)
  have u1 := s.bu.set i (.bool true)
  rw [usedV_set u _ i m] at u1
  have f1 : Blk (w.setCell ⟨U, i, none⟩ (.bool true)) F 9 (forV u (2 ^ h)).toArray := s.bf.far (by show F ≠ U; omega) _
  have g2 := grown_setCell (w.setCell ⟨U, i, none⟩ (.bool true)) F i (.string (strB' m))
  have f2 := f1.set i (.string (strB' m))
  rw [forV_set u _ i m] at f2
  obtain ⟨sv, cu, cf, hB, hS⟩ := s.ex
  refine ⟨⟨⟨sv, cu, cf, (hB.far (by show X ≠ U; omega) _).far (by show X ≠ F; omega) _, (hS.grown g1 (nu_of s.bu (usedV_nu _ _))).grown g2 (nu_of f1 (forV_nu _ _))⟩, u1.far (by show U ≠ F; omega) _, f2, s.may, s.len⟩, ((RMv.refl s).grown g1 (fun j e => by cases e; exact .inl rfl)).grown g2 (fun j e => by cases e; exact .inr (.inl rfl))⟩
end
theorem RSgn.grown {w w' : World} {X U F g : Nat} {t : TypeId} {cs : Array Value} {seed : List UInt8} {b h : Nat} {u : Int → Option (List UInt8)} (s : RSgn w X U F seed b h u) (hg : w.grownBy w' (some g)) (hb : Blk w g t cs) (h1 : t ≠ 69) (h2 : t ≠ 4) (h3 : t ≠ 9)
    (hnu : ∀ (o : Nat) (k : Int), w.cell? ⟨g, o, none⟩ ≠ some (.int .u8 k)) : RSgn w' X U F seed b h u := by
  have ne : ∀ {j : Nat} {t' : TypeId} {cs' : Array Value}, Blk w j t' cs' → t ≠ t' → some j ≠ some g := by
    rintro j t' cs' hj ht e
    injection e with e
    subst e
    have h3 := hb.symm.trans hj
    injection h3 with h3
    injection h3 with _ h3
    exact ht h3
  obtain ⟨sv, cu, cf, hB, hS⟩ := s.ex
  exact ⟨⟨sv, cu, cf, hB.grown hg (ne hB h1), hS.grown hg hnu⟩, s.bu.grown hg (ne s.bu h2), s.bf.grown hg (ne s.bf h3), s.may, s.len⟩
/-- the map of the program's signer is no part of the reference's -/
theorem RSgn.mv {w w' : World} {X U F M : Nat} {seed : List UInt8} {b h : Nat} {u : Int → Option (List UInt8)} (s : RSgn w X U F seed b h u) (m : Mv M w w') : RSgn w' X U F seed b h u := by
  obtain ⟨sv, cu, cf, h1, h2⟩ := s.ex
  exact ⟨⟨sv, cu, cf, m.blk h1, m.sl h2⟩, m.blk s.bu, m.blk s.bf, s.may, s.len⟩

/-- what a call comes to -/
structure Res where
  i : Int
  f : Int
  rev : List (List UInt8)
  oth : List (List UInt8)
  way : List (List UInt8)
  u : Int → Option (List UInt8)
def resNo (u : Int → Option (List UInt8)) (f : Int) : Res := ⟨0, f, [], [], [], u⟩
def resYes (seed : List UInt8) (b h : Nat) (u : Int → Option (List UInt8)) (m : List UInt8) (i : Nat) : Res := ⟨(i : Int), 0, signR seed i m b, signO seed i m b, sigWay seed b h i, putU u i m⟩
/-- what the program answers -/
def AnsS (S M : Nat) (seed : List UInt8) (b h : Nat) (R : Res) (w : World) (e : Ending) (w' : World) : Prop :=
  ∃ rv ov pv, e = .returned (.tuple #[.agg (sigC R.i rv ov pv), .int .i64 R.f]) ∧ SlD w' rv R.rev ∧ SlD w' ov R.oth ∧ SlD w' pv R.way ∧ Sgn w' S M seed b h R.u (cnt R.u (2 ^ h)) ∧ Mv M w w'
/-- what the reference answers -/
def AnsR (X U F : Nat) (seed : List UInt8) (b h : Nat) (R : Res) (w : World) (e : Ending) (w' : World) : Prop :=
  ∃ rv ov pv, e = .returned (.tuple #[.agg (sigC R.i rv ov pv), .int .i64 R.f]) ∧ SlD w' rv R.rev ∧ SlD w' ov R.oth ∧ SlD w' pv R.way ∧ RSgn w' X U F seed b h R.u ∧ RMv U F w w'
theorem ansS_no {S M : Nat} {seed : List UInt8} {b h : Nat} {u : Int → Option (List UInt8)} {w w' : World} {e : Ending} {f : Int} (s : Sgn w S M seed b h u (cnt u (2 ^ h))) (he : e = .returned (.tuple #[.agg noSig, .int .i64 f])) (E : Ext w w') : AnsS S M seed b h (resNo u f) w e w' :=
  ⟨_, _, _, he, SlD.none_ _ _ _, SlD.none_ _ _ _, SlD.none_ _ _ _, s.ext E, Mv.of_ext E s.um.isMap⟩
theorem ansR_no {X U F : Nat} {seed : List UInt8} {b h : Nat} {u : Int → Option (List UInt8)} {w w' : World} {e : Ending} {f : Int} (s : RSgn w X U F seed b h u) (he : e = .returned (.tuple #[.agg noSig, .int .i64 f])) (E : Ext w w') : AnsR X U F seed b h (resNo u f) w e w' :=
  ⟨_, _, _, he, SlD.none_ _ _ _, SlD.none_ _ _ _, SlD.none_ _ _ _, s.ext E, RMv.of_ext s E⟩
theorem ansS_yes {S M : Nat} {seed : List UInt8} {b h n : Nat} {u : Int → Option (List UInt8)} {m : List UInt8} {i : Nat} {w w' : World} {e : Ending} {rv ov pv : Value} (hi : i < 2 ^ h) (he : e = .returned (.tuple #[.agg #[.int .i64 (i : Int), rv, ov, pv], .int .i64 0])) (p1 : SlD w' rv (signR seed i m b)) (p2 : SlD w' ov (signO seed i m b)) (p3 : SlD w' pv (sigWay seed b h i))
    (hn : n = if (u (i : Int)).isSome then cnt u (2 ^ h) else cnt u (2 ^ h) + 1) (s : Sgn w' S M seed b h (fun j => if j = (i : Int) then some m else u j) n) (mv : Mv M w w') : AnsS S M seed b h (resYes seed b h u m i) w e w' := by
  refine ⟨_, _, _, he, p1, p2, p3, ?_, mv⟩
  have e1 : cnt (resYes seed b h u m i).u (2 ^ h) = n := by rw [hn]; exact cnt_put u i m _ hi
  rw [e1]
  exact s
end Go.Proofs.YtddbmddblhjkkaaGreatDoor
/- The reference's New and Left. -/
namespace Go.Proofs.YtddbmddblhjkkaaGreatDoor
open Go.RowKit Go.Maps

theorem made_one (v : Value) (n : Nat) : madeCells #[v] n = ((List.range n).map fun _ => v).toArray := by
  refine Array.ext (by simp [madeCells]) fun i h1 h2 => ?_
  simp [madeCells, Nat.mod_one]
theorem wp_make {P : Program} {o : Oper} {a : Act} {w : World} {K : Act → World → Prop} {Q : Exit → Act → World → Prop} (t e : TypeId) (i : TypeInfo) (v : Value) (ht : P.underlying t = some (.slice e)) (hi : P.info? e = some i) (hz : i.zero = some v) (hv : v.cells = #[v]) (hs : i.size = 1)
    (l c : Operand) (ho : o.op = .makeSlice t l c) (n : Nat) (hl : a.eval l = .int .i64 n) (hc : a.eval c = .int .i64 n) (hb : i.bytes ≤ 1024) (hn : n ≤ 1024)
    (h : ∀ w1, Blk w1 w.heap.size e ((List.range n).map fun _ => v).toArray → w1.heap.size = w.heap.size + 1 → Ext w w1 → K (a.put o.dst (.slice (some ⟨w.heap.size, 0, none⟩) n n)) w1) : o.wp P a w K Q := by
  have hbn : i.bytes * n ≤ 1024 * 1024 := Nat.mul_le_mul hb hn
  have hbz : (i.bytes : Int) * (n : Int) ≤ 281474976710656 := by
    rw [← Int.natCast_mul]
    omega
  have hr := run_make (P := P) w t e i v ht hi hz .i64 .i64 n n (by omega) (by omega) hbz (by omega)
  simp only [Int.toNat_natCast, hs, Nat.mul_one, hv, made_one] at hr
  unfold Oper.wp execOp
  simp only [ho, hl, hc, Sem.run_bind, hr, Result.andThen_ok, Sem.run_pure]
  exact h _ (Blk.new w e _) (by simp) ((Ext.refl w).alloc _)
theorem wrapI_pow7 : ∀ k : Fin 7, IntKind.i64.wrap ((2 : Int) ^ k.1) = ((2 ^ k.1 : Nat) : Int) := by decide +kernel
theorem wrapI_pow {n : Nat} (h : n ≤ 6) : IntKind.i64.wrap ((2 : Int) ^ n) = ((2 ^ n : Nat) : Int) := wrapI_pow7 ⟨n, by omega⟩
theorem info_bool : (Tryz.prog.info? 4).map (fun i => (i.zero, i.size, decide (i.bytes ≤ 1024))) = some (some (.bool false), 1, true) := by kernel_rfl
theorem info_string : (Tryz.prog.info? 9).map (fun i => (i.zero, i.size, decide (i.bytes ≤ 1024))) = some (some (.string ByteArray.empty), 1, true) := by kernel_rfl

set_option maxRecDepth 100000 in
set_option maxHeartbeats 400000 in
theorem r9New_no (A : Option Addr) (n c : Nat) (b h : Int) (w : World) (hno : (decide (n ≤ 64) && mayK b h) = false) :
    Calls Tryz.prog 7 #[.slice A n c, .int .i64 b, .int .i64 h] w fun e w' => e = .returned (.tuple #[.pointer none, .int .i64 1]) ∧ Ext w w' := by
  have Hm := fun w => Lib.hid (r9may_any A n c b h w)
  rw [hno] at Hm
  clear hno
  go_enter Tryz.func7, Tryz.ntmps7
  go_wp2_with fail
  with_reducible refine (Hm _).out.mono ?_
  rintro e w1 ⟨rfl, rfl⟩
  go_wp2
  go_ret2
  exact ⟨rfl, Ext.refl _⟩

set_option maxRecDepth 100000 in
set_option maxHeartbeats 1000000 in
theorem r9New_yes (v : Value) (seed : List UInt8) (b h : Nat) (w : World) (hv : Sl w v seed) (hl : seed.length ≤ 64) (hm : mayK b h = true) :
    Calls Tryz.prog 7 #[v, .int .i64 (b : Int), .int .i64 (h : Int)] w fun e w' => ∃ X U F, e = .returned (.tuple #[.pointer (some ⟨X, 0, none⟩), .int .i64 0]) ∧ RSgn w' X U F seed b h (fun _ => none) ∧ w.heap.size ≤ X ∧ w.heap.size ≤ U ∧ w.heap.size ≤ F ∧ Ext w w' := by
  obtain ⟨A, c, rfl, hc⟩ := SlR.form hv
  obtain ⟨hmb, h0, h6⟩ := (mayK_iff _ _).1 hm
  have Hm := fun w => Lib.hid (r9may_any A seed.length c b h w)
  rw [hm, decide_eq_true hl] at Hm
  have hle := pow_le (show h ≤ 6 by omega)
  have HM := Lib.hid hm
  have HV := Lib.hid hv
  obtain ⟨ib, e1, e2⟩ : ∃ i, Tryz.prog.info? 4 = some i ∧ (i.zero, i.size, decide (i.bytes ≤ 1024)) = (some (.bool false), 1, true) := by
    have := info_bool
    cases hh : Tryz.prog.info? 4 with
    | none => rw [hh] at this; cases this
    | some i => rw [hh] at this; exact ⟨i, rfl, Option.some.inj this⟩
  obtain ⟨it, f1, f2⟩ : ∃ i, Tryz.prog.info? 9 = some i ∧ (i.zero, i.size, decide (i.bytes ≤ 1024)) = (some (.string ByteArray.empty), 1, true) := by
    have := info_string
    cases hh : Tryz.prog.info? 9 with
    | none => rw [hh] at this; cases this
    | some i => rw [hh] at this; exact ⟨i, rfl, Option.some.inj this⟩
  simp only [Prod.mk.injEq, decide_eq_true_eq] at e2 f2
  have Hib := Lib.hid (⟨e1, e2⟩ : _ ∧ _)
  have His := Lib.hid (⟨f1, f2⟩ : _ ∧ _)
  obtain ⟨N, hN⟩ : ∃ N, N = 2 ^ h := ⟨_, rfl⟩
  have hw : wrap64 ((2 : Int) ^ h) = (N : Int) := by rw [wrap_pow (by omega), hN]; simp
  have hw' : wrap64 ((2 : Int) ^ min h 64) = (N : Int) := by rw [show min h 64 = h by omega, wrap_pow (by omega), hN]; simp
  rw [← hN] at hle
  have hwi : IntKind.i64.wrap ((2 : Int) ^ h) = (N : Int) := by rw [wrapI_pow (by omega), hN]
  have HN := Lib.hid hN
  clear hm hN hv e1 e2 f1 f2 hc hmb
  go_enter Tryz.func7, Tryz.ntmps7
  go_wp2_with fail
  with_reducible refine (Hm _).out.mono ?_
  rintro e w1 ⟨rfl, rfl⟩
  clear Hm
  go_wp2
  refine wp_region_plan 11 (.read 0 (.read 1 (.read 2 (.read 3 (.read 4 (.read 6 (.read 7 (.fork 5 8 (.act 8 (.read 9 (.act 10 .done))) (.act 5 (.read 9 (.act 10 .done))))))))))) (fun w' => True) (by kernel_rfl) (by kernel_rfl) trivial ?_
  iterate 7
    refine wpPlan_read _ _ ?_ rfl rfl ?_ ?_
    rotate_left 1
    focus
      intro wS hS
      clear hS
      go_simp
      first | done | with_reducible rfl
    simp only [Act.put, List.setIfInBounds_toArray, List.set_cons_zero, List.set_cons_succ]
  refine wpPlan_fork ?_ ?_
  · skip
    refine wpPlan_act _ _ rfl rfl (fun K hK' => ?_)
    refine wp_make 66 4 ib (.bool false) Tryz.underlying66 Hib.out.1 Hib.out.2.1 rfl Hib.out.2.2.1 _ _ rfl N rfl rfl Hib.out.2.2.2 (by omega) ?_
    intro w2 b2 sw2 Ew2
    clear sw2
    refine hK' _ _ trivial ?_
    clear hK' K
    simp only [Act.put, List.setIfInBounds_toArray, List.set_cons_zero, List.set_cons_succ]
    refine wpPlan_act _ _ rfl rfl (fun K hK' => ?_)
    refine wp_make 67 9 it (.string ByteArray.empty) Tryz.underlying67 His.out.1 His.out.2.1 rfl His.out.2.2.1 _ _ rfl N rfl rfl His.out.2.2.2 (by omega) ?_
    intro w3 b3 sw3 Ew3
    clear sw3
    refine hK' _ _ trivial ?_
    clear hK' K
    simp only [Act.put, List.setIfInBounds_toArray, List.set_cons_zero, List.set_cons_succ]
    refine wpPlan_read _ _ ?_ rfl rfl ?_ ?_
    rotate_left 1
    focus
      intro wS hS
      clear hS
      go_simp
      first | done | with_reducible rfl
    simp only [Act.put, List.setIfInBounds_toArray, List.set_cons_zero, List.set_cons_succ]
    refine wpPlan_act _ _ rfl rfl (fun K hK' => ?_)
    go_simp
    refine hK' _ _ trivial ?_
    clear hK' K
    refine wpPlan_done ?_
    simp only [List.drop_succ_cons, List.drop_zero]
    have E4 : Ext w3 (w3.alloc (.cells #[.slice A seed.length c, .int .i64 b, .int .i64 h, .slice (some ⟨w.heap.size, 0, none⟩) N N, .slice (some ⟨w2.heap.size, 0, none⟩) N N] 69)) := (Ext.refl w3).alloc _
    have B4 := Blk.new w3 69 #[.slice A seed.length c, .int .i64 b, .int .i64 h, .slice (some ⟨w.heap.size, 0, none⟩) N N, .slice (some ⟨w2.heap.size, 0, none⟩) N N]
    have hz2 : w.heap.size ≤ w2.heap.size := Ew2.size
    have F0 : Ext w w3 := ((Ext.refl w).drew.trans Ew2).trans Ew3
    have FF := F0.trans E4
    have bU : Blk w3 w.heap.size 4 (usedV (fun _ => none) (2 ^ h)).toArray := by rw [← HN.out]; exact b2.ext Ew3
    have bF : Blk w3 w2.heap.size 9 (forV (fun _ => none) (2 ^ h)).toArray := by rw [← HN.out]; exact b3
    have hX : w.heap.size ≤ w3.heap.size := F0.size
    have HR : Hid (RSgn (w3.alloc (.cells #[.slice A seed.length c, .int .i64 b, .int .i64 h, .slice (some ⟨w.heap.size, 0, none⟩) N N, .slice (some ⟨w2.heap.size, 0, none⟩) N N] 69)) w3.heap.size w.heap.size w2.heap.size seed b h (fun _ => none)) := Lib.hid ⟨⟨_, N, N, by rw [← HN.out]; exact B4, HV.out.ext FF⟩, bU.ext E4, bF.ext E4, HM.out, hl⟩
    clear E4 B4 bU bF F0
    go_wp2
    refine NoPanic.normal ?_
    go_wp2
    go_ret2
    exact ⟨_, _, _, rfl, HR.out, hX, by omega, by omega, FF⟩
  · skip
    refine wpPlan_act _ _ rfl rfl (fun K hK' => ?_)
    refine wp_make 67 9 it (.string ByteArray.empty) Tryz.underlying67 His.out.1 His.out.2.1 rfl His.out.2.2.1 _ _ rfl N rfl rfl His.out.2.2.2 (by omega) ?_
    intro w2 b2 sw2 Ew2
    clear sw2
    refine hK' _ _ trivial ?_
    clear hK' K
    simp only [Act.put, List.setIfInBounds_toArray, List.set_cons_zero, List.set_cons_succ]
    refine wpPlan_act _ _ rfl rfl (fun K hK' => ?_)
    refine wp_make 66 4 ib (.bool false) Tryz.underlying66 Hib.out.1 Hib.out.2.1 rfl Hib.out.2.2.1 _ _ rfl N rfl rfl Hib.out.2.2.2 (by omega) ?_
    intro w3 b3 sw3 Ew3
    clear sw3
    refine hK' _ _ trivial ?_
    clear hK' K
    simp only [Act.put, List.setIfInBounds_toArray, List.set_cons_zero, List.set_cons_succ]
    refine wpPlan_read _ _ ?_ rfl rfl ?_ ?_
    rotate_left 1
    focus
      intro wS hS
      clear hS
      go_simp
      first | done | with_reducible rfl
    simp only [Act.put, List.setIfInBounds_toArray, List.set_cons_zero, List.set_cons_succ]
    refine wpPlan_act _ _ rfl rfl (fun K hK' => ?_)
    go_simp
    refine hK' _ _ trivial ?_
    clear hK' K
    refine wpPlan_done ?_
    simp only [List.drop_succ_cons, List.drop_zero]
    have E4 : Ext w3 (w3.alloc (.cells #[.slice A seed.length c, .int .i64 b, .int .i64 h, .slice (some ⟨w2.heap.size, 0, none⟩) N N, .slice (some ⟨w.heap.size, 0, none⟩) N N] 69)) := (Ext.refl w3).alloc _
    have B4 := Blk.new w3 69 #[.slice A seed.length c, .int .i64 b, .int .i64 h, .slice (some ⟨w2.heap.size, 0, none⟩) N N, .slice (some ⟨w.heap.size, 0, none⟩) N N]
    have hz2 : w.heap.size ≤ w2.heap.size := Ew2.size
    have F0 : Ext w w3 := ((Ext.refl w).drew.trans Ew2).trans Ew3
    have FF := F0.trans E4
    have bU : Blk w3 w2.heap.size 4 (usedV (fun _ => none) (2 ^ h)).toArray := by rw [← HN.out]; exact b3
    have bF : Blk w3 w.heap.size 9 (forV (fun _ => none) (2 ^ h)).toArray := by rw [← HN.out]; exact b2.ext Ew3
    have hX : w.heap.size ≤ w3.heap.size := F0.size
    have HR : Hid (RSgn (w3.alloc (.cells #[.slice A seed.length c, .int .i64 b, .int .i64 h, .slice (some ⟨w2.heap.size, 0, none⟩) N N, .slice (some ⟨w.heap.size, 0, none⟩) N N] 69)) w3.heap.size w2.heap.size w.heap.size seed b h (fun _ => none)) := Lib.hid ⟨⟨_, N, N, by rw [← HN.out]; exact B4, HV.out.ext FF⟩, bU.ext E4, bF.ext E4, HM.out, hl⟩
    clear E4 B4 bU bF F0
    go_wp2
    refine NoPanic.normal ?_
    go_wp2
    go_ret2
    exact ⟨_, _, _, rfl, HR.out, hX, by omega, by omega, FF⟩

set_option maxRecDepth 100000 in
set_option maxHeartbeats 1000000 in
theorem r9Left_any (X U F : Nat) (seed : List UInt8) (b h : Nat) (u : Int → Option (List UInt8)) (w : World) (s : RSgn w X U F seed b h u) :
    Calls Tryz.prog 15 #[.pointer (some ⟨X, 0, none⟩)] w fun e w' => e = .returned (.int .i64 ((2 ^ h : Nat) - cnt u (2 ^ h) : Int)) ∧ Ext w w' := by
  obtain ⟨sv, cu, cf, hB, _⟩ := s.ex
  have c3 : w.cell? ⟨X, 3, none⟩ = some (.slice (some ⟨U, 0, none⟩) (2 ^ h : Nat) cu) := hB.cell 3
  have h6 := (mayK_iff _ _).1 s.may
  have hle := pow_le (show h ≤ 6 by omega)
  have hBU := s.bu
  obtain ⟨N, hN⟩ : ∃ N, N = 2 ^ h := ⟨_, rfl⟩
  rw [← hN] at hle c3 hBU ⊢
  have HU := Lib.hid hBU
  clear s hB h6 hN hBU
  go_enter Tryz.func15, Tryz.ntmps15
  go_wp2
  go_loopw [3, 4] (fun n i wr => ∃ k : Nat, k ≤ N ∧ i = .int .i64 k ∧ n = .int .i64 ((k : Int) - (cnt u k : Int)) ∧ Ext w wr) (fun _ i _ => N - (intOf i).toNat)
  case atStart => exact ⟨0, by omega, rfl, rfl, by first | exact Ext.refl _ | exact (Ext.refl _).drewN _⟩
  case round =>
    obtain ⟨k, hk, rfl, rfl, E⟩ := hrel
    have d3 := E.cell c3
    by_cases hlt : k < N
    · have hlti : (k : Int) < (N : Int) := by omega
      have c0 := ((HU.out.ext E).cell k).trans (usedV_get u N k hlt)
      have hcl := cnt_le u k
      have hcs : cnt u (k + 1) = cnt u k + if (u (k : Int)).isSome then 1 else 0 := rfl
      have f0 : IntKind.i64.wrap ((k : Int) - (cnt u k : Int) + 1) = (k : Int) - (cnt u k : Int) + 1 := IntWalk.i64_in _ (by omega)
      have f1 : IntKind.i64.wrap (1 + ((k : Int) - (cnt u k : Int))) = 1 + ((k : Int) - (cnt u k : Int)) := IntWalk.i64_in _ (by omega)
      have Hcs := Lib.hid hcs
      clear hcs
      cases hu : (u (k : Int)).isSome with
      | true =>
        rw [hu] at c0 Hcs
        go_wp2
        exact ⟨⟨k + 1, by omega, by go_num, by rw [Hcs.out]; congr 1; simp; omega, by first | exact E | exact E.drew | exact E.drewN _⟩, by simp [intOf]; omega⟩
      | false =>
        rw [hu] at c0 Hcs
        go_wp2
        exact ⟨⟨k + 1, by omega, by go_num, by rw [Hcs.out]; congr 1; simp; omega, by first | exact E | exact E.drew | exact E.drewN _⟩, by simp [intOf]; omega⟩
    · obtain rfl : k = N := by omega
      have hlti : ¬ ((k : Int) < (k : Int)) := by omega
      go_wp2
      go_ret
      exact ⟨rfl, by first | exact E | exact E.drew | exact E.drewN _⟩
end Go.Proofs.YtddbmddblhjkkaaGreatDoor
/- The reference's SignAt. -/
namespace Go.Proofs.YtddbmddblhjkkaaGreatDoor
open Go.RowKit Go.Maps

set_option maxRecDepth 100000 in
set_option maxHeartbeats 1000000 in
theorem r9SignAt_none (X U F : Nat) (seed : List UInt8) (b h : Nat) (u : Int → Option (List UInt8)) (w : World) (s : RSgn w X U F seed b h u) (i : Int) (A : Option Addr) (n c : Nat) (hl : n ≤ 1048576) (hi : i < 0 ∨ (0 ≤ i ∧ ((2 ^ h : Nat) : Int) ≤ i)) :
    Calls Tryz.prog 12 #[.pointer (some ⟨X, 0, none⟩), .int .i64 i, .slice A n c] w fun e w' => e = .returned (.tuple #[.agg noSig, .int .i64 4]) ∧ Ext w w' := by
  obtain ⟨sv, cu, cf, hB, _⟩ := s.ex
  have c3 : w.cell? ⟨X, 3, none⟩ = some (.slice (some ⟨U, 0, none⟩) (2 ^ h : Nat) cu) := hB.cell 3
  obtain ⟨N, hN⟩ : ∃ N, N = 2 ^ h := ⟨_, rfl⟩
  rw [← hN] at c3 hi
  have hgt : ¬ ((n : Int) > 1048576) := by omega
  clear s hB hN
  rcases hi with hi | ⟨h0, hi⟩
  · go_enter Tryz.func12, Tryz.ntmps12
    go_wp2_with (first | (refine wpList_alloc_blk rfl 44 rfl (.agg noSig) zero_sig ?_; intro w1 hs1 hb1 he1; clear hs1) | (refine wpList_build_to rfl 44 _ rfl noSig (by kernel_rfl) ?_) | (refine wpList_store_blk rfl 44 _ _ rfl w.heap.size noSig rfl rfl 44 noSig hb1 info_sig rfl noSig_one ?_; intro w7 hs7 hb7 hg7))
    refine bodyPost_ret (v := .tuple #[.agg noSig, .int .i64 4]) (ret2_blk hb7 rfl rfl Tryz.underlying44 rfl info_sig rfl) rfl ?_
    exact ⟨rfl, he1.grown hg7 (by simp)⟩
  · have hlt : ¬ (i < 0) := by omega
    have hge : i ≥ (N : Int) := hi
    go_enter Tryz.func12, Tryz.ntmps12
    go_wp2_with (first | (refine wpList_alloc_blk rfl 44 rfl (.agg noSig) zero_sig ?_; intro w1 hs1 hb1 he1; clear hs1; have d3 := he1.cell c3) | (refine wpList_build_to rfl 44 _ rfl noSig (by kernel_rfl) ?_) | (refine wpList_store_blk rfl 44 _ _ rfl w.heap.size noSig rfl rfl 44 noSig hb1 info_sig rfl noSig_one ?_; intro w7 hs7 hb7 hg7))
    refine bodyPost_ret (v := .tuple #[.agg noSig, .int .i64 4]) (ret2_blk hb7 rfl rfl Tryz.underlying44 rfl info_sig rfl) rfl ?_
    exact ⟨rfl, he1.grown hg7 (by simp)⟩

/-- region 5: s.Used[leaf] && s.For[leaf] != string(message) -/
theorem str_eqB (m : List UInt8) : ((strB' m).toList == (strB' m).toList) = true := by simp
end Go.Proofs.YtddbmddblhjkkaaGreatDoor
/- The reference's SignAt where the leaf is used, and where it signs. -/
namespace Go.Proofs.YtddbmddblhjkkaaGreatDoor
open Go.RowKit Go.Maps

set_option maxRecDepth 100000 in
set_option maxHeartbeats 1000000 in
theorem r9SignAt_used (X U F : Nat) (seed : List UInt8) (b h : Nat) (u : Int → Option (List UInt8)) (w : World) (s : RSgn w X U F seed b h u) (i : Nat) (mv : Value) (m t : List UInt8) (hm : Sl w mv m) (hl : m.length ≤ 1048576) (hi : i < 2 ^ h) (hu : u i = some t) (hne : t ≠ m) :
    Calls Tryz.prog 12 #[.pointer (some ⟨X, 0, none⟩), .int .i64 (i : Int), mv] w fun e w' => e = .returned (.tuple #[.agg noSig, .int .i64 90]) ∧ Ext w w' := by
  obtain ⟨sv, cu, cf, hB, hsv⟩ := s.ex
  obtain ⟨Am, cm, rfl, hcm⟩ := SlR.form hm
  obtain ⟨As, cs, rfl, hcs⟩ := SlR.form hsv
  have c3 : w.cell? ⟨X, 3, none⟩ = some (.slice (some ⟨U, 0, none⟩) (2 ^ h : Nat) cu) := hB.cell 3
  have c4 : w.cell? ⟨X, 4, none⟩ = some (.slice (some ⟨F, 0, none⟩) (2 ^ h : Nat) cf) := hB.cell 4
  have x0 := (s.bu.cell i).trans (usedV_get u (2 ^ h) i hi)
  have y0 := (s.bf.cell i).trans (forV_get u (2 ^ h) i hi)
  have hgt : ¬ ((m.length : Int) > 1048576) := by omega
  have hlt : ¬ ((i : Int) < 0) := by omega
  have hge : ¬ ((i : Int) ≥ ((2 ^ h : Nat) : Int)) := by omega
  have hiN : (i : Int) < ((2 ^ h : Nat) : Int) := by omega
  have HM := Lib.hid hm
  rw [hu] at x0 y0
  simp only [Option.getD_some, Option.isSome_some] at x0 y0
  obtain ⟨N, hN⟩ : ∃ N, N = 2 ^ h := ⟨_, rfl⟩
  rw [← hN] at c3 c4 hge hiN
  clear s hB hN hu hm
  go_enter Tryz.func12, Tryz.ntmps12
  go_wp2_with (first | (refine wpList_alloc_blk rfl 44 rfl (.agg noSig) zero_sig ?_; intro w1 hs1 hb1 he1; clear hs1; have d3 := he1.cell c3; have d4 := he1.cell c4; have dx := he1.cell x0; have dy := he1.cell y0))
  have hn : ((strB' t).toList == (strB' m).toList) = false := str_ne hne
  obtain ⟨s2, hs2⟩ : ∃ s2, s2 = strB' m := ⟨_, rfl⟩
  obtain ⟨s1, hs1⟩ : ∃ s1, s1 = strB' t := ⟨_, rfl⟩
  rw [← hs1] at dy hn
  rw [← hs2] at hn
  have Hcv := Lib.hid (fun wS (E : Ext w1 wS) => (by rw [hs2]; exact run_conv_str (HM.out.ext (he1.trans E)) : (convert 22 9 (.slice Am m.length cm)).run Tryz.prog wS = .ok (.string s2) wS))
  clear hs1 hs2 hne c3 c4 x0 y0
  refine wp_region_chain 19 [(true, 0), (true, 1), (true, 2), (true, 3), (true, 4), (true, 5), (true, 6), (true, 7), (true, 8), (true, 9), (true, 10), (true, 11), (true, 12), (true, 13), (true, 14), (true, 15), (true, 16), (true, 17), (true, 18)] (fun w' => Ext w1 w') (by kernel_rfl) (by kernel_rfl) (Ext.refl w1).drew ?_
  iterate 19
    refine wpTake_read _ _ ?_ rfl rfl ?_ ?_
    rotate_left 1
    focus
      intro wS hS
      have d3 := Ext.cell hS d3
      have d4 := Ext.cell hS d4
      have dx := Ext.cell hS dx
      have dy := Ext.cell hS dy
      have hcv : (convert 22 9 (.slice Am m.length cm)).run Tryz.prog wS = .ok (.string s2) wS := Hcv.out wS hS
      go_simp
      first | done | with_reducible rfl
    simp only [Act.put, List.setIfInBounds_toArray, List.set_cons_zero, List.set_cons_succ]
  refine wpTake_nil ?_
  simp only [List.drop_succ_cons, List.drop_zero]
  go_wp2
  refine NoPanic.normal ?_
  go_wp2_with (first | (refine wpList_build_to rfl 44 _ rfl noSig (by kernel_rfl) ?_) | (refine wpList_store_blk rfl 44 _ _ rfl w.heap.size noSig rfl rfl 44 noSig (hb1.ext (Ext.refl w1).drew) info_sig rfl noSig_one ?_; intro w7 hs7 hb7 hg7))
  refine bodyPost_ret (v := .tuple #[.agg noSig, .int .i64 90]) (ret2_blk hb7 rfl rfl Tryz.underlying44 rfl info_sig rfl) rfl ?_
  exact ⟨rfl, (he1.trans (Ext.refl w1).drew).grown hg7 (by simp)⟩
end Go.Proofs.YtddbmddblhjkkaaGreatDoor
/- The reference's SignAt where it signs. -/
namespace Go.Proofs.YtddbmddblhjkkaaGreatDoor
open Go.RowKit Go.Maps

set_option maxRecDepth 100000 in
set_option maxHeartbeats 4000000 in
theorem r9SignAt_yes (X U F : Nat) (seed : List UInt8) (b h : Nat) (u : Int → Option (List UInt8)) (w : World) (s : RSgn w X U F seed b h u) (i : Nat) (mv : Value) (m : List UInt8) (hm : Sl w mv m) (hl : m.length ≤ 1048576) (hi : i < 2 ^ h) (hu : u i = none ∨ u i = some m) :
    Calls Tryz.prog 12 #[.pointer (some ⟨X, 0, none⟩), .int .i64 (i : Int), mv] w (AnsR X U F seed b h (resYes seed b h u m i) w) := by
  obtain ⟨sv, cu, cf, hB, hsv⟩ := s.ex
  obtain ⟨Am, cm, rfl, hcm⟩ := SlR.form hm
  obtain ⟨As, cs, rfl, hcs⟩ := SlR.form hsv
  have c3 : w.cell? ⟨X, 3, none⟩ = some (.slice (some ⟨U, 0, none⟩) (2 ^ h : Nat) cu) := hB.cell 3
  have c4 : w.cell? ⟨X, 4, none⟩ = some (.slice (some ⟨F, 0, none⟩) (2 ^ h : Nat) cf) := hB.cell 4
  have x0 := (s.bu.cell i).trans (usedV_get u (2 ^ h) i hi)
  have y0 := (s.bf.cell i).trans (forV_get u (2 ^ h) i hi)
  have hgt : ¬ ((m.length : Int) > 1048576) := by omega
  have hlt : ¬ ((i : Int) < 0) := by omega
  have hge : ¬ ((i : Int) ≥ ((2 ^ h : Nat) : Int)) := by omega
  have hiN : (i : Int) < ((2 ^ h : Nat) : Int) := by omega
  have HM := Lib.hid hm
  have hmk := (mayK_iff _ _).1 s.may
  have Hmay := Lib.hid s.may
  have Hmb := Lib.hid hmk.1
  have hh6 : h ≤ 6 := by omega
  have hle := pow_le hh6
  have hlen := s.len
  have hne := s.ne
  have hUF : U ≠ F := hne.1
  have hXU : X ≠ U := hne.2.1
  have hXF : X ≠ F := hne.2.2
  have Hs0 := Lib.hid s
  have Hi := Lib.hid hi
  obtain ⟨N, hN⟩ : ∃ N, N = 2 ^ h := ⟨_, rfl⟩
  rw [← hN] at c3 c4 hge hiN hle
  clear s hB hN hm hmk hne hsv
  rcases hu with hu | hu
  · rw [hu] at x0 y0
    simp only [Option.getD_none, Option.isSome_none] at x0 y0
    clear hu
    go_enter Tryz.func12, Tryz.ntmps12
    go_wp2_with (first | (refine wpList_alloc_blk rfl 44 rfl (.agg noSig) zero_sig ?_; intro w1 hs1 hb1 he1; clear hs1; have d3 := he1.cell c3; have d4 := he1.cell c4; have dx := he1.cell x0; have dy := he1.cell y0))
    obtain ⟨s2, hs2⟩ : ∃ s2, s2 = strB' m := ⟨_, rfl⟩
    have Hs1 := Lib.hid (Hs0.out.ext he1)
    have Hcv := Lib.hid (fun wS (E : Ext w1 wS) => (by rw [hs2]; exact run_conv_str (HM.out.ext (he1.trans E)) : (convert 22 9 (.slice Am m.length cm)).run Tryz.prog wS = .ok (.string s2) wS))
    have HcvU : Hid ((convert 22 9 (.slice Am m.length cm)).run Tryz.prog (w1.drew.drew.setCell ⟨U, i, none⟩ (.bool true)) = .ok (.string s2) (w1.drew.drew.setCell ⟨U, i, none⟩ (.bool true))) := Lib.hid (by
      rw [hs2]
      exact run_conv_str (Sl.grown (w := w1.drew.drew) (HM.out.ext (he1.trans (Ext.refl w1).drew.drew)) (grown_setCell w1.drew.drew U i (.bool true)) (nu_of (Hs1.out.bu.ext (Ext.refl w1).drew.drew) (usedV_nu _ _))))
    have Hs2 := Lib.hid hs2
    clear hs2 c3 c4 x0 y0 hi
    refine wp_region_chain 19 [(true, 0), (true, 1), (true, 2), (true, 3), (true, 4), (true, 5), (true, 6), (true, 7), (true, 8), (true, 9), (true, 10), (true, 11), (true, 12), (true, 13), (true, 14), (true, 15), (true, 16), (true, 17), (true, 18)] (fun w' => Ext w1 w') (by kernel_rfl) (by kernel_rfl) (Ext.refl w1).drew ?_
    iterate 8
      refine wpTake_read _ _ ?_ rfl rfl ?_ ?_
      rotate_left 1
      focus
        intro wS hS
        have d3 := Ext.cell hS d3
        have d4 := Ext.cell hS d4
        have dx := Ext.cell hS dx
        have dy := Ext.cell hS dy
        have hcv : (convert 22 9 (.slice Am m.length cm)).run Tryz.prog wS = .ok (.string s2) wS := Hcv.out wS hS
        go_simp
        first | done | with_reducible rfl
      simp only [Act.put, List.setIfInBounds_toArray, List.set_cons_zero, List.set_cons_succ]
    iterate 10
      refine wpTake_skip _ _ rfl rfl ?_
      simp only [Act.put, List.setIfInBounds_toArray, List.set_cons_zero, List.set_cons_succ]
    iterate 1
      refine wpTake_read _ _ ?_ rfl rfl ?_ ?_
      rotate_left 1
      focus
        intro wS hS
        have d3 := Ext.cell hS d3
        have d4 := Ext.cell hS d4
        have dx := Ext.cell hS dx
        have dy := Ext.cell hS dy
        have hcv : (convert 22 9 (.slice Am m.length cm)).run Tryz.prog wS = .ok (.string s2) wS := Hcv.out wS hS
        go_simp
        first | done | with_reducible rfl
      simp only [Act.put, List.setIfInBounds_toArray, List.set_cons_zero, List.set_cons_succ]
    refine wpTake_nil ?_
    simp only [List.drop_succ_cons, List.drop_zero]
    go_wp2
    refine NoPanic.normal ?_
    have E2 : Ext w1 w1.drew := (Ext.refl w1).drew
    have g3 : w1.drew.drew.cell? ⟨X, 3, none⟩ = some (.slice (some ⟨U, 0, none⟩) N cu) := d3
    have g4 : w1.drew.drew.cell? ⟨X, 4, none⟩ = some (.slice (some ⟨F, 0, none⟩) N cf) := d4
    have gcv := Hcv.out w1.drew.drew (Ext.refl w1).drew.drew
    have gx : w1.drew.drew.cell? ⟨U, i, none⟩ = some (.bool false) := dx
    have gf := (Hs1.out.bu.ext (Ext.refl w1).drew.drew).frozen i
    go_wp2
    refine wp_region_chain 14 [(true, 0), (true, 1), (true, 2), (true, 3), (true, 4), (true, 5), (true, 6), (true, 7), (true, 8), (true, 9), (true, 10), (true, 11), (true, 12), (false, 13)] (fun w' => w'.cell? ⟨X, 3, none⟩ = some (.slice (some ⟨U, 0, none⟩) N cu) ∧ w'.cell? ⟨X, 4, none⟩ = some (.slice (some ⟨F, 0, none⟩) N cf) ∧ (convert 22 9 (.slice Am m.length cm)).run Tryz.prog w' = .ok (.string s2) w') (by kernel_rfl) (by kernel_rfl) ⟨g3, g4, gcv⟩ ?_
    iterate 13
      refine wpTake_read _ _ ?_ rfl rfl ?_ ?_
      rotate_left 1
      focus
        intro wS hS
        have d3 := hS.1
        have d4 := hS.2.1
        have hcv : (convert 22 9 (.slice Am m.length cm)).run Tryz.prog wS = .ok (.string s2) wS := hS.2.2
        clear hS
        go_simp
        first | done | with_reducible rfl
      simp only [Act.put, List.setIfInBounds_toArray, List.set_cons_zero, List.set_cons_succ]
    refine wpTake_do _ _ rfl rfl (fun K hK' => ?_)
    refine wp_skip (w' := w1.drew.drew.setCell ⟨U, i, none⟩ (.bool true)) (by go_simp; first | done | with_reducible rfl) ?_
    have hgU : w1.drew.drew.grownBy (w1.drew.drew.setCell ⟨U, i, none⟩ (.bool true)) (some U) := grown_setCell w1.drew.drew U i (.bool true)
    refine hK' _ _ ⟨hgU.cell g3 (by simp; omega), hgU.cell g4 (by simp; omega), HcvU.out⟩ ?_
    clear hK' K
    simp only [Act.put]
    refine wpTake_nil ?_
    simp only [List.drop_succ_cons, List.drop_zero]
    have BF' := (Hs1.out.bf.ext (Ext.refl w1).drew.drew).far (p := ⟨U, i, none⟩) (by show F ≠ U; omega) (.bool true)
    have fy' := BF'.frozen i
    have y0' := (BF'.cell i).trans (forV_get u (2 ^ h) i Hi.out)
    have hput := (Hs1.out.ext (Ext.refl w1).drew.drew).put i m
    rw [← Hs2.out] at hput
    revert fy' y0' hput
    generalize w1.drew.drew.setCell ⟨U, i, none⟩ (.bool true) = w7
    intro fy' y0' hput
    go_wp2
    refine NoPanic.normal ?_
    go_wp2
    revert hput
    generalize w7.setCell ⟨F, i, none⟩ (.string s2) = w2
    intro hput
    have R2 := Lib.hid hput.1
    have M2 := (RMv.of_ext Hs0.out (he1.trans (Ext.refl w1).drew.drew)).trans (hput.2)
    have hz2 : w1.heap.size ≤ w2.heap.size := hput.2.size
    have HZ2 := Lib.hid (hput.2.blkT (hb1.ext (Ext.refl w1).drew.drew) (by decide) (by decide))
    have HM2 := Lib.hid (M2.sl HM.out)
    obtain ⟨sv2, cu2, cf2, B2, S2⟩ := R2.out.ex
    obtain ⟨As, cs, rfl, _⟩ := SlR.form S2
    have e0 : w2.cell? ⟨X, 0, none⟩ = some (.slice As seed.length cs) := B2.cell 0
    have e1 : w2.cell? ⟨X, 1, none⟩ = some (.int .i64 (b : Int)) := B2.cell 1
    have e2 : w2.cell? ⟨X, 2, none⟩ = some (.int .i64 (h : Int)) := B2.cell 2
    have Hs := Lib.hid (fun w' (E : Ext w2 w') => r7Sign_yes (.slice As seed.length cs) (.slice Am m.length cm) seed m (i : Int) (b : Int) w' (S2.ext E) (HM2.out.ext E) Hmb.out ((keyB_iff _ _).2 ⟨hlen, by omega, by omega⟩) hl)
    simp only [Int.toNat_natCast] at Hs
    have Hl := Lib.hid (fun w' (E : Ext w2 w') => r9Leaves_any (.slice As seed.length cs) seed b h w' (S2.ext E) hlen Hmay.out)
    have Hw := Lib.hid (fun w' v (hv : SlD w' v (lvsB seed b h)) => r8Way_yes v (lvsB seed b h) h i w' hv (lvsB_length seed b h) (by omega) Hi.out)
    clear S2 B2 hput HM2
    refine wp_region_plan 16 (.read 0 (.read 1 (.read 2 (.read 3 (.read 4 (.read 5 (.read 6 (.read 7 (.read 8 (.read 9 (.fork 10 14 (.read 11 (.read 12 (.read 13 (.act 14 (.act 15 .done))))) (.act 10 (.read 11 (.read 12 (.read 13 (.act 15 .done)))))))))))))))) (fun w' => Ext w2 w') (by kernel_rfl) (by kernel_rfl) (Ext.refl w2).drew ?_
    iterate 10
      refine wpPlan_read _ _ ?_ rfl rfl ?_ ?_
      rotate_left 1
      focus
        intro wS hS
        try dsimp only at hS
        have e0 := Ext.cell hS e0
        have e1 := Ext.cell hS e1
        go_simp
        first | done | with_reducible rfl
      simp only [Act.put, List.setIfInBounds_toArray, List.set_cons_zero, List.set_cons_succ]
    refine wpPlan_fork ?_ ?_
    · skip
      refine wpPlan_act _ _ rfl rfl (fun K hK' => ?_)
      go_simp
      refine (Hs.out _ (Ext.refl w2).drew).mono ?_
      rintro e w5 ⟨rv, ov, rfl, R5, O5, E5⟩
      have G5 : Ext w2 w5 := (Ext.refl w2).drew.trans E5
      refine hK' _ _ G5 ?_
      clear hK' K
      iterate 3
        refine wpPlan_read _ _ ?_ rfl rfl ?_ ?_
        rotate_left 1
        focus
          intro wS hS
          clear hS
          go_simp
          first | done | with_reducible rfl
        simp only [Act.put, List.setIfInBounds_toArray, List.set_cons_zero, List.set_cons_succ]
      refine wpPlan_act _ _ rfl rfl (fun K hK' => ?_)
      refine wp_alloc_blk 42 rfl (.agg noOne) zero_one ?_
      intro w6 hb6 he6
      have G6 : Ext w2 w6 := G5.trans he6
      refine hK' _ _ G6 ?_
      clear hK' K
      simp only [Act.put, List.setIfInBounds_toArray, List.set_cons_zero, List.set_cons_succ]
      have HR := Lib.hid (R5.ext he6)
      have HO := Lib.hid (O5.ext he6)
      have hg3 : w2.heap.size ≤ w5.heap.size := G5.size
      have HB6 := Lib.hid hb6
      obtain ⟨g, hg⟩ : ∃ g, g = w5.heap.size := ⟨_, rfl⟩
      rw [← hg] at HB6 hg3
      simp only [← hg]
      clear R5 O5 E5 G5 hb6 he6 hg
      obtain ⟨Ar, cr, rfl, hcr⟩ := HR.out.form
      obtain ⟨Ax, cx, rfl, hcx⟩ := HO.out.form
      refine wpPlan_act _ _ rfl rfl (fun K hK' => ?_)
      refine wp_store_blk 42 _ _ rfl g #[.slice Ar _ cr, .slice Ax _ cx] rfl rfl 42 noOne HB6.out info_one rfl (two_one _ _ _ _ _ _) ?_
      intro w8 hb8 hg8
      refine hK' _ _ (G6.grown hg8 (fun k e => by cases e; exact hg3)) ?_
      clear hK' K
      refine wpPlan_done ?_
      simp only [Act.put, List.drop_succ_cons, List.drop_zero]
      have F8 : Ext w2 w8 := G6.grown hg8 (fun k e => by cases e; omega)
      go_wp2
      refine NoPanic.normal ?_
      have HR8 := Lib.hid (slD_noByte HR.out HB6.out noOne_noByte hg8)
      have HO8 := Lib.hid (slD_noByte HO.out HB6.out noOne_noByte hg8)
      have HB8 := Lib.hid hb8
      clear HR HO HB6 hb8 hg8 G6 hg3
      have f0 := F8.cell e0
      have f1 := F8.cell e1
      have f2 := F8.cell e2
      have i8 : (Tryz.prog.info? 42).map (·.size) = some (#[Value.slice Ar (signR seed i m b).length cr, .slice Ax (signO seed i m b).length cx] : Array Value).size := info_one
      obtain ⟨Y, hY⟩ : ∃ Y, Y = #[Value.slice Ar (signR seed i m b).length cr, .slice Ax (signO seed i m b).length cx] := ⟨_, rfl⟩
      rw [← hY] at HB8 i8
      have HY := Lib.hid hY
      clear hY
      go_wp2
      refine wp_region_chain 17 [(true, 0), (true, 1), (true, 2), (true, 3), (true, 4), (true, 5), (true, 6), (true, 7), (true, 8), (true, 9), (true, 10), (true, 11), (true, 12), (true, 13), (true, 15), (false, 14), (false, 16)] (fun w' => Ext w8 w') (by kernel_rfl) (by kernel_rfl) (Ext.refl w8).drew ?_
      iterate 1
        refine wpTake_read _ _ ?_ rfl rfl ?_ ?_
        rotate_left 1
        focus
          intro wS hS
          clear hS
          go_simp
          first | done | with_reducible rfl
        simp only [Act.put, List.setIfInBounds_toArray, List.set_cons_zero, List.set_cons_succ]
      refine wpTake_load _ _ rfl rfl 42 _ rfl (.agg Y) (fun wS hS => load_blk (HB8.out.ext hS) Tryz.underlying42 rfl i8) ?_
      simp only [Act.put, List.setIfInBounds_toArray, List.set_cons_zero, List.set_cons_succ]
      iterate 13
        refine wpTake_read _ _ ?_ rfl rfl ?_ ?_
        rotate_left 1
        focus
          intro wS hS
          have f0 := Ext.cell hS f0
          have f1 := Ext.cell hS f1
          have f2 := Ext.cell hS f2
          go_simp
          first | done | with_reducible rfl
        simp only [Act.put, List.setIfInBounds_toArray, List.set_cons_zero, List.set_cons_succ]
      refine wpTake_do _ _ rfl rfl (fun K hK' => ?_)
      refine wp_call ?_ (enters_of (P := Tryz.prog) Tryz.func29 (by kernel_rfl) rfl _ _) (Hl.out _ (F8.trans (Ext.refl w8).drew)) ?_
      focus
        rw [execOp_call_go]
        simp only [List.map_toArray, List.map_cons, List.map_nil, List.append_toArray, List.nil_append, List.append_nil]
        rfl
      rintro e w9 ⟨lv, rfl, L9, E9'⟩
      have E9 := (Ext.refl w8).drew.trans E9'
      refine ⟨_, rfl, hK' _ _ E9 ?_⟩
      clear hK' K
      simp only [Act.put, List.setIfInBounds_toArray, List.set_cons_zero, List.set_cons_succ]
      refine wpTake_do _ _ rfl rfl (fun K hK' => ?_)
      refine wp_call ?_ (enters_of (P := Tryz.prog) Tryz.func34 (by kernel_rfl) rfl _ _) (Hw.out _ _ L9) ?_
      focus
        rw [execOp_call_go]
        simp only [List.map_toArray, List.map_cons, List.map_nil, List.append_toArray, List.nil_append, List.append_nil]
        rfl
      rintro e w10 ⟨pv, rfl, P10, E10'⟩
      have E10 := E9.trans E10'
      refine ⟨_, rfl, hK' _ _ E10 ?_⟩
      clear hK' K
      simp only [Act.put, List.setIfInBounds_toArray, List.set_cons_zero, List.set_cons_succ]
      refine wpTake_nil ?_
      simp only [List.drop_succ_cons, List.drop_zero]
      obtain ⟨Ap, cp, rfl, hcp⟩ := P10.form
      have F10 := F8.trans E10
      have HZ := Lib.hid (HZ2.out.ext F10)
      have R10 := Lib.hid (R2.out.ext F10)
      have M10 := M2.ext F10
      have HP := Lib.hid P10
      have HR10 := Lib.hid (HR8.out.ext E10)
      have HO10 := Lib.hid (HO8.out.ext E10)
      rw [HY.out]
      clear P10 L9 E9 E9' E10' E10 F10 F8 HB8 f0 f1 f2 e0 e1 e2 HR8 HO8 Hs Hl Hw i8
      go_wp2_with (first | (refine wpList_build_to rfl 44 _ rfl #[.int .i64 (i : Int), .slice Ar _ cr, .slice Ax _ cx, .slice Ap _ cp] (by rfl) ?_) | (refine wpList_store_blk rfl 44 _ _ rfl w.heap.size #[.int .i64 (i : Int), .slice Ar _ cr, .slice Ax _ cx, .slice Ap _ cp] rfl rfl 44 noSig HZ.out info_sig rfl (sig_one _ _ _ _ _ _ _ _ _ _) ?_; intro w11 hs11 hb11 hg11))
      refine NoPanic.normal ?_
      go_wp2
      refine bodyPost_ret (ret2_blk hb11 rfl rfl Tryz.underlying44 rfl info_sig rfl) rfl ?_
      exact ⟨_, _, _, rfl, slD_noByte HR10.out HZ.out noSig_noByte hg11, slD_noByte HO10.out HZ.out noSig_noByte hg11, slD_noByte HP.out HZ.out noSig_noByte hg11, R10.out.grown hg11 HZ.out (by decide) (by decide) (by decide) (fun o k => by rw [HZ.out.cell]; exact noSig_noByte o k), M10.grown hg11 (fun j e => by cases e; exact .inr (.inr (Nat.le_refl _)))⟩
    · skip
      refine wpPlan_act _ _ rfl rfl (fun K hK' => ?_)
      refine wp_alloc_blk 42 rfl (.agg noOne) zero_one ?_
      intro w4 hb6 he6
      have G4 : Ext w2 w4 := (Ext.refl w2).drew.trans he6
      refine hK' _ _ G4 ?_
      clear hK' K
      refine wpPlan_act _ _ rfl rfl (fun K hK' => ?_)
      go_simp
      refine (Hs.out _ G4).mono ?_
      rintro e w5 ⟨rv, ov, rfl, R5, O5, E5⟩
      have G5 : Ext w2 w5 := G4.trans E5
      refine hK' _ _ G5 ?_
      clear hK' K
      iterate 3
        refine wpPlan_read _ _ ?_ rfl rfl ?_ ?_
        rotate_left 1
        focus
          intro wS hS
          clear hS
          go_simp
          first | done | with_reducible rfl
        simp only [Act.put, List.setIfInBounds_toArray, List.set_cons_zero, List.set_cons_succ]
      obtain ⟨w6, rfl⟩ : ∃ w6 : World, w6 = w5 := ⟨_, rfl⟩
      have HR := Lib.hid R5
      have HO := Lib.hid O5
      have G6 := G5
      have HB6 := Lib.hid (hb6.ext E5)
      rw [show w2.drew.heap.size = w2.heap.size from rfl] at HB6
      have hg3 : w2.heap.size ≤ w2.heap.size := Nat.le_refl _
      obtain ⟨g, hg⟩ : ∃ g, g = w2.heap.size := ⟨_, rfl⟩
      rw [← hg] at HB6
      replace hg3 : w2.heap.size ≤ g := by omega
      simp only [← hg]
      clear R5 O5 E5 G5 hb6 he6 hg G4
      obtain ⟨Ar, cr, rfl, hcr⟩ := HR.out.form
      obtain ⟨Ax, cx, rfl, hcx⟩ := HO.out.form
      refine wpPlan_act _ _ rfl rfl (fun K hK' => ?_)
      refine wp_store_blk 42 _ _ rfl g #[.slice Ar _ cr, .slice Ax _ cx] rfl rfl 42 noOne HB6.out info_one rfl (two_one _ _ _ _ _ _) ?_
      intro w8 hb8 hg8
      refine hK' _ _ (G6.grown hg8 (fun k e => by cases e; exact hg3)) ?_
      clear hK' K
      refine wpPlan_done ?_
      simp only [Act.put, List.drop_succ_cons, List.drop_zero]
      have F8 : Ext w2 w8 := G6.grown hg8 (fun k e => by cases e; omega)
      go_wp2
      refine NoPanic.normal ?_
      have HR8 := Lib.hid (slD_noByte HR.out HB6.out noOne_noByte hg8)
      have HO8 := Lib.hid (slD_noByte HO.out HB6.out noOne_noByte hg8)
      have HB8 := Lib.hid hb8
      clear HR HO HB6 hb8 hg8 G6 hg3
      have f0 := F8.cell e0
      have f1 := F8.cell e1
      have f2 := F8.cell e2
      have i8 : (Tryz.prog.info? 42).map (·.size) = some (#[Value.slice Ar (signR seed i m b).length cr, .slice Ax (signO seed i m b).length cx] : Array Value).size := info_one
      obtain ⟨Y, hY⟩ : ∃ Y, Y = #[Value.slice Ar (signR seed i m b).length cr, .slice Ax (signO seed i m b).length cx] := ⟨_, rfl⟩
      rw [← hY] at HB8 i8
      have HY := Lib.hid hY
      clear hY
      go_wp2
      refine wp_region_chain 17 [(true, 0), (true, 1), (true, 2), (true, 3), (true, 4), (true, 5), (true, 6), (true, 7), (true, 8), (true, 9), (true, 10), (true, 11), (true, 12), (true, 13), (true, 15), (false, 14), (false, 16)] (fun w' => Ext w8 w') (by kernel_rfl) (by kernel_rfl) (Ext.refl w8).drew ?_
      iterate 1
        refine wpTake_read _ _ ?_ rfl rfl ?_ ?_
        rotate_left 1
        focus
          intro wS hS
          clear hS
          go_simp
          first | done | with_reducible rfl
        simp only [Act.put, List.setIfInBounds_toArray, List.set_cons_zero, List.set_cons_succ]
      refine wpTake_load _ _ rfl rfl 42 _ rfl (.agg Y) (fun wS hS => load_blk (HB8.out.ext hS) Tryz.underlying42 rfl i8) ?_
      simp only [Act.put, List.setIfInBounds_toArray, List.set_cons_zero, List.set_cons_succ]
      iterate 13
        refine wpTake_read _ _ ?_ rfl rfl ?_ ?_
        rotate_left 1
        focus
          intro wS hS
          have f0 := Ext.cell hS f0
          have f1 := Ext.cell hS f1
          have f2 := Ext.cell hS f2
          go_simp
          first | done | with_reducible rfl
        simp only [Act.put, List.setIfInBounds_toArray, List.set_cons_zero, List.set_cons_succ]
      refine wpTake_do _ _ rfl rfl (fun K hK' => ?_)
      refine wp_call ?_ (enters_of (P := Tryz.prog) Tryz.func29 (by kernel_rfl) rfl _ _) (Hl.out _ (F8.trans (Ext.refl w8).drew)) ?_
      focus
        rw [execOp_call_go]
        simp only [List.map_toArray, List.map_cons, List.map_nil, List.append_toArray, List.nil_append, List.append_nil]
        rfl
      rintro e w9 ⟨lv, rfl, L9, E9'⟩
      have E9 := (Ext.refl w8).drew.trans E9'
      refine ⟨_, rfl, hK' _ _ E9 ?_⟩
      clear hK' K
      simp only [Act.put, List.setIfInBounds_toArray, List.set_cons_zero, List.set_cons_succ]
      refine wpTake_do _ _ rfl rfl (fun K hK' => ?_)
      refine wp_call ?_ (enters_of (P := Tryz.prog) Tryz.func34 (by kernel_rfl) rfl _ _) (Hw.out _ _ L9) ?_
      focus
        rw [execOp_call_go]
        simp only [List.map_toArray, List.map_cons, List.map_nil, List.append_toArray, List.nil_append, List.append_nil]
        rfl
      rintro e w10 ⟨pv, rfl, P10, E10'⟩
      have E10 := E9.trans E10'
      refine ⟨_, rfl, hK' _ _ E10 ?_⟩
      clear hK' K
      simp only [Act.put, List.setIfInBounds_toArray, List.set_cons_zero, List.set_cons_succ]
      refine wpTake_nil ?_
      simp only [List.drop_succ_cons, List.drop_zero]
      obtain ⟨Ap, cp, rfl, hcp⟩ := P10.form
      have F10 := F8.trans E10
      have HZ := Lib.hid (HZ2.out.ext F10)
      have R10 := Lib.hid (R2.out.ext F10)
      have M10 := M2.ext F10
      have HP := Lib.hid P10
      have HR10 := Lib.hid (HR8.out.ext E10)
      have HO10 := Lib.hid (HO8.out.ext E10)
      rw [HY.out]
      clear P10 L9 E9 E9' E10' E10 F10 F8 HB8 f0 f1 f2 e0 e1 e2 HR8 HO8 Hs Hl Hw i8
      go_wp2_with (first | (refine wpList_build_to rfl 44 _ rfl #[.int .i64 (i : Int), .slice Ar _ cr, .slice Ax _ cx, .slice Ap _ cp] (by rfl) ?_) | (refine wpList_store_blk rfl 44 _ _ rfl w.heap.size #[.int .i64 (i : Int), .slice Ar _ cr, .slice Ax _ cx, .slice Ap _ cp] rfl rfl 44 noSig HZ.out info_sig rfl (sig_one _ _ _ _ _ _ _ _ _ _) ?_; intro w11 hs11 hb11 hg11))
      refine NoPanic.normal ?_
      go_wp2
      refine bodyPost_ret (ret2_blk hb11 rfl rfl Tryz.underlying44 rfl info_sig rfl) rfl ?_
      exact ⟨_, _, _, rfl, slD_noByte HR10.out HZ.out noSig_noByte hg11, slD_noByte HO10.out HZ.out noSig_noByte hg11, slD_noByte HP.out HZ.out noSig_noByte hg11, R10.out.grown hg11 HZ.out (by decide) (by decide) (by decide) (fun o k => by rw [HZ.out.cell]; exact noSig_noByte o k), M10.grown hg11 (fun j e => by cases e; exact .inr (.inr (Nat.le_refl _)))⟩
  · rw [hu] at x0 y0
    simp only [Option.getD_some, Option.isSome_some] at x0 y0
    clear hu
    go_enter Tryz.func12, Tryz.ntmps12
    go_wp2_with (first | (refine wpList_alloc_blk rfl 44 rfl (.agg noSig) zero_sig ?_; intro w1 hs1 hb1 he1; clear hs1; have d3 := he1.cell c3; have d4 := he1.cell c4; have dx := he1.cell x0; have dy := he1.cell y0))
    obtain ⟨s2, hs2⟩ : ∃ s2, s2 = strB' m := ⟨_, rfl⟩
    have Hs1 := Lib.hid (Hs0.out.ext he1)
    have Hcv := Lib.hid (fun wS (E : Ext w1 wS) => (by rw [hs2]; exact run_conv_str (HM.out.ext (he1.trans E)) : (convert 22 9 (.slice Am m.length cm)).run Tryz.prog wS = .ok (.string s2) wS))
    have HcvU : Hid ((convert 22 9 (.slice Am m.length cm)).run Tryz.prog (w1.drew.drew.setCell ⟨U, i, none⟩ (.bool true)) = .ok (.string s2) (w1.drew.drew.setCell ⟨U, i, none⟩ (.bool true))) := Lib.hid (by
      rw [hs2]
      exact run_conv_str (Sl.grown (w := w1.drew.drew) (HM.out.ext (he1.trans (Ext.refl w1).drew.drew)) (grown_setCell w1.drew.drew U i (.bool true)) (nu_of (Hs1.out.bu.ext (Ext.refl w1).drew.drew) (usedV_nu _ _))))
    rw [← hs2] at dy
    have hsame : (s2.toList == s2.toList) = true := by simp
    have Hs2 := Lib.hid hs2
    clear hs2 c3 c4 x0 y0 hi
    refine wp_region_chain 19 [(true, 0), (true, 1), (true, 2), (true, 3), (true, 4), (true, 5), (true, 6), (true, 7), (true, 8), (true, 9), (true, 10), (true, 11), (true, 12), (true, 13), (true, 14), (true, 15), (true, 16), (true, 17), (true, 18)] (fun w' => Ext w1 w') (by kernel_rfl) (by kernel_rfl) (Ext.refl w1).drew ?_
    iterate 19
      refine wpTake_read _ _ ?_ rfl rfl ?_ ?_
      rotate_left 1
      focus
        intro wS hS
        have d3 := Ext.cell hS d3
        have d4 := Ext.cell hS d4
        have dx := Ext.cell hS dx
        have dy := Ext.cell hS dy
        have hcv : (convert 22 9 (.slice Am m.length cm)).run Tryz.prog wS = .ok (.string s2) wS := Hcv.out wS hS
        go_simp
        first | done | with_reducible rfl
      simp only [Act.put, List.setIfInBounds_toArray, List.set_cons_zero, List.set_cons_succ]
    refine wpTake_nil ?_
    simp only [List.drop_succ_cons, List.drop_zero]
    go_wp2
    refine NoPanic.normal ?_
    have E2 : Ext w1 w1.drew := (Ext.refl w1).drew
    have g3 : w1.drew.drew.cell? ⟨X, 3, none⟩ = some (.slice (some ⟨U, 0, none⟩) N cu) := d3
    have g4 : w1.drew.drew.cell? ⟨X, 4, none⟩ = some (.slice (some ⟨F, 0, none⟩) N cf) := d4
    have gcv := Hcv.out w1.drew.drew (Ext.refl w1).drew.drew
    have gx : w1.drew.drew.cell? ⟨U, i, none⟩ = some (.bool true) := dx
    have gf := (Hs1.out.bu.ext (Ext.refl w1).drew.drew).frozen i
    go_wp2
    refine wp_region_chain 14 [(true, 0), (true, 1), (true, 2), (true, 3), (true, 4), (true, 5), (true, 6), (true, 7), (true, 8), (true, 9), (true, 10), (true, 11), (true, 12), (false, 13)] (fun w' => w'.cell? ⟨X, 3, none⟩ = some (.slice (some ⟨U, 0, none⟩) N cu) ∧ w'.cell? ⟨X, 4, none⟩ = some (.slice (some ⟨F, 0, none⟩) N cf) ∧ (convert 22 9 (.slice Am m.length cm)).run Tryz.prog w' = .ok (.string s2) w') (by kernel_rfl) (by kernel_rfl) ⟨g3, g4, gcv⟩ ?_
    iterate 13
      refine wpTake_read _ _ ?_ rfl rfl ?_ ?_
      rotate_left 1
      focus
        intro wS hS
        have d3 := hS.1
        have d4 := hS.2.1
        have hcv : (convert 22 9 (.slice Am m.length cm)).run Tryz.prog wS = .ok (.string s2) wS := hS.2.2
        clear hS
        go_simp
        first | done | with_reducible rfl
      simp only [Act.put, List.setIfInBounds_toArray, List.set_cons_zero, List.set_cons_succ]
    refine wpTake_do _ _ rfl rfl (fun K hK' => ?_)
    refine wp_skip (w' := w1.drew.drew.setCell ⟨U, i, none⟩ (.bool true)) (by go_simp; first | done | with_reducible rfl) ?_
    have hgU : w1.drew.drew.grownBy (w1.drew.drew.setCell ⟨U, i, none⟩ (.bool true)) (some U) := grown_setCell w1.drew.drew U i (.bool true)
    refine hK' _ _ ⟨hgU.cell g3 (by simp; omega), hgU.cell g4 (by simp; omega), HcvU.out⟩ ?_
    clear hK' K
    simp only [Act.put]
    refine wpTake_nil ?_
    simp only [List.drop_succ_cons, List.drop_zero]
    have BF' := (Hs1.out.bf.ext (Ext.refl w1).drew.drew).far (p := ⟨U, i, none⟩) (by show F ≠ U; omega) (.bool true)
    have fy' := BF'.frozen i
    have y0' := (BF'.cell i).trans (forV_get u (2 ^ h) i Hi.out)
    have hput := (Hs1.out.ext (Ext.refl w1).drew.drew).put i m
    rw [← Hs2.out] at hput
    revert fy' y0' hput
    generalize w1.drew.drew.setCell ⟨U, i, none⟩ (.bool true) = w7
    intro fy' y0' hput
    go_wp2
    refine NoPanic.normal ?_
    go_wp2
    revert hput
    generalize w7.setCell ⟨F, i, none⟩ (.string s2) = w2
    intro hput
    have R2 := Lib.hid hput.1
    have M2 := (RMv.of_ext Hs0.out (he1.trans (Ext.refl w1).drew.drew)).trans (hput.2)
    have hz2 : w1.heap.size ≤ w2.heap.size := hput.2.size
    have HZ2 := Lib.hid (hput.2.blkT (hb1.ext (Ext.refl w1).drew.drew) (by decide) (by decide))
    have HM2 := Lib.hid (M2.sl HM.out)
    obtain ⟨sv2, cu2, cf2, B2, S2⟩ := R2.out.ex
    obtain ⟨As, cs, rfl, _⟩ := SlR.form S2
    have e0 : w2.cell? ⟨X, 0, none⟩ = some (.slice As seed.length cs) := B2.cell 0
    have e1 : w2.cell? ⟨X, 1, none⟩ = some (.int .i64 (b : Int)) := B2.cell 1
    have e2 : w2.cell? ⟨X, 2, none⟩ = some (.int .i64 (h : Int)) := B2.cell 2
    have Hs := Lib.hid (fun w' (E : Ext w2 w') => r7Sign_yes (.slice As seed.length cs) (.slice Am m.length cm) seed m (i : Int) (b : Int) w' (S2.ext E) (HM2.out.ext E) Hmb.out ((keyB_iff _ _).2 ⟨hlen, by omega, by omega⟩) hl)
    simp only [Int.toNat_natCast] at Hs
    have Hl := Lib.hid (fun w' (E : Ext w2 w') => r9Leaves_any (.slice As seed.length cs) seed b h w' (S2.ext E) hlen Hmay.out)
    have Hw := Lib.hid (fun w' v (hv : SlD w' v (lvsB seed b h)) => r8Way_yes v (lvsB seed b h) h i w' hv (lvsB_length seed b h) (by omega) Hi.out)
    clear S2 B2 hput HM2
    refine wp_region_plan 16 (.read 0 (.read 1 (.read 2 (.read 3 (.read 4 (.read 5 (.read 6 (.read 7 (.read 8 (.read 9 (.fork 10 14 (.read 11 (.read 12 (.read 13 (.act 14 (.act 15 .done))))) (.act 10 (.read 11 (.read 12 (.read 13 (.act 15 .done)))))))))))))))) (fun w' => Ext w2 w') (by kernel_rfl) (by kernel_rfl) (Ext.refl w2).drew ?_
    iterate 10
      refine wpPlan_read _ _ ?_ rfl rfl ?_ ?_
      rotate_left 1
      focus
        intro wS hS
        try dsimp only at hS
        have e0 := Ext.cell hS e0
        have e1 := Ext.cell hS e1
        go_simp
        first | done | with_reducible rfl
      simp only [Act.put, List.setIfInBounds_toArray, List.set_cons_zero, List.set_cons_succ]
    refine wpPlan_fork ?_ ?_
    · skip
      refine wpPlan_act _ _ rfl rfl (fun K hK' => ?_)
      go_simp
      refine (Hs.out _ (Ext.refl w2).drew).mono ?_
      rintro e w5 ⟨rv, ov, rfl, R5, O5, E5⟩
      have G5 : Ext w2 w5 := (Ext.refl w2).drew.trans E5
      refine hK' _ _ G5 ?_
      clear hK' K
      iterate 3
        refine wpPlan_read _ _ ?_ rfl rfl ?_ ?_
        rotate_left 1
        focus
          intro wS hS
          clear hS
          go_simp
          first | done | with_reducible rfl
        simp only [Act.put, List.setIfInBounds_toArray, List.set_cons_zero, List.set_cons_succ]
      refine wpPlan_act _ _ rfl rfl (fun K hK' => ?_)
      refine wp_alloc_blk 42 rfl (.agg noOne) zero_one ?_
      intro w6 hb6 he6
      have G6 : Ext w2 w6 := G5.trans he6
      refine hK' _ _ G6 ?_
      clear hK' K
      simp only [Act.put, List.setIfInBounds_toArray, List.set_cons_zero, List.set_cons_succ]
      have HR := Lib.hid (R5.ext he6)
      have HO := Lib.hid (O5.ext he6)
      have hg3 : w2.heap.size ≤ w5.heap.size := G5.size
      have HB6 := Lib.hid hb6
      obtain ⟨g, hg⟩ : ∃ g, g = w5.heap.size := ⟨_, rfl⟩
      rw [← hg] at HB6 hg3
      simp only [← hg]
      clear R5 O5 E5 G5 hb6 he6 hg
      obtain ⟨Ar, cr, rfl, hcr⟩ := HR.out.form
      obtain ⟨Ax, cx, rfl, hcx⟩ := HO.out.form
      refine wpPlan_act _ _ rfl rfl (fun K hK' => ?_)
      refine wp_store_blk 42 _ _ rfl g #[.slice Ar _ cr, .slice Ax _ cx] rfl rfl 42 noOne HB6.out info_one rfl (two_one _ _ _ _ _ _) ?_
      intro w8 hb8 hg8
      refine hK' _ _ (G6.grown hg8 (fun k e => by cases e; exact hg3)) ?_
      clear hK' K
      refine wpPlan_done ?_
      simp only [Act.put, List.drop_succ_cons, List.drop_zero]
      have F8 : Ext w2 w8 := G6.grown hg8 (fun k e => by cases e; omega)
      go_wp2
      refine NoPanic.normal ?_
      have HR8 := Lib.hid (slD_noByte HR.out HB6.out noOne_noByte hg8)
      have HO8 := Lib.hid (slD_noByte HO.out HB6.out noOne_noByte hg8)
      have HB8 := Lib.hid hb8
      clear HR HO HB6 hb8 hg8 G6 hg3
      have f0 := F8.cell e0
      have f1 := F8.cell e1
      have f2 := F8.cell e2
      have i8 : (Tryz.prog.info? 42).map (·.size) = some (#[Value.slice Ar (signR seed i m b).length cr, .slice Ax (signO seed i m b).length cx] : Array Value).size := info_one
      obtain ⟨Y, hY⟩ : ∃ Y, Y = #[Value.slice Ar (signR seed i m b).length cr, .slice Ax (signO seed i m b).length cx] := ⟨_, rfl⟩
      rw [← hY] at HB8 i8
      have HY := Lib.hid hY
      clear hY
      go_wp2
      refine wp_region_chain 17 [(true, 0), (true, 1), (true, 2), (true, 3), (true, 4), (true, 5), (true, 6), (true, 7), (true, 8), (true, 9), (true, 10), (true, 11), (true, 12), (true, 13), (true, 15), (false, 14), (false, 16)] (fun w' => Ext w8 w') (by kernel_rfl) (by kernel_rfl) (Ext.refl w8).drew ?_
      iterate 1
        refine wpTake_read _ _ ?_ rfl rfl ?_ ?_
        rotate_left 1
        focus
          intro wS hS
          clear hS
          go_simp
          first | done | with_reducible rfl
        simp only [Act.put, List.setIfInBounds_toArray, List.set_cons_zero, List.set_cons_succ]
      refine wpTake_load _ _ rfl rfl 42 _ rfl (.agg Y) (fun wS hS => load_blk (HB8.out.ext hS) Tryz.underlying42 rfl i8) ?_
      simp only [Act.put, List.setIfInBounds_toArray, List.set_cons_zero, List.set_cons_succ]
      iterate 13
        refine wpTake_read _ _ ?_ rfl rfl ?_ ?_
        rotate_left 1
        focus
          intro wS hS
          have f0 := Ext.cell hS f0
          have f1 := Ext.cell hS f1
          have f2 := Ext.cell hS f2
          go_simp
          first | done | with_reducible rfl
        simp only [Act.put, List.setIfInBounds_toArray, List.set_cons_zero, List.set_cons_succ]
      refine wpTake_do _ _ rfl rfl (fun K hK' => ?_)
      refine wp_call ?_ (enters_of (P := Tryz.prog) Tryz.func29 (by kernel_rfl) rfl _ _) (Hl.out _ (F8.trans (Ext.refl w8).drew)) ?_
      focus
        rw [execOp_call_go]
        simp only [List.map_toArray, List.map_cons, List.map_nil, List.append_toArray, List.nil_append, List.append_nil]
        rfl
      rintro e w9 ⟨lv, rfl, L9, E9'⟩
      have E9 := (Ext.refl w8).drew.trans E9'
      refine ⟨_, rfl, hK' _ _ E9 ?_⟩
      clear hK' K
      simp only [Act.put, List.setIfInBounds_toArray, List.set_cons_zero, List.set_cons_succ]
      refine wpTake_do _ _ rfl rfl (fun K hK' => ?_)
      refine wp_call ?_ (enters_of (P := Tryz.prog) Tryz.func34 (by kernel_rfl) rfl _ _) (Hw.out _ _ L9) ?_
      focus
        rw [execOp_call_go]
        simp only [List.map_toArray, List.map_cons, List.map_nil, List.append_toArray, List.nil_append, List.append_nil]
        rfl
      rintro e w10 ⟨pv, rfl, P10, E10'⟩
      have E10 := E9.trans E10'
      refine ⟨_, rfl, hK' _ _ E10 ?_⟩
      clear hK' K
      simp only [Act.put, List.setIfInBounds_toArray, List.set_cons_zero, List.set_cons_succ]
      refine wpTake_nil ?_
      simp only [List.drop_succ_cons, List.drop_zero]
      obtain ⟨Ap, cp, rfl, hcp⟩ := P10.form
      have F10 := F8.trans E10
      have HZ := Lib.hid (HZ2.out.ext F10)
      have R10 := Lib.hid (R2.out.ext F10)
      have M10 := M2.ext F10
      have HP := Lib.hid P10
      have HR10 := Lib.hid (HR8.out.ext E10)
      have HO10 := Lib.hid (HO8.out.ext E10)
      rw [HY.out]
      clear P10 L9 E9 E9' E10' E10 F10 F8 HB8 f0 f1 f2 e0 e1 e2 HR8 HO8 Hs Hl Hw i8
      go_wp2_with (first | (refine wpList_build_to rfl 44 _ rfl #[.int .i64 (i : Int), .slice Ar _ cr, .slice Ax _ cx, .slice Ap _ cp] (by rfl) ?_) | (refine wpList_store_blk rfl 44 _ _ rfl w.heap.size #[.int .i64 (i : Int), .slice Ar _ cr, .slice Ax _ cx, .slice Ap _ cp] rfl rfl 44 noSig HZ.out info_sig rfl (sig_one _ _ _ _ _ _ _ _ _ _) ?_; intro w11 hs11 hb11 hg11))
      refine NoPanic.normal ?_
      go_wp2
      refine bodyPost_ret (ret2_blk hb11 rfl rfl Tryz.underlying44 rfl info_sig rfl) rfl ?_
      exact ⟨_, _, _, rfl, slD_noByte HR10.out HZ.out noSig_noByte hg11, slD_noByte HO10.out HZ.out noSig_noByte hg11, slD_noByte HP.out HZ.out noSig_noByte hg11, R10.out.grown hg11 HZ.out (by decide) (by decide) (by decide) (fun o k => by rw [HZ.out.cell]; exact noSig_noByte o k), M10.grown hg11 (fun j e => by cases e; exact .inr (.inr (Nat.le_refl _)))⟩
    · skip
      refine wpPlan_act _ _ rfl rfl (fun K hK' => ?_)
      refine wp_alloc_blk 42 rfl (.agg noOne) zero_one ?_
      intro w4 hb6 he6
      have G4 : Ext w2 w4 := (Ext.refl w2).drew.trans he6
      refine hK' _ _ G4 ?_
      clear hK' K
      refine wpPlan_act _ _ rfl rfl (fun K hK' => ?_)
      go_simp
      refine (Hs.out _ G4).mono ?_
      rintro e w5 ⟨rv, ov, rfl, R5, O5, E5⟩
      have G5 : Ext w2 w5 := G4.trans E5
      refine hK' _ _ G5 ?_
      clear hK' K
      iterate 3
        refine wpPlan_read _ _ ?_ rfl rfl ?_ ?_
        rotate_left 1
        focus
          intro wS hS
          clear hS
          go_simp
          first | done | with_reducible rfl
        simp only [Act.put, List.setIfInBounds_toArray, List.set_cons_zero, List.set_cons_succ]
      obtain ⟨w6, rfl⟩ : ∃ w6 : World, w6 = w5 := ⟨_, rfl⟩
      have HR := Lib.hid R5
      have HO := Lib.hid O5
      have G6 := G5
      have HB6 := Lib.hid (hb6.ext E5)
      rw [show w2.drew.heap.size = w2.heap.size from rfl] at HB6
      have hg3 : w2.heap.size ≤ w2.heap.size := Nat.le_refl _
      obtain ⟨g, hg⟩ : ∃ g, g = w2.heap.size := ⟨_, rfl⟩
      rw [← hg] at HB6
      replace hg3 : w2.heap.size ≤ g := by omega
      simp only [← hg]
      clear R5 O5 E5 G5 hb6 he6 hg G4
      obtain ⟨Ar, cr, rfl, hcr⟩ := HR.out.form
      obtain ⟨Ax, cx, rfl, hcx⟩ := HO.out.form
      refine wpPlan_act _ _ rfl rfl (fun K hK' => ?_)
      refine wp_store_blk 42 _ _ rfl g #[.slice Ar _ cr, .slice Ax _ cx] rfl rfl 42 noOne HB6.out info_one rfl (two_one _ _ _ _ _ _) ?_
      intro w8 hb8 hg8
      refine hK' _ _ (G6.grown hg8 (fun k e => by cases e; exact hg3)) ?_
      clear hK' K
      refine wpPlan_done ?_
      simp only [Act.put, List.drop_succ_cons, List.drop_zero]
      have F8 : Ext w2 w8 := G6.grown hg8 (fun k e => by cases e; omega)
      go_wp2
      refine NoPanic.normal ?_
      have HR8 := Lib.hid (slD_noByte HR.out HB6.out noOne_noByte hg8)
      have HO8 := Lib.hid (slD_noByte HO.out HB6.out noOne_noByte hg8)
      have HB8 := Lib.hid hb8
      clear HR HO HB6 hb8 hg8 G6 hg3
      have f0 := F8.cell e0
      have f1 := F8.cell e1
      have f2 := F8.cell e2
      have i8 : (Tryz.prog.info? 42).map (·.size) = some (#[Value.slice Ar (signR seed i m b).length cr, .slice Ax (signO seed i m b).length cx] : Array Value).size := info_one
      obtain ⟨Y, hY⟩ : ∃ Y, Y = #[Value.slice Ar (signR seed i m b).length cr, .slice Ax (signO seed i m b).length cx] := ⟨_, rfl⟩
      rw [← hY] at HB8 i8
      have HY := Lib.hid hY
      clear hY
      go_wp2
      refine wp_region_chain 17 [(true, 0), (true, 1), (true, 2), (true, 3), (true, 4), (true, 5), (true, 6), (true, 7), (true, 8), (true, 9), (true, 10), (true, 11), (true, 12), (true, 13), (true, 15), (false, 14), (false, 16)] (fun w' => Ext w8 w') (by kernel_rfl) (by kernel_rfl) (Ext.refl w8).drew ?_
      iterate 1
        refine wpTake_read _ _ ?_ rfl rfl ?_ ?_
        rotate_left 1
        focus
          intro wS hS
          clear hS
          go_simp
          first | done | with_reducible rfl
        simp only [Act.put, List.setIfInBounds_toArray, List.set_cons_zero, List.set_cons_succ]
      refine wpTake_load _ _ rfl rfl 42 _ rfl (.agg Y) (fun wS hS => load_blk (HB8.out.ext hS) Tryz.underlying42 rfl i8) ?_
      simp only [Act.put, List.setIfInBounds_toArray, List.set_cons_zero, List.set_cons_succ]
      iterate 13
        refine wpTake_read _ _ ?_ rfl rfl ?_ ?_
        rotate_left 1
        focus
          intro wS hS
          have f0 := Ext.cell hS f0
          have f1 := Ext.cell hS f1
          have f2 := Ext.cell hS f2
          go_simp
          first | done | with_reducible rfl
        simp only [Act.put, List.setIfInBounds_toArray, List.set_cons_zero, List.set_cons_succ]
      refine wpTake_do _ _ rfl rfl (fun K hK' => ?_)
      refine wp_call ?_ (enters_of (P := Tryz.prog) Tryz.func29 (by kernel_rfl) rfl _ _) (Hl.out _ (F8.trans (Ext.refl w8).drew)) ?_
      focus
        rw [execOp_call_go]
        simp only [List.map_toArray, List.map_cons, List.map_nil, List.append_toArray, List.nil_append, List.append_nil]
        rfl
      rintro e w9 ⟨lv, rfl, L9, E9'⟩
      have E9 := (Ext.refl w8).drew.trans E9'
      refine ⟨_, rfl, hK' _ _ E9 ?_⟩
      clear hK' K
      simp only [Act.put, List.setIfInBounds_toArray, List.set_cons_zero, List.set_cons_succ]
      refine wpTake_do _ _ rfl rfl (fun K hK' => ?_)
      refine wp_call ?_ (enters_of (P := Tryz.prog) Tryz.func34 (by kernel_rfl) rfl _ _) (Hw.out _ _ L9) ?_
      focus
        rw [execOp_call_go]
        simp only [List.map_toArray, List.map_cons, List.map_nil, List.append_toArray, List.nil_append, List.append_nil]
        rfl
      rintro e w10 ⟨pv, rfl, P10, E10'⟩
      have E10 := E9.trans E10'
      refine ⟨_, rfl, hK' _ _ E10 ?_⟩
      clear hK' K
      simp only [Act.put, List.setIfInBounds_toArray, List.set_cons_zero, List.set_cons_succ]
      refine wpTake_nil ?_
      simp only [List.drop_succ_cons, List.drop_zero]
      obtain ⟨Ap, cp, rfl, hcp⟩ := P10.form
      have F10 := F8.trans E10
      have HZ := Lib.hid (HZ2.out.ext F10)
      have R10 := Lib.hid (R2.out.ext F10)
      have M10 := M2.ext F10
      have HP := Lib.hid P10
      have HR10 := Lib.hid (HR8.out.ext E10)
      have HO10 := Lib.hid (HO8.out.ext E10)
      rw [HY.out]
      clear P10 L9 E9 E9' E10' E10 F10 F8 HB8 f0 f1 f2 e0 e1 e2 HR8 HO8 Hs Hl Hw i8
      go_wp2_with (first | (refine wpList_build_to rfl 44 _ rfl #[.int .i64 (i : Int), .slice Ar _ cr, .slice Ax _ cx, .slice Ap _ cp] (by rfl) ?_) | (refine wpList_store_blk rfl 44 _ _ rfl w.heap.size #[.int .i64 (i : Int), .slice Ar _ cr, .slice Ax _ cx, .slice Ap _ cp] rfl rfl 44 noSig HZ.out info_sig rfl (sig_one _ _ _ _ _ _ _ _ _ _) ?_; intro w11 hs11 hb11 hg11))
      refine NoPanic.normal ?_
      go_wp2
      refine bodyPost_ret (ret2_blk hb11 rfl rfl Tryz.underlying44 rfl info_sig rfl) rfl ?_
      exact ⟨_, _, _, rfl, slD_noByte HR10.out HZ.out noSig_noByte hg11, slD_noByte HO10.out HZ.out noSig_noByte hg11, slD_noByte HP.out HZ.out noSig_noByte hg11, R10.out.grown hg11 HZ.out (by decide) (by decide) (by decide) (fun o k => by rw [HZ.out.cell]; exact noSig_noByte o k), M10.grown hg11 (fun j e => by cases e; exact .inr (.inr (Nat.le_refl _)))⟩
end Go.Proofs.YtddbmddblhjkkaaGreatDoor
/- The reference's Sign; what both signers' calls come to. -/
namespace Go.Proofs.YtddbmddblhjkkaaGreatDoor
open Go.RowKit Go.Maps

set_option maxRecDepth 100000 in
set_option maxHeartbeats 1000000 in
theorem r9Sign_spent (X U F : Nat) (seed : List UInt8) (b h : Nat) (u : Int → Option (List UInt8)) (w : World) (s : RSgn w X U F seed b h u) (mv : Value) (m : List UInt8) (hm : Sl w mv m) (hl : m.length ≤ 1048576) (hall : ∀ j : Nat, j < 2 ^ h → (u j).isSome = true) :
    Calls Tryz.prog 10 #[.pointer (some ⟨X, 0, none⟩), mv] w fun e w' => e = .returned (.tuple #[.agg noSig, .int .i64 91]) ∧ Ext w w' := by
  obtain ⟨sv, cu, cf, hB, _⟩ := s.ex
  obtain ⟨Am, cm, rfl, hcm⟩ := SlR.form hm
  have c3 : w.cell? ⟨X, 3, none⟩ = some (.slice (some ⟨U, 0, none⟩) (2 ^ h : Nat) cu) := hB.cell 3
  have hgt : ¬ ((m.length : Int) > 1048576) := by omega
  have h6 := (mayK_iff _ _).1 s.may
  have hle := pow_le (show h ≤ 6 by omega)
  have hxu : Hid (∀ k, k < 2 ^ h → w.cell? ⟨U, k, none⟩ = some (.bool true)) := Lib.hid (fun k hk => by
    have := (s.bu.cell k).trans (usedV_get u (2 ^ h) k hk)
    rw [hall k hk] at this
    exact this)
  obtain ⟨N, hN⟩ : ∃ N, N = 2 ^ h := ⟨_, rfl⟩
  rw [← hN] at c3 hxu hle
  clear s hB hm hall hN h6
  go_enter Tryz.func10, Tryz.ntmps10
  go_wp2_with (first | (refine wpList_alloc_blk rfl 44 rfl (.agg noSig) zero_sig ?_; intro w1 hs1 hb1 he1; clear hs1; have d3 := he1.cell c3))
  go_loopw [6] (fun i wr => ∃ k : Nat, k ≤ N ∧ i = .int .i64 (k : Int) ∧ Ext w1 wr) (fun i _ => N - (intOf i).toNat)
  case atStart => exact ⟨0, by omega, rfl, Ext.refl _⟩
  case round =>
    obtain ⟨k, hk, rfl, E⟩ := hrel
    have g3 := E.cell d3
    by_cases hlt : k < N
    · have hlt' : (k : Int) < (N : Int) := by omega
      have x0 := E.cell (he1.cell (hxu.out k hlt))
      go_wp2
      exact ⟨⟨k + 1, hlt, by go_num, E⟩, by simp [intOf]; omega⟩
    · obtain rfl : k = N := by omega
      have hlt' : ¬ ((k : Int) < (k : Int)) := by omega
      have hbr := hb1.ext E
      go_wp2_with (first | (refine wpList_build_to rfl 44 _ rfl noSig (by kernel_rfl) ?_) | (refine wpList_store_blk rfl 44 _ _ rfl w.heap.size noSig rfl rfl 44 noSig hbr info_sig rfl noSig_one ?_; intro w7 hs7 hb7 hg7))
      refine bodyPost_ret (v := .tuple #[.agg noSig, .int .i64 91]) (ret2_blk hb7 rfl rfl Tryz.underlying44 rfl info_sig rfl) rfl ?_
      exact ⟨rfl, (he1.trans E).grown hg7 (by simp)⟩

set_option maxRecDepth 100000 in
set_option maxHeartbeats 1000000 in
theorem r9Sign_yes (X U F : Nat) (seed : List UInt8) (b h : Nat) (u : Int → Option (List UInt8)) (w : World) (s : RSgn w X U F seed b h u) (mv : Value) (m : List UInt8) (hm : Sl w mv m) (hl : m.length ≤ 1048576) (i : Nat) (hi : i < 2 ^ h) (hu : u i = none) (hall : ∀ j : Nat, j < i → (u j).isSome = true) :
    Calls Tryz.prog 10 #[.pointer (some ⟨X, 0, none⟩), mv] w (AnsR X U F seed b h (resYes seed b h u m i) w) := by
  obtain ⟨sv, cu, cf, hB, _⟩ := s.ex
  have Hat := Lib.hid (fun w' (E : Ext w w') => r9SignAt_yes X U F seed b h u w' (s.ext E) i mv m (hm.ext E) hl hi (.inl hu))
  obtain ⟨Am, cm, rfl, hcm⟩ := SlR.form hm
  have c3 : w.cell? ⟨X, 3, none⟩ = some (.slice (some ⟨U, 0, none⟩) (2 ^ h : Nat) cu) := hB.cell 3
  have hgt : ¬ ((m.length : Int) > 1048576) := by omega
  have h6 := (mayK_iff _ _).1 s.may
  have hle := pow_le (show h ≤ 6 by omega)
  have hxu : Hid (∀ k, k < i → w.cell? ⟨U, k, none⟩ = some (.bool true)) := Lib.hid (fun k hk => by
    have := (s.bu.cell k).trans (usedV_get u (2 ^ h) k (by omega))
    rw [hall k hk] at this
    exact this)
  have hx0 : w.cell? ⟨U, i, none⟩ = some (.bool false) := by
    have := (s.bu.cell i).trans (usedV_get u (2 ^ h) i hi)
    rw [hu] at this
    exact this
  have HX0 := Lib.hid hx0
  have HS := Lib.hid s
  obtain ⟨R, hR⟩ : ∃ R, R = resYes seed b h u m i := ⟨_, rfl⟩
  rw [← hR] at Hat ⊢
  obtain ⟨N, hN⟩ : ∃ N, N = 2 ^ h := ⟨_, rfl⟩
  rw [← hN] at c3 hle hi
  clear s hB hm hall hN h6 hu hx0 hR
  go_enter Tryz.func10, Tryz.ntmps10
  go_wp2_with (first | (refine wpList_alloc_blk rfl 44 rfl (.agg noSig) zero_sig ?_; intro w1 hs1 hb1 he1; clear hs1; have d3 := he1.cell c3))
  go_loopw [6] (fun j wr => ∃ k : Nat, k ≤ i ∧ j = .int .i64 (k : Int) ∧ Ext w1 wr) (fun j _ => i - (intOf j).toNat)
  case atStart => exact ⟨0, by omega, rfl, Ext.refl _⟩
  case round =>
    obtain ⟨k, hk, rfl, E⟩ := hrel
    have g3 := E.cell d3
    have hlt' : (k : Int) < (N : Int) := by omega
    by_cases hlt : k < i
    · have x0 := E.cell (he1.cell (hxu.out k hlt))
      go_wp2
      exact ⟨⟨k + 1, hlt, by go_num, E⟩, by simp [intOf]; omega⟩
    · obtain rfl : k = i := by omega
      have x0 := E.cell (he1.cell HX0.out)
      have Hc := Lib.hid (Hat.out _ (he1.trans E))
      go_wp2_with fail
      with_reducible refine Hc.out.mono ?_
      rintro e w4 ⟨rv, ov, pv, rfl, R4, O4, P4, S4, M4⟩
      have hb4 := Lib.hid (M4.blkT (hb1.ext E) (by decide) (by decide))
      obtain ⟨Ar, cr, rfl, hcr⟩ := R4.form
      obtain ⟨Ao, co, rfl, hco⟩ := O4.form
      obtain ⟨Ap, cp, rfl, hcp⟩ := P4.form
      have HR := Lib.hid R4
      have HO := Lib.hid O4
      have HP := Lib.hid P4
      have HS4 := Lib.hid S4
      have M04 : RMv U F w w4 := (RMv.of_ext HS.out (he1.trans E)).trans M4
      clear R4 O4 P4 S4 M4 Hat Hc
      go_wp2_with (first | (refine wpList_store_blk rfl 44 _ _ rfl w.heap.size (sigC R.i (.slice Ar _ cr) (.slice Ao _ co) (.slice Ap _ cp)) rfl rfl 44 noSig hb4.out info_sig rfl (sig_one _ _ _ _ _ _ _ _ _ _) ?_; intro w7 hs7 hb7 hg7))
      refine bodyPost_ret (ret2_blk hb7 rfl rfl Tryz.underlying44 rfl info_sig rfl) rfl ?_
      exact ⟨_, _, _, rfl, slD_noByte HR.out hb4.out noSig_noByte hg7, slD_noByte HO.out hb4.out noSig_noByte hg7, slD_noByte HP.out hb4.out noSig_noByte hg7, HS4.out.grown hg7 hb4.out (by decide) (by decide) (by decide) (fun o k => by rw [hb4.out.cell]; exact noSig_noByte o k), M04.grown hg7 (fun j e => by cases e; exact .inr (.inr (Nat.le_refl _)))⟩

/-- an answer is a refusal or a leaf's signature -/
def ResOk (seed : List UInt8) (b h : Nat) (u : Int → Option (List UInt8)) (m : List UInt8) (R : Res) : Prop := (∃ f : Int, (f != 0) = true ∧ R = resNo u f) ∨ ∃ i : Nat, i < 2 ^ h ∧ R = resYes seed b h u m i
theorem both_sign (seed : List UInt8) (b h : Nat) (u : Int → Option (List UInt8)) (m : List UInt8) (hl : m.length ≤ 3000) (hh : h ≤ 6) :
    ∃ R, ResOk seed b h u m R ∧ (∀ S M mv w, Kst w → Sl w mv m → Sgn w S M seed b h u (cnt u (2 ^ h)) → Calls Tryz.prog 9 #[.pointer (some ⟨S, 0, none⟩), mv] w (AnsS S M seed b h R w)) ∧
      ∀ X U F mv w, Sl w mv m → RSgn w X U F seed b h u → Calls Tryz.prog 10 #[.pointer (some ⟨X, 0, none⟩), mv] w (AnsR X U F seed b h R w) := by
  have hc : cnt u (2 ^ h) ≤ 1000 := by have := cnt_le u (2 ^ h); have := pow_le hh; omega
  rcases least_or u (2 ^ h) with ha | ⟨i, hi, h1, h2⟩
  · exact ⟨resNo u 91, .inl ⟨91, by decide, rfl⟩, fun S M mv w hK hm s => (sSign_spent S M seed b h u _ w s mv m hm (by omega) ha).mono fun e w' ⟨he, E⟩ => ansS_no s he E,
      fun X U F mv w hm s => (r9Sign_spent X U F seed b h u w s mv m hm (by omega) ha).mono fun e w' ⟨he, E⟩ => ansR_no s he E⟩
  · refine ⟨resYes seed b h u m i, .inr ⟨i, hi, rfl⟩, fun S M mv w hK hm s => ?_, fun X U F mv w hm s => r9Sign_yes X U F seed b h u w s mv m hm (by omega) i hi h1 h2⟩
    refine (sSign_yes S M seed b h u _ w hK s mv m hm (by omega) i hi hc h1 h2).mono ?_
    rintro e w' ⟨rv, ov, pv, he, p1, p2, p3, s', hM⟩
    exact ansS_yes hi he p1 p2 p3 (by rw [h1]; rfl) s' hM
theorem both_at (seed : List UInt8) (b h : Nat) (u : Int → Option (List UInt8)) (m : List UInt8) (l : Int) (hl : m.length ≤ 3000) (hh : h ≤ 6) :
    ∃ R, ResOk seed b h u m R ∧ (∀ S M mv w, Kst w → Sl w mv m → Sgn w S M seed b h u (cnt u (2 ^ h)) → Calls Tryz.prog 11 #[.pointer (some ⟨S, 0, none⟩), .int .i64 l, mv] w (AnsS S M seed b h R w)) ∧
      ∀ X U F mv w, Sl w mv m → RSgn w X U F seed b h u → Calls Tryz.prog 12 #[.pointer (some ⟨X, 0, none⟩), .int .i64 l, mv] w (AnsR X U F seed b h R w) := by
  have hc : cnt u (2 ^ h) ≤ 1000 := by have := cnt_le u (2 ^ h); have := pow_le hh; omega
  by_cases hin : 0 ≤ l ∧ l < ((2 ^ h : Nat) : Int)
  · obtain ⟨i, rfl⟩ : ∃ i : Nat, l = i := ⟨l.toNat, by omega⟩
    have hi : i < 2 ^ h := by omega
    have yes : (u i = none ∨ u i = some m) → _ := fun hu => (⟨resYes seed b h u m i, .inr ⟨i, hi, rfl⟩, fun S M mv w hK hm s => by
        refine (sSignAt_yes S M seed b h u _ w hK s i mv m hm (by omega) hi hc hu).mono ?_
        rintro e w' ⟨rv, ov, pv, he, p1, p2, p3, s', hM⟩
        exact ansS_yes hi he p1 p2 p3 rfl s' hM, fun X U F mv w hm s => r9SignAt_yes X U F seed b h u w s i mv m hm (by omega) hi hu⟩ :
      ∃ R, ResOk seed b h u m R ∧ (∀ S M mv w, Kst w → Sl w mv m → Sgn w S M seed b h u (cnt u (2 ^ h)) → Calls Tryz.prog 11 #[.pointer (some ⟨S, 0, none⟩), .int .i64 (i : Int), mv] w (AnsS S M seed b h R w)) ∧
        ∀ X U F mv w, Sl w mv m → RSgn w X U F seed b h u → Calls Tryz.prog 12 #[.pointer (some ⟨X, 0, none⟩), .int .i64 (i : Int), mv] w (AnsR X U F seed b h R w))
    cases hu : u i with
    | none => exact yes (.inl hu)
    | some t =>
      by_cases htm : t = m
      · exact yes (.inr (by rw [hu, htm]))
      · exact ⟨resNo u 90, .inl ⟨90, by decide, rfl⟩, fun S M mv w hK hm s => (sSignAt_used S M seed b h u _ w hK s i mv m t hm (by omega) hi hu htm).mono fun e w' ⟨he, E⟩ => ansS_no s he E,
          fun X U F mv w hm s => (r9SignAt_used X U F seed b h u w s i mv m t hm (by omega) hi hu htm).mono fun e w' ⟨he, E⟩ => ansR_no s he E⟩
  · have hno : l < 0 ∨ (0 ≤ l ∧ ((2 ^ h : Nat) : Int) ≤ l) := by omega
    refine ⟨resNo u 4, .inl ⟨4, by decide, rfl⟩, fun S M mv w hK hm s => (sSignAt_none S M seed b h u _ w hK s l mv m hm (by omega) hno).mono fun e w' ⟨he, E⟩ => ansS_no s he E, fun X U F mv w hm s => ?_⟩
    obtain ⟨A, c, rfl, _⟩ := SlR.form hm
    exact (r9SignAt_none X U F seed b h u w s l A m.length c (by omega) hno).mono fun e w' ⟨he, E⟩ => ansR_no s he E
end Go.Proofs.YtddbmddblhjkkaaGreatDoor
/- The walk of the law SignerPublics. -/
namespace Go.Proofs.YtddbmddblhjkkaaGreatDoor
open Go.RowKit Go.Maps

def SomeB (e : Ending) : Prop := ∃ B, e = .returned (.bool B)

set_option maxRecDepth 100000 in
set_option maxHeartbeats 400000 in
theorem small_any (b h : Int) (w : World) : Calls Tryz.prog 4 #[.int .i64 b, .int .i64 h] w fun e w' => SomeB e ∧ w = w' := by
  have Hm := fun w => Lib.hid (r7May_any b w)
  cases hm : mayB b
  all_goals
    rw [hm] at Hm
    go_enter Tryz.func4, Tryz.ntmps4
    go_wp2_with fail
    with_reducible refine (Hm _).out.mono ?_
    rintro e w2 ⟨rfl, rfl⟩
    go_wp2
    all_goals go_ret
    all_goals exact ⟨⟨_, rfl⟩, rfl⟩

/-- what both Public answer -/
theorem public_two (v : Value) (seed : List UInt8) (b h : Int) (w : World) (hK : Kst w) (hv : Sl w v seed) :
    ∃ (b' h' : Int) (r : List UInt8) (ec : Int), r.length = 32 ∧
      (∀ w', Ext w w' → Calls Tryz.prog 20 #[v, .int .i64 b, .int .i64 h] w' fun e w'' => e = .returned (.tuple #[.agg (pkC b' h' r), .int .i64 ec]) ∧ Ext w' w'') ∧
      (∀ w', Ext w w' → Calls Tryz.prog 8 #[v, .int .i64 b, .int .i64 h] w' fun e w'' => e = .returned (.tuple #[.agg (pkC b' h' r), .int .i64 ec]) ∧ Ext w' w'') := by
  by_cases hm : mayK b h = true ∧ seed.length ≤ 64
  · obtain ⟨hm, hl⟩ := hm
    obtain ⟨hmb, h0, h6⟩ := (mayK_iff _ _).1 hm
    obtain ⟨h8, _, _⟩ := (mayB_iff _).1 hmb
    obtain ⟨bn, rfl⟩ : ∃ n : Nat, b = n := ⟨b.toNat, by omega⟩
    obtain ⟨hn, rfl⟩ : ∃ n : Nat, h = n := ⟨h.toNat, by omega⟩
    exact ⟨bn, hn, pubB seed bn hn, 0, pubB_length _ _ _, fun w' E => public_yes v seed bn hn w' (hK.ext E) (hv.ext E) hl hm, fun w' E => r9Public_yes v seed bn hn w' (hv.ext E) hl hm⟩
  · obtain ⟨A, c, rfl, _⟩ := SlR.form hv
    refine ⟨0, 0, List.replicate 32 0, 1, by simp, fun w' _ => public_no A seed.length c b h w' ?_, fun w' _ => r9Public_no A seed.length c b h w' ?_⟩
    · cases hk : mayK b h with
      | false => exact .inl rfl
      | true => exact .inr ⟨rfl, by
          by_cases hl : seed.length ≤ 64
          · exact absurd ⟨hk, hl⟩ hm
          · omega⟩
    · cases hk : mayK b h with
      | false => simp
      | true =>
        rw [Bool.and_true, decide_eq_false_iff_not]
        exact fun hl => hm ⟨hk, hl⟩

end Go.Proofs.YtddbmddblhjkkaaGreatDoor
