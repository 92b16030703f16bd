/- PROVED: the law SignerOnce of package pursuivantlaw09 returns true at every input and leaves its arguments as they were: no leaf signs two unlike messages, whatever is asked. CONDITION: the package-level variable sha.constants holds what its initialiser lays (the card ties it). -/
import Derived.Test.YtddbmddblhjkkaaDoorMgA5
import Derived.Test.YtddbmddblhjkkaaDoorMgA4
import Derived.Deep.Strs
import Derived.Test.YtddbmddblhjkkaaDoorCards
import Derived.Test.YtddbmddblhjkkaaDoorTie
/- Arguments that are public keys, signatures and calls of a signer, opened. -/
namespace Go.Proofs.YtddbmddblhjkkaaDoor
open Go.ChangeShapes Go.WideShapes Go.ChangeAt Go.RowKit

section
variable {H : Type} {enc : TypeId × Value → H}
theorem cells_int : Tryd.prog.cellsOf 3 = 1 := by kernel_rfl
theorem i64_wf {x : Int} (wx : (Lit.int .i64 x).wf = true) : -9223372036854775808 ≤ x ∧ x ≤ 9223372036854775807 := by
  simp [Lit.wf, IntKind.min, IntKind.max, IntKind.signed, IntKind.bits] at wx
  omega
theorem cells_pk : Tryd.prog.cellsOf 45 = 34 := by kernel_rfl
set_option maxRecDepth 100000 in
theorem open_PubKey {w : World} {r : Reach} {b0 : Nat} {base : Nat} {spare : Nat → Bool} {held : Bool} {v : Value} {d : DataW H} {ps : List MemPlace} (hval : Value.okWide Tryd.prog w r b0 45 v) (h : DataW.Trod enc Tryd.prog w base spare held 45 v d ps) :
    ∃ (b h : Int) (r : List UInt8), v = .agg (pkC b h r) ∧ r.length = 32 ∧ (-9223372036854775808 ≤ b ∧ b ≤ 9223372036854775807) ∧ (-9223372036854775808 ≤ h ∧ h ≤ 9223372036854775807) := by
  obtain ⟨cs, rfl, hsz⟩ := okWide_struct Tryd.underlying45 hval
  obtain ⟨fuel, hf⟩ := h
  obtain ⟨y0, y1, y2, n, _, _, h0, h1, h2⟩ := Deep.trod_struct3 Tryd.underlying45 hf
  rw [cells_pk] at hsz
  obtain ⟨l⟩ := cs
  match l, hsz with
  | u0 :: u1 :: rest, hsz =>
    have hr : rest.length = 32 := by simpa using hsz
    dsimp only at h0 h1 h2
    rw [cells_int] at h0 h1
    rw [cells_a32] at h2
    obtain ⟨i0, e0, _, w0⟩ := DataW.trod_int Tryd.underlying3 h0
    obtain ⟨i1, e1, _, w1⟩ := DataW.trod_int Tryd.underlying3 h1
    obtain ⟨r, e2, hl⟩ := trod_a32 h2
    simp [Value.cells] at e0 e1 e2
    rw [List.take_of_length_le (by omega)] at e2
    subst e0 e1 e2
    exact ⟨i0, i1, r, rfl, hl, i64_wf w0, i64_wf w1⟩
theorem cells_once : Tryd.prog.cellsOf 35 = 2 := by kernel_rfl
theorem cells_sig : Tryd.prog.cellsOf 37 = 4 := by kernel_rfl
set_option maxRecDepth 100000 in
theorem open_Sig {w : World} {r : Reach} {b0 : Nat} {base : Nat} {spare : Nat → Bool} {held : Bool} {v : Value} {d : DataW H} {ps : List MemPlace} (hval : Value.okWide Tryd.prog w r b0 37 v) (h : DataW.Trod enc Tryd.prog w base spare held 37 v d ps) :
    ∃ (i : Int) (rv ov wv : Value) (rev oth way : List (List UInt8)), v = .agg (sigC i rv ov wv) ∧ (-9223372036854775808 ≤ i ∧ i ≤ 9223372036854775807) ∧ SlD w rv rev ∧ SlD w ov oth ∧ SlD w wv way := by
  obtain ⟨cs, rfl, hsz⟩ := okWide_struct Tryd.underlying37 hval
  obtain ⟨fuel, hf⟩ := h
  obtain ⟨y0, y1, y2, n, _, _, h0, h1, h2⟩ := Deep.trod_struct3 Tryd.underlying37 hf
  rw [cells_sig] at hsz
  obtain ⟨l⟩ := cs
  match l, hsz with
  | [u0, u1, u2, u3], _ =>
    dsimp only at h0 h1 h2
    rw [cells_int] at h0
    rw [cells_once] at h1
    rw [cells_ds] at h2
    obtain ⟨i0, e0, _, w0⟩ := DataW.trod_int Tryd.underlying3 h0
    obtain ⟨y3, y4, n', _, _, h3, h4⟩ := trod_struct2 Tryd.underlying35 h1
    dsimp only at h3 h4
    rw [cells_ds] at h3 h4
    obtain ⟨rev, hr, _⟩ := trod_ds h3
    obtain ⟨oth, ho, _⟩ := trod_ds h4
    obtain ⟨way, hw, _⟩ := trod_ds h2
    simp [Value.cells] at e0
    subst e0
    exact ⟨i0, u1, u2, u3, rev, oth, way, rfl, i64_wf w0, hr, ho, hw⟩
theorem cells_Op : Tryd.prog.cellsOf 32 = 3 := by kernel_rfl
set_option maxRecDepth 100000 in
theorem open_Op {w : World} {r : Reach} {b0 : Nat} {base : Nat} {spare : Nat → Bool} {held : Bool} {v : Value} {d : DataW H} {ps : List MemPlace} (hval : Value.okWide Tryd.prog w r b0 32 v) (h : DataW.Trod enc Tryd.prog w base spare held 32 v d ps) :
    ∃ (k l : Int) (mv : Value), v = .agg #[.int .i64 k, .int .i64 l, mv] := by
  obtain ⟨v0, v1, v2, y0, y1, y2, n, rfl, _, _, h0, h1, _⟩ := Joins.open_agg3 Tryd.underlying32 (by kernel_rfl) cells_Op hval h
  obtain ⟨i0, e0, _, _⟩ := DataW.trod_int Tryd.underlying3 h0
  obtain ⟨i1, e1, _, _⟩ := DataW.trod_int Tryd.underlying3 h1
  simp at e0 e1
  subst e0 e1
  exact ⟨i0, i1, v2, rfl⟩
end
end Go.Proofs.YtddbmddblhjkkaaDoor
/- What Sign and SignAt come to, whatever is asked; a slice of calls in memory. -/
namespace Go.Proofs.YtddbmddblhjkkaaDoor
open Go.RowKit Go.Maps

/-- one call -/
structure OpV where
  kind : Int
  leaf : Int
  mv : Value
  m : List UInt8
def SlO (w : World) (v : Value) (l : List OpV) : Prop :=
  ∃ A c, v = .slice A l.length c ∧ l.length ≤ c ∧ ∀ (j : Nat) (x : OpV), l[j]? = some x → ∃ b o, A = some ⟨b, o, none⟩ ∧ w.cell? ⟨b, o + j * 3, none⟩ = some (.int .i64 x.kind) ∧ w.cell? ⟨b, o + j * 3 + 1, none⟩ = some (.int .i64 x.leaf) ∧
    w.cell? ⟨b, o + j * 3 + 2, none⟩ = some x.mv ∧ Sl w x.mv x.m ∧ -9223372036854775808 ≤ x.leaf ∧ x.leaf ≤ 9223372036854775807

/-- what is signed here: the answer, what the signer is then -/
def Signed (S M : Nat) (seed : List UInt8) (u : Int → Option (List UInt8)) (n : Nat) (m : List UInt8) (w : World) (e : Ending) (w' : World) : Prop :=
  ∃ (i : Int) (rv ov pv : Value) (f : Int) (u' : Int → Option (List UInt8)) (n' : Nat), e = .returned (.tuple #[.agg #[.int .i64 i, rv, ov, pv], .int .i64 f]) ∧ (#[.int .i64 i, rv, ov, pv] : Array Value).all (·.oneCell') = true ∧
    Sgn w' S M seed 8 2 u' n' ∧ n' ≤ n + 1 ∧ Mv M w w' ∧ (∀ j t, u j = some t → u' j = some t) ∧ (f = 0 → 0 ≤ i ∧ i < 4 ∧ u' i = some m) ∧ ∀ k : Int, rv ≠ .int .u8 k ∧ ov ≠ .int .u8 k ∧ pv ≠ .int .u8 k

theorem signed_no {S M : Nat} {seed : List UInt8} {u : Int → Option (List UInt8)} {n : Nat} {m : List UInt8} {w w' : World} {e : Ending} {f : Int} (s : Sgn w S M seed 8 2 u n) (he : e = .returned (.tuple #[.agg noSig, .int .i64 f])) (E : Ext w w') (hf : f ≠ 0) : Signed S M seed u n m w e w' :=
  ⟨0, _, _, _, f, u, n, he, noSig_one, s.ext E, by omega, Mv.of_ext E s.um.isMap, fun _ _ h => h, fun h => absurd h hf, fun k => ⟨fun e => (by cases e), fun e => (by cases e), fun e => (by cases e)⟩⟩
theorem least_or (u : Int → Option (List UInt8)) (n : Nat) : (∀ j : Nat, j < n → (u j).isSome = true) ∨ ∃ i : Nat, i < n ∧ u i = none ∧ ∀ j : Nat, j < i → (u j).isSome = true := by
  induction n with
  | zero => exact .inl (fun j hj => absurd hj (by omega))
  | succ n ih =>
    rcases ih with h | ⟨i, hi, h1, h2⟩
    · cases hu : u n with
      | none => exact .inr ⟨n, by omega, hu, h⟩
      | some t =>
        refine .inl (fun j hj => ?_)
        by_cases hjn : j < n
        · exact h j hjn
        · obtain rfl : j = n := by omega
          rw [hu]; rfl
    · exact .inr ⟨i, by omega, h1, h2⟩

theorem sign_once (S M : Nat) (seed : List UInt8) (u : Int → Option (List UInt8)) (n : Nat) (w : World) (hK : Kst w) (s : Sgn w S M seed 8 2 u n) (mv : Value) (m : List UInt8) (hm : Sl w mv m) (hl : m.length ≤ 3000) (hn : n ≤ 1000) :
    Calls Tryd.prog 10 #[.pointer (some ⟨S, 0, none⟩), mv] w (Signed S M seed u n m w) := by
  rcases least_or u (2 ^ 2) with h | ⟨i, hi, h1, h2⟩
  · exact (sSign_spent S M seed 8 2 u n w s mv m hm (by omega) h).mono fun e w' ⟨he, E⟩ => signed_no s he E (by decide)
  · refine (sSign_yes S M seed 8 2 u n w hK s mv m hm (by omega) i hi hn h1 h2).mono ?_
    rintro e w' ⟨rv, ov, pv, he, p1, p2, p3, s', hM⟩
    obtain ⟨A1, c1, rfl, _⟩ := p1.form
    obtain ⟨A2, c2, rfl, _⟩ := p2.form
    obtain ⟨A3, c3, rfl, _⟩ := p3.form
    refine ⟨i, _, _, _, 0, _, _, he, sig_one _ _ _ _ _ _ _ _ _ _, s', Nat.le_refl _, hM, fun j t hj => ?_, fun _ => ⟨by omega, by have : i < 4 := hi; omega, by simp⟩, fun k => ⟨fun e => (by cases e), fun e => (by cases e), fun e => (by cases e)⟩⟩
    by_cases hji : j = (i : Int)
    · rw [hji, h1] at hj; cases hj
    · rw [if_neg hji]; exact hj
theorem signAt_once (S M : Nat) (seed : List UInt8) (u : Int → Option (List UInt8)) (n : Nat) (w : World) (hK : Kst w) (s : Sgn w S M seed 8 2 u n) (l : Int) (mv : Value) (m : List UInt8) (hm : Sl w mv m) (hl : m.length ≤ 3000) (hn : n ≤ 1000) :
    Calls Tryd.prog 11 #[.pointer (some ⟨S, 0, none⟩), .int .i64 l, mv] w (Signed S M seed u n m w) := by
  by_cases hin : 0 ≤ l ∧ l < 4
  · obtain ⟨i, rfl⟩ : ∃ i : Nat, l = i := ⟨l.toNat, by omega⟩
    have hi : i < 2 ^ 2 := by omega
    have yes : ∀ (hu : u i = none ∨ u i = some m), Calls Tryd.prog 11 #[.pointer (some ⟨S, 0, none⟩), .int .i64 (i : Int), mv] w (Signed S M seed u n m w) := fun hu => by
      refine (sSignAt_yes S M seed 8 2 u n w hK s i mv m hm (by omega) hi hn hu).mono ?_
      rintro e w' ⟨rv, ov, pv, he, p1, p2, p3, s', hM⟩
      obtain ⟨A1, c1, rfl, _⟩ := p1.form
      obtain ⟨A2, c2, rfl, _⟩ := p2.form
      obtain ⟨A3, c3, rfl, _⟩ := p3.form
      refine ⟨i, _, _, _, 0, _, _, he, sig_one _ _ _ _ _ _ _ _ _ _, s', by split <;> omega, hM, fun j t hj => ?_, fun _ => ⟨by omega, by omega, by simp⟩, fun k => ⟨fun e => (by cases e), fun e => (by cases e), fun e => (by cases e)⟩⟩
      by_cases hji : j = (i : Int)
      · rw [hji] at hj
        rw [if_pos hji]
        rcases hu with hu | hu
        · rw [hu] at hj; cases hj
        · rw [← hu]; exact hj
      · rw [if_neg hji]; exact hj
    cases hu : u i with
    | none => exact yes (.inl hu)
    | some t =>
      by_cases htm : t = m
      · exact yes (.inr (by rw [hu, htm]))
      · exact (sSignAt_used S M seed 8 2 u n w hK s i mv m t hm (by omega) hi hu htm).mono fun e w' ⟨he, E⟩ => signed_no s he E (by decide)
  · exact (sSignAt_none S M seed 8 2 u n w hK s l mv m hm (by omega) (by have : ((2 ^ 2 : Nat) : Int) = 4 := rfl; omega)).mono fun e w' ⟨he, E⟩ => signed_no s he E (by decide)
end Go.Proofs.YtddbmddblhjkkaaDoor
/- An argument that is a slice of calls, opened. -/
namespace Go.Proofs.YtddbmddblhjkkaaDoor
open Go.ChangeShapes Go.WideShapes Go.ChangeAt Go.RowKit

section
variable {H : Type} {enc : TypeId × Value → H}
theorem cells_op3 : Tryd.prog.cellsOf 32 = 3 := by kernel_rfl
set_option maxRecDepth 100000 in
theorem trod_op {w : World} {base : Nat} {spare : Nat → Bool} {held : Bool} {fuel : Nat} {cs : List Value} {x : DataW H × List MemPlace} (h : DataW.trod enc Tryd.prog w base spare held fuel 32 cs = some x) :
    ∃ y : OpV, cs = [.int .i64 y.kind, .int .i64 y.leaf, y.mv] ∧ Sl w y.mv y.m ∧ -9223372036854775808 ≤ y.leaf ∧ y.leaf ≤ 9223372036854775807 := by
  obtain ⟨y0, y1, y2, n, _, hl, h0, h1, h2⟩ := Deep.trod_struct3 Tryd.underlying32 h
  rw [cells_op3] at hl
  match cs, hl with
  | [u0, u1, u2], _ =>
    dsimp only at h0 h1 h2
    rw [cells_int] at h0 h1
    rw [cells_bytes] at h2
    obtain ⟨i0, e0, _, _⟩ := DataW.trod_int Tryd.underlying3 h0
    obtain ⟨i1, e1, _, w1⟩ := DataW.trod_int Tryd.underlying3 h1
    obtain ⟨m, hm, _⟩ := trod_bytes h2
    simp at e0 e1
    subst e0 e1
    exact ⟨⟨i0, i1, u2, m⟩, rfl, hm, i64_wf w1⟩
set_option maxRecDepth 100000 in
theorem open_ops {w : World} {r : Reach} {b0 : Nat} {base : Nat} {spare : Nat → Bool} {held : Bool} {v : Value} {d : DataW H} {ps : List MemPlace} (hval : Value.okWide Tryd.prog w r b0 23 v) (h : DataW.Trod enc Tryd.prog w base spare held 23 v d ps) : ∃ l : List OpV, SlO w v l := by
  obtain ⟨a1, len0, cap0, rfl⟩ := okWide_slice Tryd.underlying23 hval
  obtain ⟨fuel, hf0⟩ := h
  have hf : DataW.trod enc Tryd.prog w base spare held fuel 23 [.slice a1 len0 cap0] = some (d, ps) := hf0
  rcases Deep.open_slice Tryd.underlying23 hf with ⟨hcs, _⟩ | ⟨a, len, cap, m, n, D, Pl, hcs, _, hl, hm, hmm, _, hx⟩
  · simp at hcs
    obtain ⟨rfl, rfl, rfl⟩ := hcs
    exact ⟨[], none, 0, rfl, by simp, fun j x hj => by simp at hj⟩
  · simp at hcs
    obtain ⟨rfl, rfl, rfl⟩ := hcs
    rw [cells_op3] at hx
    have hlm : len0 ≤ m := by rw [hmm]; split <;> omega
    by_cases h0 : len0 = 0
    · subst h0
      exact ⟨[], some a, cap0, rfl, by simp, fun j x hj => by simp at hj⟩
    · obtain ⟨ab, ao, spot⟩ := a
      have hspot : spot = none := by
        obtain ⟨cs', h1, h2⟩ := hx 0 (by omega)
        obtain ⟨y, rfl, _⟩ := trod_op h2
        obtain ⟨_, _, h3⟩ := World.cells?_some h1
        have q0 : w.cell? ((Addr.add ⟨ab, ao, spot⟩ (0 * 3)).add 0) = some (.int .i64 y.kind) := h3 0 (by omega)
        simpa [Addr.add] using World.cell?_spot q0
      subst hspot
      obtain ⟨l, hll, hds⟩ := list_of len0 (fun i (y : OpV) => (w.cell? ⟨ab, ao + i * 3, none⟩ = some (.int .i64 y.kind) ∧ w.cell? ⟨ab, ao + i * 3 + 1, none⟩ = some (.int .i64 y.leaf) ∧ w.cell? ⟨ab, ao + i * 3 + 2, none⟩ = some y.mv) ∧ Sl w y.mv y.m ∧ -9223372036854775808 ≤ y.leaf ∧ y.leaf ≤ 9223372036854775807) (fun i hi => by
        obtain ⟨cs', h1, h2⟩ := hx i (by omega)
        obtain ⟨y, rfl, hy⟩ := trod_op h2
        obtain ⟨_, _, h3⟩ := World.cells?_some h1
        have q0 := h3 0 (by omega)
        have q1 := h3 1 (by omega)
        have q2 := h3 2 (by omega)
        rw [Addr.add_lit, Addr.add_lit] at q0 q1 q2
        exact ⟨y, ⟨q0, q1, q2⟩, hy⟩)
      refine ⟨l, some ⟨ab, ao, none⟩, cap0, by rw [hll], by omega, fun j x hj => ?_⟩
      obtain ⟨⟨p0, p1, p2⟩, hS, hb⟩ := hds j x hj
      exact ⟨ab, ao, rfl, p0, p1, p2, hS, hb⟩
end
end Go.Proofs.YtddbmddblhjkkaaDoor
/- The walk of the law SignerOnce. -/
namespace Go.Proofs.YtddbmddblhjkkaaDoor
open Go.RowKit Go.Maps

theorem zero_a4b (w : World) : (zeroValue 29).run Tryd.prog w = .ok (.agg #[.bool false, .bool false, .bool false, .bool false]) w := by kernel_rfl
theorem zero_a4s (w : World) : (zeroValue 30).run Tryd.prog w = .ok (.agg #[.string ByteArray.empty, .string ByteArray.empty, .string ByteArray.empty, .string ByteArray.empty]) w := by kernel_rfl

/-- which leaves signed, and what -/
def onB (sg : Nat → Bool) : Array Value := #[.bool (sg 0), .bool (sg 1), .bool (sg 2), .bool (sg 3)]
def onS (bs : Nat → List UInt8) : Array Value := #[.string (strB' (bs 0)), .string (strB' (bs 1)), .string (strB' (bs 2)), .string (strB' (bs 3))]
def upd {α : Type} (f : Nat → α) (i : Nat) (x : α) : Nat → α := fun j => if j = i then x else f j
theorem onB_get (sg : Nat → Bool) (i : Nat) (hi : i < 4) : (onB sg)[i]? = some (.bool (sg i)) := by
  match i, hi with
  | 0, _ => rfl
  | 1, _ => rfl
  | 2, _ => rfl
  | 3, _ => rfl
theorem onS_get (bs : Nat → List UInt8) (i : Nat) (hi : i < 4) : (onS bs)[i]? = some (.string (strB' (bs i))) := by
  match i, hi with
  | 0, _ => rfl
  | 1, _ => rfl
  | 2, _ => rfl
  | 3, _ => rfl
theorem onB_set (sg : Nat → Bool) (i : Nat) (hi : i < 4) : (onB sg).setIfInBounds i (.bool true) = onB (upd sg i true) := by
  match i, hi with
  | 0, _ => rfl
  | 1, _ => rfl
  | 2, _ => rfl
  | 3, _ => rfl
theorem onS_set (bs : Nat → List UInt8) (m : List UInt8) (i : Nat) (hi : i < 4) : (onS bs).setIfInBounds i (.string (strB' m)) = onS (upd bs i m) := by
  match i, hi with
  | 0, _ => rfl
  | 1, _ => rfl
  | 2, _ => rfl
  | 3, _ => rfl

theorem nu_of {w : World} {g : Nat} {t : TypeId} {cs : Array Value} (hb : Blk w g t cs) (h : ∀ v ∈ cs.toList, ∀ k : Int, v ≠ .int .u8 k) : ∀ (o : Nat) (k : Int), w.cell? ⟨g, o, none⟩ ≠ some (.int .u8 k) := fun o k e => by
  rw [hb.cell] at e
  exact h _ (by rw [← Array.getElem?_toList] at e; exact List.mem_of_getElem? e) k rfl
theorem onB_nu (sg : Nat → Bool) : ∀ v ∈ (onB sg).toList, ∀ k : Int, v ≠ .int .u8 k := by intro v hv k e; subst e; simp [onB] at hv
theorem onS_nu (bs : Nat → List UInt8) : ∀ v ∈ (onS bs).toList, ∀ k : Int, v ≠ .int .u8 k := by intro v hv k e; subst e; simp [onS] at hv
theorem sgn_grown {w w' : World} {S M : Nat} {seed : List UInt8} {b h : Nat} {u : Int → Option (List UInt8)} {n g : Nat} {t : TypeId} {cs : Array Value} (s : Sgn w S M seed b h u n) (hg : w.grownBy w' (some g)) (hb : Blk w g t cs) (ht : t ≠ 64)
    (hnu : ∀ (o : Nat) (k : Int), w.cell? ⟨g, o, none⟩ ≠ some (.int .u8 k)) : Sgn w' S M seed b h u n := by
  obtain ⟨sv, lv, hB, hS, hD⟩ := s.ex
  refine ⟨⟨sv, lv, hB.grown hg ?_, hS.grown hg hnu, ?_⟩, s.um.row (e := t) (fun j e => by cases e; exact ⟨_, _, hb⟩) hg, s.may, s.len⟩
  · intro e
    injection e with e
    subst e
    have h3 := hB.symm.trans hb
    injection h3 with h3
    injection h3 with _ h3
    exact ht h3.symm
  · refine ⟨SlR.kept hD.1 (fun b o u hu hm => ?_), hD.2⟩
    obtain ⟨k, rfl⟩ := bytesV_kind _ u hm
    by_cases hbg : b = g
    · subst hbg; exact absurd hu (hnu o k)
    · exact hg.cell hu (by simpa using hbg)
theorem wpTake_skip {P : Program} {ops : Array Oper} {Q : Exit → Act → World → Prop} {S : World → Prop} {L : Act → World → Prop} {i : Nat} {rest : List (Bool × Nat)} {a : Act} {w : World} (o : Oper) (r : List Oper) (ho : ops.toList.drop i = o :: r) (hw : Region.wanted o (yielded ops a.tmps) = false)
    (h : wpTake P ops Q S L rest (a.put o.dst undef) w) : wpTake P ops Q S L ((true, i) :: rest) a w := ⟨o, undef, at_of_drop ho, .inr ⟨hw, rfl⟩, h⟩

theorem wp_skip {P : Program} {o : Oper} {a : Act} {w w' : World} {K : Act → World → Prop} {Q : Exit → Act → World → Prop} (ho : (execOp a.eval o).run P w = .ok .skip w') (h : K (a.put o.dst undef) w') : o.wp P a w K Q := by
  unfold Oper.wp
  rw [ho]
  exact h

/-- behind k calls -/
def OnceI (w wr : World) (S M : Nat) (seed : List UInt8) (X Y k : Nat) : Prop :=
  ∃ (u : Int → Option (List UInt8)) (n : Nat) (sg : Nat → Bool) (bs : Nat → List UInt8), n ≤ 2 * k ∧ Sgn wr S M seed 8 2 u n ∧ Blk wr X 29 (onB sg) ∧ Blk wr Y 30 (onS bs) ∧ (∀ j : Nat, j < 4 → sg j = true → u j = some (bs j)) ∧ Ext w wr
/-- signed[i], by[i] = true, m -/
theorem OnceI.set {w wr : World} {S M X Y k n i : Nat} {seed m : List UInt8} {u : Int → Option (List UInt8)} {sg : Nat → Bool} {bs : Nat → List UInt8} (hn : n ≤ 2 * (k + 1)) (s : Sgn wr S M seed 8 2 u n) (BX : Blk wr X 29 (onB sg)) (BY : Blk wr Y 30 (onS bs)) (hsg : ∀ j : Nat, j < 4 → sg j = true → u j = some (bs j)) (E : Ext w wr)
    (hi : i < 4) (hu : u i = some m) (hXY : X < Y) (hX : w.heap.size ≤ X) : OnceI w ((wr.setCell ⟨X, i, none⟩ (.bool true)).setCell ⟨Y, i, none⟩ (.string (strB' m))) S M seed X Y (k + 1) := by
  have g1 := grown_setCell wr X i (.bool true)
  have BX1 := BX.set i (.bool true)
  have BY1 : Blk (wr.setCell ⟨X, i, none⟩ (.bool true)) Y 30 (onS bs) := BY.far (by show Y ≠ X; omega) _
  have s1 := sgn_grown s g1 BX (by decide) (nu_of BX (onB_nu sg))
  have g2 := grown_setCell (wr.setCell ⟨X, i, none⟩ (.bool true)) Y i (.string (strB' m))
  rw [onB_set sg i hi] at BX1
  have BY2 := BY1.set i (.string (strB' m))
  rw [onS_set bs m i hi] at BY2
  refine ⟨u, n, upd sg i true, upd bs i m, hn, sgn_grown s1 g2 BY1 (by decide) (nu_of BY1 (onS_nu bs)), BX1.far (by show X ≠ Y; omega) _, BY2, fun j hj h => ?_, (E.grown g1 (fun k e => by injection e with e; omega)).grown g2 (fun k e => by injection e with e; omega)⟩
  by_cases hji : j = i
  · subst hji
    rw [hu]
    simp [upd]
  · have h2 : sg j = true := by simpa [upd, hji] using h
    rw [hsg j hj h2]
    simp [upd, hji]

theorem OnceI.next {w wr : World} {S M : Nat} {seed : List UInt8} {X Y k : Nat} (h : OnceI w wr S M seed X Y k) : OnceI w wr S M seed X Y (k + 1) := by
  obtain ⟨u, n, sg, bs, h1, h2⟩ := h
  exact ⟨u, n, sg, bs, by omega, h2⟩

set_option maxRecDepth 100000 in
set_option maxHeartbeats 2000000 in
theorem signerOnce_any (v : Value) (seed : List UInt8) (lv : Value) (l : List OpV) (w : World) (hK : Kst w) (hv : Sl w v seed) (hl : SlO w lv l) :
    Calls Tryd.prog 3 #[v, lv] w fun e w' => e = .returned (.bool true) ∧ Ext w w' := by
  have Hlv := Lib.hid (fun w' (E : Ext w w') => lives9_any w' (hK.ext E))
  obtain ⟨Al, cl, rfl, hcl, hops⟩ := hl
  obtain ⟨A, c, rfl, hc⟩ := SlR.form hv
  by_cases hs : (seed.length : Int) > 64
  · have Hn := fun w' => Lib.hid (sNew_no A seed.length c 8 2 w' (.inr ⟨by decide, by omega⟩))
    clear hops hv
    go_enter Tryd.func3, Tryd.ntmps3
    go_wp2_with fail
    with_reducible refine (Hn _).out.mono ?_
    rintro e w1 ⟨rfl, E1⟩
    go_wp2_with fail
    with_reducible refine (Hlv.out _ E1).mono ?_
    rintro e w2 ⟨rfl, E2⟩
    go_wp2_with fail
    with_reducible refine (Hlv.out _ (E1.trans E2)).mono ?_
    rintro e w3 ⟨rfl, E3⟩
    go_wp2
    go_ret
    exact ⟨rfl, (E1.trans E2).trans E3⟩
  · have Hn := Lib.hid (sNew_yes (.slice A seed.length c) seed 8 2 w hK hv (by omega) (by decide))
    change Hid (Calls Tryd.prog 8 #[.slice A seed.length c, .int .i64 8, .int .i64 2] w _) at Hn
    have Hops := Lib.hid hops
    clear hops hv
    go_enter Tryd.func3, Tryd.ntmps3
    go_wp2_with fail
    with_reducible refine Hn.out.mono ?_
    rintro e w1 ⟨S, M, rfl, s1, hS, hM, E1⟩
    have s1' : Sgn w1 S M seed 8 2 (fun _ => none) 0 := s1
    clear s1 Hn
    go_wp2_with fail
    with_reducible refine (Hlv.out _ E1).mono ?_
    rintro e w2 ⟨rfl, E2⟩
    have s2 := Lib.hid (s1'.ext E2)
    have F2 := E1.trans E2
    clear s1' E1 E2
    go_wp2_with (first | (refine wpList_alloc_blk rfl 29 rfl (.agg #[.bool false, .bool false, .bool false, .bool false]) zero_a4b ?_; intro w3 hs3 hb3 E3) | (refine wpList_alloc_blk rfl 30 rfl (.agg #[.string ByteArray.empty, .string ByteArray.empty, .string ByteArray.empty, .string ByteArray.empty]) zero_a4s ?_; intro w4 hs4 hb4 E4))
    have hI0 : OnceI w w4 S M seed w2.heap.size (w2.heap.size + 1) 0 := ⟨_, 0, fun _ => false, fun _ => [], by omega, (s2.out.ext E3).ext E4, hb3.ext E4, by rw [← hs3]; exact hb4, (fun _ _ h => absurd h (by simp)), (F2.trans E3).trans E4⟩
    have HI0 := Lib.hid hI0
    have hXY : w2.heap.size < w2.heap.size + 1 := by omega
    have hw2 : w.heap.size ≤ w2.heap.size := F2.size
    have hMw : w.heap.size ≤ M := hM
    clear hI0 s2 F2 hb3 hb4 E3 E4 hs3 hs4 hc
    go_wp2
    go_loopw [9] (fun i wr => ∃ k : Nat, k ≤ 12 ∧ k ≤ l.length ∧ i = .int .i64 k ∧ OnceI w wr S M seed w2.heap.size (w2.heap.size + 1) k) (fun i _ => 12 - (intOf i).toNat)
    case atStart => exact ⟨0, by omega, by omega, rfl, HI0.out⟩
    case round =>
      obtain ⟨k, hk12, hkl, rfl, hI⟩ := hrel
      clear HI0
      by_cases hlt : k < l.length
      · by_cases h12 : k < 12
        · have hlti : (k : Int) < (l.length : Int) := by omega
          have h12i : (k : Int) < 12 := by omega
          have HI := Lib.hid hI
          obtain ⟨u, n, sg, bs, hn, s, BX, BY, hsg, E⟩ := hI
          obtain ⟨b, o, rfl, q0, q1, q2, hS, hb1, hb2⟩ := Hops.out k l[k] (List.getElem?_eq_getElem hlt)
          obtain ⟨x, hx⟩ : ∃ x, x = l[k] := ⟨_, rfl⟩
          rw [← hx] at q0 q1 q2 hS hb1 hb2
          obtain ⟨xk, xl, xv, m⟩ := x
          dsimp only at q0 q1 q2 hS hb1 hb2
          obtain ⟨Am, cm, rfl, _⟩ := SlR.form hS
          have c0 := E.cell q0
          have c1 := E.cell q1
          have c2 := E.cell q2
          have HS := Lib.hid hS
          have Hs := Lib.hid s
          have HX := Lib.hid BX
          have HY := Lib.hid BY
          have Hsg := Lib.hid hsg
          have hbw : b < w.heap.size := World.block_lt_of_cell? w _ q0
          clear hx q0 q1 q2 hS s BX BY hsg
          by_cases hm : (m.length : Int) > 3000
          · go_wp2
            go_roundw
            case rel => exact ⟨k + 1, by omega, by omega, by go_num, HI.out.next⟩
            case measure => simp [intOf]; omega
          · have Hsign := Lib.hid (sign_once S M seed u n wr (hK.ext E) Hs.out _ m (HS.out.ext E) (by omega) (by omega))
            go_wp2_with fail
            with_reducible refine Hsign.out.mono ?_
            rintro e w5 ⟨i1, r1, o1, p1, f1, u1, n1, rfl, a1, s5, hn1, M5, hu1, hf1, hv1⟩
            have F5 : Ext w w5 := E.grown M5.1 (fun j e => by injection e with e; omega)
            replace c0 := M5.cell c0
            replace c1 := M5.cell c1
            replace c2 := M5.cell c2
            have HX5 := Lib.hid (M5.blk HX.out)
            have HY5 := Lib.hid (M5.blk HY.out)
            have HS5 := Lib.hid (HS.out.ext F5)
            have Hs5 := Lib.hid s5
            have Hu1 := Lib.hid hu1
            have Hf1 := Lib.hid hf1
            have A1 := Lib.hid a1
            have Hv1 := Lib.hid hv1
            clear hv1
            clear Hsign M5 s5 hu1 hf1 a1 HX HY Hs E
            have hb1 : (f1 != 0) = true ∨ f1 = 0 := by
              by_cases h : f1 = 0
              · exact .inr h
              · exact .inl (by rw [bne_iff_ne]; exact h)
            by_cases hxk : xk = 1
            · have hbk : (xk != 1) = false := by rw [bne_eq_false_iff_eq]; exact hxk
              rcases hb1 with hb1 | hb1
              · go_wp2_with (first | (refine wpList_var rfl rfl 37 rfl _ _ rfl (.agg noSig) zero_sig #[.int .i64 i1, r1, o1, p1] rfl rfl info_sig rfl A1.out ?_; intro w6 D6 E6; have F6 := F5.trans E6; have HX6 := Lib.hid (HX5.out.ext E6); have HY6 := Lib.hid (HY5.out.ext E6); have Hs6 := Lib.hid (Hs5.out.ext E6); have HS6 := Lib.hid (HS5.out.ext E6); replace c0 := E6.cell c0; replace c1 := E6.cell c1; replace c2 := E6.cell c2))
                exact ⟨⟨k + 1, by omega, by omega, by go_num, ⟨u1, n1, sg, bs, by omega, Hs6.out, HX6.out, HY6.out, fun j hj h => Hu1.out _ _ (Hsg.out j hj h), F6⟩⟩, by simp [intOf]; omega⟩
              · subst hb1
                obtain ⟨hi0, hi4, hui⟩ := Hf1.out rfl
                obtain ⟨i, rfl⟩ : ∃ n : Nat, i1 = n := ⟨i1.toNat, by omega⟩
                have hi : i < 4 := by omega
                have hX5 : w2.heap.size < w5.heap.size := HX5.out.lt
                have Hui := Lib.hid hui
                have hg3 : ¬ ((i : Int) > 3) := by omega
                have hd1 : decide ((3 : Int) < (i : Int)) = false := decide_eq_false (by omega)
                have hd2 : decide ((i : Int) < 0) = false := decide_eq_false (by omega)
                have hd3 : decide (3 < i) = false := decide_eq_false (by omega)
                clear hui
                go_wp2_with (first | (refine wpList_var rfl rfl 37 rfl _ _ rfl (.agg noSig) zero_sig #[.int .i64 (i : Int), r1, o1, p1] rfl rfl info_sig rfl A1.out ?_; intro w6 D6 E6; have F6 := F5.trans E6; have HX6 := Lib.hid (HX5.out.ext E6); have HY6 := Lib.hid (HY5.out.ext E6); have Hs6 := Lib.hid (Hs5.out.ext E6); have HS6 := Lib.hid (HS5.out.ext E6); replace c0 := E6.cell c0; replace c1 := E6.cell c1; replace c2 := E6.cell c2; have d0 : w6.cell? ⟨w5.heap.size, 0, none⟩ = some (.int .i64 (i : Int)) := D6.cell 0))
                have x0 := (HX6.out.cell i).trans (onB_get sg i hi)
                have y0 := (HY6.out.cell i).trans (onS_get bs i hi)
                have fx := HX6.out.frozen i
                have fy := HY6.out.frozen i
                have hcv := fun n : Nat => run_conv_str (HS6.out.ext ((Ext.refl _).drewN n))
                have hui := Hui.out
                have hsg1 : ∀ j : Nat, j < 4 → sg j = true → u1 j = some (bs j) := fun j hj h => Hu1.out _ _ (Hsg.out j hj h)
                have Hfin := Lib.hid (fun W' (E' : Ext w6 W') => OnceI.set (w := w) (k := k) (n := n1) (by omega) (Hs6.out.ext E') (HX6.out.ext E') (HY6.out.ext E') hsg1 (F6.trans E') hi hui hXY hw2)
                have hby : sg i = true → bs i = m := fun h => by
                  have := hsg1 i hi h
                  rw [hui] at this
                  injection this with this
                  exact this.symm
                have Hby := Lib.hid hby
                clear hsg1 hby hui
                cases hsi : sg i with
                | false =>
                  rw [hsi] at x0
                  clear Hby
                  go_wp2
                  refine wp_region_chain 26 [(true, 0), (true, 1), (true, 2), (true, 3), (true, 4), (true, 5), (true, 6), (true, 7), (true, 8), (true, 9), (true, 10), (true, 11), (true, 12), (true, 13), (true, 14), (true, 15), (true, 16), (true, 17), (true, 18), (true, 19), (true, 20), (true, 21), (true, 22), (true, 23), (true, 24), (true, 25)] (fun w' => Ext w6 w') (by kernel_rfl) (by kernel_rfl) (Ext.refl w6).drew ?_
                  iterate 14
                    refine wpTake_read _ _ ?_ rfl rfl ?_ ?_
                    rotate_left 1
                    focus
                      intro wS hS
                      have d0 := Ext.cell hS d0
                      have x0 := Ext.cell hS x0
                      have y0 := Ext.cell hS y0
                      have c2 := Ext.cell hS c2
                      go_simp
                      first | done | with_reducible rfl
                    simp only [Act.put, List.setIfInBounds_toArray, List.set_cons_zero, List.set_cons_succ]
                  iterate 11
                    refine wpTake_skip _ _ rfl rfl ?_
                    simp only [Act.put, List.setIfInBounds_toArray, List.set_cons_zero, List.set_cons_succ]
                  iterate 1
                    refine wpTake_read _ _ ?_ rfl rfl ?_ ?_
                    rotate_left 1
                    focus
                      intro wS hS
                      have d0 := Ext.cell hS d0
                      have x0 := Ext.cell hS x0
                      have y0 := Ext.cell hS y0
                      have c2 := Ext.cell hS c2
                      go_simp
                      first | done | with_reducible rfl
                    simp only [Act.put, List.setIfInBounds_toArray, List.set_cons_zero, List.set_cons_succ]
                  refine wpTake_nil ?_
                  simp only [List.drop_succ_cons, List.drop_zero]
                  go_wp2
                  refine NoPanic.normal ?_
                  go_wp2
                  refine wp_region_chain 12 [(true, 0), (true, 1), (true, 2), (true, 3), (true, 4), (true, 5), (true, 6), (true, 7), (true, 8), (true, 9), (true, 10), (false, 11)] (fun w' => w'.cell? ⟨w5.heap.size, 0, none⟩ = some (.int .i64 (i : Int)) ∧ w'.cell? ⟨b, o + k * 3 + 2, none⟩ = some (.slice Am m.length cm) ∧ Sl w' (.slice Am m.length cm) m) (by kernel_rfl) (by kernel_rfl) ⟨d0, c2, HS6.out.ext (Ext.refl w6).drew.drew⟩ ?_
                  iterate 11
                    refine wpTake_read _ _ ?_ rfl rfl ?_ ?_
                    rotate_left 1
                    focus
                      intro wS hS
                      have d0 := hS.1
                      have c2 := hS.2.1
                      have hcv : (convert 22 9 (.slice Am m.length cm)).run Tryd.prog wS = .ok (.string (strB' m)) wS := run_conv_str hS.2.2
                      clear hS
                      go_simp
                      first | done | with_reducible rfl
                    simp only [Act.put, List.setIfInBounds_toArray, List.set_cons_zero, List.set_cons_succ]
                  have fx' : w6.drew.drew.frozen? ⟨w2.heap.size, i, none⟩ = false := fx
                  have x0' : w6.drew.drew.cell? ⟨w2.heap.size, i, none⟩ = some (.bool false) := x0
                  refine wpTake_do _ _ rfl rfl (fun K hK' => ?_)
                  refine wp_skip (w' := w6.drew.drew.setCell ⟨w2.heap.size, i, none⟩ (.bool true)) (by go_simp; first | done | with_reducible rfl) ?_
                  have hgX : w6.drew.drew.grownBy (w6.drew.drew.setCell ⟨w2.heap.size, i, none⟩ (.bool true)) (some w2.heap.size) := grown_setCell w6.drew.drew w2.heap.size i (.bool true)
                  have BX : Blk w6.drew.drew w2.heap.size 29 (onB sg) := HX6.out
                  have BY : Blk w6.drew.drew (w2.heap.size + 1) 30 (onS bs) := HY6.out
                  refine hK' _ _ ⟨hgX.cell d0 (by simp; omega), hgX.cell c2 (by simp; omega), Sl.grown (w := w6.drew.drew) (HS6.out.ext (Ext.refl w6).drew.drew) hgX (nu_of BX (onB_nu sg))⟩ ?_
                  clear hK' K
                  simp only [Act.put]
                  refine wpTake_nil ?_
                  simp only [List.drop_succ_cons, List.drop_zero]
                  have BY' : Blk (w6.drew.drew.setCell ⟨w2.heap.size, i, none⟩ (.bool true)) (w2.heap.size + 1) 30 (onS bs) := BY.far (by show w2.heap.size + 1 ≠ w2.heap.size; omega) _
                  have fy' := BY'.frozen i
                  have y0' := (BY'.cell i).trans (onS_get bs i hi)
                  have hI' := Hfin.out _ (Ext.refl w6).drew.drew
                  revert fy' y0' hI'
                  generalize w6.drew.drew.setCell ⟨w2.heap.size, i, none⟩ (.bool true) = w7
                  intro fy' y0' hI'
                  go_wp2
                  refine NoPanic.normal ?_
                  go_wp2
                  exact ⟨⟨k + 1, by omega, by omega, by go_num, hI'⟩, by simp [intOf]; omega⟩
                | true =>
                  rw [hsi] at x0
                  rw [Hby.out hsi] at y0
                  go_wp2
                  refine wp_region_chain 26 [(true, 0), (true, 1), (true, 2), (true, 3), (true, 4), (true, 5), (true, 6), (true, 7), (true, 8), (true, 9), (true, 10), (true, 11), (true, 12), (true, 13), (true, 14), (true, 15), (true, 16), (true, 17), (true, 18), (true, 19), (true, 20), (true, 21), (true, 22), (true, 23), (true, 24), (true, 25)] (fun w' => Ext w6 w') (by kernel_rfl) (by kernel_rfl) (Ext.refl w6).drew ?_
                  iterate 26
                    refine wpTake_read _ _ ?_ rfl rfl ?_ ?_
                    rotate_left 1
                    focus
                      intro wS hS
                      have d0 := Ext.cell hS d0
                      have x0 := Ext.cell hS x0
                      have y0 := Ext.cell hS y0
                      have c2 := Ext.cell hS c2
                      have hcv : (convert 22 9 (.slice Am m.length cm)).run Tryd.prog wS = .ok (.string (strB' m)) wS := run_conv_str (HS6.out.ext hS)
                      go_simp
                      first | done | with_reducible rfl
                    simp only [Act.put, List.setIfInBounds_toArray, List.set_cons_zero, List.set_cons_succ]
                  refine wpTake_nil ?_
                  simp only [List.drop_succ_cons, List.drop_zero]
                  go_wp2
                  refine NoPanic.normal ?_
                  go_wp2
                  refine wp_region_chain 12 [(true, 0), (true, 1), (true, 2), (true, 3), (true, 4), (true, 5), (true, 6), (true, 7), (true, 8), (true, 9), (true, 10), (false, 11)] (fun w' => w'.cell? ⟨w5.heap.size, 0, none⟩ = some (.int .i64 (i : Int)) ∧ w'.cell? ⟨b, o + k * 3 + 2, none⟩ = some (.slice Am m.length cm) ∧ Sl w' (.slice Am m.length cm) m) (by kernel_rfl) (by kernel_rfl) ⟨d0, c2, HS6.out.ext (Ext.refl w6).drew.drew⟩ ?_
                  iterate 11
                    refine wpTake_read _ _ ?_ rfl rfl ?_ ?_
                    rotate_left 1
                    focus
                      intro wS hS
                      have d0 := hS.1
                      have c2 := hS.2.1
                      have hcv : (convert 22 9 (.slice Am m.length cm)).run Tryd.prog wS = .ok (.string (strB' m)) wS := run_conv_str hS.2.2
                      clear hS
                      go_simp
                      first | done | with_reducible rfl
                    simp only [Act.put, List.setIfInBounds_toArray, List.set_cons_zero, List.set_cons_succ]
                  have fx' : w6.drew.drew.frozen? ⟨w2.heap.size, i, none⟩ = false := fx
                  have x0' : w6.drew.drew.cell? ⟨w2.heap.size, i, none⟩ = some (.bool true) := x0
                  refine wpTake_do _ _ rfl rfl (fun K hK' => ?_)
                  refine wp_skip (w' := w6.drew.drew.setCell ⟨w2.heap.size, i, none⟩ (.bool true)) (by go_simp; first | done | with_reducible rfl) ?_
                  have hgX : w6.drew.drew.grownBy (w6.drew.drew.setCell ⟨w2.heap.size, i, none⟩ (.bool true)) (some w2.heap.size) := grown_setCell w6.drew.drew w2.heap.size i (.bool true)
                  have BX : Blk w6.drew.drew w2.heap.size 29 (onB sg) := HX6.out
                  have BY : Blk w6.drew.drew (w2.heap.size + 1) 30 (onS bs) := HY6.out
                  refine hK' _ _ ⟨hgX.cell d0 (by simp; omega), hgX.cell c2 (by simp; omega), Sl.grown (w := w6.drew.drew) (HS6.out.ext (Ext.refl w6).drew.drew) hgX (nu_of BX (onB_nu sg))⟩ ?_
                  clear hK' K
                  simp only [Act.put]
                  refine wpTake_nil ?_
                  simp only [List.drop_succ_cons, List.drop_zero]
                  have BY' : Blk (w6.drew.drew.setCell ⟨w2.heap.size, i, none⟩ (.bool true)) (w2.heap.size + 1) 30 (onS bs) := BY.far (by show w2.heap.size + 1 ≠ w2.heap.size; omega) _
                  have fy' := BY'.frozen i
                  have y0' := (BY'.cell i).trans (onS_get bs i hi)
                  have hI' := Hfin.out _ (Ext.refl w6).drew.drew
                  revert fy' y0' hI'
                  generalize w6.drew.drew.setCell ⟨w2.heap.size, i, none⟩ (.bool true) = w7
                  intro fy' y0' hI'
                  go_wp2
                  refine NoPanic.normal ?_
                  go_wp2
                  exact ⟨⟨k + 1, by omega, by omega, by go_num, hI'⟩, by simp [intOf]; omega⟩
            · have hbk : (xk != 1) = true := by rw [bne_iff_ne]; exact hxk
              go_wp2_with (first | (refine wpList_var rfl rfl 37 rfl _ _ rfl (.agg noSig) zero_sig #[.int .i64 i1, r1, o1, p1] rfl rfl info_sig rfl A1.out ?_; intro w6 D6 E6; have F6 := F5.trans E6; have HX6 := Lib.hid (HX5.out.ext E6); have HY6 := Lib.hid (HY5.out.ext E6); have Hs6 := Lib.hid (Hs5.out.ext E6); have HS6 := Lib.hid (HS5.out.ext E6); replace c0 := E6.cell c0; replace c1 := E6.cell c1; replace c2 := E6.cell c2))
              have E6d : Ext w6 w6.drew := (Ext.refl w6).drew
              have HsA := Lib.hid (signAt_once S M seed u1 n1 w6.drew (hK.ext (F6.trans E6d)) (Hs6.out.ext E6d) xl _ m (HS6.out.ext E6d) (by omega) (by omega))
              refine wp_region_chain 16 [(true, 0), (true, 1), (true, 2), (true, 3), (true, 4), (true, 5), (true, 6), (true, 7), (true, 8), (true, 9), (true, 10), (false, 11), (true, 12), (true, 13), (true, 14), (false, 15)] (fun w' => w'.cell? ⟨b, o + k * 3 + 1, none⟩ = some (.int .i64 xl) ∧ w'.cell? ⟨b, o + k * 3 + 2, none⟩ = some (.slice Am m.length cm)) (by kernel_rfl) (by kernel_rfl) ⟨c1, c2⟩ ?_
              iterate 11
                refine wpTake_read _ _ ?_ rfl rfl ?_ ?_
                rotate_left 1
                focus
                  intro wS hS
                  have c1 := hS.1
                  have c2 := hS.2
                  clear hS
                  go_simp
                  first | done | with_reducible rfl
                simp only [Act.put, List.setIfInBounds_toArray, List.set_cons_zero, List.set_cons_succ]
              refine wpTake_do _ _ rfl rfl (fun K hK' => ?_)
              refine wp_call ?_ (enters_of (P := Tryd.prog) Tryd.func11 (by kernel_rfl) rfl _ _) HsA.out ?_
              focus
                rw [execOp_call_go]
                simp only [List.map_toArray, List.map_cons, List.map_nil, List.append_toArray, List.nil_append, List.append_nil]
                rfl
              rintro e w7 ⟨i2, r2, o2, p2, f2, u2, n2, rfl, a2, s7, hn2, M7, hu2, hf2, _⟩
              refine ⟨_, rfl, hK' _ _ ⟨M7.cell (E6d.cell c1), M7.cell (E6d.cell c2)⟩ ?_⟩
              clear hK' K
              simp only [Act.put, List.setIfInBounds_toArray, List.set_cons_zero, List.set_cons_succ]
              have F7 : Ext w w7 := (F6.trans E6d).grown M7.1 (fun j e => by injection e with e; omega)
              have D7 := M7.blk (D6.ext E6d)
              have HX7 := Lib.hid (M7.blk (HX6.out.ext E6d))
              have HY7 := Lib.hid (M7.blk (HY6.out.ext E6d))
              have HS7 := Lib.hid (M7.sl (HS6.out.ext E6d))
              replace c1 := M7.cell (E6d.cell c1)
              replace c2 := M7.cell (E6d.cell c2)
              have Hs7 := Lib.hid s7
              have Hu2 := Lib.hid hu2
              have Hf2 := Lib.hid hf2
              have A2 := Lib.hid a2
              have hX5 : w2.heap.size < w5.heap.size := HX5.out.lt
              have hY5 : w2.heap.size + 1 < w5.heap.size := HY5.out.lt
              have hnu7 := nu_of D7 (by
                intro v hv k' e
                subst e
                have := Hv1.out k'
                simp at hv
                rcases hv with hv | hv | hv
                · exact this.1 hv.symm
                · exact this.2.1 hv.symm
                · exact this.2.2 hv.symm)
              clear HsA M7 s7 hu2 hf2 a2 c0 HX6 HY6 HS6 Hs6 F6 D6 E6d
              iterate 3
                refine wpTake_read _ _ ?_ rfl rfl ?_ ?_
                rotate_left 1
                focus
                  intro wS hS
                  clear hS
                  go_simp
                  first | done | with_reducible rfl
                simp only [Act.put, List.setIfInBounds_toArray, List.set_cons_zero, List.set_cons_succ]
              refine wpTake_do _ _ rfl rfl (fun K hK' => ?_)
              refine wp_store_blk 37 _ _ rfl w5.heap.size #[.int .i64 i2, r2, o2, p2] rfl rfl 37 #[.int .i64 i1, r1, o1, p1] D7 info_sig rfl A2.out ?_
              intro w8 D8 hg8
              refine hK' _ _ ⟨hg8.cell c1 (by simp; omega), hg8.cell c2 (by simp; omega)⟩ ?_
              clear hK' K
              simp only [Act.put]
              refine wpTake_nil ?_
              simp only [List.drop_succ_cons, List.drop_zero]
              go_wp2
              have F8 : Ext w w8 := F7.grown hg8 (fun j e => by injection e with e; omega)
              have HX8 := Lib.hid (HX7.out.grown hg8 (by intro e; injection e with e; omega))
              have HY8 := Lib.hid (HY7.out.grown hg8 (by intro e; injection e with e; omega))
              have HS8 := Lib.hid (HS7.out.grown hg8 hnu7)
              have Hs8 := Lib.hid (sgn_grown Hs7.out hg8 D7 (by decide) hnu7)
              replace c2 := hg8.cell c2 (by simp; omega)
              have hb2 : (f2 != 0) = true ∨ f2 = 0 := by
                by_cases h : f2 = 0
                · exact .inr h
                · exact .inl (by rw [bne_iff_ne]; exact h)
              refine NoPanic.normal ?_
              clear hg8 hnu7 D7 HX7 HY7 HS7 Hs7 F7
              rcases hb2 with hb2 | hb2
              · go_wp2
                exact ⟨⟨k + 1, by omega, by omega, by go_num, ⟨u2, n2, sg, bs, by omega, Hs8.out, HX8.out, HY8.out, fun j hj h => Hu2.out _ _ (Hu1.out _ _ (Hsg.out j hj h)), F8⟩⟩, by simp [intOf]; omega⟩
              · subst hb2
                obtain ⟨hi0, hi4, hui⟩ := Hf2.out rfl
                obtain ⟨i, rfl⟩ : ∃ n : Nat, i2 = n := ⟨i2.toNat, by omega⟩
                have hi : i < 4 := by omega
                have Hui := Lib.hid hui
                have hg3 : ¬ ((i : Int) > 3) := by omega
                have hd1 : decide ((3 : Int) < (i : Int)) = false := decide_eq_false (by omega)
                have hd2 : decide ((i : Int) < 0) = false := decide_eq_false (by omega)
                have hd3 : decide (3 < i) = false := decide_eq_false (by omega)
                have d0 : w8.cell? ⟨w5.heap.size, 0, none⟩ = some (.int .i64 (i : Int)) := D8.cell 0
                have x0 := (HX8.out.cell i).trans (onB_get sg i hi)
                have y0 := (HY8.out.cell i).trans (onS_get bs i hi)
                have fx := HX8.out.frozen i
                have fy := HY8.out.frozen i
                have hcv := fun n : Nat => run_conv_str (HS8.out.ext ((Ext.refl _).drewN n))
                have hui := Hui.out
                have hsg1 : ∀ j : Nat, j < 4 → sg j = true → u2 j = some (bs j) := fun j hj h => Hu2.out _ _ (Hu1.out _ _ (Hsg.out j hj h))
                have Hfin := Lib.hid (fun W' (E' : Ext w8 W') => OnceI.set (w := w) (k := k) (n := n2) (by omega) (Hs8.out.ext E') (HX8.out.ext E') (HY8.out.ext E') hsg1 (F8.trans E') hi hui hXY hw2)
                have hby : sg i = true → bs i = m := fun h => by
                  have := hsg1 i hi h
                  rw [hui] at this
                  injection this with this
                  exact this.symm
                have Hby := Lib.hid hby
                clear hsg1 hby hui
                cases hsi : sg i with
                | false =>
                  rw [hsi] at x0
                  clear Hby
                  go_wp2
                  refine wp_region_chain 26 [(true, 0), (true, 1), (true, 2), (true, 3), (true, 4), (true, 5), (true, 6), (true, 7), (true, 8), (true, 9), (true, 10), (true, 11), (true, 12), (true, 13), (true, 14), (true, 15), (true, 16), (true, 17), (true, 18), (true, 19), (true, 20), (true, 21), (true, 22), (true, 23), (true, 24), (true, 25)] (fun w' => Ext w8 w') (by kernel_rfl) (by kernel_rfl) (Ext.refl w8).drew ?_
                  iterate 14
                    refine wpTake_read _ _ ?_ rfl rfl ?_ ?_
                    rotate_left 1
                    focus
                      intro wS hS
                      have d0 := Ext.cell hS d0
                      have x0 := Ext.cell hS x0
                      have y0 := Ext.cell hS y0
                      have c2 := Ext.cell hS c2
                      go_simp
                      first | done | with_reducible rfl
                    simp only [Act.put, List.setIfInBounds_toArray, List.set_cons_zero, List.set_cons_succ]
                  iterate 11
                    refine wpTake_skip _ _ rfl rfl ?_
                    simp only [Act.put, List.setIfInBounds_toArray, List.set_cons_zero, List.set_cons_succ]
                  iterate 1
                    refine wpTake_read _ _ ?_ rfl rfl ?_ ?_
                    rotate_left 1
                    focus
                      intro wS hS
                      have d0 := Ext.cell hS d0
                      have x0 := Ext.cell hS x0
                      have y0 := Ext.cell hS y0
                      have c2 := Ext.cell hS c2
                      go_simp
                      first | done | with_reducible rfl
                    simp only [Act.put, List.setIfInBounds_toArray, List.set_cons_zero, List.set_cons_succ]
                  refine wpTake_nil ?_
                  simp only [List.drop_succ_cons, List.drop_zero]
                  go_wp2
                  refine NoPanic.normal ?_
                  go_wp2
                  refine wp_region_chain 12 [(true, 0), (true, 1), (true, 2), (true, 3), (true, 4), (true, 5), (true, 6), (true, 7), (true, 8), (true, 9), (true, 10), (false, 11)] (fun w' => w'.cell? ⟨w5.heap.size, 0, none⟩ = some (.int .i64 (i : Int)) ∧ w'.cell? ⟨b, o + k * 3 + 2, none⟩ = some (.slice Am m.length cm) ∧ Sl w' (.slice Am m.length cm) m) (by kernel_rfl) (by kernel_rfl) ⟨d0, c2, HS8.out.ext (Ext.refl w8).drew.drew⟩ ?_
                  iterate 11
                    refine wpTake_read _ _ ?_ rfl rfl ?_ ?_
                    rotate_left 1
                    focus
                      intro wS hS
                      have d0 := hS.1
                      have c2 := hS.2.1
                      have hcv : (convert 22 9 (.slice Am m.length cm)).run Tryd.prog wS = .ok (.string (strB' m)) wS := run_conv_str hS.2.2
                      clear hS
                      go_simp
                      first | done | with_reducible rfl
                    simp only [Act.put, List.setIfInBounds_toArray, List.set_cons_zero, List.set_cons_succ]
                  have fx' : w8.drew.drew.frozen? ⟨w2.heap.size, i, none⟩ = false := fx
                  have x0' : w8.drew.drew.cell? ⟨w2.heap.size, i, none⟩ = some (.bool false) := x0
                  refine wpTake_do _ _ rfl rfl (fun K hK' => ?_)
                  refine wp_skip (w' := w8.drew.drew.setCell ⟨w2.heap.size, i, none⟩ (.bool true)) (by go_simp; first | done | with_reducible rfl) ?_
                  have hgX : w8.drew.drew.grownBy (w8.drew.drew.setCell ⟨w2.heap.size, i, none⟩ (.bool true)) (some w2.heap.size) := grown_setCell w8.drew.drew w2.heap.size i (.bool true)
                  have BX : Blk w8.drew.drew w2.heap.size 29 (onB sg) := HX8.out
                  have BY : Blk w8.drew.drew (w2.heap.size + 1) 30 (onS bs) := HY8.out
                  refine hK' _ _ ⟨hgX.cell d0 (by simp; omega), hgX.cell c2 (by simp; omega), Sl.grown (w := w8.drew.drew) (HS8.out.ext (Ext.refl w8).drew.drew) hgX (nu_of BX (onB_nu sg))⟩ ?_
                  clear hK' K
                  simp only [Act.put]
                  refine wpTake_nil ?_
                  simp only [List.drop_succ_cons, List.drop_zero]
                  have BY' : Blk (w8.drew.drew.setCell ⟨w2.heap.size, i, none⟩ (.bool true)) (w2.heap.size + 1) 30 (onS bs) := BY.far (by show w2.heap.size + 1 ≠ w2.heap.size; omega) _
                  have fy' := BY'.frozen i
                  have y0' := (BY'.cell i).trans (onS_get bs i hi)
                  have hI' := Hfin.out _ (Ext.refl w8).drew.drew
                  revert fy' y0' hI'
                  generalize w8.drew.drew.setCell ⟨w2.heap.size, i, none⟩ (.bool true) = w7
                  intro fy' y0' hI'
                  go_wp2
                  refine NoPanic.normal ?_
                  go_wp2
                  exact ⟨⟨k + 1, by omega, by omega, by go_num, hI'⟩, by simp [intOf]; omega⟩
                | true =>
                  rw [hsi] at x0
                  rw [Hby.out hsi] at y0
                  go_wp2
                  refine wp_region_chain 26 [(true, 0), (true, 1), (true, 2), (true, 3), (true, 4), (true, 5), (true, 6), (true, 7), (true, 8), (true, 9), (true, 10), (true, 11), (true, 12), (true, 13), (true, 14), (true, 15), (true, 16), (true, 17), (true, 18), (true, 19), (true, 20), (true, 21), (true, 22), (true, 23), (true, 24), (true, 25)] (fun w' => Ext w8 w') (by kernel_rfl) (by kernel_rfl) (Ext.refl w8).drew ?_
                  iterate 26
                    refine wpTake_read _ _ ?_ rfl rfl ?_ ?_
                    rotate_left 1
                    focus
                      intro wS hS
                      have d0 := Ext.cell hS d0
                      have x0 := Ext.cell hS x0
                      have y0 := Ext.cell hS y0
                      have c2 := Ext.cell hS c2
                      have hcv : (convert 22 9 (.slice Am m.length cm)).run Tryd.prog wS = .ok (.string (strB' m)) wS := run_conv_str (HS8.out.ext hS)
                      go_simp
                      first | done | with_reducible rfl
                    simp only [Act.put, List.setIfInBounds_toArray, List.set_cons_zero, List.set_cons_succ]
                  refine wpTake_nil ?_
                  simp only [List.drop_succ_cons, List.drop_zero]
                  go_wp2
                  refine NoPanic.normal ?_
                  go_wp2
                  refine wp_region_chain 12 [(true, 0), (true, 1), (true, 2), (true, 3), (true, 4), (true, 5), (true, 6), (true, 7), (true, 8), (true, 9), (true, 10), (false, 11)] (fun w' => w'.cell? ⟨w5.heap.size, 0, none⟩ = some (.int .i64 (i : Int)) ∧ w'.cell? ⟨b, o + k * 3 + 2, none⟩ = some (.slice Am m.length cm) ∧ Sl w' (.slice Am m.length cm) m) (by kernel_rfl) (by kernel_rfl) ⟨d0, c2, HS8.out.ext (Ext.refl w8).drew.drew⟩ ?_
                  iterate 11
                    refine wpTake_read _ _ ?_ rfl rfl ?_ ?_
                    rotate_left 1
                    focus
                      intro wS hS
                      have d0 := hS.1
                      have c2 := hS.2.1
                      have hcv : (convert 22 9 (.slice Am m.length cm)).run Tryd.prog wS = .ok (.string (strB' m)) wS := run_conv_str hS.2.2
                      clear hS
                      go_simp
                      first | done | with_reducible rfl
                    simp only [Act.put, List.setIfInBounds_toArray, List.set_cons_zero, List.set_cons_succ]
                  have fx' : w8.drew.drew.frozen? ⟨w2.heap.size, i, none⟩ = false := fx
                  have x0' : w8.drew.drew.cell? ⟨w2.heap.size, i, none⟩ = some (.bool true) := x0
                  refine wpTake_do _ _ rfl rfl (fun K hK' => ?_)
                  refine wp_skip (w' := w8.drew.drew.setCell ⟨w2.heap.size, i, none⟩ (.bool true)) (by go_simp; first | done | with_reducible rfl) ?_
                  have hgX : w8.drew.drew.grownBy (w8.drew.drew.setCell ⟨w2.heap.size, i, none⟩ (.bool true)) (some w2.heap.size) := grown_setCell w8.drew.drew w2.heap.size i (.bool true)
                  have BX : Blk w8.drew.drew w2.heap.size 29 (onB sg) := HX8.out
                  have BY : Blk w8.drew.drew (w2.heap.size + 1) 30 (onS bs) := HY8.out
                  refine hK' _ _ ⟨hgX.cell d0 (by simp; omega), hgX.cell c2 (by simp; omega), Sl.grown (w := w8.drew.drew) (HS8.out.ext (Ext.refl w8).drew.drew) hgX (nu_of BX (onB_nu sg))⟩ ?_
                  clear hK' K
                  simp only [Act.put]
                  refine wpTake_nil ?_
                  simp only [List.drop_succ_cons, List.drop_zero]
                  have BY' : Blk (w8.drew.drew.setCell ⟨w2.heap.size, i, none⟩ (.bool true)) (w2.heap.size + 1) 30 (onS bs) := BY.far (by show w2.heap.size + 1 ≠ w2.heap.size; omega) _
                  have fy' := BY'.frozen i
                  have y0' := (BY'.cell i).trans (onS_get bs i hi)
                  have hI' := Hfin.out _ (Ext.refl w8).drew.drew
                  revert fy' y0' hI'
                  generalize w8.drew.drew.setCell ⟨w2.heap.size, i, none⟩ (.bool true) = w7
                  intro fy' y0' hI'
                  go_wp2
                  refine NoPanic.normal ?_
                  go_wp2
                  exact ⟨⟨k + 1, by omega, by omega, by go_num, hI'⟩, by simp [intOf]; omega⟩
        · have h12i : ¬ ((k : Int) < 12) := by omega
          have hlti : (k : Int) < (l.length : Int) := by omega
          obtain ⟨u, n, sg, bs, _, _, _, _, _, E⟩ := hI
          go_wp2
          go_ret
          exact ⟨rfl, E⟩
      · have hlti : ¬ ((k : Int) < (l.length : Int)) := by omega
        obtain ⟨u, n, sg, bs, _, _, _, _, _, E⟩ := hI
        go_wp2
        go_ret
        exact ⟨rfl, E⟩
end Go.Proofs.YtddbmddblhjkkaaDoor
/- PROVED: the law SignerOnce of package pursuivantlaw09 returns true at every input and leaves its arguments as they were: no leaf signs two unlike messages, whatever is asked. CONDITION: the package-level variable sha.constants holds what its initialiser lays (the card ties it). -/
namespace Go.Proofs.YtddbmddblhjkkaaDoor.signerOnce
open Go.ChangeShapes Go.WideShapes Go.ChangeAt Go.RowKit

set_option maxRecDepth 100000 in
set_option maxHeartbeats 1000000 in
theorem contract (H : Type) (enc : TypeId × Value → H) (W : World) (base : Nat) (args : Array Value) (ds gs : List (DataW H)) (before : List MemPlace)
    (hval : ∀ (j : Nat) t v, Tryd.f3.params[j]? = some t → args[j]? = some v → Value.okWide Tryd.prog W .any base t v)
    (hW : DataW.Whole enc Tryd.prog Tryd.f3.params.toList Rows.signerOnceSpec.vars false W args.toList ds gs before) (hL : laidMetH Tryd.prog Rows.signerOnceRow.laid W) :
    Calls Tryd.prog 3 args W fun e W' => ∃ v, e = .returned v ∧ Rows.signerOnceSpec.post enc Tryd.prog Tryd.f3 false true false false W args v W' := by
  have hW' := hW
  obtain ⟨p, q, hA0, hV, rfl, hfz, hnd⟩ := hW
  have hA : DataW.TrodAll enc Tryd.prog W 0 (fun _ => true) true Tryd.f3.params.toList args.toList ds p := hA0
  rw [Tryd.params3] at hA hval
  obtain ⟨v0, vs0, d0, ds0, p0, q0, hargs, rfl, rfl, h0, r0⟩ := trodAll_cons hA
  obtain ⟨v1, vs1, d1, ds1, p1, q1, rfl, rfl, rfl, h1, r1⟩ := trodAll_cons r0
  obtain ⟨rfl, rfl, rfl⟩ := trodAll_nil r1
  obtain rfl : args = #[v0, v1] := by cases args; simp_all
  have hts : ∀ t ∈ Tryd.f3.params.toList, Tryd.prog.readableRec t = true ∧ t < Tryd.prog.types.size := by
    rw [Tryd.params3]
    intro t ht
    simp at ht
    rcases ht with rfl | rfl
    · exact ⟨by kernel_rfl, of_decide_eq_true (by kernel_rfl)⟩
    · exact ⟨by kernel_rfl, of_decide_eq_true (by kernel_rfl)⟩
  obtain ⟨x0, hx0, hm0⟩ := open_bytes (hval 0 22 v0 rfl rfl) h0
  obtain ⟨x1, hx1⟩ := open_ops (hval 1 23 v1 rfl rfl) h1
  refine (signerOnce_any v0 x0 v1 x1 W (kst_of hL) hx0 hx1).mono fun e W' ⟨he, hE⟩ => ?_
  subst he
  exact ⟨_, rfl, post_true 4 (by kernel_rfl) Tryd.underlying4 rfl laidOut hts hW' rfl hE⟩

noncomputable def args0 : Array Value := #[.slice none 0 0, .slice none 0 0]
theorem laid_met (os : Os) : laidMet Tryd.prog Rows.signerOnceRow.laid ((laidWorld os).forCall (fun _ _ => 0) ⟨#[], args0, []⟩).memory :=
  laidMet_of_run' 8 (by kernel_rfl) (by kernel_rfl)
theorem reads (os : Os) {H : Type} (enc : TypeId × Value → H) : DataW.whole enc Tryd.prog ((laidWorld os).forCall (fun _ _ => 0) ⟨#[], args0, []⟩).memory Tryd.f3.params.toList Rows.signerOnceSpec.vars false args0.toList 8 = some ([.nil, .nil], [], []) := by kernel_rfl

set_option maxRecDepth 100000 in
theorem lifted (os : Os) (started : os.Started) (H : Type) (enc : TypeId × Value → H) (F : Stop.Interp) :
    ReturnsInHanded {} Tryd.checked os 3 .any ((OpenSpec.ofChange Rows.signerOnceSpec).preRow enc Tryd.prog Tryd.f3 Rows.signerOnceRow.domain false Rows.signerOnceRow.laid) (((OpenSpec.ofChange Rows.signerOnceSpec).at F).post enc Tryd.prog Tryd.f3 false true false false) := by
  refine returnsInHanded_of_row (C := Tryd.checked) (s := OpenSpec.ofChange Rows.signerOnceSpec) own started (by kernel_rfl) Tryd.func3
    (witness_row_at (enc := enc) (C := Tryd.checked) false (laidWorld os) args0 rfl (by kernel_rfl) (by kernel_rfl) (by kernel_rfl)
      (OpenSpec.preRow_of_cond 8 (reads os enc) (by kernel_rfl) (fun k hk => by cases hk) (by kernel_rfl) (laid_met os))) ?_
  intro W base args ds gs before hval hW _ _ _ hL _ _
  exact contract H enc W base args ds gs before hval hW hL

theorem named : Tryd.prog.funcNamed "pursuivant/pursuivantlaw09.SignerOnce" = some 3 := by kernel_rfl
theorem facts : joinedFacts Tryd.prog 3 Tryd.f3 (OpenSpec.ofChange Rows.signerOnceSpec).bare Rows.signerOnceRow = true := by kernel_rfl
theorem inst : Tryd.f3.isInstance Tryd.prog Rows.signerOnceRow.origin Rows.signerOnceRow.targs := of_decide_eq_true (by kernel_rfl)
theorem wrap : Tryd.f3.isWrapper Tryd.prog Rows.signerOnceRow.wrapper Rows.signerOnceRow.mainSum := by unfold Func.isWrapper; first | (rw [if_pos (by decide +kernel)]; kernel_rfl) | (rw [if_neg (by decide +kernel)]; exact ⟨rfl, rfl⟩)
theorem said : Rows.SignerOnceSaid :=
  OpenClaim.holds_of_cond 3 Tryd.f3 rfl rfl rfl rfl rfl rfl rfl ⟨rfl, rfl, rfl, rfl, rfl⟩ rfl rfl rfl rfl rfl named Tryd.func3 facts inst wrap
    (fun os started H enc _ F => by rw [OpenClaim.pre_eq_preRow]; exact lifted os started H enc F)

theorem plain (f : FuncId) (fn : Func) (hf : Tryd.pinned.checked.prog.funcNamed "pursuivant/pursuivantlaw09.SignerOnce" = some f) (hfn : Tryd.pinned.checked.prog.funcs[f]? = some fn) :
    false = Tryd.pinned.checked.prog.looks [] ∧ ∀ (j : Nat) t, fn.params[j]? = some t → Tryd.pinned.checked.prog.wantsStandIn t = false := by
  obtain rfl : f = 3 := Option.some.inj ((show Tryd.prog.funcNamed "pursuivant/pursuivantlaw09.SignerOnce" = some 3 by kernel_rfl).symm.trans hf) |>.symm
  obtain rfl : fn = Tryd.f3 := (Option.some.inj (Tryd.func3.symm.trans hfn)).symm
  refine ⟨by kernel_rfl, fun j t ht => ?_⟩
  rw [Tryd.params3] at ht
  have ht' := Array.mem_of_getElem? ht
  simp at ht'
  rcases ht' with rfl | rfl
  · exact (show Tryd.prog.wantsStandIn 22 = false by kernel_rfl)
  · exact (show Tryd.prog.wantsStandIn 23 = false by kernel_rfl)

theorem card : Rows.SignerOnceCardSaid :=
  Claim7.holds_tied_plain_at .later [] _ _ _ _ said (fun _ h => by cases h) (by kernel_rfl) (fun _ h => by cases h) signerOnce_row_tie rfl ⟨rfl, rfl⟩ (by kernel_rfl) rfl plain (by kernel_rfl)
#print axioms card
end Go.Proofs.YtddbmddblhjkkaaDoor.signerOnce
