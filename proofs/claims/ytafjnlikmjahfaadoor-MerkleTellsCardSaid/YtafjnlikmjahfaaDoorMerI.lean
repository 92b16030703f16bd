/- pursuivantlaw08.told: leaves' numbers and ways, as far as one goes on. -/
import Derived.Test.YtafjnlikmjahfaaDoorMerH
namespace Go.Proofs.YtafjnlikmjahfaaDoor
open Go.RowKit Go.Shelf
attribute [local go_sem] Oper.semAt_some

def intsV (k : Nat) : List Value := (List.range k).map fun j => Value.int .i64 ((j : Nat) : Int)
def waysT (ds : List (List UInt8)) (H k : Nat) : List (List (List UInt8)) := (List.range k).map fun j => wayT ds j H
theorem intsV_length (k : Nat) : (intsV k).length = k := by simp [intsV]
theorem intsV_succ (k : Nat) : intsV (k + 1) = intsV k ++ [.int .i64 (k : Int)] := by simp [intsV, List.range_succ]
theorem waysT_length (ds : List (List UInt8)) (H k : Nat) : (waysT ds H k).length = k := by simp [waysT]
theorem waysT_succ (ds : List (List UInt8)) (H k : Nat) : waysT ds H (k + 1) = waysT ds H k ++ [wayT ds k H] := by simp [waysT, List.range_succ]

theorem OwnDs.put {w : World} {v : Value} {lss : List (List (List UInt8))} {L : Nat} {r : Loop} (h : OwnDs w 0 v lss) (hl : w.heap[L]? = some (.loop r)) (o : Obj) : OwnDs (w.putObj L o) 0 v lss := by
  refine h.far (grownBy_putObj' w L o) ?_ (fun cs fr e => by rw [hl] at e; cases e)
  obtain ⟨vs, h1, _⟩ := h
  intro e
  rcases h1.2 with ⟨rfl, _⟩ | ⟨g, cap, cur, rfl, _, hg, _⟩
  · simp [Value.ownBlock] at e
  · obtain rfl : g = L := by simpa [Value.ownBlock] using e
    rw [hl] at hg; cases hg
theorem heap_ext {w w' : World} {L : Nat} {o : Obj} (h : w.heap[L]? = some o) (E : Ext w w') : w'.heap[L]? = some o := (Below.block E L (Array.getElem?_eq_some_iff.1 h).1).trans h
theorem heap_grown {w w' : World} {L : Nat} {o : Obj} {row : Option Nat} (h : w.heap[L]? = some o) (hg : w.grownBy w' row) (hne : row ≠ some L) : w'.heap[L]? = some o := (hg.block L (Array.getElem?_eq_some_iff.1 h).1 (Ne.symm hne)).trans h
theorem own_not {w : World} {base : Nat} {e : TypeId} {size : Nat} {v : Value} {k : Nat} {xs : List Value} (h : w.ownsRow base e size v k xs) {L : Nat} {o : Obj} (hl : w.heap[L]? = some o) (ho : ∀ cs fr, o ≠ .cells cs e fr) : v.ownBlock ≠ some L := by
  intro e'
  rcases h.2 with ⟨rfl, _⟩ | ⟨g, cap, cur, rfl, _, hg, _⟩
  · simp [Value.ownBlock] at e'
  · obtain rfl : g = L := by simpa [Value.ownBlock] using e'
    rw [hl] at hg
    injection hg with hg
    exact ho _ _ hg

/-- a block that is typed turns: what is of another type stays -/
theorem own_turn {w w' : World} {base : Nat} {e : TypeId} {size : Nat} {v : Value} {k : Nat} {xs : List Value} {g : Nat} {o : Obj} (h : w.ownsRow base e size v k xs) (hg : w.grownBy w' (some g)) (ho : w.heap[g]? = some o) (hne : ∀ cs fr, o ≠ .cells cs e fr) : w'.ownsRow base e size v k xs := by
  refine h.kept hg ?_
  have := own_not h ho hne
  cases hv : v.ownBlock with
  | none => exact .inl rfl
  | some j => exact .inr (by rw [← hv]; exact this)
theorem OwnDs.turn {w w' : World} {v : Value} {lss : List (List (List UInt8))} {g : Nat} {o : Obj} (h : OwnDs w 0 v lss) (hg : w.grownBy w' (some g)) (ho : w.heap[g]? = some o) (h1 : ∀ cs fr, o ≠ .cells cs 22 fr) (h2 : ∀ cs fr, o ≠ .cells cs 30 fr) : OwnDs w' 0 v lss := by
  refine h.far hg ?_ (fun cs fr e => by rw [ho] at e; injection e with e; exact h2 _ _ e)
  obtain ⟨vs, k1, _⟩ := h
  exact own_not k1 ho h1
/-- the row that turns is of this type -/
def RowT (w : World) (row : Option Nat) (e : TypeId) : Prop := ∀ g, row = some g → ∃ cs fr, w.heap[g]? = some (.cells cs e fr)
theorem rowT_own {w : World} {base : Nat} {e : TypeId} {size : Nat} {v : Value} {k : Nat} {xs : List Value} (h : w.ownsRow base e size v k xs) : RowT w v.ownBlock e := by
  intro g hg
  rcases h.2 with ⟨rfl, _⟩ | ⟨g', cap, cur, rfl, _, hh, _⟩
  · simp [Value.ownBlock] at hg
  · obtain rfl : g' = g := by simpa [Value.ownBlock] using hg
    exact ⟨_, _, hh⟩
theorem rowT_blk {w : World} {B : Nat} {t : TypeId} {cs : Array Value} (h : Blk w B t cs) : RowT w (some B) t := fun g e => by cases e; exact ⟨_, _, h⟩
section
variable {w w' : World} {row : Option Nat} {e : TypeId}
theorem RowT.heap {L : Nat} {o : Obj} (t : RowT w row e) (hg : w.grownBy w' row) (h : w.heap[L]? = some o) (ho : ∀ cs fr, o ≠ .cells cs e fr) : w'.heap[L]? = some o :=
  heap_grown h hg fun e' => by obtain ⟨cs, fr, h2⟩ := t L e'; rw [h] at h2; injection h2 with h2; exact ho _ _ h2
theorem RowT.blk {B : Nat} {t' : TypeId} {cs : Array Value} (t : RowT w row e) (hg : w.grownBy w' row) (h : Blk w B t' cs) (hne : t' ≠ e) : Blk w' B t' cs :=
  t.heap hg h fun _ _ e' => by injection e' with _ e'; exact hne e'
theorem RowT.own {base : Nat} {e' : TypeId} {size : Nat} {v : Value} {k : Nat} {xs : List Value} (t : RowT w row e) (hg : w.grownBy w' row) (h : w.ownsRow base e' size v k xs) (hne : e' ≠ e) : w'.ownsRow base e' size v k xs := by
  cases row with
  | none => exact own_kept h ((Ext.refl w).grown hg (fun k e => by cases e))
  | some g =>
    obtain ⟨cs, fr, hh⟩ := t g rfl
    exact own_turn h hg hh (fun _ _ e' => by injection e' with _ e'; exact hne e'.symm)
theorem RowT.ds {v : Value} {lss : List (List (List UInt8))} (t : RowT w row e) (hg : w.grownBy w' row) (h : OwnDs w 0 v lss) (h1 : e ≠ 22) (h2 : e ≠ 30) : OwnDs w' 0 v lss := by
  cases row with
  | none => exact h.ext ((Ext.refl w).grown hg (fun k e => by cases e))
  | some g =>
    obtain ⟨cs, fr, hh⟩ := t g rfl
    exact h.turn hg hh (fun _ _ e' => by injection e' with _ e'; exact h1 e') (fun _ _ e' => by injection e' with _ e'; exact h2 e')
/-- levels stay where another row of levels is appended to -/
theorem RowT.far {v : Value} {lss : List (List (List UInt8))} (t : RowT w row 22) (hg : w.grownBy w' row) (h : OwnDs w 0 v lss) (hne : ∀ g, row = some g → v.ownBlock ≠ some g) : OwnDs w' 0 v lss := by
  cases row with
  | none => exact h.ext ((Ext.refl w).grown hg (fun k e => by cases e))
  | some g =>
    obtain ⟨cs, fr, hh⟩ := t g rfl
    exact h.far hg (hne g rfl) (fun _ _ e' => by rw [hh] at e'; injection e' with e'; injection e' with _ e'; exact absurd e' (by decide))
end
theorem OwnDs.row {w : World} {v : Value} {lss : List (List (List UInt8))} (h : OwnDs w 0 v lss) : RowT w v.ownBlock 22 := by
  obtain ⟨vs, h1, _⟩ := h
  exact rowT_own h1
theorem OwnDs.lt {w : World} {v : Value} {lss : List (List (List UInt8))} (h : OwnDs w 0 v lss) : ∀ j, v.ownBlock = some j → j < w.heap.size := by
  obtain ⟨vs, h1, _⟩ := h
  exact fun j hj => (World.ownsRow.lt h1 j hj).2
theorem OwnDs.keepT {B : Nat} {w w' : World} {v : Value} {lss : List (List (List UInt8))} (h : OwnDs w 0 v lss) (t : Turn B w w') : OwnDs w' 0 v lss := by
  obtain ⟨row, hg, hr⟩ := t
  cases row with
  | none => exact h.ext ((Ext.refl w).grown hg (fun k e => by cases e))
  | some g =>
    obtain ⟨_, o, ho, hc⟩ := hr g rfl
    exact h.turn hg ho (fun _ _ e => by subst e; cases hc) (fun _ _ e => by subst e; cases hc)
theorem grown_none {w w' : World} (hg : w.grownBy w' none) : Ext w w' := (Ext.refl w).grown hg (fun k e => by cases e)
/-- append(at, i) -/
theorem wpList_appI {ops : Array Oper} {rest : List Oper} {o : Oper} {a : Act} {Q : Exit → Act → World → Prop} {w : World} {base k : Nat} {v : Value} {A : Option Addr} {c : Nat} (hown : w.ownsRow base 3 1 v k (intsV k)) (hr : SlR w 1 (.slice A 1 c) 1 [.int .i64 (k : Int)]) (hgd : o.guard = none) (s x : Operand)
    (ho : o.op = .call { callee := .builtin .append, args := #[s, x], argTypes := #[42, 42] }) (hs : a.eval s = v) (hx : a.eval x = .slice A 1 c) (hlen : k ≤ 1073741824) (hbase : base ≤ w.heap.size)
    (h : ∀ v' w', w'.ownsRow base 3 1 v' (k + 1) (intsV (k + 1)) → w.grownBy w' v.ownBlock → wpList Tryd.prog ops Q rest (a.put o.dst v') w') : wpList Tryd.prog ops Q (o :: rest) a w := by
  obtain ⟨i0, hi, hz0, hz1, hz2⟩ := info_parts info_int
  refine wpList_append_sl (P := Tryd.prog) w hgd s x 42 ho base 3 i0 (.int .i64 0) 1 8 Tryd.underlying42 hi hz0 hz1 hz2 rfl (by omega) v k (intsV k) hs hown A 1 c [.int .i64 (k : Int)] hx hr (by simp [Value.oneCell']) (by unfold maxLen; omega) (by omega) hbase ?_
  intro v' w' h3 h4 _
  rw [← intsV_succ] at h3
  exact h v' w' h3 h4

/-- what stands between two rounds -/
structure ToldJ (w : World) (Bm Ba Bo L D : Nat) (most : Int) (rr : Loop) (ds : List (List UInt8)) (H : Nat) (vl : Value) (k : Nat) (W : World) : Prop where
  rc : W.heap[L]? = some (.loop rr)
  df : W.heap[D]? = some (.deferred (some []))
  bm : Blk W Bm 3 #[.int .i64 most]
  at_ : ∃ va vo, Blk W Ba 42 #[va] ∧ Blk W Bo 24 #[vo] ∧ W.ownsRow (w.heap.size + 1) 3 1 va k (intsV k) ∧ OwnDs W 0 vo (waysT ds H k) ∧ (∀ j, vo.ownBlock = some j → w.heap.size ≤ j ∧ vl.ownBlock ≠ some j)
  lv : OwnDs W 0 vl (levels ds (H + 1))
  le : most < 0 ∨ (k : Int) ≤ most
  ext : Ext w W
theorem ToldJ.later {w : World} {Bm Ba Bo L D : Nat} {most : Int} {rr : Loop} {ds : List (List UInt8)} {H : Nat} {vl : Value} {k : Nat} {W W' : World} (h : ToldJ w Bm Ba Bo L D most rr ds H vl k W) (E : Ext W W') : ToldJ w Bm Ba Bo L D most rr ds H vl k W' := by
  obtain ⟨va, vo, h1, h2, h3, h4, h5⟩ := h.at_
  exact ⟨heap_ext h.rc E, heap_ext h.df E, h.bm.ext E, ⟨va, vo, h1.ext E, h2.ext E, own_kept h3 E, h4.ext E, h5⟩, h.lv.ext E, h.le, h.ext.trans E⟩
/-- the record turns -/
theorem ToldJ.put {w : World} {Bm Ba Bo L D : Nat} {most : Int} {rr rs : Loop} {ds : List (List UInt8)} {H : Nat} {vl : Value} {k : Nat} {W : World} (h : ToldJ w Bm Ba Bo L D most rr ds H vl k W) (hL : w.heap.size ≤ L) (hD : D ≠ L) : ToldJ w Bm Ba Bo L D most rs ds H vl k (W.putObj L (.loop rs)) := by
  obtain ⟨va, vo, h1, h2, h3, h4, h5⟩ := h.at_
  have t : Turn L W (W.putObj L (.loop rs)) := turn_putObj _ (Nat.le_refl _) h.rc rfl
  exact ⟨World.putObj_heap_same (Array.getElem?_eq_some_iff.1 h.rc).1, (World.putObj_heap_other hD).trans h.df, t.blk h.bm, ⟨va, vo, t.blk h1, t.blk h2, t.own h3, h4.put h.rc _, h5⟩, h.lv.put h.rc _, h.le, t.ext h.ext hL⟩
/-- what stands where one has stopped -/
def ToldX (w : World) (Ba Bo L D : Nat) (most : Int) (rx : Loop) (ds : List (List UInt8)) (H : Nat) (W : World) : Prop :=
  ∃ k : Nat, (k : Int) = most ∧ k < ds.length ∧ (∃ va vo, Blk W Ba 42 #[va] ∧ Blk W Bo 24 #[vo] ∧ W.ownsRow (w.heap.size + 1) 3 1 va k (intsV k) ∧ OwnDs W 0 vo (waysT ds H k)) ∧ W.heap[L]? = some (.loop rx) ∧ W.heap[D]? = some (.deferred (some [])) ∧ Ext w W

set_option maxRecDepth 100000 in
set_option maxHeartbeats 2000000 in
theorem told_yes (v : Value) (ds : List (List UInt8)) (H : Nat) (most : Int) (w : World) (hK : Kst w) (hv : SlD w v ds) (hl : ds.length = 2 ^ H) (hH : H ≤ 6) :
    Calls Tryd.prog 18 #[v, .int .i64 most] w fun e w' => ∃ va vo k, e = .returned (.tuple #[va, vo]) ∧ ((k = ds.length ∧ (most < 0 ∨ (k : Int) ≤ most)) ∨ ((k : Int) = most ∧ k < ds.length)) ∧ SlR w' 1 va k (intsV k) ∧ SlDs w' vo (waysT ds H k) ∧ Ext w w' := by
  obtain ⟨A, c, rfl, hc⟩ := hv.form
  have hle := pow_le hH
  have HV := Lib.hid hv
  have Hl := Lib.hid hl
  clear hv hl
  refine (callsIn_wide (n := 8)).1 ?_
  refine callsIn_of_wp_marks Tryd.func18 rfl trivial ?_ rfl
  refine wpIn_wide.2 ?_
  simp only [Tryd.ntmps18, List.size_toArray, List.length_cons, List.length_nil, Nat.reduceAdd, Nat.reduceSub, Array.replicate_succ, Array.replicate_zero, List.push_toArray, List.append_toArray, List.nil_append, List.cons_append]
  obtain ⟨W3, hW3⟩ : ∃ W3, W3 = ((w.alloc (.cells #[.int .i64 most] 3)).alloc (.cells #[.slice none 0 0] 42)).alloc (.cells #[.slice none 0 0] 24) := ⟨_, rfl⟩
  have b0 : Blk W3 w.heap.size 3 #[.int .i64 most] := by rw [hW3]; exact ((Blk.new w _ _).alloc _).alloc _
  have b1 : Blk W3 (w.heap.size + 1) 42 #[.slice none 0 0] := by
    rw [hW3]
    have := Blk.new (w.alloc (.cells #[.int .i64 most] 3)) 42 #[.slice none 0 0]
    rw [World.size_alloc] at this
    exact this.alloc _
  have b2 : Blk W3 (w.heap.size + 1 + 1) 24 #[.slice none 0 0] := by
    rw [hW3]
    have := Blk.new ((w.alloc (.cells #[.int .i64 most] 3)).alloc (.cells #[.slice none 0 0] 42)) 24 #[.slice none 0 0]
    rw [World.size_alloc, World.size_alloc] at this
    exact this
  have E3 : Ext w W3 := by rw [hW3]; exact (((Ext.refl w).alloc _).alloc _).alloc _
  have Hways := Lib.hid (mWays_any A ds.length c W3)
  have hsn := seq2_nil_eq
  go_wp2_with fail
  rw [← hW3]
  with_reducible refine Hways.out.mono ?_
  rintro e w4 ⟨rfl, bl, E4⟩
  have F4 := E3.trans E4
  replace b0 := b0.ext E4
  replace b1 := b1.ext E4
  replace b2 := b2.ext E4
  have hs3 : W3.heap.size < w4.heap.size := bl.lt
  have hs0 : w.heap.size + 1 + 1 < w4.heap.size := b2.lt
  clear hW3 E3 E4 Hways
  go_wp2_with fail
  refine (wpIn_wide (n := 8)).1 ?_
  have Heg := Lib.hid (fun args w => enters_of (P := Tryd.prog) Tryd.func27 (by kernel_rfl) rfl args w)
  refine wpIn_range_called (gf := 27) (lb := #[.pointer (some ⟨W3.heap.size, 0, none⟩)]) rfl (by decide) rfl trivial Heg.out ?_
  intro fn rr hrr hfn
  have Hrr := Lib.hid hrr
  have E5 := called_ext w4 (rr .ready none)
  have rc5 := called_rec w4 (rr .ready none)
  have df5 := called_def w4 (rr .ready none)
  obtain ⟨w5, hw5⟩ : ∃ w5, w5 = called w4 (rr .ready none) := ⟨_, rfl⟩
  rw [← hw5] at E5 rc5 df5 ⊢
  obtain ⟨L, hL⟩ : ∃ L, L = w4.heap.size + 1 := ⟨_, rfl⟩
  obtain ⟨D, hD⟩ : ∃ D, D = w4.heap.size := ⟨_, rfl⟩
  rw [← hL] at rc5 ⊢
  rw [← hD] at df5 ⊢
  have hDL : D ≠ L := by omega
  have hwL : w.heap.size ≤ L := by omega
  have hDw : w.heap.size ≤ D := by omega
  have F5 := F4.trans E5
  obtain ⟨J, hJ⟩ : ∃ J : Value → Nat → World → Prop, J = ToldJ w w.heap.size (w.heap.size + 1) (w.heap.size + 1 + 1) L D most (rr .ready none) ds H := ⟨_, rfl⟩
  obtain ⟨Jx, hJx⟩ : ∃ Jx : World → Prop, Jx = ToldX w (w.heap.size + 1) (w.heap.size + 1 + 1) L D most (rr .done (some (.exit 0))) ds H := ⟨_, rfl⟩
  have HJ := Lib.hid hJ
  have HJx := Lib.hid hJx
  have B1 := Lib.hid (b1.ext E5)
  have B2 := Lib.hid (b2.ext E5)
  have B0 := Lib.hid (b0.ext E5)
  have RC5 := Lib.hid rc5
  have DF5 := Lib.hid df5
  have BL := Lib.hid (bl.ext E5)
  clear hJ hJx b1 b2 b0 rc5 df5 bl hrr hw5 hL hD E5
  rw [show (#[Value.func (.yield L) #[] #[]] ++ #[Value.pointer (some ⟨W3.heap.size, 0, none⟩)] : Array Value) = #[Value.func (.yield L) #[] #[], Value.pointer (some ⟨W3.heap.size, 0, none⟩)] from by simp]
  refine (ways1_yes (8 - 1) L W3.heap.size H _ ds J Jx w5 (hK.ext F5) BL.out (HV.out.ext F5) Hl.out hH ?j0 ?je ?js ?yy).mono ?post
  case j0 =>
    intro vl W' E hO
    rw [HJ.out]
    exact ⟨heap_ext RC5.out E, heap_ext DF5.out E, B0.out.ext E, ⟨_, _, B1.out.ext E, B2.out.ext E, World.ownsRow_nil _ _ _ _, ⟨[], World.ownsRow_nil _ _ _ _, by simp, fun i ls h => by simp [waysT] at h⟩, fun j hj => by cases hj⟩, hO, by omega, F5.trans E⟩
  case je =>
    intro vl k W1 W2 h E
    rw [HJ.out] at h ⊢
    exact h.later E
  case js =>
    intro vl k W1 h
    rw [HJ.out] at h
    exact h.lv.sl
  case yy =>
    intro vl k W1 vw b' hk hj hO
    rw [HJ.out] at hj
    have hst : (rr .ready none).state = .ready := by rw [Hrr.out]; rfl
    refine yield_at hj.rc hst (by rw [Hrr.out]; rfl) trivial ?a1 ?assign ?body
    case assign =>
      intro K hK
      rw [Hrr.out]
      dsimp only [rec0]
      gi_wp2
      exact hK
    case body =>
      have hb2 := hj.put (rs := { rr .ready none with state := .busy }) hwL hDL
      have hO2 : OwnD (W1.putObj L (.loop { rr .ready none with state := .busy })) b' vw (wayT ds k H) := ⟨(turn_putObj _ (Nat.le_refl _) hj.rc rfl).own hO.1, hO.2⟩
      obtain ⟨rb, hrb⟩ : ∃ rb : Loop, rb = { rr .ready none with state := .busy } := ⟨_, rfl⟩
      rw [← hrb] at hb2 hO2 ⊢
      obtain ⟨Wb, hWb⟩ : ∃ Wb, Wb = W1.putObj L (.loop rb) := ⟨_, rfl⟩
      rw [← hWb] at hb2 hO2 ⊢
      obtain ⟨Q, hQ⟩ : ∃ Q, Q = roundPost Tryd.prog L (fun e W' => (e = .returned (.bool true) ∧ J vl (k + 1) W') ∨ (e = .returned (.bool false) ∧ Jx W')) := ⟨_, rfl⟩
      have hQn : ¬ LetsOut Q := by rw [hQ]; exact roundPost_noLets
      have HQ1 : Hid (∀ a W', W'.heap[L]? = some (.loop rb) → J vl (k + 1) (W'.putObj L (.loop (rr .ready none))) → Q .normal a W') := by
        show ∀ a W', _ → _ → _
        intro a W' h1 h2
        rw [hQ]
        refine end_normal h1 (.inl ⟨rfl, ?_⟩)
        rw [Hrr.out] at h2 hrb
        rw [hrb]
        exact h2
      have HQ2 : Hid (∀ a W', W'.heap[L]? = some (.loop rb) → Jx (W'.putObj L (.loop (rr .done (some (.exit 0))))) → Q (.exit 0) a W') := by
        show ∀ a W', _ → _ → _
        intro a W' h1 h2
        rw [hQ]
        refine end_exit h1 (.inr ⟨rfl, ?_⟩)
        rw [Hrr.out] at h2 hrb
        rw [hrb]
        exact h2
      rw [← hQ]
      clear hQ hrb hWb hj hO hst
      rw [Hrr.out]
      dsimp only [rec0]
      obtain ⟨va, vo, X1, X2, O1, O2, ha⟩ := hb2.at_
      obtain ⟨Aa, ca, rfl, hca⟩ := own_form O1
      obtain ⟨Ao, co, rfl, hco⟩ := O2.form
      rw [waysT_length] at X2 O2 ha hco
      obtain ⟨Aw, cw, rfl, hcw⟩ := hO2.form
      rw [wayT_length] at hO2 hcw ⊢
      have HM := Lib.hid hb2
      have HX1 := Lib.hid X1
      have HX2 := Lib.hid X2
      have HO1 := Lib.hid O1
      have HO2 := Lib.hid O2
      have HW := Lib.hid hO2
      have Ha := Lib.hid ha
      have c1 : Wb.cell? ⟨w.heap.size + 1, 0, none⟩ = some (.slice Aa k ca) := X1.cell 0
      have c0 : Wb.cell? ⟨w.heap.size, 0, none⟩ = some (.int .i64 most) := hb2.bm.cell 0
      have hk64 : k < 64 := by have := Hl.out; omega
      clear hb2 X1 X2 O1 O2 hO2 ha
      refine wpIn_block ?_
      refine wpIn_seq_k fun K hK' => ?_
      refine wpIn_seq_k fun K2 hK2 => ?_
      refine wpIn_region_round (by kernel_rfl) (fun ⟨a, w, h⟩ => hQn ⟨a, w, h⟩) ?_
      go_wp2
      by_cases hkm : (k : Int) = most
      · refine wpIn_cond_true (congrArg Value.bool (beq_iff_eq.2 hkm)) ?_
        refine wpIn_exit ?_
        show Q (.exit 0) _ _
        refine HQ2.out _ _ HM.out.rc ?_
        rw [HJx.out]
        have hp := HM.out.put (rs := rr .done (some (.exit 0))) hwL hDL
        obtain ⟨va, vo, Y1, Y2, Y3, Y4, _⟩ := hp.at_
        exact ⟨k, hkm, hk, ⟨va, vo, Y1, Y2, Y3, Y4⟩, hp.rc, hp.df, hp.ext⟩
      · refine wpIn_cond_false (congrArg Value.bool (beq_eq_false_iff_ne.2 hkm)) ?_
        refine wpIn_skip ?_
        show K _ _
        refine hK' _ _ ?_
        refine wpIn_seq_k fun K3 hK3 => ?_
        refine wpIn_region_round (by kernel_rfl) (fun ⟨a, w, h⟩ => hQn ⟨a, w, h⟩) ?_
        have E6 : Ext Wb (Wb.alloc (.cells #[.int .i64 (k : Int)] 3)) := (Ext.refl Wb).alloc _
        have HO6 := Lib.hid (own_kept HO1.out E6)
        have HR6 := Lib.hid (slR_one Wb 3 (.int .i64 (k : Int)) _ rfl)
        have hbs : w.heap.size + 1 ≤ (Wb.alloc (.cells #[.int .i64 (k : Int)] 3)).heap.size := by
          have := HX1.out.lt
          have := E6.size
          omega
        have HX16 := Lib.hid (HX1.out.ext E6)
        go_wp2_with (at_builtin; refine wpList_appI HO6.out HR6.out rfl _ _ rfl rfl rfl (by omega) hbs ?_; intro v7 w7 ho7 hg7; have hB7 := (rowT_own HO6.out).blk hg7 HX16.out (by decide); have hc7 : w7.cell? ⟨w.heap.size + 1, 0, none⟩ = some (.slice Aa k ca) := hB7.cell 0; have hf7 := hB7.frozen 0; obtain ⟨A7, c7, rfl, hc7'⟩ := own_form ho7; have HB7 := Lib.hid hB7; have HO7 := Lib.hid ho7; have HG7 := Lib.hid hg7; clear hB7 ho7 hg7)
        -- behind the first append
        have t7 := rowT_own HO6.out
        have Bo7 := t7.blk HG7.out (HX2.out.ext E6) (by decide)
        have Bm7 : Blk w7 w.heap.size 3 #[.int .i64 most] := (HM.out.bm.ext E6).grown HG7.out (fun e => by have := (World.ownsRow.lt HO6.out _ e.symm).1; omega)
        have D7 := t7.ds HG7.out (HO2.out.ext E6) (by decide) (by decide)
        have V7 := t7.ds HG7.out (HM.out.lv.ext E6) (by decide) (by decide)
        have Y7 : OwnD w7 b' (.slice Aw H cw) (wayT ds k H) := ⟨t7.own HG7.out (HW.out.ext E6).1 (by decide), HW.out.2⟩
        have rc7 := t7.heap HG7.out (heap_ext HM.out.rc E6) (fun _ _ e => by cases e)
        have df7 := t7.heap HG7.out (heap_ext HM.out.df E6) (fun _ _ e => by cases e)
        have F7 : Ext w w7 := (HM.out.ext.trans E6).grown HG7.out (fun j hj => by have := (World.ownsRow.lt HO6.out j hj).1; omega)
        have t8 := rowT_blk HB7.out
        obtain ⟨w8, hw8⟩ : ∃ w8, w8 = w7.setCell ⟨w.heap.size + 1, 0, none⟩ (.slice A7 (k + 1) c7) := ⟨_, rfl⟩
        have hg8 : w7.grownBy w8 (some (w.heap.size + 1)) := by rw [hw8]; exact grown_setCell w7 _ 0 _
        have Ba8 : Blk w8 (w.heap.size + 1) 42 #[.slice A7 (k + 1) c7] := by rw [hw8]; exact HB7.out.set 0 _
        have Bo8 := t8.blk hg8 Bo7 (by decide)
        have Bm8 := t8.blk hg8 Bm7 (by decide)
        have I8 := t8.own hg8 HO7.out (by decide)
        have D8 := t8.ds hg8 D7 (by decide) (by decide)
        have V8 := t8.ds hg8 V7 (by decide) (by decide)
        have Y8 : OwnD w8 b' (.slice Aw H cw) (wayT ds k H) := ⟨t8.own hg8 Y7.1 (by decide), Y7.2⟩
        have rc8 := t8.heap hg8 rc7 (fun _ _ e => by cases e)
        have df8 := t8.heap hg8 df7 (fun _ _ e => by cases e)
        have F8 : Ext w w8 := F7.grown hg8 (fun j hj => by cases hj; omega)
        simp only [← hw8]
        have E9 : Ext w8 (w8.alloc (.cells #[.slice Aw H cw] 22)) := (Ext.refl w8).alloc _
        have HD9 := Lib.hid (D8.ext E9)
        have Y9 := Y8.ext E9
        have HS9 := Lib.hid Y9.sl
        have HA9 := Lib.hid (Apt.of_own (base := 0) Y9)
        have HR9 := Lib.hid (slR_one w8 22 (.slice Aw H cw) _ rfl)
        have HBo9 := Lib.hid (Bo8.ext E9)
        have HBa9 := Lib.hid (Ba8.ext E9)
        have HBm9 := Lib.hid (Bm8.ext E9)
        have HI9 := Lib.hid (own_kept I8 E9)
        have HV9 := Lib.hid (V8.ext E9)
        have HRC9 := Lib.hid (heap_ext rc8 E9)
        have HDF9 := Lib.hid (heap_ext df8 E9)
        have F9 := F8.trans E9
        have c8 : w8.cell? ⟨w.heap.size + 1 + 1, 0, none⟩ = some (.slice Ao k co) := Bo8.cell 0
        have hwl := waysT_length ds H k
        have hws := waysT_succ ds H k
        have Hwl := Lib.hid hwl
        have Hws := Lib.hid hws
        clear t7 t8 Bo7 Bm7 D7 V7 Y7 rc7 df7 F7 hw8 hg8 Ba8 Bo8 Bm8 I8 D8 V8 Y8 rc8 df8 F8 E9 Y9 HB7 HO7 HG7 HO6 HR6 HX16 HX1 HX2 HO1 HO2 HW HQ2 hc7 hf7 E6 hwl hws c0 c1
        refine wpIn_region_round (by kernel_rfl) (fun ⟨a, w, h⟩ => hQn ⟨a, w, h⟩) ?_
        go_wp2_with (at_builtin; refine wpList_appDs HD9.out HS9.out HA9.out rfl HR9.out rfl _ _ rfl rfl rfl (by rw [Hwl.out]; omega) (Nat.zero_le _) ?_; intro v10 w10 ho10 hg10 hs10 hq10; have hB10 := HD9.out.row.blk hg10 HBo9.out (by decide); have hc10 : w10.cell? ⟨w.heap.size + 1 + 1, 0, none⟩ = some (.slice Ao k co) := hB10.cell 0; have hf10 := hB10.frozen 0; obtain ⟨A10, c10, rfl, hc10'⟩ := ho10.form; rw [← Hws.out] at ho10; have HB10 := Lib.hid hB10; have HO10 := Lib.hid ho10; have HG10 := Lib.hid hg10; have HQ10 := Lib.hid hq10; clear hB10 ho10 hg10 hs10 hq10)
        rw [waysT_length] at HO10
        rw [← Hws.out, waysT_length] at HQ10
        rw [Hwl.out]
        have t10 := HD9.out.row
        have Ba10 := t10.blk HG10.out HBa9.out (by decide)
        have Bm10 := t10.blk HG10.out HBm9.out (by decide)
        have I10 := t10.own HG10.out HI9.out (by decide)
        have V10 := t10.far HG10.out HV9.out (fun g hg => (Ha.out g hg).2)
        have rc10 := t10.heap HG10.out HRC9.out (fun _ _ e => by cases e)
        have df10 := t10.heap HG10.out HDF9.out (fun _ _ e => by cases e)
        have F10 : Ext w w10 := F9.grown HG10.out (fun j hj => (Ha.out j hj).1)
        have t11 := rowT_blk HB10.out
        obtain ⟨w11, hw11⟩ : ∃ w11, w11 = w10.setCell ⟨w.heap.size + 1 + 1, 0, none⟩ (.slice A10 (k + 1) c10) := ⟨_, rfl⟩
        have hg11 : w10.grownBy w11 (some (w.heap.size + 1 + 1)) := by rw [hw11]; exact grown_setCell w10 _ 0 _
        have Bo11 : Blk w11 (w.heap.size + 1 + 1) 24 #[.slice A10 (k + 1) c10] := by rw [hw11]; exact HB10.out.set 0 _
        rw [← hw11]
        have rc11 := t11.heap hg11 rc10 (fun _ _ e => by cases e)
        refine HQ1.out _ _ rc11 ?_
        rw [HJ.out]
        refine ToldJ.put (rr := rb) ⟨rc11, t11.heap hg11 df10 (fun _ _ e => by cases e), t11.blk hg11 Bm10 (by decide), ⟨_, _, t11.blk hg11 Ba10 (by decide), Bo11, t11.own hg11 I10 (by decide), t11.ds hg11 HO10.out (by decide) (by decide), ?_⟩, t11.ds hg11 V10 (by decide) (by decide), ?_, F10.grown hg11 (fun j hj => by cases hj; omega)⟩ hwL hDL
        · intro j hj
          rcases HQ10.out with h | h
          · exact Ha.out j (by rw [← h]; exact hj)
          · rw [h] at hj
            injection hj with hj
            refine ⟨by rw [← hj]; exact F9.size, fun e => ?_⟩
            have := HV9.out.lt j e
            omega
        · have := HM.out.le
          omega
  case post =>
    rintro e W' ⟨⟨u, rfl⟩, ⟨vl, hj⟩ | hx⟩
    · rw [HJ.out] at hj
      refine range_next hj.rc (by rw [Hrr.out]; simp [rec0]) (by rw [Hrr.out]; rfl) ?_
      intro w6 hw6
      have hp := hj.put (rs := { rr .ready none with state := .exhausted }) hwL hDL
      rw [← hw6] at hp
      have hat : ∃ va vo, Blk w6 (w.heap.size + 1) 42 #[va] ∧ Blk w6 (w.heap.size + 1 + 1) 24 #[vo] ∧ w6.ownsRow (w.heap.size + 1) 3 1 va ds.length (intsV ds.length) ∧ OwnDs w6 0 vo (waysT ds H ds.length) := by
        obtain ⟨va, vo, h1, h2, h3, h4, _⟩ := hp.at_
        exact ⟨va, vo, h1, h2, h3, h4⟩
      have hdf := hp.df
      have F6 := hp.ext
      have hle2 := hp.le
      clear hp hw6 hj HJ HJx RC5 DF5 B0 B1 B2 BL Heg Hrr
      obtain ⟨k, hkn⟩ : ∃ k, k = ds.length := ⟨_, rfl⟩
      rw [← hkn] at hat hle2
      have Hkn := Lib.hid hkn
      clear hkn
      obtain ⟨va, vo, Y1, Y2, Y3, Y4⟩ := hat
      obtain ⟨Aa, ca, rfl, hca⟩ := own_form Y3
      obtain ⟨Ao, co, rfl, hco⟩ := Y4.form
      rw [waysT_length] at Y2 Y4 hco
      have c1 : w6.cell? ⟨w.heap.size + 1, 0, none⟩ = some (.slice Aa k ca) := Y1.cell 0
      have c2 : w6.cell? ⟨w.heap.size + 1 + 1, 0, none⟩ = some (.slice Ao k co) := Y2.cell 0
      have l1 := Y1.lt
      have l2 := Y2.lt
      have R1 := Lib.hid Y3
      have R2 := Lib.hid Y4
      have Hdf := Lib.hid hdf
      clear Y1 Y2 Y3 Y4 hdf
      dsimp only
      go_wp2_with fail
      go_quiet (fail)
      have E7 : Ext w6 (w6.drewN nq) := (Ext.refl w6).drewN nq
      have Hdf7 := Lib.hid (heap_ext Hdf.out E7)
      have R17 := Lib.hid (own_kept R1.out E7)
      have R27 := Lib.hid (R2.out.ext E7)
      have F7 := F6.trans E7
      clear c1 c2 l1 l2 E7 F6 R1 R2 Hdf
      generalize w6.drewN nq = w7 at *
      go_wp2
      refine ⟨by simp, .inl ⟨_, _, rfl, run_takeDeferred Hdf7.out, ?_⟩⟩
      refine ⟨_, results_tmp2 rfl _ _ _, ?_⟩
      have tn : Turn w.heap.size w7 (w7.putObj D (.deferred none)) := turn_putObj _ (by omega) Hdf7.out rfl
      refine ⟨_, _, k, rfl, .inl ⟨Hkn.out, hle2⟩, SlR.of_own (tn.own R17.out), ?_, tn.ext F7 (Nat.le_refl _)⟩
      exact (R27.out.keepT tn).sl
    · rw [HJx.out] at hx
      obtain ⟨k, hkm, hkn, hat, hrc, hdf, F0⟩ := hx
      refine range_jump hrc (by rw [Hrr.out]; simp [rec0]) (by rw [Hrr.out]; rfl) ?_
      intro w6 hw6
      have tx : Turn L W' w6 := by rw [hw6]; exact turn_putObj _ (Nat.le_refl _) hrc rfl
      replace hdf : w6.heap[D]? = some (.deferred (some [])) := by rw [hw6]; exact (World.putObj_heap_other hDL).trans hdf
      have hat : ∃ va vo, Blk w6 (w.heap.size + 1) 42 #[va] ∧ Blk w6 (w.heap.size + 1 + 1) 24 #[vo] ∧ w6.ownsRow (w.heap.size + 1) 3 1 va k (intsV k) ∧ OwnDs w6 0 vo (waysT ds H k) := by
        obtain ⟨va, vo, h1, h2, h3, h4⟩ := hat
        exact ⟨va, vo, tx.blk h1, tx.blk h2, tx.own h3, h4.keepT tx⟩
      have F6 := tx.ext F0 hwL
      clear tx hw6 HJ HJx RC5 DF5 B0 B1 B2 BL Heg Hrr hrc F0
      obtain ⟨va, vo, Y1, Y2, Y3, Y4⟩ := hat
      obtain ⟨Aa, ca, rfl, hca⟩ := own_form Y3
      obtain ⟨Ao, co, rfl, hco⟩ := Y4.form
      rw [waysT_length] at Y2 Y4 hco
      have c1 : w6.cell? ⟨w.heap.size + 1, 0, none⟩ = some (.slice Aa k ca) := Y1.cell 0
      have c2 : w6.cell? ⟨w.heap.size + 1 + 1, 0, none⟩ = some (.slice Ao k co) := Y2.cell 0
      have l1 := Y1.lt
      have l2 := Y2.lt
      have R1 := Lib.hid Y3
      have R2 := Lib.hid Y4
      have Hdf := Lib.hid hdf
      clear Y1 Y2 Y3 Y4 hdf
      refine wpIn_exit ?_
      go_wp2_with fail
      go_quiet (fail)
      have E7 : Ext w6 (w6.drewN nq) := (Ext.refl w6).drewN nq
      have Hdf7 := Lib.hid (heap_ext Hdf.out E7)
      have R17 := Lib.hid (own_kept R1.out E7)
      have R27 := Lib.hid (R2.out.ext E7)
      have F7 := F6.trans E7
      clear c1 c2 l1 l2 E7 F6 R1 R2 Hdf
      generalize w6.drewN nq = w7 at *
      go_wp2
      refine ⟨by simp, .inl ⟨_, _, rfl, run_takeDeferred Hdf7.out, ?_⟩⟩
      refine ⟨_, results_tmp2 rfl _ _ _, ?_⟩
      have tn : Turn w.heap.size w7 (w7.putObj D (.deferred none)) := turn_putObj _ (by omega) Hdf7.out rfl
      refine ⟨_, _, k, rfl, .inr ⟨hkm, hkn⟩, SlR.of_own (tn.own R17.out), ?_, tn.ext F7 (Nat.le_refl _)⟩
      exact (R27.out.keepT tn).sl
end Go.Proofs.YtafjnlikmjahfaaDoor
