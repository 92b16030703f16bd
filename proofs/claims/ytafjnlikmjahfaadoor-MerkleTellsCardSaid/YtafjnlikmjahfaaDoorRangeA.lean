/- A range over a function: the round's fence (everything allowed) meets what is shown of a region outside of one; words for an invariant that abides the loop's book-keeping. No program. -/
import Derived.RangeFuncNested
import Derived.RangeFuncBound
import Derived.RangeFuncCalls
import Derived.RangeFuncLeaves
import Derived.Shelf.Abstract
import Derived.Shelf.RegionOpen
import Derived.WalkKit
import Derived.OwnWalkIn
import Derived.TacticsInMore
import Derived.LoopNIn
import Derived.LoopIn
import Derived.Test.YtafjnlikmjahfaaDoorChain
import Derived.Test.YtafjnlikmjahfaaDoorSlices
namespace Go.Proofs.YtafjnlikmjahfaaDoor
open Go.RowKit Go.Shelf

section
variable {P : Program} {ops : Array Oper} {Q : Exit → Act → World → Prop} {r n : Nat}

theorem rowsIn_round {row : String} {args : Array Value} {w : World} {R : Value → World → Prop} (h : Rows P row args w R) : RowsIn (Fence.wide.inRound r) n P row args w R :=
  fun c cs _ => let ⟨v, w', hr, s⟩ := h c cs; ⟨v, w', hr, stepsIn_wide.2 s⟩
theorem callsIn_round {f : FuncId} {args : Array Value} {w : World} {R : Ending → World → Prop} (h : Calls P f args w R) : CallsIn (Fence.wide.inRound r) n P f args w R :=
  CallsIn.inRound r (callsIn_wide.2 h)

theorem operIn_of_oper {o : Oper} {a : Act} {w : World} {K K' : Act → World → Prop} (hd : ∀ c, o.op ≠ .defer c) (hk : ∀ a w, K a w → K' a w)
    (h : o.wp P a w K Q) : o.wpIn (Fence.wide.inRound r) n P a w K' Q := by
  refine ⟨fun _ _ => trivial, ?_⟩
  rw [Oper.semAt_eq _ _ _ hd]
  unfold Oper.wp at h
  generalize (execOp a.eval o).run P w = x at *
  cases x with
  | ok m w' =>
    cases m <;> simp only [Oper.upon, Oper.uponIn] at h ⊢
    case value => exact hk _ _ h
    case skip => exact hk _ _ h
    case defer => exact hk _ _ h
    case enter => exact ⟨fun h => by simp [Fence.wide] at h, callsIn_round (Calls.mono h (fun e w'' he => by cases e <;> first | exact hk _ _ he | exact he))⟩
    case row => exact ⟨fun h => by simp [Fence.wide] at h, rowsIn_round (Rows.mono h (fun _ _ he => hk _ _ he))⟩
  | halt x w' => cases x <;> simp only [Oper.upon, Oper.uponIn] at h ⊢; exact h

/-- no operation of a region is a 'defer' -/
def noDefer (ops : Array Oper) : Bool := ops.all fun o => match o.op with | .defer _ => false | _ => true
theorem noDefer_at (h : noDefer ops = true) {i : Nat} {o : Oper} (ho : ops[i]? = some o) (c) : o.op ≠ .defer c := by
  obtain ⟨hi, he⟩ := Array.getElem?_eq_some_iff.1 ho
  have := Array.all_eq_true.1 h i hi
  rw [he] at this
  intro e
  rw [e] at this
  cases this

theorem opsIn_of_ops (hd : noDefer ops = true) (hQ : ¬ LetsOut Q) : ∀ (l : List Nat) (a : Act) (w : World), wpOps P ops Q l a w → wpOpsIn (Fence.wide.inRound r) n P ops Q l a w := by
  intro l
  induction l with
  | nil => exact fun a w h => h
  | cons i rest ih =>
    intro a w h
    simp only [wpOps, wpOpsIn] at h ⊢
    cases ho : ops[i]? with
    | none => simp only [ho] at h ⊢; exact ih a w h
    | some o =>
      simp only [ho] at h ⊢
      by_cases hw : Region.wanted o (yielded ops a.tmps) = true
      · simp only [hw, if_true] at h ⊢
        rcases h with h | h
        · exact operIn_of_oper (noDefer_at hd ho) (fun a w => ih a w) h
        · exact absurd h.2 hQ
      · simp only [hw, if_false, Bool.false_eq_true] at h ⊢
        exact ⟨fun _ _ => trivial, ih _ _ h⟩

/-- a region in a round: what every order of it comes to -/
theorem wpIn_region_any {id : Nat} {a : Act} {w : World} (hm : P.follows .mixedOrders = true) (hd : noDefer ops = true) (hQ : ¬ LetsOut Q)
    (h : wpAny P .any ops Q ops.size (Array.replicate ops.size false) a { w with drawn := w.drawn + 1 }) : (Code.region id ops true).wpIn (Fence.wide.inRound r) n P Q a w :=
  wpIn_region_draw fun t => by
    simp only [Region.schedule, hm, Bool.true_or, if_true]
    exact opsIn_of_ops hd hQ _ _ _ (wpAny_sound ops.size t _ a _ h)

/-- a region in a round: in the order of the text -/
theorem wpIn_region_round {id : Nat} {a : Act} {w : World} {l : List Oper} (hd : noDefer l.toArray = true) (hQ : ¬ LetsOut Q)
    (h : wpList P l.toArray Q l a w) : (Code.region id l.toArray false).wpIn (Fence.wide.inRound r) n P Q a w := by
  refine wpIn_region (opsIn_of_ops hd hQ _ _ _ ?_)
  have := wpOps_eq_wpList (P := P) (Q := Q) (ops := l.toArray) l 0 (by simp)
  rw [List.range_eq_range', ← Array.length_toList, List.toList_toArray, this]
  exact h

theorem noLetsOut_noPanic (hQ : ¬ LetsOut Q) : ¬ LetsOut (NoPanic Q) := fun ⟨a, w, h⟩ => hQ ⟨a, w, h⟩

/-- THE CHAIN LAW IN A ROUND -/
theorem wpIn_region_chain {id : Nat} {a : Act} {w : World} {l : List Oper} (k : Nat) (σ : List (Bool × Nat)) (S : World → Prop) (hm : P.follows .mixedOrders = true) (hd : noDefer l.toArray = true) (hQ : ¬ LetsOut Q)
    (hB : (Region.noSelect l.toArray && decide (k < l.toArray.size) && decide (σ.length = k) && Region.sinkB .any l.toArray k && Region.chainB .any l.toArray k && chkT .any l.toArray k σ (Array.replicate l.toArray.size false)) = true)
    (hS : S w.drew) (h : wpTake P l.toArray (NoPanic Q) S (fun a' w' => wpList P l.toArray (NoPanic Q) (l.drop k) a' w') σ a w.drew) : (Code.region id l.toArray true).wpIn (Fence.wide.inRound r) n P Q a w := by
  refine Code.wpIn_mono NoPanic.imp ?_
  simp only [Bool.and_eq_true, decide_eq_true_eq] at hB
  obtain ⟨⟨⟨⟨⟨hsel, hn⟩, hlen⟩, hs⟩, hc⟩, hchk⟩ := hB
  have hdl : (l.drop k).length = l.toArray.size - k := by simp
  have inv0 : HeadInv .any l.toArray k (Array.replicate l.toArray.size false) :=
    ⟨by simp, fun j oj _ hl => (by rw [getD_replicate_false] at hl; cases hl), fun t _ ht => getD_in (by simpa using ht) (getD_replicate_false _ _)⟩
  have H := headS_of_take (md := .any) (Q := NoPanic Q) hsel hs hc hn (fun _ _ _ _ h => h) σ _ a _ inv0 hS hchk h
  refine wpIn_region_any hm hd (noLetsOut_noPanic hQ) ?_
  have := wpAny_of_headS (Q := NoPanic Q) (g := l.toArray.size - k) (fun listed a' w' hL => by
    have := wpAny_of_seq (md := .any) (Q' := NoPanic Q) (l.drop k) k listed a' w' (fun j => by simp [List.getElem?_drop]) (by rw [hdl]; exact hL.1) hL.2
    rwa [hdl] at this) _ _ _ _ H
  rw [hlen, show k + (l.toArray.size - k) = l.toArray.size by omega] at this
  exact this
end

/-- the loop's own book-keeping: new blocks, and a turn of a block that is no cells at or beyond B -/
def Turn (B : Nat) (W W' : World) : Prop := ∃ row, W.grownBy W' row ∧ ∀ r, row = some r → B ≤ r ∧ ∃ o : Obj, W.heap[r]? = some o ∧ o.isCells = false
theorem ownFrom_of {β : Type} {B : Nat} {I : β → World → Prop} (h : ∀ s W W', I s W → Turn B W W' → I s W') : OwnFrom B I := fun s W W' row hs hg hr => h s W W' hs ⟨row, hg, hr⟩
theorem Turn.blk {B : Nat} {W W' : World} (t : Turn B W W') {g : Nat} {e : TypeId} {cs : Array Value} (h : Blk W g e cs) : Blk W' g e cs := by
  obtain ⟨row, hg, hr⟩ := t
  refine h.grown hg fun e' => ?_
  obtain ⟨_, o, ho, hc⟩ := hr g e'.symm
  rw [show W.heap[g]? = _ from h] at ho
  cases ho; cases hc
theorem Turn.own {B : Nat} {W W' : World} (t : Turn B W W') {base : Nat} {e : TypeId} {size : Nat} {v : Value} {k : Nat} {xs : List Value} (h : W.ownsRow base e size v k xs) : W'.ownsRow base e size v k xs := by
  obtain ⟨row, hg, hr⟩ := t
  refine h.kept hg ?_
  rcases h.2 with ⟨rfl, _⟩ | ⟨g, cap, cur, rfl, _, hgb, _⟩
  · exact .inl rfl
  · refine .inr fun e' => ?_
    obtain ⟨_, o, ho, hc⟩ := hr g (by simpa [Value.ownBlock] using e'.symm)
    rw [hgb] at ho; cases ho; cases hc
theorem Turn.below {B n₀ : Nat} {w W W' : World} (t : Turn B W W') (hB : n₀ ≤ B) (h : Below n₀ w W) (hn : n₀ ≤ w.heap.size) : Below n₀ w W' := by
  obtain ⟨row, hg, hr⟩ := t
  exact h.grown hg (Nat.le_trans hn h.size) fun k e => Nat.le_trans hB (hr k e).1
theorem Turn.ext {B : Nat} {w W W' : World} (t : Turn B W W') (h : Ext w W) (hB : w.heap.size ≤ B) : Ext w W' := Turn.below t hB h (Nat.le_refl _)
theorem keeps_ext {W W' : World} (h : Ext W W') : KeepsOthers W W' := ⟨h.size, fun k _ hk _ => (Below.block h k (Array.getElem?_eq_some_iff.1 hk).1).trans hk⟩
theorem keeps_grown {W W' : World} {g : Nat} {e : TypeId} {cs : Array Value} (hg : W.grownBy W' (some g)) (hb : Blk W g e cs) : KeepsOthers W W' :=
  KeepsOthers.of_grownBy hg fun j o ej hj => by cases ej; rw [show W.heap[g]? = _ from hb] at hj; cases hj; rfl
theorem keeps_own {W W' : World} {base : Nat} {e : TypeId} {size : Nat} {v : Value} {k : Nat} {xs : List Value} (h : W.ownsRow base e size v k xs) (hg : W.grownBy W' v.ownBlock) : KeepsOthers W W' :=
  KeepsOthers.of_grownBy hg fun j o ej hj => by
    rcases h.2 with ⟨rfl, _⟩ | ⟨g, cap, cur, rfl, _, hgb, _⟩
    · simp [Value.ownBlock] at ej
    · obtain rfl : g = j := by simpa [Value.ownBlock] using ej
      rw [hgb] at hj; cases hj; rfl
end Go.Proofs.YtafjnlikmjahfaaDoor
