/- A range over a function of the program's own, met where it is called: the statement out of the call of the iterator; one call of yield out of the round's walk. No program. -/
import Derived.Test.YtafjnlikmjahfaaDoorRangeA
namespace Go.Proofs.YtafjnlikmjahfaaDoor
open Go.RowKit

section
variable {F : Fence} {n : Nat} {P : Program}
/-- the record that the statement lays -/
def rec0 (fn : FuncId) (tmps : Array Value) (ps : Array Tmp) (assign body : Code) (D : Nat) (st : LoopState) (pe : Option Code) : Loop := { state := st, pending := pe, fn, tmps, params := ps, assign, body, defers := D }
/-- the world in which the iterator is called -/
def called (w : World) (r : Loop) : World := (w.alloc (.deferred (some []))).alloc (.loop r)
theorem called_ext (w : World) (r : Loop) : Ext w (called w r) := ((Ext.refl w).alloc _).alloc _
theorem called_size (w : World) (r : Loop) : (called w r).heap.size = w.heap.size + 2 := by simp [called]
theorem called_rec (w : World) (r : Loop) : (called w r).heap[w.heap.size + 1]? = some (.loop r) := by
  have := World.alloc_heap_new (w.alloc (.deferred (some []))) (.loop r)
  rwa [World.size_alloc] at this
theorem called_def (w : World) (r : Loop) : (called w r).heap[w.heap.size]? = some (.deferred (some [])) := (Below.heap_alloc _ _ _ (by simp)).trans (World.alloc_heap_new w _)

theorem wpIn_range_called {g : Operand} {ps : Array Tmp} {assign body : Code} {Q : Exit → Act → World → Prop} {a : Act} {w : World} (hro : F.round = none) (h1 : 1 ≤ n) {gf : Nat} {lb : Array Value} (hg : a.eval g = .func (.func gf) #[] lb) (hFg : F.fn gf)
    (eg : ∀ args w, (callFunc gf args).run P w = .ok (.enter gf args) w)
    (h : ∀ fn (rr : LoopState → Option Code → Loop), rr = rec0 fn a.tmps ps assign body w.heap.size → F.fn fn → CallsIn F (n - 1) P gf (#[.func (.yield (w.heap.size + 1)) #[] #[]] ++ lb) (called w (rr .ready none))
      (rangePost F n P (w.heap.size + 1) Q { a with defers := { target := .collected w.heap.size, args := #[] } :: a.defers })) :
    (Code.rangeFunc g ps assign body).wpIn F n P Q a w := by
  refine wpIn_rangeFunc fun fn hfn => ?_
  refine ⟨w.heap.size + 1, [{ target := .collected w.heap.size, args := #[] }], called w (rec0 fn a.tmps ps assign body w.heap.size .ready none), { target := .fn (.func gf) lb, args := #[.func (.yield (w.heap.size + 1)) #[] #[]] }, called w (rec0 fn a.tmps ps assign body w.heap.size .ready none), gf, _, _, ?_, ?_, ?_, ?_, fun _ => h1, h fn _ rfl hfn⟩
  · rw [hro]; exact run_enterLoop_outer _ _ _ _ _
  · simp only [resolve, hg]; simp [go_sem]
  · intro f' hf'; simp [Target.leads] at hf'; subst hf'; exact hFg
  · simp [invoke, go_sem, eg]

/-- one call of yield: the round's assignments leave the world, the body is walked beside the busy record -/
theorem yield_at {l : Nat} {r : Loop} {args : Array Value} {W : World} {R : Ending → World → Prop} (hl : W.heap[l]? = some (.loop r)) (hr : r.state = .ready) (hs : args.size = r.params.size) (hfn : F.fn r.fn) (a₁ : Act)
    (hassign : ∀ K : Act → World → Prop, K a₁ W → r.assign.wpIn (F.inRound l) n P (Exit.then K (fun _ _ _ => False)) { tmps := (r.params.zip args).foldl (fun t (p, v) => t.setIfInBounds p v) r.tmps, defers := [] } W)
    (hbody : r.body.wpIn (F.inRound l) n P (roundPost P l R) a₁ (W.putObj l (.loop { r with state := .busy }))) : YieldAt F n P l args W R :=
  ⟨_, _, _, _, run_yield hl hs, roundIn_of_wpIn hfn (hassign _ ⟨_, run_beginRound hl hr, hbody⟩)⟩
theorem end_normal {l : Nat} {r : Loop} {R : Ending → World → Prop} {a : Act} {W : World} (hl : W.heap[l]? = some (.loop r)) (h : R (.returned (.bool true)) (W.putObj l (.loop { r with state := .ready, pending := none }))) : roundPost P l R .normal a W :=
  ⟨_, _, run_endRound none hl, h⟩
theorem end_exit {l id : Nat} {r : Loop} {R : Ending → World → Prop} {a : Act} {W : World} (hl : W.heap[l]? = some (.loop r)) (h : R (.returned (.bool false)) (W.putObj l (.loop { r with state := .done, pending := some (.exit id) }))) : roundPost P l R (.exit id) a W :=
  ⟨_, _, run_endRound (some (.exit id)) hl, h⟩
theorem roundPost_noLets {l : Nat} {R : Ending → World → Prop} : ¬ LetsOut (roundPost P l R) := by rintro ⟨_, _, h⟩; exact h
/-- behind the iterator -/
theorem range_next {l : Nat} {r : Loop} {Q : Exit → Act → World → Prop} {a : Act} {W : World} {v : Value} (hl : W.heap[l]? = some (.loop r)) (hb : r.state ≠ .busy) (hp : r.pending = none) (h : ∀ W', W' = W.putObj l (.loop { r with state := .exhausted }) → Q .normal a W') : rangePost F n P l Q a (.returned v) W := by
  obtain ⟨_, pe⟩ := r
  subst hp
  exact ⟨_, _, run_endLoop hl hb, h _ rfl⟩
theorem range_jump {l : Nat} {r : Loop} {c : Code} {Q : Exit → Act → World → Prop} {a : Act} {W : World} {v : Value} (hl : W.heap[l]? = some (.loop r)) (hb : r.state ≠ .busy) (hp : r.pending = some c) (h : ∀ W', W' = W.putObj l (.loop { r with state := .exhausted }) → c.wpIn F n P Q a W') : rangePost F n P l Q a (.returned v) W := by
  obtain ⟨_, pe⟩ := r
  subst hp
  exact ⟨_, _, run_endLoop hl hb, h _ rfl⟩
/-- a block that is no cells turns -/
theorem turn_putObj {B l : Nat} {W : World} {o : Obj} (o' : Obj) (hB : B ≤ l) (hl : W.heap[l]? = some o) (hc : o.isCells = false) : Turn B W (W.putObj l o') :=
  ⟨some l, grownBy_putObj' W l o', fun r e => by cases e; exact ⟨hB, o, hl, hc⟩⟩
end
end Go.Proofs.YtafjnlikmjahfaaDoor
