/- What every claim of this seat needs: 'post' of a law that answers true and leaves what was there, and the openers of its arguments. -/
import Derived.Test.YtafjnlikmjahfaaDoorSlices
import Derived.Test.YtafjnlikmjahfaaDoorShaC
import Derived.WalkKit
import Derived.ProofKit
import Derived.OpenShut
import Derived.Carry
import Derived.Deep.DeepHandedRow
import Derived.Lib.LaidTab
namespace Go.Proofs.YtafjnlikmjahfaaDoor
open Go.ChangeShapes Go.WideShapes Go.ChangeAt Go.RowKit

theorem laidOut : laidOutB Tryd.prog = true := by kernel_rfl
theorem own : ownKnob Tryd.prog.godebug = none := by kernel_rfl

section
variable {H : Type} {enc : TypeId × Value → H}

theorem trodAll_stays {P : Program} (hl : laidOutB P = true) {W W' : World} (hE : Ext W W') : ∀ (ts : List TypeId) (vs : List Value) (ds : List (DataW H)) (ps : List MemPlace), (∀ t ∈ ts, P.readableRec t = true ∧ t < P.types.size) →
    DataW.TrodAll enc P W 0 (fun _ => true) true ts vs ds ps → (∀ x ∈ ps, x.block < W.heap.size) → DataW.TrodAll enc P W' 0 (fun b => decide (b < W.heap.size)) true ts vs ds ps
  | [], vs, ds, ps, _, h, _ => by
    obtain ⟨rfl, rfl, rfl⟩ := trodAll_nil h
    exact trodAll_mk0
  | t :: ts, vs, ds, ps, ht, h, hlt => by
    obtain ⟨v, vs', d, ds', p, q, rfl, rfl, rfl, h0, h1⟩ := trodAll_cons h
    exact trodAll_cons_mk (Below.trod hl (ht t (by simp)).1 (ht t (by simp)).2 h0 hE (fun x hx => hlt x (by simp [hx]))) (trodAll_stays hl hE ts vs' ds' q (fun u hu => ht u (by simp [hu])) h1 (fun x hx => hlt x (by simp [hx])))

/-- a law that answers true and leaves all that was there -/
theorem post_true {P : Program} {f : Func} {s : ChangeSpec} {W W' : World} {args : Array Value} {ds gs : List (DataW H)} {before : List MemPlace} (t : TypeId) (hres : f.resultTypes = #[t]) (ht : P.underlying t = some .bool) (hvars : s.vars = []) (hl : laidOutB P = true)
    (hts : ∀ t ∈ f.params.toList, P.readableRec t = true ∧ t < P.types.size) (hW : DataW.Whole enc P f.params.toList s.vars false W args.toList ds gs before) (hfn : s.fn H ds = { results := [.lit (.bool true)], args := ds }) (hE : Ext W W') :
    s.post enc P f false true false false W args (.bool true) W' := by
  have hW0 := hW
  obtain ⟨p, q, hA, hV, rfl, _, _⟩ := hW
  rw [hvars] at hV
  obtain ⟨rfl, rfl⟩ := trodVars_none hV
  have hlt : ∀ x ∈ p, x.block < W.heap.size := fun x hx => by simpa using hW0.lt x (by simp [hx])
  refine ⟨ds, [], p ++ [], [], p, [], hW0, ?_, ?_, ?_, hE.frame _, fun h => by cases h⟩
  · rw [List.append_nil, hfn, hres]
    exact trodAll_cons_mk (shut_bool ht _) trodAll_mk0
  · rw [List.append_nil, hfn]
    exact trodAll_stays hl hE _ _ _ _ hts hA hlt
  · rw [List.append_nil, hfn, hvars]
    rfl

/-- an array of integers, read -/
theorem trod_ints {P : Program} {w : World} {base : Nat} {spare : Nat → Bool} {held : Bool} {t e : TypeId} {n : Nat} {k : IntKind} {fuel : Nat} {cs : List Value} {x : DataW H × List MemPlace} (ht : P.underlying t = some (.array n e)) (he : P.underlying e = some (.int k)) (hc : P.cellsOf e = 1) (hct : P.cellsOf t = n)
    (h : DataW.trod enc P w base spare held fuel t cs = some x) : ∃ zs : List Int, cs = zs.map (.int k) ∧ zs.length = n ∧ ∀ z ∈ zs, (Lit.int k z).wf = true := by
  cases fuel with
  | zero => simp [DataW.trod] at h
  | succ m =>
    unfold DataW.trod at h
    rw [ht] at h
    simp only [hc, hct, Nat.mul_one] at h
    split at h
    · next hlen =>
      obtain ⟨xs, hxs, _⟩ := Option.map_eq_some_iff.1 h
      have hg := mapM_some_get hxs
      have hxl := mapM_some_length hxs
      have key : ∀ i (hi : i < cs.length), ∃ z, cs[i] = .int k z ∧ (Lit.int k z).wf = true := by
        intro i hi
        have h1 := hg i i (by rw [List.getElem?_range (by omega)])
        have h2 : (cs.drop i).take 1 = [cs[i]] := by rw [List.drop_eq_getElem_cons hi]; rfl
        rw [h2, List.getElem?_eq_getElem (by simp at hxl; omega)] at h1
        cases m with
        | zero => simp [DataW.trod] at h1
        | succ m =>
          unfold DataW.trod at h1
          rw [he] at h1
          revert h1
          generalize cs[i] = c
          intro h1
          cases c <;> simp at h1
          next k' z => obtain ⟨⟨rfl, hw⟩, _⟩ := h1; exact ⟨z, rfl, hw⟩
      refine ⟨cs.map fun c => match c with | .int _ z => z | _ => 0, ?_, by simp [hlen], ?_⟩
      · refine List.ext_getElem (by simp) (fun i h1 h2 => ?_)
        obtain ⟨z, hz, _⟩ := key i h1
        simp [hz]
      · intro z hz
        obtain ⟨c, hc1, hc2⟩ := List.mem_map.1 hz
        obtain ⟨i, hi, rfl⟩ := List.getElem_of_mem hc1
        obtain ⟨z', hz', hw⟩ := key i hi
        rw [hz'] at hc2
        simp only at hc2
        subst hc2
        exact hw
    · cases h
end
end Go.Proofs.YtafjnlikmjahfaaDoor
