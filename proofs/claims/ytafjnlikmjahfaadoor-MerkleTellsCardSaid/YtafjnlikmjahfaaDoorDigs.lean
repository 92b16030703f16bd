/- Slices of digests: words, loads of one of them, a slice of one just built, append onto a row of the call's own. -/
import Derived.Test.YtafjnlikmjahfaaDoorSmall
import Derived.Test.YtafjnlikmjahfaaDoorChain
import Derived.Great.BuildSlice
namespace Go.Proofs.YtafjnlikmjahfaaDoor
open Go.RowKit

def dsOk (ds : List (List UInt8)) : Prop := ∀ d ∈ ds, d.length = 32
theorem dsOk_nil : dsOk [] := fun _ h => by cases h
theorem dsOk_snoc {ds : List (List UInt8)} {d : List UInt8} (h : dsOk ds) (hd : d.length = 32) : dsOk (ds ++ [d]) := by
  intro x hx
  rcases List.mem_append.1 hx with hx | hx
  · exact h x hx
  · obtain rfl : x = d := by simpa using hx
    exact hd
theorem dsOk_length {ds : List (List UInt8)} (h : dsOk ds) : ds.flatten.length = 32 * ds.length := by
  induction ds with
  | nil => rfl
  | cons d ds ih =>
    have h1 := h d (by simp)
    have h2 := ih (fun x hx => h x (by simp [hx]))
    simp only [List.flatten_cons, List.length_append, List.length_cons, h1, h2]
    omega
theorem dsOk_at {ds : List (List UInt8)} (h : dsOk ds) {k : Nat} (hk : k < ds.length) : (ds.flatten.drop (k * 32)).take 32 = ds[k] := by
  induction ds generalizing k with
  | nil => simp at hk
  | cons d ds ih =>
    have h1 := h d (by simp)
    cases k with
    | zero => simp [List.take_append_of_le_length (show 32 ≤ d.length by omega), List.take_of_length_le (show d.length ≤ 32 by omega)]
    | succ k =>
      have h2 := ih (fun x hx => h x (by simp [hx])) (k := k) (by simpa using hk)
      rw [List.flatten_cons, show (k + 1) * 32 = d.length + k * 32 by omega, List.drop_append, List.drop_of_length_le (by omega), List.nil_append, Nat.add_sub_cancel_left]
      simpa using h2
theorem dsOk_get {ds : List (List UInt8)} (h : dsOk ds) {k j : Nat} (hk : k < ds.length) (hj : j < 32) : ds.flatten[k * 32 + j]? = ds[k][j]? := by
  rw [← dsOk_at h hk, List.getElem?_take, if_pos hj, List.getElem?_drop]

/-- a slice of digests that is read -/
def SlD (w : World) (v : Value) (ds : List (List UInt8)) : Prop := SlR w 32 v ds.length (bytesV ds.flatten) ∧ dsOk ds
/-- a row of digests of the call's own -/
def OwnD (w : World) (base : Nat) (v : Value) (ds : List (List UInt8)) : Prop := w.ownsRow base 30 32 v ds.length (bytesV ds.flatten) ∧ dsOk ds
section
variable {w w' : World} {base : Nat} {v : Value} {ds : List (List UInt8)}
theorem SlD.ext (h : SlD w v ds) (he : Ext w w') : SlD w' v ds := ⟨SlR.ext h.1 he, h.2⟩
theorem SlD.form (h : SlD w v ds) : ∃ A c, v = .slice A ds.length c ∧ ds.length ≤ c := h.1.form
theorem SlD.none_ (w : World) (A : Option Addr) (c : Nat) : SlD w (.slice A 0 c) [] := ⟨SlR.none_ _ _ _ _, dsOk_nil⟩
theorem SlD.at_ {A : Option Addr} {c k : Nat} (h : SlD w (.slice A ds.length c) ds) (hk : k < ds.length) : ∃ b o, A = some ⟨b, o, none⟩ ∧ Cells w b (o + k * 32) (bytesV ds[k]) := by
  obtain ⟨b, o, hA, hc⟩ := h.1.here (by omega)
  have hl : ds[k].length = 32 := h.2 _ (List.getElem_mem hk)
  refine ⟨b, o, hA, fun j u hu => ?_⟩
  have hj : j < 32 := by have := (List.getElem?_eq_some_iff.1 hu).1; rw [bytesV_length, hl] at this; exact this
  have := hc (k * 32 + j) u (by
    rw [← hu]
    simp only [bytesV, List.getElem?_map, dsOk_get h.2 hk hj])
  rw [Nat.add_assoc]
  exact this
theorem SlD.len (h : SlD w v ds) {k : Nat} (hk : k < ds.length) : ds[k].length = 32 := h.2 _ (List.getElem_mem hk)
theorem OwnD.sl (h : OwnD w base v ds) : SlD w v ds := ⟨SlR.of_own h.1, h.2⟩
theorem OwnD.ext (h : OwnD w base v ds) (he : Ext w w') : OwnD w' base v ds := ⟨own_kept h.1 he, h.2⟩
theorem OwnD.base_ {base' : Nat} (h : OwnD w base v ds) (hb : base' ≤ base) : OwnD w base' v ds := ⟨own_base h.1 hb, h.2⟩
theorem OwnD.form (h : OwnD w base v ds) : ∃ A c, v = .slice A ds.length c ∧ ds.length ≤ c := own_form h.1
theorem OwnD.from (h : OwnD w base v ds) : ∀ j, v.ownBlock = some j → base ≤ j := fun j hj => (World.ownsRow.lt h.1 j hj).1
theorem OwnD.lt (h : OwnD w base v ds) : ∀ j, v.ownBlock = some j → j < w.heap.size := fun j hj => (World.ownsRow.lt h.1 j hj).2
theorem OwnD.none_ (w : World) (base : Nat) : OwnD w base (.slice none 0 0) [] := ⟨World.ownsRow_nil w base _ _, dsOk_nil⟩
theorem OwnD.apart {q : Option Nat} (h : OwnD w base v ds) (hg : w.grownBy w' q) (hne : ∀ j, v.ownBlock = some j → q ≠ some j) : OwnD w' base v ds := by
  refine ⟨World.ownsRow.kept h.1 hg ?_, h.2⟩
  cases hv : v.ownBlock with
  | none => exact Or.inl rfl
  | some j => exact Or.inr (Ne.symm (hne j hv))
theorem OwnD.ne {g : Nat} {t : TypeId} {cs : Array Value} (h : OwnD w base v ds) (hb : Blk w g t cs) (hne : t ≠ 30) : v.ownBlock ≠ some g := by
  rcases h.1.2 with ⟨rfl, _⟩ | ⟨g', cap, cur, rfl, _, hh, _⟩
  · simp [Value.ownBlock]
  · intro he
    simp only [Value.ownBlock, Option.some.injEq] at he
    subst he
    have h3 := hb.symm.trans hh
    injection h3 with h3
    injection h3 with _ h3
    exact hne h3
end

theorem info_a32x : (Tryd.prog.info? 30).map (fun i => (i.zero, i.size, i.bytes)) = some (some (.agg zb32), 32, 32) := by kernel_rfl

/-- a digest out of the cells -/
theorem run_load_dg {w : World} {b o : Nat} {d : List UInt8} (h : Cells w b o (bytesV d)) (hd : d.length = 32) : (Instr.loadAt 30 (.pointer (some ⟨b, o, none⟩))).run Tryd.prog w = .ok (.agg (bytesV d).toArray) w :=
  run_loadAt_mid w b o 30 (bytesV d) _ (fun j v hv => h j v hv) Tryd.underlying30 rfl (by rw [bytesV_length, hd]; exact info_a32)
theorem wpList_load_dg {ops : Array Oper} {rest : List Oper} {op : Oper} {a : Act} {Q : Exit → Act → World → Prop} {w : World} {b o : Nat} {d : List UInt8} (hc : Cells w b o (bytesV d)) (hd : d.length = 32) (hgd : op.guard = none) (x : Operand) (ho : op.op = .load 30 x)
    (hx : a.eval x = .pointer (some ⟨b, o, none⟩)) (h : wpList Tryd.prog ops Q rest (a.put op.dst (.agg (bytesV d).toArray)) w) : wpList Tryd.prog ops Q (op :: rest) a w := by
  refine wpList_plain hgd fun K hK => ?_
  have hr := run_load_dg hc hd
  unfold Oper.wp execOp
  simp only [ho, hx, Sem.run_bind, hr, Result.andThen_ok, Sem.run_pure]
  exact hK _ _ h

/-- []T{d} of one digest -/
theorem run_build_dg (d : List UInt8) (hd : d.length = 32) (w : World) : (Instr.buildSlice 22 1 #[(0, .agg (bytesV d).toArray)]).run Tryd.prog w = .ok (.slice (some ⟨w.heap.size, 0, none⟩) 1 1) (w.alloc (.cells (bytesV d).toArray 30)) := by
  obtain ⟨i0, hi, hz0, hz1, hz2⟩ := info_parts info_a32x
  refine run_buildSlice (P := Tryd.prog) w 22 30 1 _ _ i0 (.agg zb32) Tryd.underlying22 hi hz0 (by rw [hz1]; decide) (by rw [hz1]; decide) ?_
  rw [hz1]
  have := Great.fill_whole (s := 32) (by omega) [.agg (bytesV d).toArray] ((Array.range (1 * 32)).map ((Value.agg zb32).cells[· % (Value.agg zb32).cells.size]!)) (by simp [Value.cells, bytesV_length, hd]) (by simp)
  simpa [Value.cells] using this

/-- append(s, d) of digests -/
theorem run_appD {w : World} {base : Nat} {v : Value} {ds : List (List UInt8)} {d : List UInt8} {A : Option Addr} {c : Nat} (ty : TypeId) (hown : OwnD w base v ds) (hd : d.length = 32) (hr : SlR w 32 (.slice A 1 c) 1 (bytesV d)) (hlen : ds.length ≤ 1073741824) (hbase : base ≤ w.heap.size) :
    ∃ v' w', (Builtin.append_ #[22, 22] ty #[v, .slice A 1 c]).run Tryd.prog w = .ok v' w' ∧ OwnD w' base v' (ds ++ [d]) ∧ w.grownBy w' v.ownBlock ∧ (v'.ownBlock = v.ownBlock ∨ v'.ownBlock = some w.heap.size) := by
  obtain ⟨i0, hi, hz0, hz1, hz2⟩ := info_parts info_a32x
  obtain ⟨v', w', hrun, h2, h3, h4⟩ := run_append_sl (P := Tryd.prog) w base 22 ty 30 i0 (.agg zb32) 32 32 Tryd.underlying22 hi hz0 hz1 hz2 (by decide) (by omega) v ds.length (bytesV ds.flatten) hown.1 A 1 c (bytesV d) hr (bytesV_one d) (by unfold maxLen; omega) (by omega) hbase
  refine ⟨v', w', hrun, ⟨?_, dsOk_snoc hown.2 hd⟩, h3, h4⟩
  rw [List.length_append, List.flatten_append, bytesV_append]
  simpa using h2
theorem wp_appD {o : Oper} {a : Act} {K : Act → World → Prop} {Q : Exit → Act → World → Prop} {w : World} {base : Nat} {v : Value} {ds : List (List UInt8)} {d : List UInt8} {A : Option Addr} {c : Nat} (hown : OwnD w base v ds) (hd : d.length = 32) (hr : SlR w 32 (.slice A 1 c) 1 (bytesV d)) (s x : Operand)
    (ho : o.op = .call { callee := .builtin .append, args := #[s, x], argTypes := #[22, 22] }) (hs : a.eval s = v) (hx : a.eval x = .slice A 1 c) (hlen : ds.length ≤ 1073741824) (hbase : base ≤ w.heap.size)
    (h : ∀ v' w', OwnD w' base v' (ds ++ [d]) → w.grownBy w' v.ownBlock → (v'.ownBlock = v.ownBlock ∨ v'.ownBlock = some w.heap.size) → K (a.put o.dst v') w') : o.wp Tryd.prog a w K Q := by
  obtain ⟨v', w', hrun, h2, h3, h4⟩ := run_appD o.type hown hd hr hlen hbase
  unfold Oper.wp execOp
  simp only [ho, resolve, invoke, builtin, Sem.run_bind, Sem.run_pure, Result.andThen_ok, List.map_toArray, List.map_cons, List.map_nil, hs, hx, hrun]
  exact h v' w' h2 h3 h4
theorem wpList_appD {ops : Array Oper} {rest : List Oper} {o : Oper} {a : Act} {Q : Exit → Act → World → Prop} {w : World} {base : Nat} {v : Value} {ds : List (List UInt8)} {d : List UInt8} {A : Option Addr} {c : Nat} (hown : OwnD w base v ds) (hd : d.length = 32) (hr : SlR w 32 (.slice A 1 c) 1 (bytesV d)) (hgd : o.guard = none) (s x : Operand)
    (ho : o.op = .call { callee := .builtin .append, args := #[s, x], argTypes := #[22, 22] }) (hs : a.eval s = v) (hx : a.eval x = .slice A 1 c) (hlen : ds.length ≤ 1073741824) (hbase : base ≤ w.heap.size)
    (h : ∀ v' w', OwnD w' base v' (ds ++ [d]) → w.grownBy w' v.ownBlock → (v'.ownBlock = v.ownBlock ∨ v'.ownBlock = some w.heap.size) → wpList Tryd.prog ops Q rest (a.put o.dst v') w') : wpList Tryd.prog ops Q (o :: rest) a w :=
  wpList_plain hgd fun _ hK => wp_appD hown hd hr s x ho hs hx hlen hbase fun v' w' h2 h3 h4 => hK _ _ (h v' w' h2 h3 h4)
theorem slD_new (w : World) (d : List UInt8) (hd : d.length = 32) : SlR (w.alloc (.cells (bytesV d).toArray 30)) 32 (.slice (some ⟨w.heap.size, 0, none⟩) 1 1) 1 (bytesV d) :=
  SlR.of_cells (by rw [bytesV_length, hd]) (Nat.le_refl _) (fun j v hv => by rw [Nat.zero_add, (Blk.new w 30 _).cell]; simpa using hv)
theorem wp_build_dg {o : Oper} {a : Act} {K : Act → World → Prop} {Q : Exit → Act → World → Prop} {w : World} (d : List UInt8) (hd : d.length = 32) (x : Operand) (ho : o.op = .buildSlice 22 1 #[(0, x)]) (hx : a.eval x = .agg (bytesV d).toArray)
    (h : ∀ w1, Ext w w1 → w1.heap.size = w.heap.size + 1 → SlR w1 32 (.slice (some ⟨w.heap.size, 0, none⟩) 1 1) 1 (bytesV d) → K (a.put o.dst (.slice (some ⟨w.heap.size, 0, none⟩) 1 1)) w1) : o.wp Tryd.prog a w K Q := by
  have hr := run_build_dg d hd w
  unfold Oper.wp execOp
  simp only [ho, List.map_toArray, List.map_cons, List.map_nil, hx, Sem.run_bind, hr, Result.andThen_ok, Sem.run_pure]
  exact h _ ((Ext.refl w).alloc _) (by simp) (slD_new w d hd)
theorem wpList_build_dg {ops : Array Oper} {rest : List Oper} {o : Oper} {a : Act} {Q : Exit → Act → World → Prop} {w : World} (d : List UInt8) (hd : d.length = 32) (hgd : o.guard = none) (x : Operand) (ho : o.op = .buildSlice 22 1 #[(0, x)]) (hx : a.eval x = .agg (bytesV d).toArray)
    (h : ∀ w1, Ext w w1 → w1.heap.size = w.heap.size + 1 → SlR w1 32 (.slice (some ⟨w.heap.size, 0, none⟩) 1 1) 1 (bytesV d) → wpList Tryd.prog ops Q rest (a.put o.dst (.slice (some ⟨w.heap.size, 0, none⟩) 1 1)) w1) : wpList Tryd.prog ops Q (o :: rest) a w :=
  wpList_plain hgd fun _ hK => wp_build_dg d hd x ho hx fun w1 h1 h2 h3 => hK _ _ (h w1 h1 h2 h3)
end Go.Proofs.YtafjnlikmjahfaaDoor
