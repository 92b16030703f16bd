/- Laws that more than one chapter uses: digests in slices, a variable of many cells, results; no function of the program. -/
import Derived.Test.YtafjnlikmjahfaaDoorDigs
import Derived.Test.YtafjnlikmjahfaaDoorTagA
namespace Go.Proofs.YtafjnlikmjahfaaDoor
open Go.RowKit

theorem Ext.below {a b c : World} (h : Ext a b) (k : Below a.heap.size b c) : Ext a c := Below.trans h k
theorem ret2_blk {P : Program} {fn : Func} {p u : Tmp} {ty : TypeId} {tmps : Array Value} {w : World} {g : Nat} {t : TypeId} {cs : Array Value} (hg : Blk w g t cs) (h : fn.results = #[.cell p ty, .tmp u]) (hp : tmps.getD p undef = .pointer (some ⟨g, 0, none⟩))
    {d : TypeDesc} (hu : P.underlying ty = some d) (hd : (match d with | .struct _ | .array _ _ => true | _ => false) = true) (hi : (P.info? ty).map (·.size) = some cs.size) {v : Value} (hv : tmps.getD u undef = v) :
    (results fn tmps).run P w = .ok (.tuple #[.agg cs, v]) w := by
  rw [results_cell_tmp h, hp, hv]
  simp [asAddr, run_loadVar_row w g t ty cs (0, 0) d hg hu hd hi]
/-- a store into one cell -/
theorem grown_setCell (w : World) (g o : Nat) (u : Value) : w.grownBy (w.setCell ⟨g, o, none⟩ u) (some g) := ⟨rfl, rfl, rfl, by simp [World.setCell], fun k _ hk => heap_setCell_other w _ k _ (fun e => hk (by rw [e]))⟩
theorem OwnD.set {w : World} {base g o : Nat} {v u : Value} {ds : List (List UInt8)} {t : TypeId} {cs : Array Value} (h : OwnD w base v ds) (hb : Blk w g t cs) (hne : t ≠ 30) : OwnD (w.setCell ⟨g, o, none⟩ u) base v ds :=
  h.apart (grown_setCell w g o u) (fun j hj e => h.ne hb hne (by rw [hj, e]))
/-- two rows that lie apart stay so where one is appended to -/
theorem apart_app {w : World} {v v' u : Value} (h : ∀ j, v.ownBlock = some j → u.ownBlock ≠ some j) (hu : ∀ j, u.ownBlock = some j → j < w.heap.size) (hq : v'.ownBlock = v.ownBlock ∨ v'.ownBlock = some w.heap.size) : ∀ j, v'.ownBlock = some j → u.ownBlock ≠ some j := by
  intro j hj e
  rcases hq with hq | hq
  · exact h j (by rw [← hq, hj]) e
  · rw [hq] at hj
    injection hj with hj
    have := hu j e
    omega
theorem SlR.far {w w' : World} {size n c : Nat} {A : Option Addr} {xs : List Value} {q : Option Nat} (h : SlR w size (.slice A n c) n xs) (hg : w.grownBy w' q) (hq : ∀ b o, A = some ⟨b, o, none⟩ → q ≠ some b) : SlR w' size (.slice A n c) n xs := by
  obtain ⟨hl, A', c', hv, hc, hr⟩ := h
  cases hv
  refine ⟨hl, A, c, rfl, hc, fun hn => ?_⟩
  obtain ⟨b, o, hA, hx⟩ := hr hn
  exact ⟨b, o, hA, fun j u hu => hg.cell (hx j u hu) (Ne.symm (hq b o hA))⟩
theorem info_int : (Tryd.prog.info? 3).map (fun i => (i.zero, i.size, i.bytes)) = some (some (.int .i64 0), 1, 8) := by kernel_rfl
/-- a digest of a list -/
def dAt (l : List (List UInt8)) (b : Nat) : List UInt8 := l[b]?.getD []
theorem dAt_eq {l : List (List UInt8)} {b : Nat} (h : b < l.length) : dAt l b = l[b] := by simp [dAt, h]
theorem sl_cells {w : World} {b o : Nat} {d : List UInt8} (h : Cells w b o (bytesV d)) (hd : d.length = 32) : Sl w (.slice (some ⟨b, o, none⟩) 32 32) d := by
  have := SlR.of_cells (size := 1) (n := 32) (c := 32) (by rw [bytesV_length, hd]) (Nat.le_refl _) h
  rw [Sl, hd]
  exact this
theorem sl_blk32 {w : World} {g : Nat} {t : TypeId} {d : List UInt8} (h : Blk w g t (bytesV d).toArray) (hd : d.length = 32) : Sl w (.slice (some ⟨g, 0, none⟩) 32 32) d := by
  have := sl_of_blk h
  rw [hd] at this
  exact this
theorem Sl.far {w w' : World} {A : Option Addr} {n c : Nat} {d : List UInt8} {q : Option Nat} (h : Sl w (.slice A n c) d) (hg : w.grownBy w' q) (hq : ∀ b o, A = some ⟨b, o, none⟩ → q ≠ some b) : Sl w' (.slice A n c) d := by
  have hn := h.bytes
  subst hn
  exact SlR.far h hg hq
/-- 'x := f()' of an array or a struct: its block -/
theorem wpList_var {P : Program} {ops : Array Oper} {rest : List Oper} {o1 o2 : Oper} {a : Act} {w : World} {Q : Exit → Act → World → Prop} (hg1 : o1.guard = none) (hg2 : o2.guard = none) (T : TypeId) (ho1 : o1.op = .alloc T) (x y : Operand) (ho2 : o2.op = .store T x y)
    (z : Value) (hz : ∀ w, (zeroValue T).run P w = .ok z w) (cs : Array Value) (hx : (a.put o1.dst (.pointer (some ⟨w.heap.size, 0, none⟩))).eval x = .pointer (some ⟨w.heap.size, 0, none⟩)) (hy : (a.put o1.dst (.pointer (some ⟨w.heap.size, 0, none⟩))).eval y = .agg cs)
    (hi : (P.info? T).map (·.size) = some cs.size) (hzs : z.cells.size = cs.size) (h1 : cs.all (·.oneCell') = true)
    (h : ∀ w1, Blk w1 w.heap.size T cs → Ext w w1 → wpList P ops Q rest ((a.put o1.dst (.pointer (some ⟨w.heap.size, 0, none⟩))).put o2.dst undef) w1) : wpList P ops Q (o1 :: o2 :: rest) a w := by
  refine wpList_alloc_blk hg1 T ho1 z hz ?_
  intro w1 _ hb1 he1
  refine wpList_store_blk hg2 T x y ho2 w.heap.size cs hx hy T z.cells hb1 hi hzs h1 ?_
  intro w2 _ hb2 hg2
  exact h w2 hb2 (he1.grown hg2 (by simp))
/-- append(s, x...) of bytes, as one operation -/
theorem wp_appB {o : Oper} {a : Act} {K : Act → World → Prop} {Q : Exit → Act → World → Prop} {w : World} {base : Nat} {v xv : Value} {xs bs : List UInt8} (hown : Own w base v xs) (hr : Sl w xv bs) (s x : Operand)
    (ho : o.op = .call { callee := .builtin .append, args := #[s, x], argTypes := #[51, 51] }) (hs : a.eval s = v) (hx : a.eval x = xv) (hlen : xs.length + bs.length ≤ 1099511627776) (hbase : base ≤ w.heap.size)
    (h : ∀ v' w', Own w' base v' (xs ++ bs) → w.grownBy w' v.ownBlock → (v'.ownBlock = v.ownBlock ∨ v'.ownBlock = some w.heap.size) → K (a.put o.dst v') w') : o.wp Tryd.prog a w K Q := by
  obtain ⟨i0, hi, hz0, hz1, hz2⟩ := info_parts info_u8
  obtain ⟨A, c, rfl, hc⟩ := SlR.form hr
  obtain ⟨v', w', hrun, h2, h3, h4⟩ := run_append_sl (P := Tryd.prog) w base 51 o.type 5 i0 (.int .u8 0) 1 1 Tryd.underlying51 hi hz0 hz1 hz2 rfl (by omega) v xs.length (bytesV xs) hown A bs.length c (bytesV bs) hr (bytesV_one bs) (by unfold maxLen; omega) (by omega) hbase
  unfold Oper.wp execOp
  simp only [ho, resolve, invoke, builtin, Sem.run_bind, Sem.run_pure, Result.andThen_ok, List.map_toArray, List.map_cons, List.map_nil, hs, hx, hrun]
  exact h v' w' (own_mk h2 (by simp) (by rw [bytesV_append])) h3 h4
theorem cells_part {w : World} {b o : Nat} {bs : List UInt8} (h : Cells w b o (bytesV bs)) (i n : Nat) : Cells w b (o + i) (bytesV ((bs.drop i).take n)) := by
  intro j v hv
  have hj : j < n := by have := (List.getElem?_eq_some_iff.1 hv).1; rw [bytesV_length, List.length_take] at this; omega
  rw [Nat.add_assoc]
  refine h (i + j) v ?_
  simp only [bytesV, List.getElem?_map, List.getElem?_take, if_pos hj, List.getElem?_drop] at hv ⊢
  exact hv
theorem finMap {β : Type} (f : Nat → β) (N : Nat) : (List.finRange N).map (fun x => f x.1) = (List.range N).map f := by
  apply List.ext_getElem
  · simp
  · intro i h1 h2
    simp
theorem run_arr32 (a : Option Addr) (len cap : Nat) (hn : 32 ≤ len) (w : World) : (Instr.arrayAt 30 (.slice a len cap)).run Tryd.prog w = .ok (.pointer a) w := by
  simp [Instr.arrayAt, run_underlying Tryd.underlying30, Nat.not_lt.2 hn]
theorem dAt_length {ds : List (List UInt8)} (h : dsOk ds) {k : Nat} (hk : k < ds.length) : (dAt ds k).length = 32 := by rw [dAt_eq hk]; exact h _ (List.getElem_mem hk)
theorem dg_i (z : List UInt8) (h : z.length = 32) : (Tryd.prog.info? 30).map (·.size) = some (bytesV z).toArray.size := by rw [List.size_toArray, bytesV_length, h]; exact info_a32
theorem Blk.alloc' {w : World} {g : Nat} {t : TypeId} {cs : Array Value} (h : Blk w g t cs) (o : Obj) : Blk (w.alloc o) g t cs := h.alloc o
theorem fromN (ds : List (List UInt8)) (n : Nat) (h : ds.length = n) {w : World} {v : Value} (hs : SlD w v ds) : ∃ A c, v = .slice A n c ∧ n ≤ c := by
  obtain ⟨A, c, hv, hc⟩ := hs.form
  exact ⟨A, c, by rw [hv, h], by omega⟩
theorem cells_get {w : World} {b o : Nat} {d : List UInt8} (h : Cells w b o (bytesV d)) (j : Nat) (hj : j < d.length) : w.cell? ⟨b, o + j, none⟩ = some (.int .u8 ((d[j]?.getD 0).toNat : Int)) := h j _ (bytesV_get d j hj)
theorem slAll_own {w : World} {v : Value} {bs : List UInt8} (t : TypeId) (h : Sl w v bs) : SlAll (w.alloc (.cells #[v] t)) (.slice (some ⟨w.heap.size, 0, none⟩) 1 1) [bs] := slAll_one t _ rfl h
end Go.Proofs.YtafjnlikmjahfaaDoor
