/- The hash in memory; contracts of sha.New, Len, Fork, Write. -/
import Derived.Test.YtafjnlikmjahfaaDoorShaD
import Derived.Test.YtafjnlikmjahfaaDoorPutA
import Derived.Deep.RegionHeld3
import Derived.Deep.DrawnRows
namespace Go.Proofs.YtafjnlikmjahfaaDoor
open Go.RowKit
attribute [local go_sem] Later.cell?
attribute [local go_sem ↓] Go.wp_at_zero Go.wp_at_succ

/-- a whole array or struct stored into a part of a block -/
theorem wpList_store_at {P : Program} {ops : Array Oper} {rest : List Oper} {o : Oper} {a : Act} {w : World} {Q : Exit → Act → World → Prop} (hgd : o.guard = none) (ty : TypeId) (x y : Operand) (ho : o.op = .store ty x y)
    (g off : Nat) (cells : Array Value) (hx : a.eval x = .pointer (some ⟨g, off, none⟩)) (hy : a.eval y = .agg cells) (t : TypeId) (cur : Array Value) (hg : Blk w g t cur)
    (hi : (P.info? ty).map (·.size) = some cells.size) (hfit : off + cells.size ≤ cur.size) (h1 : cells.all (·.oneCell') = true)
    (h : ∀ w1, w1.heap.size = w.heap.size → Blk w1 g t (cur.toList.take off ++ cells.toList ++ cur.toList.drop (off + cells.size)).toArray → w.grownBy w1 (some g) → wpList P ops Q rest (a.put o.dst undef) w1) : wpList P ops Q (o :: rest) a w := by
  refine wpList_plain hgd fun K hK => ?_
  have hst := run_storeCells_at P g off t cells.toList 0 cur w hg (by simpa using hfit) (fun v hv => (Array.all_eq_true_iff_forall_mem.1 h1) v (by simpa using hv))
  simp only [Nat.add_zero, Array.length_toList] at hst
  have hr : (storeVar ty ⟨g, off, none⟩ (.agg cells)).run P w = .ok () (w.setRow g (cur.toList.take off ++ cells.toList ++ cur.toList.drop (off + cells.size)).toArray) := by
    cases hq : P.info? ty with
    | none => simp [hq] at hi
    | some i =>
      have hs : cells.size = i.size := by simp [hq] at hi; omega
      simp [storeVar, sizeOf, typeInfo, hq, Value.cells, hs, hst]
  unfold Oper.wp execOp
  simp only [ho, hx, hy, Instr.storeAt, Instr.sureAddr, Sem.run_bind, Sem.run_pure, Result.andThen_ok, hr]
  exact hK _ _ (h (w.setRow g _) (by simp) (setRow_heap w g cur _ t (0, 0) hg) ⟨rfl, rfl, rfl, by simp, fun k _ hk => setRow_other w g k _ (fun e => hk (by rw [e]))⟩)

/-- the cells of a hash -/
def hashC (s : St) (rv : Value) (n : Nat) : Array Value := #[.int .u32 s.a, .int .u32 s.b, .int .u32 s.c, .int .u32 s.d, .int .u32 s.e, .int .u32 s.f, .int .u32 s.g, .int .u32 s.h, rv, .int .i64 (n : Int)]
/-- a hash: its state, the bytes that make no block yet, how many were written -/
def HashAt (w : World) (g : Nat) (s : St) (rest : List UInt8) (n : Nat) : Prop := ∃ A c, Blk w g 76 (hashC s (.slice A rest.length c) n) ∧ Sl w (.slice A rest.length c) rest
theorem HashAt.ext {w w' : World} {g : Nat} {s : St} {rest : List UInt8} {n : Nat} (h : HashAt w g s rest n) (he : Ext w w') : HashAt w' g s rest n := by
  obtain ⟨A, c, hb, hs⟩ := h
  exact ⟨A, c, hb.ext he, hs.ext he⟩
theorem HashAt.lt {w : World} {g : Nat} {s : St} {rest : List UInt8} {n : Nat} (h : HashAt w g s rest n) : g < w.heap.size := by
  obtain ⟨A, c, hb, hs⟩ := h
  exact hb.lt
/-- .. whose bytes lie in a block from base on -/
def HashIn (w : World) (base : Nat) (g : Nat) (s : St) (rest : List UInt8) (n : Nat) : Prop := ∃ A c, Blk w g 76 (hashC s (.slice A rest.length c) n) ∧ Sl w (.slice A rest.length c) rest ∧ ∀ ad : Addr, A = some ad → base ≤ ad.block
theorem HashIn.at_ {w : World} {base g : Nat} {s : St} {rest : List UInt8} {n : Nat} (h : HashIn w base g s rest n) : HashAt w g s rest n := by
  obtain ⟨A, c, hb, hs, _⟩ := h
  exact ⟨A, c, hb, hs⟩
theorem own_from {w : World} {base : Nat} {e : TypeId} {size : Nat} {A : Option Addr} {n m c : Nat} {xs : List Value} (h : w.ownsRow base e size (.slice A n c) m xs) : ∀ ad : Addr, A = some ad → base ≤ ad.block := by
  rintro ad rfl
  rcases h.2 with ⟨h, _⟩ | ⟨g, cap, cur, h, hb, _⟩
  · cases h
  · cases h; exact hb
theorem hash_noByte {w : World} {g : Nat} {s : St} {A : Option Addr} {m c n : Nat} (h : Blk w g 76 (hashC s (.slice A m c) n)) (o : Nat) (k : Int) : w.cell? ⟨g, o, none⟩ ≠ some (.int .u8 k) := by
  rw [h.cell]
  intro hc
  have := Array.mem_of_getElem? hc
  simp [hashC] at this
theorem hash_pos {w : World} {g : Nat} {s : St} {A : Option Addr} {m c n : Nat} (h : Blk w g 76 (hashC s (.slice A m c) n)) (hK : Kst w) : g ≠ 0 := by
  rintro rfl
  have h8 := hK 8 (.int .u32 3624381080) rfl
  have := h.cell (0 + 8)
  rw [h8] at this
  simp [hashC] at this
theorem Kst.grown {w w' : World} {g : Nat} (h : Kst w) (hg : w.grownBy w' (some g)) (h0 : g ≠ 0) : Kst w' := fun j v hv => hg.cell (h j v hv) (by simp; omega)

set_option maxRecDepth 100000 in
set_option maxHeartbeats 400000 in
theorem new_any (w : World) :
    Calls Tryd.prog 30 #[] w fun e w' => ∃ g, e = .returned (.pointer (some ⟨g, 0, none⟩)) ∧ w.heap.size ≤ g ∧ HashAt w' g start [] 0 ∧ Ext w w' := by
  go_enter Tryd.func30, Tryd.ntmps30
  go_wp2_with fail
  refine (start_any _).mono ?_
  rintro e w1 ⟨rfl, E1⟩
  unfold start St.vals
  go_wp2
  go_ret
  refine ⟨_, rfl, E1.size, ⟨none, 0, Blk.new w1 _ _, SlR.none_ _ _ _ _⟩, E1.alloc _⟩

set_option maxRecDepth 100000 in
set_option maxHeartbeats 400000 in
theorem fork_nil (w : World) : Calls Tryd.prog 46 #[.pointer none] w fun e w' => e = .returned (.pointer none) ∧ w = w' := by
  go_enter Tryd.func46, Tryd.ntmps46
  go_wp2
  go_ret
  exact ⟨rfl, rfl⟩

set_option maxRecDepth 100000 in
set_option maxHeartbeats 400000 in
theorem fork_in (g : Nat) (s : St) (rest : List UInt8) (n : Nat) (w : World) (h : HashAt w g s rest n) (hr : rest.length < 64) :
    Calls Tryd.prog 46 #[.pointer (some ⟨g, 0, none⟩)] w fun e w' => ∃ g', e = .returned (.pointer (some ⟨g', 0, none⟩)) ∧ w.heap.size ≤ g' ∧ HashIn w' w.heap.size g' s rest n ∧ Ext w w' := by
  obtain ⟨A, c, hb, hs⟩ := h
  have h0 : w.cell? ⟨g, 0, none⟩ = some (.int .u32 s.a) := hb.cell 0
  have h1 : w.cell? ⟨g, 1, none⟩ = some (.int .u32 s.b) := hb.cell 1
  have h2 : w.cell? ⟨g, 2, none⟩ = some (.int .u32 s.c) := hb.cell 2
  have h3 : w.cell? ⟨g, 3, none⟩ = some (.int .u32 s.d) := hb.cell 3
  have h4 : w.cell? ⟨g, 4, none⟩ = some (.int .u32 s.e) := hb.cell 4
  have h5 : w.cell? ⟨g, 5, none⟩ = some (.int .u32 s.f) := hb.cell 5
  have h6 : w.cell? ⟨g, 6, none⟩ = some (.int .u32 s.g) := hb.cell 6
  have h7 : w.cell? ⟨g, 7, none⟩ = some (.int .u32 s.h) := hb.cell 7
  have h8 : w.cell? ⟨g, 8, none⟩ = some (.slice A rest.length c) := hb.cell 8
  have h9 : w.cell? ⟨g, 9, none⟩ = some (.int .i64 (n : Int)) := hb.cell 9
  have Hb := Lib.hid hb
  have Hs := Lib.hid hs
  clear hb hs
  go_enter Tryd.func46, Tryd.ntmps46
  go_wp2
  go_region_held3 (fun w' => w'.cell? ⟨g, 0, none⟩ = some (.int .u32 s.a) ∧ w'.cell? ⟨g, 1, none⟩ = some (.int .u32 s.b) ∧ w'.cell? ⟨g, 2, none⟩ = some (.int .u32 s.c) ∧ w'.cell? ⟨g, 3, none⟩ = some (.int .u32 s.d) ∧ w'.cell? ⟨g, 4, none⟩ = some (.int .u32 s.e) ∧ w'.cell? ⟨g, 5, none⟩ = some (.int .u32 s.f) ∧ w'.cell? ⟨g, 6, none⟩ = some (.int .u32 s.g) ∧ w'.cell? ⟨g, 7, none⟩ = some (.int .u32 s.h) ∧ w'.cell? ⟨g, 8, none⟩ = some (.slice A rest.length c) ∧ w'.cell? ⟨g, 9, none⟩ = some (.int .i64 (n : Int)))
    (first | go_keep | (refine ⟨E1.cell h0, E1.cell h1, E1.cell h2, E1.cell h3, E1.cell h4, E1.cell h5, E1.cell h6, E1.cell h7, E1.cell h8, E1.cell h9⟩))
    (first | (go_at_call 45; refine (cloneB_any _ rest w.drew (Hs.out.ext (Ext.refl w).drew) (by omega)).mono ?_; rintro e w1 ⟨v', rfl, hown, E1'⟩; have E1 : Ext w w1 := (Ext.refl w).drew.trans E1'; clear E1'; obtain ⟨A', c', rfl, hc'⟩ := own_form hown))
  go_wp2
  go_ret
  exact ⟨_, rfl, E1.size, ⟨A', c', Blk.new w1 _ _, SlR.ext (SlR.of_own hown) ((Ext.refl w1).alloc _), own_from hown⟩, E1.alloc _⟩
theorem fork_any (g : Nat) (s : St) (rest : List UInt8) (n : Nat) (w : World) (h : HashAt w g s rest n) (hr : rest.length < 64) :
    Calls Tryd.prog 46 #[.pointer (some ⟨g, 0, none⟩)] w fun e w' => ∃ g', e = .returned (.pointer (some ⟨g', 0, none⟩)) ∧ w.heap.size ≤ g' ∧ HashAt w' g' s rest n ∧ Ext w w' :=
  (fork_in g s rest n w h hr).mono fun _ _ ⟨g', he, hg, hh, hx⟩ => ⟨g', he, hg, hh.at_, hx⟩
end Go.Proofs.YtafjnlikmjahfaaDoor
