/- Slices of bytes that the call owns, and append onto them at this program's types. -/
import Derived.Test.YtafjnlikmjahfaaDoorByteA
namespace Go.Proofs.YtafjnlikmjahfaaDoor
open Go.RowKit

/-- bytes in a row of the call's own -/
def Own (w : World) (base : Nat) (v : Value) (bs : List UInt8) : Prop := w.ownsRow base 5 1 v bs.length (bytesV bs)
section
variable {w w' : World} {base : Nat} {v : Value} {bs : List UInt8}
theorem Own.sl (h : Own w base v bs) : Sl w v bs := SlR.of_own h
theorem Own.ext (h : Own w base v bs) (he : Ext w w') : Own w' base v bs := own_kept h he
theorem Own.base_ {base' : Nat} (h : Own w base v bs) (hb : base' ≤ base) : Own w base' v bs := own_base h hb
theorem Own.form (h : Own w base v bs) : ∃ A c, v = .slice A bs.length c ∧ bs.length ≤ c := own_form h
theorem Own.from (h : Own w base v bs) : ∀ j, v.ownBlock = some j → base ≤ j := fun j hj => (World.ownsRow.lt h j hj).1
theorem Own.none_ (w : World) (base : Nat) : Own w base (.slice none 0 0) [] := World.ownsRow_nil w base _ _
theorem Own.empty (w : World) (base : Nat) (hb : base ≤ w.heap.size) : Own (w.alloc (.cells #[] 5)) base (.slice (some ⟨w.heap.size, 0, none⟩) 0 0) [] := World.ownsRow_made w #[] 0 hb (by unfold maxLen; omega) (by simp)
theorem own_mk {n : Nat} {xs : List Value} (h : w.ownsRow base 5 1 v n xs) (hn : n = bs.length) (hx : xs = bytesV bs) : Own w base v bs := by subst hn hx; exact h
end

/-- append(s, x...) of bytes -/
theorem wpList_appB {ops : Array Oper} {rest : List Oper} {o : Oper} {a : Act} {Q : Exit → Act → World → Prop} {w : World} {base : Nat} {v xv : Value} {xs bs : List UInt8} (hown : Own w base v xs) (hr : Sl w xv bs) (hgd : o.guard = none) (s x : Operand)
    (ho : o.op = .call { callee := .builtin .append, args := #[s, x], argTypes := #[51, 51] }) (hs : a.eval s = v) (hx : a.eval x = xv) (hlen : xs.length + bs.length ≤ 1099511627776) (hbase : base ≤ w.heap.size)
    (h : ∀ v' w', Own w' base v' (xs ++ bs) → w.grownBy w' v.ownBlock → (v'.ownBlock = v.ownBlock ∨ v'.ownBlock = some w.heap.size) → wpList Tryd.prog ops Q rest (a.put o.dst v') w') : wpList Tryd.prog ops Q (o :: rest) a w := by
  obtain ⟨i0, hi, hz0, hz1, hz2⟩ := info_parts info_u8
  obtain ⟨A, c, rfl, hc⟩ := SlR.form hr
  refine wpList_append_sl (P := Tryd.prog) w hgd s x 51 ho base 5 i0 (.int .u8 0) 1 1 Tryd.underlying51 hi hz0 hz1 hz2 rfl (by omega) v xs.length (bytesV xs) hs hown A bs.length c (bytesV bs) hx hr (bytesV_one bs) (by unfold maxLen; omega) (by omega) hbase ?_
  intro v' w' h1 h2 h3
  exact h v' w' (own_mk h1 (by simp) (by rw [bytesV_append])) h2 h3

/-- a slice of one byte, just built -/
theorem sl_one {w : World} {t : TypeId} {x : Int} (b : UInt8) (hb : x = (b.toNat : Int)) : Sl (w.alloc (.cells #[.int .u8 x] t)) (.slice (some ⟨w.heap.size, 0, none⟩) 1 1) [b] := by
  subst hb
  refine SlR.of_cells rfl (Nat.le_refl _) (fun j v hv => ?_)
  rw [Nat.zero_add, (Blk.new w t _).cell]
  simpa [bytesV, byteV] using hv
end Go.Proofs.YtafjnlikmjahfaaDoor
