/- Slices that are read, slices that the call owns, and append onto them from whatever slice; no program. -/
import Derived.Test.YtafjnlikmjahfaaDoorTail
import Derived.Lib.AppendZeros
namespace Go.Proofs.YtafjnlikmjahfaaDoor
open Go.RowKit

/-- the slice value v has n elements of so many cells each, and reads as these cells -/
def SlR (w : World) (size : Nat) (v : Value) (n : Nat) (xs : List Value) : Prop :=
  xs.length = n * size ∧ ∃ A c, v = .slice A n c ∧ n ≤ c ∧ (0 < n → ∃ b o, A = some ⟨b, o, none⟩ ∧ Cells w b o xs)

section
variable {w w' : World} {size n : Nat} {v : Value} {xs : List Value}
theorem SlR.ext (h : SlR w size v n xs) (he : Ext w w') : SlR w' size v n xs := by
  obtain ⟨hl, A, c, hv, hc, hr⟩ := h
  refine ⟨hl, A, c, hv, hc, fun hn => ?_⟩
  obtain ⟨b, o, hA, hx⟩ := hr hn
  exact ⟨b, o, hA, hx.ext he⟩
theorem SlR.none_ (w : World) (size : Nat) (A : Option Addr) (c : Nat) : SlR w size (.slice A 0 c) 0 [] := ⟨by simp, A, c, rfl, by omega, fun h => absurd h (by omega)⟩
theorem SlR.form (h : SlR w size v n xs) : ∃ A c, v = .slice A n c ∧ n ≤ c := by
  obtain ⟨_, A, c, hv, hc, _⟩ := h
  exact ⟨A, c, hv, hc⟩
/-- where it lies -/
theorem SlR.here {A : Option Addr} {c : Nat} (h : SlR w size (.slice A n c) n xs) (hn : 0 < n) : ∃ b o, A = some ⟨b, o, none⟩ ∧ Cells w b o xs := by
  obtain ⟨_, A', c', hv, _, hr⟩ := h
  cases hv
  exact hr hn
theorem SlR.len_le {A : Option Addr} {c : Nat} (h : SlR w size (.slice A n c) n xs) : n ≤ c := by
  obtain ⟨_, A', c', hv, hc, _⟩ := h
  cases hv
  exact hc
theorem SlR.of_cells {b o c : Nat} (hl : xs.length = n * size) (hc : n ≤ c) (h : Cells w b o xs) : SlR w size (.slice (some ⟨b, o, none⟩) n c) n xs :=
  ⟨hl, _, c, rfl, hc, fun _ => ⟨b, o, rfl, h⟩⟩
/-- a slice that the call owns reads as its cells -/
theorem SlR.of_own {base : Nat} {e : TypeId} (h : w.ownsRow base e size v n xs) : SlR w size v n xs := by
  refine ⟨h.1, ?_⟩
  rcases h.2 with ⟨rfl, rfl⟩ | ⟨g, cap, cur, rfl, _, hg, hnc, _, _, htake⟩
  · exact ⟨none, 0, rfl, by omega, fun hn => absurd hn (by omega)⟩
  · refine ⟨some ⟨g, 0, none⟩, cap, rfl, hnc, fun _ => ⟨g, 0, rfl, fun j u hu => ?_⟩⟩
    have := h.cells (g := g) rfl j u hu
    rwa [Addr.add_mid] at this
/-- a store into another block leaves it -/
theorem SlR.kept (h : SlR w size v n xs) (hk : ∀ b o u, w.cell? ⟨b, o, none⟩ = some u → u ∈ xs → w'.cell? ⟨b, o, none⟩ = some u) : SlR w' size v n xs := by
  obtain ⟨hl, A, c, hv, hc, hr⟩ := h
  refine ⟨hl, A, c, hv, hc, fun hn => ?_⟩
  obtain ⟨b, o, hA, hx⟩ := hr hn
  exact ⟨b, o, hA, fun j u hu => hk _ _ _ (hx j u hu) (List.mem_of_getElem? hu)⟩
end

/-- the cells of bytes -/
def byteV (b : UInt8) : Value := .int .u8 (b.toNat : Int)
def bytesV (l : List UInt8) : List Value := l.map byteV
theorem bytesV_length (l : List UInt8) : (bytesV l).length = l.length := by simp [bytesV]
theorem bytesV_append (a b : List UInt8) : bytesV (a ++ b) = bytesV a ++ bytesV b := by simp [bytesV]
theorem bytesV_get (l : List UInt8) (j : Nat) (h : j < l.length) : (bytesV l)[j]? = some (.int .u8 ((l[j]?.getD 0).toNat : Int)) := by
  simp [bytesV, byteV, List.getElem?_eq_getElem h]
theorem bytesV_one (l : List UInt8) : ∀ u ∈ bytesV l, u.oneCell' = true := by
  intro u hu
  simp only [bytesV, List.mem_map] at hu
  obtain ⟨x, _, rfl⟩ := hu
  rfl
theorem bytesV_kind (l : List UInt8) : ∀ u ∈ bytesV l, ∃ k : Int, u = .int .u8 k := by
  intro u hu
  simp only [bytesV, List.mem_map] at hu
  obtain ⟨x, _, rfl⟩ := hu
  exact ⟨_, rfl⟩
theorem bytesV_take (l : List UInt8) (k : Nat) : bytesV (l.take k) = (bytesV l).take k := by simp [bytesV, List.map_take]
theorem bytesV_drop (l : List UInt8) (k : Nat) : bytesV (l.drop k) = (bytesV l).drop k := by simp [bytesV, List.map_drop]

/-- a slice of bytes -/
def Sl (w : World) (v : Value) (bs : List UInt8) : Prop := SlR w 1 v bs.length (bytesV bs)
theorem Sl.ext {w w' : World} {v : Value} {bs : List UInt8} (h : Sl w v bs) (he : Ext w w') : Sl w' v bs := SlR.ext h he
/-- bytes are kept where only a block that holds no byte, and what is new, has turned -/
theorem Sl.grown {w w' : World} {v : Value} {bs : List UInt8} {g : Nat} (h : Sl w v bs) (hg : w.grownBy w' (some g)) (hk : ∀ o (k : Int), w.cell? ⟨g, o, none⟩ ≠ some (.int .u8 k)) : Sl w' v bs := by
  refine SlR.kept h (fun b o u hu hm => ?_)
  obtain ⟨k, rfl⟩ := bytesV_kind bs u hm
  by_cases hbg : b = g
  · subst hbg; exact absurd hu (hk o k)
  · exact hg.cell hu (by simpa using hbg)
theorem Sl.bytes {w : World} {A : Option Addr} {n c : Nat} {bs : List UInt8} (h : Sl w (.slice A n c) bs) : n = bs.length := by
  obtain ⟨_, A', c', hv, _, _⟩ := h
  cases hv
  rfl

section
variable {P : Program} (w : World)
theorem run_append_nothing (base : Nat) (t ty e : TypeId) (i : TypeInfo) (size : Nat) (ht : P.underlying t = some (.slice e)) (hi : P.info? e = some i)
    (v : Value) (n : Nat) (xs : List Value) (hown : w.ownsRow base e size v n xs) (A : Option Addr) (hA : A = none) (c : Nat) : (Builtin.append_ #[t, t] ty #[v, .slice A 0 c]).run P w = .ok v w := by
  subst hA
  rcases hown.2 with ⟨rfl, rfl⟩ | ⟨g, cap, cur, rfl, _, _, hnc, _⟩
  · simp [Builtin.append_, run_underlying ht, sizeOf, typeInfo, hi, Builtin.lenOf, Builtin.firstCells]
  · simp [Builtin.append_, run_underlying ht, sizeOf, typeInfo, hi, Builtin.lenOf, Builtin.firstCells, hnc, storeCells]

/-- append onto a slice of the call's own, from whatever slice that reads -/
theorem run_append_sl (base : Nat) (t ty e : TypeId) (i : TypeInfo) (z : Value) (size bytes : Nat) (ht : P.underlying t = some (.slice e)) (hi : P.info? e = some i) (hz : i.zero = some z)
    (hsize : i.size = size) (hby : i.bytes = bytes) (hzs : z.cells.size = size) (hsz : 0 < size)
    (v : Value) (n : Nat) (xs : List Value) (hown : w.ownsRow base e size v n xs)
    (A : Option Addr) (m c : Nat) (news : List Value) (hr : SlR w size (.slice A m c) m news) (h1 : ∀ u ∈ news, u.oneCell' = true)
    (h63 : n + m ≤ maxLen) (hbytes : (n + m) * bytes ≤ 140737488355328) (hbase : base ≤ w.heap.size) :
    ∃ v' w', (Builtin.append_ #[t, t] ty #[v, .slice A m c]).run P w = .ok v' w' ∧ w'.ownsRow base e size v' (n + m) (xs ++ news) ∧ w.grownBy w' v.ownBlock ∧
      (v'.ownBlock = v.ownBlock ∨ v'.ownBlock = some w.heap.size) := by
  cases A with
  | none =>
    have hm : m = 0 := by
      rcases Nat.eq_zero_or_pos m with h0 | h0
      · exact h0
      · obtain ⟨b, o, h, _⟩ := hr.here h0
        cases h
    subst hm
    have hn : news = [] := List.eq_nil_of_length_eq_zero (by simpa using hr.1)
    subst hn
    exact ⟨v, w, run_append_nothing w base t ty e i size ht hi v n xs hown none rfl c, by simpa using hown, ⟨rfl, rfl, rfl, Nat.le_refl _, fun _ _ _ => rfl⟩, .inl rfl⟩
  | some ad =>
    have hcells : ∀ j u, news[j]? = some u → w.cell? (ad.add j) = some u := by
      intro j u hu
      rcases Nat.eq_zero_or_pos m with h0 | h0
      · subst h0
        have hn : news = [] := List.eq_nil_of_length_eq_zero (by simpa using hr.1)
        subst hn
        simp at hu
      · obtain ⟨b, o, h, hc⟩ := hr.here h0
        injection h with h
        subst h
        rw [Addr.add_mid]
        exact hc j u hu
    obtain ⟨v', w', hrun, h2, h3, _, h5⟩ := run_append_own_at (P := P) w base t ty e i z size bytes ht hi hz hsize hby hzs hsz v n xs hown ad m c news hr.1 hcells h1 h63 hbytes hbase
    exact ⟨v', w', hrun, h2, h3, h5⟩

theorem wpList_append_sl {ops : Array Oper} {rest : List Oper} {o : Oper} {a : Act} {Q : Exit → Act → World → Prop} (hgd : o.guard = none) (s x : Operand) (t : TypeId)
    (ho : o.op = .call { callee := .builtin .append, args := #[s, x], argTypes := #[t, t] })
    (base : Nat) (e : TypeId) (i : TypeInfo) (z : Value) (size bytes : Nat) (ht : P.underlying t = some (.slice e)) (hi : P.info? e = some i) (hz : i.zero = some z)
    (hsize : i.size = size) (hby : i.bytes = bytes) (hzs : z.cells.size = size) (hsz : 0 < size)
    (v : Value) (n : Nat) (xs : List Value) (hs : a.eval s = v) (hown : w.ownsRow base e size v n xs)
    (A : Option Addr) (m c : Nat) (news : List Value) (hx : a.eval x = .slice A m c) (hr : SlR w size (.slice A m c) m news) (h1 : ∀ u ∈ news, u.oneCell' = true)
    (h63 : n + m ≤ maxLen) (hbytes : (n + m) * bytes ≤ 140737488355328) (hbase : base ≤ w.heap.size)
    (h : ∀ v' w', w'.ownsRow base e size v' (n + m) (xs ++ news) → w.grownBy w' v.ownBlock → (v'.ownBlock = v.ownBlock ∨ v'.ownBlock = some w.heap.size) → wpList P ops Q rest (a.put o.dst v') w') : wpList P ops Q (o :: rest) a w := by
  obtain ⟨v', w', hrun, h2, h3, h4⟩ := run_append_sl (P := P) w base t o.type e i z size bytes ht hi hz hsize hby hzs hsz v n xs hown A m c news hr h1 h63 hbytes hbase
  exact Lib.wpList_append_run w hgd s x t t ho v _ hs hx v' w' hrun (h v' w' h2 h3 h4)
end

theorem own_kept {w w' : World} {base : Nat} {e : TypeId} {size : Nat} {v : Value} {n : Nat} {xs : List Value} (h : w.ownsRow base e size v n xs) (he : Ext w w') : w'.ownsRow base e size v n xs :=
  h.kept (row := none) ⟨he.os, he.tape, he.output, he.size, fun k hk _ => he.block k hk⟩ (by cases hv : v.ownBlock <;> simp)
theorem own_base {w : World} {base base' : Nat} {e : TypeId} {size : Nat} {v : Value} {n : Nat} {xs : List Value} (h : w.ownsRow base e size v n xs) (hb : base' ≤ base) : w.ownsRow base' e size v n xs := by
  refine ⟨h.1, ?_⟩
  rcases h.2 with h2 | ⟨g, cap, cur, hv, hg, r⟩
  · exact .inl h2
  · exact .inr ⟨g, cap, cur, hv, by omega, r⟩
theorem own_form {w : World} {base : Nat} {e : TypeId} {size : Nat} {v : Value} {n : Nat} {xs : List Value} (h : w.ownsRow base e size v n xs) : ∃ A c, v = .slice A n c ∧ n ≤ c := (SlR.of_own h).form
end Go.Proofs.YtafjnlikmjahfaaDoor
