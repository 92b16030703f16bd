/- Part 1 of the texts: Words ShaA Base Tail ShaB ShaC ShaD Slices ByteA Sum PutA HashA HashB HashC OfA ShaE ByteB. -/
import Derived.WalkKit
import Derived.Test.YtddbmddblhjkkaaGreatDoorProg
import Derived.WalkSpells
import Derived.WalkLawsBesides
import Derived.Deep.QuietTactic
import Derived.BigQuiet
import Derived.Deep.MidRow
import Derived.Lib.Hide
import Derived.Maps.AppendAt
import Derived.StillTailTactics
import Derived.Lib.AppendZeros
import Derived.Deep.RegionHeld3
import Derived.Deep.DrawnRows
/- Words of 32 bits as the model has them (integers), and what both texts compute of them: the schedule, the rounds, a block. Plain: no program. -/
namespace Go.Proofs.YtddbmddblhjkkaaGreatDoor

/-- bits of words, in the model's own operations -/
def xor32 (a b : Int) : Int := bits .xor .u32 a b
def and32 (a b : Int) : Int := bits .and .u32 a b
def or32 (a b : Int) : Int := bits .or .u32 a b
def add32 (a b : Int) : Int := (a + b) % 4294967296
def shl32 (a : Int) (n : Nat) : Int := a * 2 ^ n % 4294967296
def shr32 (a : Int) (n : Nat) : Int := a / 2 ^ n
theorem u32_all : (if IntKind.u32.signed = true then (-1 : Int) else IntKind.u32.max) = 4294967295 := rfl
def not32 (a : Int) : Int := bits .xor .u32 4294967295 a
def rotr (x : Int) (n : Nat) : Int := or32 (shl32 x (32 - n)) (shr32 x n)

theorem or32_comm (a b : Int) : or32 a b = or32 b a := by
  unfold or32 bits
  simp only [BitVec.or_comm]

/-- the two small sigmas of the schedule, the two great ones of a round, choice and majority -/
def sm0 (x : Int) : Int := xor32 (xor32 (rotr x 7) (rotr x 18)) (shr32 x 3)
def sm1 (x : Int) : Int := xor32 (xor32 (rotr x 17) (rotr x 19)) (shr32 x 10)
def bg1 (e : Int) : Int := xor32 (xor32 (rotr e 6) (rotr e 11)) (rotr e 25)
def bg0 (a : Int) : Int := xor32 (xor32 (rotr a 2) (rotr a 13)) (rotr a 22)
def cho (e f g : Int) : Int := xor32 (and32 e f) (and32 (not32 e) g)
def maj (a b c : Int) : Int := xor32 (xor32 (and32 a b) (and32 a c)) (and32 b c)

/-- a state: eight words -/
structure St where
  a : Int
  b : Int
  c : Int
  d : Int
  e : Int
  f : Int
  g : Int
  h : Int

def St.list (s : St) : List Int := [s.a, s.b, s.c, s.d, s.e, s.f, s.g, s.h]
def St.vals (s : St) : Array Value := #[.int .u32 s.a, .int .u32 s.b, .int .u32 s.c, .int .u32 s.d, .int .u32 s.e, .int .u32 s.f, .int .u32 s.g, .int .u32 s.h]

def t1Of (s : St) (k w : Int) : Int := (s.h + bg1 s.e + cho s.e s.f s.g + k + w) % 4294967296
def t2Of (s : St) : Int := add32 (bg0 s.a) (maj s.a s.b s.c)
/-- one round -/
def St.round (s : St) (k w : Int) : St := ⟨add32 (t1Of s k w) (t2Of s), s.a, s.b, s.c, add32 s.d (t1Of s k w), s.e, s.f, s.g⟩
def St.plus (s t : St) : St := ⟨add32 s.a t.a, add32 s.b t.b, add32 s.c t.c, add32 s.d t.d, add32 s.e t.e, add32 s.f t.f, add32 s.g t.g, add32 s.h t.h⟩

/-- the rounds' constants -/
def ks : List Int := [1116352408, 1899447441, 3049323471, 3921009573, 961987163, 1508970993, 2453635748, 2870763221, 3624381080, 310598401, 607225278, 1426881987, 1925078388, 2162078206, 2614888103, 3248222580, 3835390401, 4022224774, 264347078, 604807628, 770255983, 1249150122, 1555081692, 1996064986, 2554220882, 2821834349, 2952996808, 3210313671, 3336571891, 3584528711, 113926993, 338241895, 666307205, 773529912, 1294757372, 1396182291, 1695183700, 1986661051, 2177026350, 2456956037, 2730485921, 2820302411, 3259730800, 3345764771, 3516065817, 3600352804, 4094571909, 275423344, 430227734, 506948616, 659060556, 883997877, 958139571, 1322822218, 1537002063, 1747873779, 1955562222, 2024104815, 2227730452, 2361852424, 2428436474, 2756734187, 3204031479, 3329325298]
theorem ks_length : ks.length = 64 := rfl

/-- the t-th word of a block, from its four bytes -/
def word (b : List UInt8) (t : Nat) : Int :=
  or32 (or32 (or32 (shl32 ((b.getD (4 * t) 0).toNat) 24) (shl32 ((b.getD (4 * t + 1) 0).toNat) 16)) (shl32 ((b.getD (4 * t + 2) 0).toNat) 8)) ((b.getD (4 * t + 3) 0).toNat)

/-- the next word of the schedule, behind those that are there -/
def next (l : List Int) (t : Nat) : Int :=
  (l[t - 16]?.getD 0 + sm0 (l[t - 15]?.getD 0) + l[t - 7]?.getD 0 + sm1 (l[t - 2]?.getD 0)) % 4294967296
/-- the first t words of the schedule -/
def ws (b : List UInt8) : Nat → List Int
  | 0 => []
  | t + 1 => ws b t ++ [if t < 16 then word b t else next (ws b t) t]

theorem ws_length (b : List UInt8) (t : Nat) : (ws b t).length = t := by
  induction t with
  | zero => rfl
  | succ t ih => simp [ws, ih]

theorem or32_add (x y : Nat) (hx : x < 16777216) (hy : y < 256) : or32 ((x * 256 : Nat) : Int) (y : Int) = ((x * 256 + y : Nat) : Int) := by
  unfold or32
  rw [u32_or_nat _ _ (by omega) (by omega)]
  congr 1
  have h := Nat.shiftLeft_add_eq_or_of_lt (show y < 2 ^ 8 by omega) x
  rw [Nat.shiftLeft_eq] at h
  exact h.symm
theorem or32_assoc_add (x y z : Nat) (hx : x < 16777216) (hy : y < 256) (hz : x * 256 + y = z) : or32 ((x * 256 : Nat) : Int) (y : Int) = (z : Int) := by
  rw [or32_add x y hx hy, hz]
theorem shl32_nat (x n : Nat) (h : x * 2 ^ n < 4294967296) : shl32 (x : Int) n = ((x * 2 ^ n : Nat) : Int) := by
  unfold shl32
  have : ((x * 2 ^ n : Nat) : Int) = (x : Int) * 2 ^ n := by simp
  rw [← this, Int.emod_eq_of_lt (by omega) (by omega)]
/-- the same word, byte by byte -/
def accW (b : List UInt8) (t : Nat) : Nat → Int
  | 0 => 0
  | k + 1 => or32 (shl32 (accW b t k) 8) ((b.getD (4 * t + k) 0).toNat)

theorem accW_step (b : List UInt8) (t k : Nat) : bits .or .u32 (accW b t k * 256 % 4294967296) (((b[4 * t + k]?.getD 0).toNat : Int) % 4294967296) = accW b t (k + 1) := by
  have l := (b[4 * t + k]?.getD 0).toNat_lt
  rw [Int.emod_eq_of_lt (a := ((b[4 * t + k]?.getD 0).toNat : Int)) (by omega) (by omega)]
  simp [accW, or32, shl32]
theorem accW_four (b : List UInt8) (t : Nat) : accW b t 4 = word b t := by
  have l0 := (b.getD (4 * t) 0).toNat_lt
  have l1 := (b.getD (4 * t + 1) 0).toNat_lt
  have l2 := (b.getD (4 * t + 2) 0).toNat_lt
  have l3 := (b.getD (4 * t + 3) 0).toNat_lt
  simp only [accW, word, Nat.add_zero]
  generalize (b.getD (4 * t) 0).toNat = x0 at *
  generalize (b.getD (4 * t + 1) 0).toNat = x1 at *
  generalize (b.getD (4 * t + 2) 0).toNat = x2 at *
  generalize (b.getD (4 * t + 3) 0).toNat = x3 at *
  have z : shl32 0 8 = ((0 * 256 : Nat) : Int) := by decide
  rw [z, or32_assoc_add 0 x0 x0 (by omega) (by omega) (by omega)]
  rw [shl32_nat x0 8 (by omega), show x0 * 2 ^ 8 = x0 * 256 by omega, or32_add x0 x1 (by omega) (by omega)]
  rw [shl32_nat _ 8 (by omega), show (x0 * 256 + x1) * 2 ^ 8 = (x0 * 256 + x1) * 256 by omega, or32_add _ x2 (by omega) (by omega)]
  rw [shl32_nat _ 8 (by omega), show ((x0 * 256 + x1) * 256 + x2) * 2 ^ 8 = ((x0 * 256 + x1) * 256 + x2) * 256 by omega]
  rw [shl32_nat x0 24 (by omega), shl32_nat x1 16 (by omega), shl32_nat x2 8 (by omega)]
  have e1 : or32 ((x0 * 2 ^ 24 : Nat) : Int) ((x1 * 2 ^ 16 : Nat) : Int) = (((x0 * 256 + x1) * 65536 : Nat) : Int) := by
    unfold or32
    rw [u32_or_nat _ _ (by omega) (by omega)]
    congr 1
    have h := Nat.shiftLeft_add_eq_or_of_lt (show x1 * 2 ^ 16 < 2 ^ 24 by omega) x0
    rw [Nat.shiftLeft_eq] at h
    rw [← h]; omega
  have e2 : or32 (((x0 * 256 + x1) * 65536 : Nat) : Int) ((x2 * 2 ^ 8 : Nat) : Int) = ((((x0 * 256 + x1) * 256 + x2) * 256 : Nat) : Int) := by
    unfold or32
    rw [u32_or_nat _ _ (by omega) (by omega)]
    congr 1
    have h := Nat.shiftLeft_add_eq_or_of_lt (show x2 * 2 ^ 8 < 2 ^ 16 by omega) (x0 * 256 + x1)
    rw [Nat.shiftLeft_eq] at h
    rw [show (2 : Nat) ^ 16 = 65536 from rfl] at h
    rw [← h]; omega
  rw [e1, e2]

/-- the cells of the schedule while the words l stand -/
def zeros (n : Nat) : Array Value := Array.replicate n (.int .u32 0)
def wcells (l : List Int) : Array Value := (l.map (Value.int .u32)).toArray ++ zeros (64 - l.length)
theorem wcells_nil : wcells [] = zeros 64 := by simp [wcells, zeros]
theorem wcells_size (l : List Int) (h : l.length ≤ 64) : (wcells l).size = 64 := by simp [wcells, zeros]; omega
theorem wcells_get (l : List Int) (j : Nat) (h : j < l.length) : (wcells l)[j]? = some (.int .u32 (l[j]?.getD 0)) := by
  unfold wcells
  rw [Array.getElem?_append_left (by simpa using h)]
  simp [List.getElem?_eq_getElem h]
theorem wcells_snoc (l : List Int) (x : Int) (h : l.length < 64) : (wcells l).setIfInBounds l.length (.int .u32 x) = wcells (l ++ [x]) := by
  apply Array.ext'
  obtain ⟨m, hm⟩ : ∃ m, 64 - l.length = m + 1 := ⟨63 - l.length, by omega⟩
  have hm2 : 64 - (l.length + 1) = m := by omega
  simp [wcells, zeros, hm, hm2, List.replicate_succ]
theorem wcells_full (l : List Int) (h : l.length = 64) : wcells l = (l.map (Value.int .u32)).toArray := by simp [wcells, h, zeros]
theorem wcells_here (l : List Int) (h : l.length < 64) : wcells l = (wcells l).setIfInBounds l.length (.int .u32 0) := by
  rw [wcells_snoc l 0 h]
  apply Array.ext'
  obtain ⟨m, hm⟩ : ∃ m, 64 - l.length = m + 1 := ⟨63 - l.length, by omega⟩
  have hm2 : 64 - (l.length + 1) = m := by omega
  simp [wcells, zeros, hm, hm2, List.replicate_succ]

/-- the state behind the first t rounds -/
def rounds (s : St) (w : List Int) : Nat → St
  | 0 => s
  | t + 1 => (rounds s w t).round (ks[t]?.getD 0) (w[t]?.getD 0)

/-- a block -/
def blk (s : St) (b : List UInt8) : St := s.plus (rounds s (ws b 64) 64)

/-- eight words as cells; two lists of them, added as far as k -/
def cells32 (l : List Int) : Array Value := (l.map (Value.int .u32)).toArray
theorem vals_cells (s : St) : s.vals = cells32 s.list := rfl
def mix (s r : List Int) (k : Nat) : List Int := List.zipWith add32 (s.take k) (r.take k) ++ s.drop k
theorem mix_zero (s r : List Int) : mix s r 0 = s := by simp [mix]
theorem mix_length (s r : List Int) (k : Nat) (h : s.length = r.length) (hk : k ≤ s.length) : (mix s r k).length = s.length := by
  simp [mix]; omega
theorem mix_get (s r : List Int) (k : Nat) (h : s.length = r.length) (hk : k < s.length) : (mix s r k)[k]? = s[k]? := by
  unfold mix
  rw [List.getElem?_append_right (by simp; omega)]
  have : k - (List.zipWith add32 (s.take k) (r.take k)).length = 0 := by simp; omega
  rw [this]
  simp
theorem mix_set (s r : List Int) (k : Nat) (h : s.length = r.length) (hk : k < s.length) : (mix s r k).set k (add32 (s[k]?.getD 0) (r[k]?.getD 0)) = mix s r (k + 1) := by
  have hr : k < r.length := by omega
  unfold mix
  have hl : (List.zipWith add32 (s.take k) (r.take k)).length = k := by simp; omega
  rw [List.set_append_right _ _ (by omega), hl, Nat.sub_self]
  rw [List.drop_eq_getElem_cons hk]
  simp only [List.set_cons_zero, List.getElem?_eq_getElem hk, List.getElem?_eq_getElem hr, Option.getD_some]
  rw [List.take_succ_eq_append_getElem hk, List.take_succ_eq_append_getElem hr, List.zipWith_append (by simp; omega)]
  simp
theorem list_length (s : St) : s.list.length = 8 := rfl
theorem mix_all (s r : St) : mix s.list r.list 8 = (s.plus r).list := rfl

def start : St := ⟨1779033703, 3144134277, 1013904242, 2773480762, 1359893119, 2600822924, 528734635, 1541459225⟩
def zeroSt : St := ⟨0, 0, 0, 0, 0, 0, 0, 0⟩
end Go.Proofs.YtddbmddblhjkkaaGreatDoor
/- Contracts of the turns of a word (sha.right, math/bits.RotateLeft32, pursuivantref02.turn), of the first state and of a round's constant. -/
namespace Go.Proofs.YtddbmddblhjkkaaGreatDoor
open Go.RowKit

theorem and31 (n : Nat) (h1 : 1 ≤ n) (h2 : n ≤ 31) : bits .and .u64 (IntKind.u64.wrap (-(n : Int))) 31 = ((32 - n : Nat) : Int) := by
  have : ∀ m : Fin 32, 1 ≤ m.val → bits .and .u64 (IntKind.u64.wrap (-(m.val : Int))) 31 = ((32 - m.val : Nat) : Int) := by decide +kernel
  exact this ⟨n, by omega⟩ h1

set_option maxHeartbeats 400000 in
theorem rotl_any (x : Int) (n : Nat) (h1 : 1 ≤ n) (h2 : n ≤ 31) (w : World) :
    Calls Tryz.prog 102 #[.int .u32 x, .int .i64 (-(n : Int))] w fun e w' => e = .returned (.int .u32 (rotr x n)) ∧ w = w' := by
  have h := and31 n h1 h2
  go_enter Tryz.func102, Tryz.ntmps102
  go_wp2
  go_ret
  refine ⟨?_, rfl⟩
  have e : 32 - (32 - n) = n := by omega
  simp [rotr, or32, shl32, shr32, e]

set_option maxHeartbeats 400000 in
theorem right_any (x : Int) (n : Nat) (h1 : 1 ≤ n) (h2 : n ≤ 31) (w : World) :
    Calls Tryz.prog 101 #[.int .u32 x, .int .i64 (n : Int)] w fun e w' => e = .returned (.int .u32 (rotr x n)) ∧ w = w' := by
  go_enter Tryz.func101, Tryz.ntmps101
  go_wp2_with (go_at_call 102; refine (rotl_any x n h1 h2 _).mono ?_; rintro e w' ⟨rfl, rfl⟩)
  go_ret
  exact ⟨rfl, rfl⟩

set_option maxHeartbeats 400000 in
theorem turn_any (x : Int) (n : Nat) (h1 : 1 ≤ n) (h2 : n ≤ 31) (w : World) :
    Calls Tryz.prog 89 #[.int .u32 x, .int .u64 (n : Int)] w fun e w' => e = .returned (.int .u32 (rotr x n)) ∧ w = w' := by
  go_enter Tryz.func89, Tryz.ntmps89
  go_wp2
  go_ret
  refine ⟨?_, rfl⟩
  rw [rotr, or32_comm]
  simp [or32, shl32, shr32]
end Go.Proofs.YtddbmddblhjkkaaGreatDoor
/- Words for memory that all contracts of this seat use, and laws of single operations on whole arrays; no program. -/
namespace Go.Proofs.YtddbmddblhjkkaaGreatDoor
open Go.RowKit

/-- all that was there is as it was -/
def Ext (w w' : World) : Prop := Below w.heap.size w w'
theorem Ext.refl (w : World) : Ext w w := Below.refl _ _
theorem Ext.trans {a b c : World} (h : Ext a b) (k : Ext b c) : Ext a c := Below.trans h (Below.mono k h.size)
theorem Ext.size {a b : World} (h : Ext a b) : a.heap.size ≤ b.heap.size := Below.size h
theorem Ext.cell {a b : World} (h : Ext a b) {p : Addr} {v : Value} (hc : a.cell? p = some v) : b.cell? p = some v :=
  (Below.cell h (World.block_lt_of_cell? a p hc)).trans hc
theorem Ext.drew {a b : World} (h : Ext a b) : Ext a b.drew := Below.drew h
theorem Ext.drewN {a b : World} (h : Ext a b) (n : Nat) : Ext a (b.drewN n) := ⟨h.os, h.tape, h.output, h.size, h.block⟩
theorem Ext.draws (w : World) (n : Nat) : Ext w { w with drawn := n } := ⟨rfl, rfl, rfl, Nat.le_refl _, fun _ _ => rfl⟩
theorem Ext.alloc {a b : World} (h : Ext a b) (o : Obj) : Ext a (b.alloc o) := Below.alloc h h.size o
theorem Ext.setCell {a b : World} (h : Ext a b) {p : Addr} (hp : a.heap.size ≤ p.block) (u : Value) : Ext a (b.setCell p u) := Below.setCell h hp u
theorem Ext.grown {a b c : World} {row : Option Nat} (h : Ext a b) (hg : b.grownBy c row) (hr : ∀ k, row = some k → a.heap.size ≤ k) : Ext a c := Below.grown h hg h.size hr
theorem Ext.of_below {a b : World} {B : Nat} (h : Below B a b) (hB : a.heap.size ≤ B) : Ext a b := Below.mono h hB

/-- block g is just these cells, none frozen -/
def Blk (w : World) (g : Nat) (t : TypeId) (cs : Array Value) : Prop := w.heap[g]? = some (.cells cs t (0, 0))
section
variable {w w' : World} {g : Nat} {t : TypeId} {cs : Array Value}
theorem Blk.lt (h : Blk w g t cs) : g < w.heap.size := (Array.getElem?_eq_some_iff.1 h).1
theorem Blk.cell (h : Blk w g t cs) (i : Nat) : w.cell? ⟨g, i, none⟩ = cs[i]? := cell_of_row w g i cs t (0, 0) h
theorem Blk.frozen (h : Blk w g t cs) (i : Nat) : w.frozen? ⟨g, i, none⟩ = false := frozen_of_row w g i cs t h
theorem Blk.new (w : World) (t : TypeId) (cs : Array Value) : Blk (w.alloc (.cells cs t)) w.heap.size t cs := heap_alloc_new w _
theorem Blk.alloc (h : Blk w g t cs) (o : Obj) : Blk (w.alloc o) g t cs := (Below.heap_alloc w o g h.lt).trans h
theorem Blk.ext (h : Blk w g t cs) (he : Ext w w') : Blk w' g t cs := (Below.block he g h.lt).trans h
theorem Blk.set (h : Blk w g t cs) (i : Nat) (u : Value) : Blk (w.setCell ⟨g, i, none⟩ u) g t (cs.setIfInBounds i u) := heap_setCell_same w g i cs t u h
theorem Blk.set_ (h : Blk w g t cs) {i : Nat} {u u' : Value} (e : u' = u) : Blk (w.setCell ⟨g, i, none⟩ u') g t (cs.setIfInBounds i u) := by rw [e]; exact h.set i u
theorem Blk.drewN (h : Blk w g t cs) (n : Nat) : Blk (w.drewN n) g t cs := h
theorem Blk.drew (h : Blk w g t cs) : Blk w.drew g t cs := h
theorem Blk.grown {row : Option Nat} (h : Blk w g t cs) (hb : w.grownBy w' row) (hg : some g ≠ row) : Blk w' g t cs := (hb.block g h.lt hg).trans h
theorem Blk.far (h : Blk w g t cs) {p : Addr} (hp : g ≠ p.block) (u : Value) : Blk (w.setCell p u) g t cs := (heap_setCell_other w p g u hp).trans h
end

/-- `var x T` of an array or a struct: the new block behind a name -/
theorem wpList_alloc_blk {P : Program} {ops : Array Oper} {rest : List Oper} {o : Oper} {a : Act} {w : World} {Q : Exit → Act → World → Prop} (hgd : o.guard = none)
    (T : TypeId) (ho : o.op = .alloc T) (z : Value) (hz : ∀ w, (zeroValue T).run P w = .ok z w)
    (h : ∀ w1, w1.heap.size = w.heap.size + 1 → Blk w1 w.heap.size T z.cells → Ext w w1 → wpList P ops Q rest (a.put o.dst (.pointer (some ⟨w.heap.size, 0, none⟩))) w1) :
    wpList P ops Q (o :: rest) a w := by
  refine wpList_plain hgd fun K hK => ?_
  have hr : (Instr.alloc T true (.tuple #[])).run P w = .ok (.pointer (some ⟨w.heap.size, 0, none⟩)) (w.alloc (.cells z.cells T)) := by
    simp only [Instr.alloc, Sem.run_bind, hz, Result.andThen_ok, newVar, newRow, newObj]
    rfl
  unfold Oper.wp execOp
  simp only [ho, Sem.run_bind, hr, Result.andThen_ok, Sem.run_pure]
  exact hK _ _ (h (w.alloc (.cells z.cells T)) (by simp) (Blk.new w T z.cells) ((Ext.refl w).alloc _))

/-- a whole array or struct stored into a block of its own -/
theorem wpList_store_blk {P : Program} {ops : Array Oper} {rest : List Oper} {o : Oper} {a : Act} {w : World} {Q : Exit → Act → World → Prop} (hgd : o.guard = none) (ty : TypeId) (x y : Operand) (ho : o.op = .store ty x y)
    (g : Nat) (cells : Array Value) (hx : a.eval x = .pointer (some ⟨g, 0, none⟩)) (hy : a.eval y = .agg cells) (t : TypeId) (old : Array Value) (hg : Blk w g t old)
    (hi : (P.info? ty).map (·.size) = some cells.size) (ho2 : old.size = cells.size) (h1 : cells.all (·.oneCell') = true)
    (h : ∀ w1, w1.heap.size = w.heap.size → Blk w1 g t cells → w.grownBy w1 (some g) → wpList P ops Q rest (a.put o.dst undef) w1) : wpList P ops Q (o :: rest) a w := by
  refine wpList_store_row hgd ty x y ho g cells hx hy t old hg hi ho2 h1 (h (w.setRow g cells) (by simp) (setRow_heap w g old cells t (0, 0) hg) ⟨rfl, rfl, rfl, by simp, fun k _ hk => setRow_other w g k cells (fun e => hk (by rw [e]))⟩)

/-- an array or a struct built of parts, its cells named -/
theorem wpList_build_to {P : Program} {ops : Array Oper} {rest : List Oper} {o : Oper} {a : Act} {w : World} {Q : Exit → Act → World → Prop} (hgd : o.guard = none) (t : TypeId) (parts : Array (Nat × Operand)) (ho : o.op = .build t parts)
    (cs : Array Value) (hb : P.built t (parts.map fun (i, x) => (i, a.eval x)).toList = some cs)
    (h : wpList P ops Q rest (a.put o.dst (.agg cs)) w) : wpList P ops Q (o :: rest) a w :=
  wpList_build hgd t parts ho (by rw [hb]; rfl) (by rw [hb]; exact h)

/-- the table of constants: block 0 -/
def Cells (w : World) (b o : Nat) (cs : List Value) : Prop := ∀ j v, cs[j]? = some v → w.cell? ⟨b, o + j, none⟩ = some v
theorem Cells.ext {w w' : World} {b o : Nat} {cs : List Value} (h : Cells w b o cs) (he : Ext w w') : Cells w' b o cs := fun j v hv => he.cell (h j v hv)
theorem Cells.at {w : World} {b o : Nat} {cs : List Value} (h : Cells w b o cs) (j : Nat) (hj : j < cs.length) : w.cell? ⟨b, o + j, none⟩ = some cs[j] := h j _ (List.getElem?_eq_getElem hj)

theorem run_index_row {P : Program} (t e : TypeId) (n : Nat) (cs : Array Value) (hu : P.underlying t = some (.array n e)) (hs : ∀ w, (sizeOf e).run P w = .ok 1 w) (hg : ∀ w, (isAgg e).run P w = .ok false w)
    (k : Nat) (hk : k < n) (v : Value) (hv : cs[k]? = some v) (w : World) : (Instr.index t (.agg cs) (.int .i64 (k : Int))).run P w = .ok v w := by
  have h1 : (0 : Int) ≤ (k : Int) ∧ (k : Int) < (n : Int) := ⟨by omega, by omega⟩
  simp [Instr.index, asIntOf, run_underlying hu, h1, hs, part, hg, hv]
  omega
end Go.Proofs.YtddbmddblhjkkaaGreatDoor
/- A region that draws its order: its head in the order of the text under a class of worlds, behind it a tail that every order carries out last. And the class 'all that was there is as it was'. -/
namespace Go.Proofs.YtddbmddblhjkkaaGreatDoor
open Go.RowKit

section
variable {P : Program} {ops : Array Oper} {md : Region.Mode} {C : World → Prop}

/-- whatever order is picked, the head's operations come first; L holds of where it ends -/
def headQ (P : Program) (md : Region.Mode) (ops : Array Oper) (C : World → Prop) (n : Nat) (L : Array Bool → Act → Prop) : Nat → Array Bool → Act → Prop
  | 0, listed, a => L listed a
  | f + 1, listed, a =>
    Region.ready md ops listed ≠ [] ∧ ∀ i ∈ Region.ready md ops listed, i < n ∧ qOp P ops C i (headQ P md ops C n L f (listed.setIfInBounds i true)) a

theorem wpAny_of_headQ {n g : Nat} {L : Array Bool → Act → Prop} {Q' : Exit → Act → World → Prop} (hL : ∀ listed a w, C w → L listed a → wpAny P md ops Q' g listed a w) :
    ∀ (f : Nat) (listed : Array Bool) (a : Act) (w : World), C w → headQ P md ops C n L f listed a → wpAny P md ops Q' (f + g) listed a w
  | 0, listed, a, w, hw, h => by rw [Nat.zero_add]; exact hL _ _ _ hw h
  | f + 1, listed, a, w, hw, h => by
    rw [show f + 1 + g = (f + g) + 1 by omega]
    exact ⟨fun h0 => absurd h0 h.1, fun i hi => wpOp_of_qOp hw (fun a' w' hw' h' => wpAny_of_headQ hL f _ a' w' hw' h') (h.2 i hi).2⟩

theorem headQ_first {n i : Nat} {oi : Oper} {v : Value} {L : Array Bool → Act → Prop} (hi : ops[i]? = some oi) (hsel : ∀ (j : Nat) (o : Oper) cs b, ops[j]? = some o → o.op ≠ .select cs b)
    (hs : Region.sinkB md ops n = true) (hc : Region.chainB md ops n = true) (hn : n < ops.size) (hin : i < n)
    (hdone : ∀ listed a, L listed a → ∀ j ∈ Region.ready md ops listed, n ≤ j) :
    ∀ (f : Nat) (listed : Array Bool) (a : Act), HeadInv md ops n listed →
      (∀ j oj, ops[j]? = some oj → j ≠ i → listed.getD j true = false → (∀ e ∈ oj.after, Region.binds md e = true → e.on ≠ i) → oi.apart ops oj = true) →
      i ∈ Region.ready md ops listed → YieldsIn P ops C oi v a →
      headQ P md ops C n L f (listed.setIfInBounds i true) (a.put oi.dst v) → headQ P md ops C n L (f + 1) listed a := by
  intro f
  induction f with
  | zero =>
    intro listed a inv _ hr hy H
    have hun := (mem_ready.1 hr).1
    refine ⟨fun h => (by rw [h] at hr; cases hr), fun j hj => ?_⟩
    have hjn : j < n := by
      rcases Nat.lt_or_ge j n with h | h
      · exact h
      · exact absurd hj (tail_waits hs hc hn inv _ i rfl hin hun j h)
    refine ⟨hjn, ?_⟩
    by_cases hji : j = i
    · subst hji; exact hy.qOp hi H
    · have := hdone _ _ H j (ready_mono hj hji)
      omega
  | succ f ih =>
    intro listed a inv hfree hr hy H
    have hun := (mem_ready.1 hr).1
    refine ⟨fun h => (by rw [h] at hr; cases hr), fun j hj => ?_⟩
    have hjn : j < n := by
      rcases Nat.lt_or_ge j n with h | h
      · exact h
      · exact absurd hj (tail_waits hs hc hn inv _ i rfl hin hun j h)
    refine ⟨hjn, ?_⟩
    by_cases hji : j = i
    · subst hji; exact hy.qOp hi H
    · have h1 := (H.2 j (ready_mono hj hji)).2
      obtain ⟨hjun, oj, hoj, hall⟩ := mem_ready.1 hj
      have hnot : ∀ e ∈ oj.after, Region.binds md e = true → e.on ≠ i := fun e he hb heq => by
        have h1 := hall e he hb
        rw [heq, getD_both hun] at h1
        cases h1
      have h2 := qOp_put hoj (hfree j oj hoj hji hjun hnot) (fun cs b => hsel i oi cs b hi) (fun cs b => hsel j oj cs b hoj) hy h1
      have hfree' : ∀ k ok, ops[k]? = some ok → k ≠ i → (listed.setIfInBounds j true).getD k true = false →
          (∀ e ∈ ok.after, Region.binds md e = true → e.on ≠ i) → oi.apart ops ok = true := fun k ok hk hki hun hno => by
        refine hfree k ok hk hki ?_ hno
        by_cases hjk : j = k
        · subst hjk; exact hjun
        · rw [getD_set_ne true hjk] at hun; exact hun
      refine qOp_mono (fun a' h3 => ih (listed.setIfInBounds j true) a' (inv.set hj hjn) hfree' (ready_mono hr (Ne.symm hji)) h3.1 ?_) h2
      rw [Array.setIfInBounds_comm _ _ hji]
      exact h3.2

theorem headQ_lex {n g : Nat} {Lq : Act → Prop} (hsel : Region.noSelect ops = true) (hs : Region.sinkB md ops n = true) (hc : Region.chainB md ops n = true) (hn : n < ops.size) :
    ∀ (l : List Oper) (k : Nat) (listed : Array Bool) (a : Act), (∀ j, j < l.length → l[j]? = ops[k + j]?) → k + l.length = n → HeadInv md ops n listed →
    Region.lexHead md ops g l.length k listed = true → wpQuiet P ops C Lq l a →
    headQ P md ops C n (fun listed' a' => Region.seqB md ops g n listed' = true ∧ Lq a') l.length listed a
  | [], k, listed, a, _, hk, _, hB, h => by
    have : k = n := by simpa using hk
    subst this
    exact ⟨by simpa [Region.lexHead] using hB, h⟩
  | o :: l, k, listed, a, hl, hk, inv, hB, h => by
    have h0 : ops[k]? = some o := by simpa using (hl 0 (by simp)).symm
    simp only [List.length_cons, Region.lexHead, Bool.and_eq_true] at hB
    obtain ⟨⟨hr, hf⟩, hB'⟩ := hB
    have hkn : k < n := by simp only [List.length_cons] at hk; omega
    have hr' : k ∈ Region.ready md ops listed := by simpa using hr
    have hst : qOp P ops C k (wpQuiet P ops C Lq l) a := by unfold qOp; simp only [h0]; exact h
    obtain ⟨v, hy, hK⟩ := yieldsIn_of_qOp h0 hst
    exact headQ_first h0 (Region.noSelect_spec hsel) hs hc hn hkn (fun listed' a' hL => seqB_ready hL.1) l.length listed a inv (Region.free_spec h0 hf) hr' hy
      (headQ_lex hsel hs hc hn l (k + 1) _ _ (fun j hj => by have := hl (j + 1) (by simp; omega); simpa [Nat.add_assoc, Nat.add_comm 1 j] using this) (by simp only [List.length_cons] at hk; omega) (inv.set hr' hkn) hB' hK)

/-- THE LAW: the first n operations are quiet in the class C, in the order of the text; the others come behind them all, one behind the other. -/
theorem wp_region_tail {id : Nat} {Q : Exit → Act → World → Prop} {a : Act} {w : World} {l : List Oper} (n : Nat) (hm : P.follows .mixedOrders = true) (hB : Region.lexTailB .any l.toArray n = true)
    (hC : C { w with drawn := w.drawn + 1 })
    (h : wpQuiet P l.toArray C (fun a' => ∀ w', C w' → wpList P l.toArray Q (l.drop n) a' w') (l.take n) a) : (Code.region id l.toArray true).wp P Q a w := by
  simp only [Region.lexTailB, Bool.and_eq_true, decide_eq_true_eq] at hB
  obtain ⟨⟨⟨⟨hsel, hn⟩, hs⟩, hc⟩, hlex⟩ := hB
  have hn' : n < l.length := by simpa using hn
  have htl : (l.take n).length = n := by simp; omega
  have hdl : (l.drop n).length = l.toArray.size - n := by simp
  have inv0 : HeadInv .any l.toArray n (Array.replicate l.toArray.size false) :=
    ⟨by simp, fun j oj _ hl => (by rw [getD_replicate_false] at hl; cases hl), fun t _ ht => getD_in (by simpa using ht) (getD_replicate_false _ _)⟩
  have H := headQ_lex (md := .any) (g := l.toArray.size - n) hsel hs hc hn (l.take n) 0 _ a (fun j hj => by
    have hj' : j < n := by rw [htl] at hj; exact hj
    simp [hj']) (by simpa using htl) inv0 (by rw [htl]; exact hlex) h
  refine wp_region_any hm ?_
  have := wpAny_of_headQ (Q' := Q) (g := l.toArray.size - n) (fun listed a' w' hw' hL => by
    have := wpAny_of_seq (md := .any) (Q' := Q) (l.drop n) n listed a' w' (fun j => by simp [List.getElem?_drop]) (by rw [hdl]; exact hL.1) (hL.2 w' hw')
    rwa [hdl] at this) _ _ _ _ hC H
  rw [htl, show n + (l.toArray.size - n) = l.toArray.size by omega] at this
  exact this
end

/-- a later world: all that was there is as it was -/
def Later (w : World) : Type := { w' : World // Ext w w' }
def Later.w {w : World} (x : Later w) : World := x.1
instance later_here (w : World) : Nonempty (Later w) := ⟨⟨w, Ext.refl w⟩⟩
theorem Later.ext {w : World} (x : Later w) : Ext w x.w := x.2
theorem Later.cell? {w : World} (x : Later w) (a : Addr) (h : a.block < w.heap.size) : x.w.cell? a = w.cell? a := Below.cell x.2 h
/-- the class -/
def Lat (w : World) (w' : World) : Prop := ∃ x : Later w, w' = x.w
theorem Lat.ext {w w' : World} (h : Lat w w') : Ext w w' := by obtain ⟨x, rfl⟩ := h; exact x.2
theorem lat_of {w w' : World} (h : Ext w w') : Lat w w' := ⟨⟨w', h⟩, rfl⟩

/-- a callee's contract, met in a later world -/
theorem lat_call {P : Program} {f : FuncId} {args : Array Value} {w : World} {x : Later w} {v : Value}
    (h : Calls P f args x.w fun e w' => e = .returned v ∧ Ext x.w w') : Calls P f args x.w fun e w'' => e = .returned v ∧ ∃ y : Later w, w'' = y.w :=
  h.mono fun _ w'' ⟨he, hx⟩ => ⟨he, ⟨w'', x.ext.trans hx⟩, rfl⟩
theorem lat_same {P : Program} {f : FuncId} {args : Array Value} {w : World} {x : Later w} {v : Value}
    (h : Calls P f args x.w fun e w' => e = .returned v ∧ x.w = w') : Calls P f args x.w fun e w'' => e = .returned v ∧ ∃ y : Later w, w'' = y.w :=
  h.mono fun _ _ ⟨he, hx⟩ => ⟨he, x, hx.symm⟩

theorem wpQuiet_mono {P : Program} {ops : Array Oper} {C : World → Prop} {Q Q' : Act → Prop} (hq : ∀ a, Q a → Q' a) : ∀ (l : List Oper) (a : Act), wpQuiet P ops C Q l a → wpQuiet P ops C Q' l a
  | [], _, h => hq _ h
  | o :: l, a, h => by
    simp only [wpQuiet] at h ⊢
    by_cases hw : Region.wanted o (yielded ops a.tmps) = true
    · rw [if_pos hw] at h ⊢
      exact Oper.quiet_mono (fun a' h' => wpQuiet_mono hq l a' h') h
    · rw [if_neg hw] at h ⊢
      exact wpQuiet_mono hq l _ h
/-- A REGION THAT ONLY READS AND CALLS WHAT LEAVES OLD MEMORY ALONE -/
theorem wp_region_lat {P : Program} {id : Nat} {Q : Exit → Act → World → Prop} {a : Act} {w : World} {l : List Oper} (hm : P.follows .mixedOrders = true) (hB : Region.lexB .any l.toArray = true)
    (h : wpQuiet P l.toArray (fun w' => ∃ x : Later w, w' = x.w) (fun a' => ∀ w', Ext w w' → Q .normal a' w') l a) : (Code.region id l.toArray true).wp P Q a w :=
  wp_region_quiet (C := fun w' => ∃ x : Later w, w' = x.w) hm hB (lat_of (Ext.draws w _)) (by
    refine wpQuiet_mono ?_ _ _ h
    rintro a h w' ⟨x, rfl⟩
    exact h _ x.ext)
/-- .. AND THEN DOES SOMETHING MORE, LAST -/
theorem wp_region_lat_tail {P : Program} {id : Nat} {Q : Exit → Act → World → Prop} {a : Act} {w : World} {l : List Oper} (n : Nat) (hm : P.follows .mixedOrders = true) (hB : Region.lexTailB .any l.toArray n = true)
    (h : wpQuiet P l.toArray (fun w' => ∃ x : Later w, w' = x.w) (fun a' => ∀ w', Ext w w' → wpList P l.toArray Q (l.drop n) a' w') (l.take n) a) : (Code.region id l.toArray true).wp P Q a w :=
  wp_region_tail (C := fun w' => ∃ x : Later w, w' = x.w) n hm hB (lat_of (Ext.draws w _)) (by
    refine wpQuiet_mono ?_ _ _ h
    rintro a h w' ⟨x, rfl⟩
    exact h _ x.ext)
/-- the same where the head does no more than draw -/
theorem wp_region_drew_tail {P : Program} {id : Nat} {Q : Exit → Act → World → Prop} {a : Act} {w : World} {l : List Oper} (n : Nat) (hm : P.follows .mixedOrders = true) (hB : Region.lexTailB .any l.toArray n = true)
    (h : wpQuiet P l.toArray (fun w' => ∃ n, w' = w.drewN n) (fun a' => ∀ w', (∃ n, w' = w.drewN n) → wpList P l.toArray Q (l.drop n) a' w') (l.take n) a) : (Code.region id l.toArray true).wp P Q a w :=
  wp_region_tail (C := fun w' => ∃ n, w' = w.drewN n) n hm hB ⟨1, rfl⟩ h
theorem drew_same {P : Program} {f : FuncId} {args : Array Value} {w : World} {n : Nat} {v : Value}
    (h : Calls P f args (w.drewN n) fun e w' => e = .returned v ∧ w.drewN n = w') : Calls P f args (w.drewN n) fun e w'' => e = .returned v ∧ ∃ m, w'' = w.drewN m :=
  h.mono fun _ _ ⟨he, hm⟩ => ⟨he, n, hm.symm⟩
end Go.Proofs.YtddbmddblhjkkaaGreatDoor
/- The contract of sha.schedule: the sixty-four words of a block. -/
namespace Go.Proofs.YtddbmddblhjkkaaGreatDoor
open Go.RowKit

theorem zero_a64 (w : World) : (zeroValue 140).run Tryz.prog w = .ok (.agg (zeros 64)) w := by kernel_rfl
theorem info_a64 : (Tryz.prog.info? 140).map (·.size) = some 64 := by kernel_rfl

theorem right_int (x k : Int) (h1 : 1 ≤ k) (h2 : k ≤ 31) (w : World) :
    Calls Tryz.prog 101 #[.int .u32 x, .int .i64 k] w fun e w' => e = .returned (.int .u32 (rotr x k.toNat)) ∧ w = w' := by
  obtain ⟨n, rfl⟩ := Int.eq_ofNat_of_zero_le (show 0 ≤ k by omega)
  exact right_any x n (by omega) (by omega) w

theorem wcells_one (l : List Int) : (wcells l).all (·.oneCell') = true := by
  refine Array.all_eq_true_iff_forall_mem.2 (fun v hv => ?_)
  simp only [wcells, zeros, Array.mem_append, List.mem_toArray, List.mem_map, Array.mem_replicate] at hv
  rcases hv with ⟨x, _, rfl⟩ | ⟨_, rfl⟩ <;> rfl

set_option maxRecDepth 100000 in
set_option maxHeartbeats 1000000 in
theorem sched_any (bs : List UInt8) (b o c : Nat) (hc : 64 ≤ c) (w : World)
    (hcell : ∀ j, j < 64 → w.cell? ⟨b, o + j, none⟩ = some (.int .u8 ((bs.getD j 0).toNat : Int))) :
    Calls Tryz.prog 100 #[.slice (some ⟨b, o, none⟩) 64 c] w fun e w' => e = .returned (.agg (wcells (ws bs 64))) ∧ Ext w w' := by
  have Hcell := Lib.hid hcell
  clear hcell
  go_enter Tryz.func100, Tryz.ntmps100
  go_wp2_with (first | (refine wpList_alloc_blk rfl 140 rfl (.agg (zeros 64)) zero_a64 ?_; intro w1 hs1 hb1 he1))
  rename_i w0 hs0 hb0 he0 _ _
  have E1 : Ext w w1 := he0.trans he1
  have B2 : Blk w1 w.heap.size 140 (zeros 64) := hb0.ext he1
  have B3 : Blk w1 (w.heap.size + 1) 140 (zeros 64) := by rw [hs0] at hb1; exact hb1
  clear hs0 hb0 he0 hs1 hb1 he1
  go_loopw [11] (fun i wr => ∃ t : Nat, t ≤ 64 ∧ i = .int .i64 t ∧ Blk wr w.heap.size 140 (zeros 64) ∧ Blk wr (w.heap.size + 1) 140 (wcells (ws bs t)) ∧ Ext w wr)
    (fun i _ => 64 - (intOf i).toNat)
  case atStart => exact ⟨0, by omega, rfl, B2, by rw [ws, wcells_nil]; exact B3, E1⟩
  case round =>
    obtain ⟨t, ht, rfl, C2, C3, E⟩ := hrel
    have hl := ws_length bs t
    have Hl := Lib.hid hl
    clear hl
    by_cases hlt : t < 64
    · by_cases h16 : t < 16
      · go_wp2
        obtain ⟨wo, rfl⟩ : ∃ wo : World, wo = wr := ⟨_, rfl⟩
        go_loopw [24] (fun i wr => ∃ k : Nat, k ≤ 4 ∧ i = .int .i64 k ∧ Blk wr w.heap.size 140 (zeros 64) ∧ Blk wr (w.heap.size + 1) 140 ((wcells (ws bs t)).setIfInBounds t (.int .u32 (accW bs t k))) ∧ Ext w wr)
          (fun i _ => 4 - (intOf i).toNat)
        case atStart => exact ⟨0, by omega, rfl, C2, by have := wcells_here (ws bs t) (by rw [Hl.out]; exact hlt); rw [Hl.out] at this; rw [accW, ← this]; exact C3, E⟩
        case round =>
          obtain ⟨k, hk, rfl, D2, D3, F⟩ := hrel
          by_cases hk4 : k < 4
          · have c1 : wr.cell? ⟨b, o + 4 * t + k, none⟩ = some (.int .u8 ((bs.getD (4 * t + k) 0).toNat : Int)) := by
              have := F.cell (Hcell.out (4 * t + k) (by omega))
              rw [← Nat.add_assoc] at this
              exact this
            have c2 : wr.cell? ⟨w.heap.size + 1, t, none⟩ = some (.int .u32 (accW bs t k)) := by
              rw [D3.cell]; simp [wcells_size _ (show (ws bs t).length ≤ 64 by rw [Hl.out]; omega), hlt]
            have c3 := D3.frozen t
            go_wp2
            go_roundw
            case rel =>
              refine ⟨k + 1, by omega, by go_num, D2.far (by simp) _, ?_, F.setCell (by simp) _⟩
              have := D3.set t (.int .u32 (accW bs t (k + 1)))
              rw [Array.setIfInBounds_setIfInBounds] at this
              rw [accW_step]
              exact this
            case measure => simp [intOf]; omega
          · have hk5 : k = 4 := by omega
            subst hk5
            have D4 : Blk wr (w.heap.size + 1) 140 (wcells (ws bs (t + 1))) := by
              have := wcells_snoc (ws bs t) (word bs t) (by rw [Hl.out]; exact hlt)
              rw [Hl.out] at this
              rw [ws, if_pos h16, ← this, ← accW_four]
              exact D3
            clear D3
            go_wp2
            go_roundw
            case rel => exact ⟨t + 1, by omega, by go_num, D2, D4, F⟩
            case measure => simp [intOf]; omega
      · have c15 : wr.cell? ⟨w.heap.size + 1, t - 15, none⟩ = some (.int .u32 ((ws bs t)[t - 15]?.getD 0)) := by rw [C3.cell, wcells_get _ _ (by rw [Hl.out]; omega)]
        have c2 : wr.cell? ⟨w.heap.size + 1, t - 2, none⟩ = some (.int .u32 ((ws bs t)[t - 2]?.getD 0)) := by rw [C3.cell, wcells_get _ _ (by rw [Hl.out]; omega)]
        have c16 : wr.cell? ⟨w.heap.size + 1, t - 16, none⟩ = some (.int .u32 ((ws bs t)[t - 16]?.getD 0)) := by rw [C3.cell, wcells_get _ _ (by rw [Hl.out]; omega)]
        have c7 : wr.cell? ⟨w.heap.size + 1, t - 7, none⟩ = some (.int .u32 ((ws bs t)[t - 7]?.getD 0)) := by rw [C3.cell, wcells_get _ _ (by rw [Hl.out]; omega)]
        have c0 : ∃ u, wr.cell? ⟨w.heap.size + 1, t, none⟩ = some u := by rw [C3.cell]; exact ⟨_, Array.getElem?_eq_getElem (by rw [wcells_size _ (by rw [Hl.out]; omega)]; exact hlt)⟩
        obtain ⟨u0, c0⟩ := c0
        have f0 := C3.frozen t
        go_wp2
        go_quiet (fail)
        go_wp2_with (go_at_call 101; refine (right_int _ _ (by omega) (by omega) _).mono ?_; rintro e w' ⟨rfl, rfl⟩)
        refine wp_region_drew_tail 15 (by kernel_rfl) (by kernel_rfl) ?_
        simp only [List.take_succ_cons, List.take_zero, List.drop_succ_cons, List.drop_zero]
        repeat (go_big_quiet_step (fail))
        refine wpQuiet_nil ?_
        intro _ hw'
        obtain ⟨nr, hw''⟩ := hw'
        subst hw''
        go_wp2
        go_roundw
        case rel =>
          refine ⟨t + 1, by omega, by go_num, ?_, ?_, ?_⟩
          · exact (C2.drewN _).far (by simp) _
          · have h9 := wcells_snoc (ws bs t) (next (ws bs t) t) (by rw [Hl.out]; exact hlt)
            rw [Hl.out] at h9
            rw [ws, if_neg h16, ← h9]
            exact (C3.drewN _).set_ (by simp [next, sm0, sm1, xor32, shr32])
          · exact (E.drewN _).setCell (by simp) _
        case measure => simp [intOf]; omega
    · obtain rfl : t = 64 := by omega
      have hsz := wcells_size (ws bs 64) (by rw [Hl.out]; omega)
      have Hsz := Lib.hid hsz
      clear hsz
      go_wp2_with (first | (refine wpList_load_row rfl 140 _ rfl (w.heap.size + 1) rfl 140 (wcells (ws bs 64)) (0, 0) _ C3 Tryz.underlying140 rfl (by rw [Hsz.out]; exact info_a64) ?_) | (refine wpList_store_blk rfl 140 _ _ rfl w.heap.size (wcells (ws bs 64)) rfl rfl 140 (zeros 64) C2 (by rw [Hsz.out]; exact info_a64) (by rw [Hsz.out]; simp [zeros]) (wcells_one _) ?_; intro w2 hs2 hb2 hg2))
      refine bodyPost_ret (v := .agg (wcells (ws bs 64))) (results_cell_row rfl _ _ w.heap.size 140 _ (0, 0) _ rfl hb2 Tryz.underlying140 rfl (by rw [Hsz.out]; exact info_a64)) rfl ?_
      exact ⟨rfl, E.grown hg2 (by simp)⟩
end Go.Proofs.YtddbmddblhjkkaaGreatDoor
/- The contract of sha.Block. -/
namespace Go.Proofs.YtddbmddblhjkkaaGreatDoor
open Go.RowKit
attribute [local go_sem] Later.cell?

def kvals : List Value := ks.map (Value.int .u32)
theorem kvals_length : kvals.length = 64 := by rw [kvals, List.length_map, ks_length]
/-- the table of the rounds' constants lies at its place -/
def Kst (w : World) : Prop := Cells w 0 0 kvals
theorem Kst.ext {w w' : World} (h : Kst w) (he : Ext w w') : Kst w' := Cells.ext h he
theorem size_u32 (w : World) : (sizeOf 125).run Tryz.prog w = .ok 1 w := by kernel_rfl
theorem agg_u32 (w : World) : (isAgg 125).run Tryz.prog w = .ok false w := by kernel_rfl
theorem kvals_get (t : Nat) (h : t < 64) : kvals.toArray[t]? = some (.int .u32 (ks[t]?.getD 0)) := by
  have h1 : t < ks.length := by rw [ks_length]; exact h
  simp [kvals, List.getElem?_eq_getElem h1]
theorem index_ks (t : Nat) (h : t < 64) (w : World) : (Instr.index 140 (.agg kvals.toArray) (.int .i64 (t : Int))).run Tryz.prog w = .ok (.int .u32 (ks[t]?.getD 0)) w :=
  run_index_row 140 125 64 kvals.toArray Tryz.underlying140 size_u32 agg_u32 t h _ (kvals_get t h) w

theorem cells32_get (l : List Int) (k : Nat) (h : k < l.length) : (cells32 l)[k]? = some (.int .u32 (l[k]?.getD 0)) := by
  simp [cells32, List.getElem?_eq_getElem h]
theorem cells32_set (l : List Int) (k : Nat) (x : Int) : (cells32 l).setIfInBounds k (.int .u32 x) = cells32 (l.set k x) := by
  simp [cells32, List.map_set]
theorem cells32_one (l : List Int) : (cells32 l).all (·.oneCell') = true :=
  Array.all_eq_true_iff_forall_mem.2 (fun v hv => by
    simp only [cells32, List.mem_toArray, List.mem_map] at hv
    obtain ⟨x, _, rfl⟩ := hv
    rfl)
theorem info_a8 : (Tryz.prog.info? 126).map (·.size) = some 8 := by kernel_rfl

set_option maxRecDepth 100000 in
set_option maxHeartbeats 1000000 in
theorem block_no (s : St) (A : Option Addr) (n c : Nat) (hn : ((n : Int) != 64) = true) (w : World) :
    Calls Tryz.prog 93 #[.agg s.vals, .slice A n c] w fun e w' => e = .returned (.agg zeroSt.vals) ∧ Ext w w' := by
  unfold St.vals
  go_enter Tryz.func93, Tryz.ntmps93
  go_wp2
  refine bodyPost_ret (v := .agg zeroSt.vals) (by simp [results, Tryz.results93, go_sem, zeroSt, St.vals]) rfl ?_
  exact ⟨rfl, ((Ext.refl w).alloc _).alloc _⟩

set_option maxRecDepth 100000 in
set_option maxHeartbeats 400000 in
theorem block_yes (s : St) (bs : List UInt8) (b o c : Nat) (hc : 64 ≤ c) (w : World) (hK : Kst w)
    (hcell : ∀ j, j < 64 → w.cell? ⟨b, o + j, none⟩ = some (.int .u8 ((bs.getD j 0).toNat : Int))) :
    Calls Tryz.prog 93 #[.agg s.vals, .slice (some ⟨b, o, none⟩) 64 c] w fun e w' => e = .returned (.agg (blk s bs).vals) ∧ Ext w w' := by
  have Hcell := Lib.hid hcell
  clear hcell
  show Calls Tryz.prog 93 #[.agg #[.int .u32 s.a, .int .u32 s.b, .int .u32 s.c, .int .u32 s.d, .int .u32 s.e, .int .u32 s.f, .int .u32 s.g, .int .u32 s.h], .slice (some ⟨b, o, none⟩) 64 c] w _
  go_enter Tryz.func93, Tryz.ntmps93
  go_wp2_with fail
  have Hc1 : ∀ W, Ext w W → Hid (∀ j, j < 64 → W.cell? ⟨b, o + j, none⟩ = some (.int .u8 ((bs.getD j 0).toNat : Int))) := fun W he j hj => he.cell (Hcell.out j hj)
  refine (sched_any bs b o c hc _ (Hc1 _ ?_).out).mono ?_
  · exact ((Ext.refl w).alloc _).alloc _
  rintro e w1 ⟨rfl, E1⟩
  have HW : Hid (∃ W, W = ws bs 64) := ⟨_, rfl⟩
  obtain ⟨W, hW⟩ := HW.out
  rw [← hW]
  have hWl : Hid (W.length = 64) := by rw [hW]; exact ws_length bs 64
  have HW := Lib.hid hW
  clear hW
  have hsz : Hid ((wcells W).size = 64) := wcells_size _ (by rw [hWl.out]; omega)
  go_wp2_with (first | (refine wpList_alloc_blk rfl 140 rfl (.agg (zeros 64)) zero_a64 ?_; intro w2 hs2 hb2 he2) | (refine wpList_store_blk rfl 140 _ _ rfl w1.heap.size (wcells W) rfl rfl 140 (zeros 64) hb2 (by rw [hsz.out]; exact info_a64) (by rw [hsz.out]; simp [zeros]) (wcells_one _) ?_; intro w3 hs3 hb3 hg3))
  have W0s : ((w.alloc (.cells #[.int .u32 s.a, .int .u32 s.b, .int .u32 s.c, .int .u32 s.d, .int .u32 s.e, .int .u32 s.f, .int .u32 s.g, .int .u32 s.h] 126)).alloc (.cells #[.int .u32 0, .int .u32 0, .int .u32 0, .int .u32 0, .int .u32 0, .int .u32 0, .int .u32 0, .int .u32 0] 126)).heap.size = w.heap.size + 2 := by simp
  have hz1 : w.heap.size + 2 ≤ w1.heap.size := by have := E1.size; rw [W0s] at this; exact this
  have hz3 : w3.heap.size = w1.heap.size + 1 := by rw [hs3, hs2]
  have B0 : Blk w3 w.heap.size 126 #[.int .u32 s.a, .int .u32 s.b, .int .u32 s.c, .int .u32 s.d, .int .u32 s.e, .int .u32 s.f, .int .u32 s.g, .int .u32 s.h] :=
    ((((Blk.new w _ _).alloc _).ext E1).ext he2).grown hg3 (by simp; omega)
  have B1 : Blk w3 (w.heap.size + 1) 126 #[.int .u32 0, .int .u32 0, .int .u32 0, .int .u32 0, .int .u32 0, .int .u32 0, .int .u32 0, .int .u32 0] := by
    have := Blk.new (w.alloc (.cells #[.int .u32 s.a, .int .u32 s.b, .int .u32 s.c, .int .u32 s.d, .int .u32 s.e, .int .u32 s.f, .int .u32 s.g, .int .u32 s.h] 126)) 126 #[.int .u32 0, .int .u32 0, .int .u32 0, .int .u32 0, .int .u32 0, .int .u32 0, .int .u32 0, .int .u32 0]
    rw [World.size_alloc] at this
    exact ((this.ext E1).ext he2).grown hg3 (by simp; omega)
  have E3 : Ext w w3 := ((((Ext.refl w).alloc _).alloc _).trans (E1.trans he2)).grown hg3 (by simp; omega)
  have K3 : Kst w3 := hK.ext E3
  clear hs2 hs3 he2 hb2 hg3 E1 W0s hK Hc1
  have c0 : w3.cell? ⟨w.heap.size, 0, none⟩ = some (.int .u32 s.a) := by rw [B0.cell]; rfl
  have c1 : w3.cell? ⟨w.heap.size, 1, none⟩ = some (.int .u32 s.b) := by rw [B0.cell]; rfl
  have c2 : w3.cell? ⟨w.heap.size, 2, none⟩ = some (.int .u32 s.c) := by rw [B0.cell]; rfl
  have c3 : w3.cell? ⟨w.heap.size, 3, none⟩ = some (.int .u32 s.d) := by rw [B0.cell]; rfl
  have c4 : w3.cell? ⟨w.heap.size, 4, none⟩ = some (.int .u32 s.e) := by rw [B0.cell]; rfl
  have c5 : w3.cell? ⟨w.heap.size, 5, none⟩ = some (.int .u32 s.f) := by rw [B0.cell]; rfl
  have c6 : w3.cell? ⟨w.heap.size, 6, none⟩ = some (.int .u32 s.g) := by rw [B0.cell]; rfl
  have c7 : w3.cell? ⟨w.heap.size, 7, none⟩ = some (.int .u32 s.h) := by rw [B0.cell]; rfl
  have hlt : w.heap.size < w3.heap.size := B0.lt
  have hz3' : Hid (w3.heap.size = w1.heap.size + 1) := hz3
  clear hz3
  go_frame
  refine wp_region_lat (by kernel_rfl) (by kernel_rfl) ?_
  repeat (go_big_quiet_step (fail))
  refine wpQuiet_nil ?_
  intro w4 E4
  clear c0 c1 c2 c3 c4 c5 c6 c7
  have K4 : w4.rangeAt 0 0 kvals := K3.ext E4
  have D0 := B0.ext E4
  have D1 := B1.ext E4
  have D2 : Blk w4 w1.heap.size 140 (wcells W) := hb3.ext E4
  have E5 : Ext w w4 := E3.trans E4
  clear B0 B1 hb3 E3 E4 K3 hz3' hlt
  go_wp2_with (refine wpList_load_mid rfl 140 _ rfl 0 0 rfl kvals _ K4 Tryz.underlying140 rfl (by rw [kvals_length]; exact info_a64) ?_)
  generalize hkc : kvals.toArray = kc
  have Hkc := Lib.hid hkc
  clear hkc
  go_loopw [43, 6, 7, 8, 9, 10, 11, 12, 13] (fun i x0 x1 x2 x3 x4 x5 x6 x7 wr => ∃ t : Nat, t ≤ 64 ∧ i = .int .i64 t ∧ x0 = .int .u32 (rounds s W t).a ∧ x1 = .int .u32 (rounds s W t).b
      ∧ x2 = .int .u32 (rounds s W t).c ∧ x3 = .int .u32 (rounds s W t).d ∧ x4 = .int .u32 (rounds s W t).e ∧ x5 = .int .u32 (rounds s W t).f
      ∧ x6 = .int .u32 (rounds s W t).g ∧ x7 = .int .u32 (rounds s W t).h
      ∧ Blk wr w.heap.size 126 #[.int .u32 s.a, .int .u32 s.b, .int .u32 s.c, .int .u32 s.d, .int .u32 s.e, .int .u32 s.f, .int .u32 s.g, .int .u32 s.h]
      ∧ Blk wr (w.heap.size + 1) 126 #[.int .u32 0, .int .u32 0, .int .u32 0, .int .u32 0, .int .u32 0, .int .u32 0, .int .u32 0, .int .u32 0]
      ∧ Blk wr w1.heap.size 140 (wcells W) ∧ Ext w wr) (fun i _ _ _ _ _ _ _ _ _ => 64 - (intOf i).toNat)
  case atStart => exact ⟨0, by omega, rfl, by rw [rounds], by rw [rounds], by rw [rounds], by rw [rounds], by rw [rounds], by rw [rounds], by rw [rounds], by rw [rounds], D0, D1, D2, E5⟩
  case round =>
    clear D0 D1 D2 E5 K4
    obtain ⟨t, ht, rfl, rfl, rfl, rfl, rfl, rfl, rfl, rfl, rfl, D0, D1, D2, E5⟩ := hrel
    by_cases hlt : t < 64
    · have hix := index_ks t hlt
      rw [Hkc.out] at hix
      have hw : wr.cell? ⟨w1.heap.size, t, none⟩ = some (.int .u32 (W[t]?.getD 0)) := by
        rw [D2.cell, wcells_get _ _ (by rw [hWl.out]; exact hlt)]
      have hl1 : w1.heap.size < wr.heap.size := D2.lt
      go_wp2
      refine wp_region_lat (by kernel_rfl) (by kernel_rfl) ?_
      repeat (go_big_quiet_step ((go_at_call 101; exact lat_same (right_int _ _ (by omega) (by omega) _))))
      refine wpQuiet_nil ?_
      intro w5 E6
      go_wp2_with (go_at_call 101; refine (right_int _ _ (by omega) (by omega) _).mono ?_; rintro e w' ⟨rfl, rfl⟩)
      go_roundw
      case rel =>
        refine ⟨t + 1, by omega, by go_num, ?_, by rw [rounds]; rfl, by rw [rounds]; rfl, by rw [rounds]; rfl, ?_, by rw [rounds]; rfl, by rw [rounds]; rfl, by rw [rounds]; rfl, D0.ext E6, D1.ext E6, D2.ext E6, E5.trans E6⟩
        · rw [rounds]; simp [St.round, t1Of, t2Of, add32, bg1, bg0, cho, maj, xor32, and32, not32, u32_all]
        · rw [rounds]; simp [St.round, t1Of, add32, bg1, cho, xor32, and32, not32, u32_all]
      case measure => simp [intOf]; omega
    · obtain rfl : t = 64 := by omega
      generalize hR : rounds s W 64 = R
      have HR := Lib.hid hR
      clear hR
      obtain ⟨wo, rfl⟩ : ∃ wo : World, wo = wr := ⟨_, rfl⟩
      go_wp2
      go_loopw [114] (fun i wr => ∃ k : Nat, k ≤ 8 ∧ i = .int .i64 k ∧ Blk wr w.heap.size 126 (cells32 (mix s.list R.list k))
        ∧ Blk wr (w.heap.size + 1) 126 #[.int .u32 0, .int .u32 0, .int .u32 0, .int .u32 0, .int .u32 0, .int .u32 0, .int .u32 0, .int .u32 0] ∧ Ext w wr) (fun i _ => 8 - (intOf i).toNat)
      case atStart => exact ⟨0, by omega, rfl, by rw [mix_zero]; exact D0, D1, E5⟩
      case round =>
        clear D0 D1 E5 D2
        obtain ⟨k, hk, rfl, D0, D1, E5⟩ := hrel
        by_cases hk8 : k < 8
        · have hix : ∀ w, (Instr.index 126 (.agg #[.int .u32 R.a, .int .u32 R.b, .int .u32 R.c, .int .u32 R.d, .int .u32 R.e, .int .u32 R.f, .int .u32 R.g, .int .u32 R.h]) (.int .i64 (k : Int))).run Tryz.prog w = .ok (.int .u32 (R.list[k]?.getD 0)) w :=
            run_index_row 126 125 8 _ Tryz.underlying126 size_u32 agg_u32 k hk8 _ (cells32_get R.list k hk8)
          have hc : wr.cell? ⟨w.heap.size, k, none⟩ = some (.int .u32 (s.list[k]?.getD 0)) := by
            rw [D0.cell, cells32_get _ _ (by rw [mix_length s.list R.list k rfl (by rw [list_length]; omega), list_length]; exact hk8), mix_get s.list R.list k rfl hk8]
          have hf := D0.frozen k
          go_wp2
          go_roundw
          case rel =>
            refine ⟨k + 1, by omega, by go_num, ?_, D1.far (by simp) _, E5.setCell (by simp) _⟩
            rw [← mix_set s.list R.list k rfl hk8, ← cells32_set]
            exact D0.set_ (by simp [add32])
          case measure => simp [intOf]; omega
        · obtain rfl : k = 8 := by omega
          rw [mix_all] at D0
          have hfin : Hid (s.plus R = blk s bs) := by rw [blk, ← HW.out, HR.out]; rfl
          rw [hfin.out] at D0
          obtain ⟨z, hz⟩ : ∃ z, z = blk s bs := ⟨_, rfl⟩
          rw [← hz] at D0
          have Hz := Lib.hid hz
          clear hz
          go_wp2_with (first | (refine wpList_load_row rfl 126 _ rfl w.heap.size rfl 126 (cells32 z.list) (0, 0) _ D0 Tryz.underlying126 rfl info_a8 ?_) | (refine wpList_store_blk rfl 126 _ _ rfl (w.heap.size + 1) (cells32 z.list) rfl rfl 126 _ D1 info_a8 rfl (cells32_one _) ?_; intro w6 hs6 hb6 hg6))
          refine bodyPost_ret (v := .agg (cells32 z.list)) (results_cell_row rfl _ _ (w.heap.size + 1) 126 _ (0, 0) _ rfl hb6 Tryz.underlying126 rfl info_a8) rfl ?_
          exact ⟨by rw [← Hz.out]; rfl, E5.grown hg6 (by simp)⟩
end Go.Proofs.YtddbmddblhjkkaaGreatDoor
/- Contracts of pursuivantref02.round, first and sha.start. -/
namespace Go.Proofs.YtddbmddblhjkkaaGreatDoor
open Go.RowKit

theorem kvals_size : kvals.toArray.size = 64 := by rw [List.size_toArray, kvals_length]
theorem kvals_one : kvals.toArray.all (·.oneCell') = true := cells32_one ks

set_option maxRecDepth 100000 in
set_option maxHeartbeats 400000 in
theorem round_any (t : Nat) (h : t < 64) (w : World) :
    Calls Tryz.prog 90 #[.int .i64 (t : Int)] w fun e w' => e = .returned (.int .u32 (ks[t]?.getD 0)) ∧ Ext w w' := by
  go_enter Tryz.func90, Tryz.ntmps90
  go_wp2_with (first | (refine wpList_build_to rfl 140 _ rfl kvals.toArray (by kernel_rfl) ?_) | (refine wpList_alloc_blk rfl 140 rfl (.agg (zeros 64)) zero_a64 ?_; intro w2 hs2 hb2 he2) | (refine wpList_store_blk rfl 140 _ _ rfl w.heap.size kvals.toArray rfl rfl 140 (zeros 64) hb2 (by rw [kvals_size]; exact info_a64) (by rw [kvals_size]; simp [zeros]) kvals_one ?_; intro w3 hs3 hb3 hg3; have c1 : w3.cell? ⟨w.heap.size, t, none⟩ = some (.int .u32 (ks[t]?.getD 0)) := by rw [hb3.cell]; exact kvals_get t h))
  go_ret
  exact ⟨rfl, he2.grown hg3 (by simp)⟩

set_option maxRecDepth 100000 in
set_option maxHeartbeats 400000 in
theorem start_any (w : World) :
    Calls Tryz.prog 91 #[] w fun e w' => e = .returned (.agg start.vals) ∧ Ext w w' := by
  go_enter Tryz.func91, Tryz.ntmps91
  go_wp2
  refine bodyPost_ret (v := .agg start.vals) (by simp [results, Tryz.results91, go_sem, start, St.vals]) rfl ?_
  exact ⟨rfl, (Ext.refl w).alloc _⟩

set_option maxRecDepth 100000 in
set_option maxHeartbeats 400000 in
theorem first_any (w : World) :
    Calls Tryz.prog 79 #[] w fun e w' => e = .returned (.agg start.vals) ∧ Ext w w' := by
  go_enter Tryz.func79, Tryz.ntmps79
  go_wp2
  refine bodyPost_ret (v := .agg start.vals) (by simp [results, Tryz.results79, go_sem, start, St.vals]) rfl ?_
  exact ⟨rfl, (Ext.refl w).alloc _⟩
end Go.Proofs.YtddbmddblhjkkaaGreatDoor
/- Slices that are read, slices that the call owns, and append onto them from whatever slice; no program. -/
namespace Go.Proofs.YtddbmddblhjkkaaGreatDoor
open Go.RowKit

/-- the slice value v has n elements of so many cells each, and reads as these cells -/
def SlR (w : World) (size : Nat) (v : Value) (n : Nat) (xs : List Value) : Prop :=
  xs.length = n * size ∧ ∃ A c, v = .slice A n c ∧ n ≤ c ∧ (0 < n → ∃ b o, A = some ⟨b, o, none⟩ ∧ Cells w b o xs)

section
variable {w w' : World} {size n : Nat} {v : Value} {xs : List Value}
theorem SlR.ext (h : SlR w size v n xs) (he : Ext w w') : SlR w' size v n xs := by
  obtain ⟨hl, A, c, hv, hc, hr⟩ := h
  refine ⟨hl, A, c, hv, hc, fun hn => ?_⟩
  obtain ⟨b, o, hA, hx⟩ := hr hn
  exact ⟨b, o, hA, hx.ext he⟩
theorem SlR.none_ (w : World) (size : Nat) (A : Option Addr) (c : Nat) : SlR w size (.slice A 0 c) 0 [] := ⟨by simp, A, c, rfl, by omega, fun h => absurd h (by omega)⟩
theorem SlR.form (h : SlR w size v n xs) : ∃ A c, v = .slice A n c ∧ n ≤ c := by
  obtain ⟨_, A, c, hv, hc, _⟩ := h
  exact ⟨A, c, hv, hc⟩
/-- where it lies -/
theorem SlR.here {A : Option Addr} {c : Nat} (h : SlR w size (.slice A n c) n xs) (hn : 0 < n) : ∃ b o, A = some ⟨b, o, none⟩ ∧ Cells w b o xs := by
  obtain ⟨_, A', c', hv, _, hr⟩ := h
  cases hv
  exact hr hn
theorem SlR.len_le {A : Option Addr} {c : Nat} (h : SlR w size (.slice A n c) n xs) : n ≤ c := by
  obtain ⟨_, A', c', hv, hc, _⟩ := h
  cases hv
  exact hc
theorem SlR.of_cells {b o c : Nat} (hl : xs.length = n * size) (hc : n ≤ c) (h : Cells w b o xs) : SlR w size (.slice (some ⟨b, o, none⟩) n c) n xs :=
  ⟨hl, _, c, rfl, hc, fun _ => ⟨b, o, rfl, h⟩⟩
/-- a slice that the call owns reads as its cells -/
theorem SlR.of_own {base : Nat} {e : TypeId} (h : w.ownsRow base e size v n xs) : SlR w size v n xs := by
  refine ⟨h.1, ?_⟩
  rcases h.2 with ⟨rfl, rfl⟩ | ⟨g, cap, cur, rfl, _, hg, hnc, _, _, htake⟩
  · exact ⟨none, 0, rfl, by omega, fun hn => absurd hn (by omega)⟩
  · refine ⟨some ⟨g, 0, none⟩, cap, rfl, hnc, fun _ => ⟨g, 0, rfl, fun j u hu => ?_⟩⟩
    have := h.cells (g := g) rfl j u hu
    rwa [Addr.add_mid] at this
/-- a store into another block leaves it -/
theorem SlR.kept (h : SlR w size v n xs) (hk : ∀ b o u, w.cell? ⟨b, o, none⟩ = some u → u ∈ xs → w'.cell? ⟨b, o, none⟩ = some u) : SlR w' size v n xs := by
  obtain ⟨hl, A, c, hv, hc, hr⟩ := h
  refine ⟨hl, A, c, hv, hc, fun hn => ?_⟩
  obtain ⟨b, o, hA, hx⟩ := hr hn
  exact ⟨b, o, hA, fun j u hu => hk _ _ _ (hx j u hu) (List.mem_of_getElem? hu)⟩
end

/-- the cells of bytes -/
def byteV (b : UInt8) : Value := .int .u8 (b.toNat : Int)
def bytesV (l : List UInt8) : List Value := l.map byteV
theorem bytesV_length (l : List UInt8) : (bytesV l).length = l.length := by simp [bytesV]
theorem bytesV_append (a b : List UInt8) : bytesV (a ++ b) = bytesV a ++ bytesV b := by simp [bytesV]
theorem bytesV_get (l : List UInt8) (j : Nat) (h : j < l.length) : (bytesV l)[j]? = some (.int .u8 ((l[j]?.getD 0).toNat : Int)) := by
  simp [bytesV, byteV, List.getElem?_eq_getElem h]
theorem bytesV_one (l : List UInt8) : ∀ u ∈ bytesV l, u.oneCell' = true := by
  intro u hu
  simp only [bytesV, List.mem_map] at hu
  obtain ⟨x, _, rfl⟩ := hu
  rfl
theorem bytesV_kind (l : List UInt8) : ∀ u ∈ bytesV l, ∃ k : Int, u = .int .u8 k := by
  intro u hu
  simp only [bytesV, List.mem_map] at hu
  obtain ⟨x, _, rfl⟩ := hu
  exact ⟨_, rfl⟩
theorem bytesV_take (l : List UInt8) (k : Nat) : bytesV (l.take k) = (bytesV l).take k := by simp [bytesV, List.map_take]
theorem bytesV_drop (l : List UInt8) (k : Nat) : bytesV (l.drop k) = (bytesV l).drop k := by simp [bytesV, List.map_drop]

/-- a slice of bytes -/
def Sl (w : World) (v : Value) (bs : List UInt8) : Prop := SlR w 1 v bs.length (bytesV bs)
theorem Sl.ext {w w' : World} {v : Value} {bs : List UInt8} (h : Sl w v bs) (he : Ext w w') : Sl w' v bs := SlR.ext h he
/-- bytes are kept where only a block that holds no byte, and what is new, has turned -/
theorem Sl.grown {w w' : World} {v : Value} {bs : List UInt8} {g : Nat} (h : Sl w v bs) (hg : w.grownBy w' (some g)) (hk : ∀ o (k : Int), w.cell? ⟨g, o, none⟩ ≠ some (.int .u8 k)) : Sl w' v bs := by
  refine SlR.kept h (fun b o u hu hm => ?_)
  obtain ⟨k, rfl⟩ := bytesV_kind bs u hm
  by_cases hbg : b = g
  · subst hbg; exact absurd hu (hk o k)
  · exact hg.cell hu (by simpa using hbg)
theorem Sl.bytes {w : World} {A : Option Addr} {n c : Nat} {bs : List UInt8} (h : Sl w (.slice A n c) bs) : n = bs.length := by
  obtain ⟨_, A', c', hv, _, _⟩ := h
  cases hv
  rfl

section
variable {P : Program} (w : World)
theorem run_append_nothing (base : Nat) (t ty e : TypeId) (i : TypeInfo) (size : Nat) (ht : P.underlying t = some (.slice e)) (hi : P.info? e = some i)
    (v : Value) (n : Nat) (xs : List Value) (hown : w.ownsRow base e size v n xs) (A : Option Addr) (hA : A = none) (c : Nat) : (Builtin.append_ #[t, t] ty #[v, .slice A 0 c]).run P w = .ok v w := by
  subst hA
  rcases hown.2 with ⟨rfl, rfl⟩ | ⟨g, cap, cur, rfl, _, _, hnc, _⟩
  · simp [Builtin.append_, run_underlying ht, sizeOf, typeInfo, hi, Builtin.lenOf, Builtin.firstCells]
  · simp [Builtin.append_, run_underlying ht, sizeOf, typeInfo, hi, Builtin.lenOf, Builtin.firstCells, hnc, storeCells]

/-- append onto a slice of the call's own, from whatever slice that reads -/
theorem run_append_sl (base : Nat) (t ty e : TypeId) (i : TypeInfo) (z : Value) (size bytes : Nat) (ht : P.underlying t = some (.slice e)) (hi : P.info? e = some i) (hz : i.zero = some z)
    (hsize : i.size = size) (hby : i.bytes = bytes) (hzs : z.cells.size = size) (hsz : 0 < size)
    (v : Value) (n : Nat) (xs : List Value) (hown : w.ownsRow base e size v n xs)
    (A : Option Addr) (m c : Nat) (news : List Value) (hr : SlR w size (.slice A m c) m news) (h1 : ∀ u ∈ news, u.oneCell' = true)
    (h63 : n + m ≤ maxLen) (hbytes : (n + m) * bytes ≤ 140737488355328) (hbase : base ≤ w.heap.size) :
    ∃ v' w', (Builtin.append_ #[t, t] ty #[v, .slice A m c]).run P w = .ok v' w' ∧ w'.ownsRow base e size v' (n + m) (xs ++ news) ∧ w.grownBy w' v.ownBlock ∧
      (v'.ownBlock = v.ownBlock ∨ v'.ownBlock = some w.heap.size) := by
  cases A with
  | none =>
    have hm : m = 0 := by
      rcases Nat.eq_zero_or_pos m with h0 | h0
      · exact h0
      · obtain ⟨b, o, h, _⟩ := hr.here h0
        cases h
    subst hm
    have hn : news = [] := List.eq_nil_of_length_eq_zero (by simpa using hr.1)
    subst hn
    exact ⟨v, w, run_append_nothing w base t ty e i size ht hi v n xs hown none rfl c, by simpa using hown, ⟨rfl, rfl, rfl, Nat.le_refl _, fun _ _ _ => rfl⟩, .inl rfl⟩
  | some ad =>
    have hcells : ∀ j u, news[j]? = some u → w.cell? (ad.add j) = some u := by
      intro j u hu
      rcases Nat.eq_zero_or_pos m with h0 | h0
      · subst h0
        have hn : news = [] := List.eq_nil_of_length_eq_zero (by simpa using hr.1)
        subst hn
        simp at hu
      · obtain ⟨b, o, h, hc⟩ := hr.here h0
        injection h with h
        subst h
        rw [Addr.add_mid]
        exact hc j u hu
    obtain ⟨v', w', hrun, h2, h3, _, h5⟩ := run_append_own_at (P := P) w base t ty e i z size bytes ht hi hz hsize hby hzs hsz v n xs hown ad m c news hr.1 hcells h1 h63 hbytes hbase
    exact ⟨v', w', hrun, h2, h3, h5⟩

theorem wpList_append_sl {ops : Array Oper} {rest : List Oper} {o : Oper} {a : Act} {Q : Exit → Act → World → Prop} (hgd : o.guard = none) (s x : Operand) (t : TypeId)
    (ho : o.op = .call { callee := .builtin .append, args := #[s, x], argTypes := #[t, t] })
    (base : Nat) (e : TypeId) (i : TypeInfo) (z : Value) (size bytes : Nat) (ht : P.underlying t = some (.slice e)) (hi : P.info? e = some i) (hz : i.zero = some z)
    (hsize : i.size = size) (hby : i.bytes = bytes) (hzs : z.cells.size = size) (hsz : 0 < size)
    (v : Value) (n : Nat) (xs : List Value) (hs : a.eval s = v) (hown : w.ownsRow base e size v n xs)
    (A : Option Addr) (m c : Nat) (news : List Value) (hx : a.eval x = .slice A m c) (hr : SlR w size (.slice A m c) m news) (h1 : ∀ u ∈ news, u.oneCell' = true)
    (h63 : n + m ≤ maxLen) (hbytes : (n + m) * bytes ≤ 140737488355328) (hbase : base ≤ w.heap.size)
    (h : ∀ v' w', w'.ownsRow base e size v' (n + m) (xs ++ news) → w.grownBy w' v.ownBlock → (v'.ownBlock = v.ownBlock ∨ v'.ownBlock = some w.heap.size) → wpList P ops Q rest (a.put o.dst v') w') : wpList P ops Q (o :: rest) a w := by
  obtain ⟨v', w', hrun, h2, h3, h4⟩ := run_append_sl (P := P) w base t o.type e i z size bytes ht hi hz hsize hby hzs hsz v n xs hown A m c news hr h1 h63 hbytes hbase
  exact Lib.wpList_append_run w hgd s x t t ho v _ hs hx v' w' hrun (h v' w' h2 h3 h4)
end

theorem own_kept {w w' : World} {base : Nat} {e : TypeId} {size : Nat} {v : Value} {n : Nat} {xs : List Value} (h : w.ownsRow base e size v n xs) (he : Ext w w') : w'.ownsRow base e size v n xs :=
  h.kept (row := none) ⟨he.os, he.tape, he.output, he.size, fun k hk _ => he.block k hk⟩ (by cases hv : v.ownBlock <;> simp)
theorem own_base {w : World} {base base' : Nat} {e : TypeId} {size : Nat} {v : Value} {n : Nat} {xs : List Value} (h : w.ownsRow base e size v n xs) (hb : base' ≤ base) : w.ownsRow base' e size v n xs := by
  refine ⟨h.1, ?_⟩
  rcases h.2 with h2 | ⟨g, cap, cur, hv, hg, r⟩
  · exact .inl h2
  · exact .inr ⟨g, cap, cur, hv, by omega, r⟩
theorem own_form {w : World} {base : Nat} {e : TypeId} {size : Nat} {v : Value} {n : Nat} {xs : List Value} (h : w.ownsRow base e size v n xs) : ∃ A c, v = .slice A n c ∧ n ≤ c := (SlR.of_own h).form
end Go.Proofs.YtddbmddblhjkkaaGreatDoor
/- Contracts of slices.Clone, slices.Grow and slices.Concat of bytes. -/
namespace Go.Proofs.YtddbmddblhjkkaaGreatDoor
open Go.RowKit

theorem info_u8 : (Tryz.prog.info? 5).map (fun i => (i.zero, i.size, i.bytes)) = some (some (.int .u8 0), 1, 1) := by kernel_rfl
theorem info_bytes : (Tryz.prog.info? 22).map (fun i => (i.zero, i.size, i.bytes)) = some (some (.slice none 0 0), 1, 24) := by kernel_rfl

set_option maxRecDepth 100000 in
set_option maxHeartbeats 400000 in
theorem cloneB_any (v : Value) (bs : List UInt8) (w : World) (hv : Sl w v bs) (hlen : bs.length ≤ 1073741824) :
    Calls Tryz.prog 24 #[v] w fun e w' => ∃ v', e = .returned v' ∧ w'.ownsRow w.heap.size 5 1 v' bs.length (bytesV bs) ∧ Ext w w' := by
  obtain ⟨A, c, rfl, hc⟩ := SlR.form hv
  obtain ⟨i0, hi, hz0, hz1, hz2⟩ := info_parts info_u8
  have hnil := fun w => Lib.run_eql_slice_nil (P := Tryz.prog) w 22 5 A bs.length c 0 0 Tryz.underlying22
  cases A with
  | none =>
    have hn : bs.length = 0 := by
      rcases Nat.eq_zero_or_pos bs.length with h0 | h0
      · exact h0
      · obtain ⟨b, o, h, _⟩ := SlR.here hv h0
        cases h
    have Hn := Lib.hid hn
    clear hn
    go_enter Tryz.func24, Tryz.ntmps24
    go_wp2
    go_ret
    refine ⟨_, rfl, ?_, Ext.refl w⟩
    rw [Hn.out, List.eq_nil_of_length_eq_zero Hn.out]
    exact World.ownsRow_nil w _ _ _
  | some ad =>
    have hv' := Lib.hid hv
    clear hv
    go_enter Tryz.func24, Tryz.ntmps24
    have hown : (w.alloc (.cells #[] 5)).ownsRow w.heap.size 5 1 (.slice (some ⟨w.heap.size, 0, none⟩) 0 0) 0 [] := World.ownsRow_made w #[] 0 (Nat.le_refl _) (by unfold maxLen; omega) (by simp)
    have hsrc : Hid (SlR (w.alloc (.cells #[] 5)) 1 (.slice (some ad) bs.length c) bs.length (bytesV bs)) := SlR.ext hv'.out ((Ext.refl w).alloc _)
    have Hown := Lib.hid hown
    clear hown
    go_wp2_with (at_builtin; refine wpList_append_sl _ rfl _ _ 22 rfl w.heap.size 5 i0 (.int .u8 0) 1 1 Tryz.underlying22 hi hz0 hz1 hz2 rfl (by omega) (.slice (some ⟨w.heap.size, 0, none⟩) 0 0) 0 [] rfl Hown.out (some ad) bs.length c (bytesV bs) rfl hsrc.out (bytesV_one bs) (by unfold maxLen; omega) (by omega) (by simp) ?_; intro v' w1 h1 h2 h3)
    go_ret
    rw [Nat.zero_add] at h1
    exact ⟨v', rfl, h1, ((Ext.refl w).alloc _).grown h2 (by simp [Value.ownBlock])⟩

set_option maxRecDepth 100000 in
set_option maxHeartbeats 400000 in
theorem growB_any (n : Nat) (hn : n ≤ 1073741824) (w : World) :
    Calls Tryz.prog 99 #[.slice none 0 0, .int .i64 (n : Int)] w fun e w' => ∃ v', e = .returned v' ∧ w'.ownsRow w.heap.size 5 1 v' 0 [] ∧ Ext w w' := by
  obtain ⟨i0, hi, hz0, hz1, hz2⟩ := info_parts info_u8
  by_cases h0 : 0 < n
  · have hr := fun w => Lib.run_append_nil_zeros (P := Tryz.prog) w 22 3 22 5 i0 (.int .u8 0) .i64 .i64 Tryz.underlying22 Tryz.underlying3 hi hz0 n h0 (by omega) (by omega) (by rw [hz2]; omega)
    have Hr := Lib.hid hr
    clear hr
    go_enter Tryz.func99, Tryz.ntmps99
    go_wp2_with (at_builtin; refine Lib.wpList_append_run _ rfl _ _ 22 3 rfl _ _ rfl rfl _ _ (Hr.out _) ?_)
    go_ret
    refine ⟨_, rfl, ?_, ?_⟩
    · have hge := grownCap_ge w n 0 5
      exact World.ownsRow_made w _ (grownCap w n 0 5) (Nat.le_refl _) (grownCap_le_maxLen w n 0 5 (by unfold maxLen; omega)) (by simp [size_zeroCells]; omega)
    · exact ((Ext.refl w).alloc _).drew
  · have hn0 : n = 0 := by omega
    subst hn0
    go_enter Tryz.func99, Tryz.ntmps99
    go_wp2
    go_ret
    exact ⟨_, rfl, World.ownsRow_nil w _ _ _, Ext.refl w⟩


/-- a slice of slices of bytes -/
def SlAll (w : World) (pv : Value) (bss : List (List UInt8)) : Prop := ∃ vs : List Value, SlR w 1 pv bss.length vs ∧ ∀ (i : Nat) (bs : List UInt8), bss[i]? = some bs → ∃ v, vs[i]? = some v ∧ Sl w v bs
theorem SlAll.ext {w w' : World} {pv : Value} {bss : List (List UInt8)} (h : SlAll w pv bss) (he : Ext w w') : SlAll w' pv bss := by
  obtain ⟨vs, h1, h2⟩ := h
  refine ⟨vs, h1.ext he, fun i bs hi => ?_⟩
  obtain ⟨v, hv, hs⟩ := h2 i bs hi
  exact ⟨v, hv, hs.ext he⟩
theorem SlAll.form {w : World} {pv : Value} {bss : List (List UInt8)} (h : SlAll w pv bss) : ∃ A c, pv = .slice A bss.length c ∧ bss.length ≤ c := by
  obtain ⟨vs, h1, _⟩ := h
  exact h1.form
/-- the k-th of them -/
theorem SlAll.at_ {w : World} {A : Option Addr} {c k : Nat} {bss : List (List UInt8)} (h : SlAll w (.slice A bss.length c) bss) (hk : k < bss.length) :
    ∃ b o B d, A = some ⟨b, o, none⟩ ∧ w.cell? ⟨b, o + k, none⟩ = some (.slice B bss[k].length d) ∧ Sl w (.slice B bss[k].length d) bss[k] := by
  obtain ⟨vs, h1, h2⟩ := h
  obtain ⟨b, o, hA, hc⟩ := h1.here (by omega)
  obtain ⟨v, hv, hs⟩ := h2 k bss[k] (List.getElem?_eq_getElem hk)
  obtain ⟨B, d, rfl, _⟩ := SlR.form hs
  exact ⟨b, o, B, d, hA, hc k _ hv, hs⟩

def total (bss : List (List UInt8)) : Nat := bss.flatten.length
theorem total_take_succ (bss : List (List UInt8)) (k : Nat) (h : k < bss.length) : total (bss.take (k + 1)) = total (bss.take k) + bss[k].length := by
  unfold total
  rw [List.take_succ_eq_append_getElem h, List.flatten_append, List.length_append]
  simp
theorem total_take_le (bss : List (List UInt8)) (k : Nat) : total (bss.take k) ≤ total bss := by
  unfold total
  conv => rhs; rw [← List.take_append_drop k bss]
  rw [List.flatten_append, List.length_append]
  omega
theorem flat_take_succ (bss : List (List UInt8)) (k : Nat) (h : k < bss.length) : bytesV (bss.take (k + 1)).flatten = bytesV (bss.take k).flatten ++ bytesV bss[k] := by
  rw [List.take_succ_eq_append_getElem h, List.flatten_append, bytesV_append]
  simp

set_option maxRecDepth 100000 in
set_option maxHeartbeats 1000000 in
theorem concatB_any (pv : Value) (bss : List (List UInt8)) (w : World) (hv : SlAll w pv bss) (hn : bss.length ≤ 1073741824) (hlen : total bss ≤ 1073741824) :
    Calls Tryz.prog 92 #[pv] w fun e w' => ∃ v', e = .returned v' ∧ w'.ownsRow w.heap.size 5 1 v' bss.flatten.length (bytesV bss.flatten) ∧ Ext w w' := by
  obtain ⟨A, c, rfl, hc⟩ := hv.form
  obtain ⟨i0, hi, hz0, hz1, hz2⟩ := info_parts info_u8
  have HV := Lib.hid hv
  clear hv
  go_enter Tryz.func92, Tryz.ntmps92
  go_wp2
  go_loop [11, 3] (fun i s => ∃ k : Nat, k ≤ bss.length ∧ i = .int .i64 k ∧ s = .int .i64 (total (bss.take k) : Nat)) (fun i _ => bss.length - (intOf i).toNat)
  case atStart => exact ⟨0, by omega, rfl, rfl⟩
  case round =>
    obtain ⟨k, hk, rfl, rfl⟩ := hrel
    by_cases hlt : k < bss.length
    · obtain ⟨b, o, B, d, rfl, hcell, _⟩ := HV.out.at_ hlt
      have h1 := total_take_succ bss k hlt
      have h2 := total_take_le bss (k + 1)
      have H1 := Lib.hid h1
      have h3 : total (bss.take k) + bss[k].length ≤ 1073741824 := by omega
      clear h1 h2
      go_wp2
      go_round
      case rel => exact ⟨k + 1, by omega, by go_num, by rw [H1.out]; go_num⟩
      case measure => simp [intOf]; omega
    · obtain rfl : k = bss.length := by omega
      rw [List.take_length]
      go_wp2_with (go_at_call 99; refine (growB_any (total bss) hlen _).mono ?_; rintro e w1 ⟨v0, rfl, hown, E1⟩; obtain ⟨A0, c0, rfl, hc0⟩ := own_form hown)
      go_loopw [27, 6] (fun i v wr => ∃ k : Nat, k ≤ bss.length ∧ i = .int .i64 k ∧ wr.ownsRow w.heap.size 5 1 v (total (bss.take k)) (bytesV (bss.take k).flatten) ∧ Ext w wr) (fun i _ _ => bss.length - (intOf i).toNat)
      case atStart => exact ⟨0, by omega, rfl, hown, E1⟩
      case round =>
        clear hown E1
        obtain ⟨k, hk, rfl, hown, E1⟩ := hrel
        by_cases hlt : k < bss.length
        · obtain ⟨b, o, B, d, rfl, hcell, hs⟩ := HV.out.at_ hlt
          have hcell1 := E1.cell hcell
          have H1 := Lib.hid (total_take_succ bss k hlt)
          have h2 := total_take_le bss (k + 1)
          have h3 : total (bss.take k) + bss[k].length ≤ 1073741824 := by have := H1.out; omega
          clear h2
          have Hs := Lib.hid (SlR.ext hs E1)
          have Hown := Lib.hid hown
          clear hs hown
          go_wp2_with (at_builtin; refine wpList_append_sl _ rfl _ _ 22 rfl w.heap.size 5 i0 (.int .u8 0) 1 1 Tryz.underlying22 hi hz0 hz1 hz2 rfl (by omega) u6 _ _ rfl Hown.out B bss[k].length d (bytesV bss[k]) rfl Hs.out (bytesV_one _) (by unfold maxLen; omega) (by omega) E1.size ?_; intro v' w2 h21 h22 h23)
          go_roundw
          case rel => exact ⟨k + 1, by omega, by go_num, by rw [H1.out, flat_take_succ bss k hlt]; exact h21, E1.grown h22 (fun j hj => (Hown.out.lt j hj).1)⟩
          case measure => simp [intOf]; omega
        · obtain rfl : k = bss.length := by omega
          rw [List.take_length] at hown
          go_wp2
          go_ret
          exact ⟨_, rfl, hown, E1⟩
end Go.Proofs.YtddbmddblhjkkaaGreatDoor
/- What the sum of a text is: blocks fed one behind the other, the padding, the 32 bytes; and that feeding in pieces is feeding at once. Plain. -/
namespace Go.Proofs.YtddbmddblhjkkaaGreatDoor

/-- all whole blocks of a text are fed; what is left is less than one -/
def feed (s : St) (l : List UInt8) : St × List UInt8 :=
  if 64 ≤ l.length then feed (blk s (l.take 64)) (l.drop 64) else (s, l)
  termination_by l.length
  decreasing_by simp; omega

theorem feed_less (s : St) (l : List UInt8) (h : l.length < 64) : feed s l = (s, l) := by
  rw [feed, if_neg (by omega)]
theorem feed_more (s : St) (l : List UInt8) (h : 64 ≤ l.length) : feed s l = feed (blk s (l.take 64)) (l.drop 64) := by
  rw [feed, if_pos h]
theorem feed_rest_lt (s : St) (l : List UInt8) : (feed s l).2.length < 64 := by
  induction hn : l.length using Nat.strongRecOn generalizing s l with
  | _ n ih =>
    by_cases h : 64 ≤ l.length
    · rw [feed_more s l h]
      exact ih (l.drop 64).length (by simp; omega) _ _ rfl
    · rw [feed_less s l (by omega)]
      show l.length < 64
      omega
theorem feed_append (s : St) (l m : List UInt8) : feed s (l ++ m) = feed (feed s l).1 ((feed s l).2 ++ m) := by
  induction hn : l.length using Nat.strongRecOn generalizing s l with
  | _ n ih =>
    by_cases h : 64 ≤ l.length
    · rw [feed_more s l h, feed_more s (l ++ m) (by simp; omega)]
      rw [List.take_append_of_le_length h, List.drop_append_of_le_length h]
      exact ih (l.drop 64).length (by simp; omega) _ _ rfl
    · rw [feed_less s l (by omega)]
theorem feed_rest_mod (s : St) (l : List UInt8) : (feed s l).2.length = l.length % 64 := by
  induction hn : l.length using Nat.strongRecOn generalizing s l with
  | _ n ih =>
    by_cases h : 64 ≤ l.length
    · rw [feed_more s l h, ih (l.drop 64).length (by simp; omega) _ _ rfl]
      simp
      omega
    · rw [feed_less s l (by omega)]
      show l.length = n % 64
      omega

/-- a number's bytes, the highest first -/
def putB (n size : Nat) : List UInt8 := (List.range size).map fun i => UInt8.ofNat (n / 256 ^ (size - 1 - i))
theorem putB_length (n size : Nat) : (putB n size).length = size := by simp [putB]

/-- what comes behind a text of so many bytes -/
def padB (n : Nat) : List UInt8 := 128 :: (List.replicate ((119 - n % 64) % 64) 0 ++ putB (8 * n) 8)
theorem padB_length (n : Nat) : (n + (padB n).length) % 64 = 0 := by
  simp [padB, putB_length]
  omega

/-- an integer's lowest byte -/
def u8 (z : Int) : UInt8 := UInt8.ofNat (z % 256).toNat
theorem u8_toNat (z : Int) : ((u8 z).toNat : Int) = z % 256 := by
  unfold u8
  have h1 : 0 ≤ z % 256 := by omega
  have h2 : z % 256 < 256 := by omega
  rw [UInt8.toNat_ofNat']
  omega

/-- a state's 32 bytes -/
def outB (s : St) : List UInt8 := (List.range 32).map fun i => u8 (s.list[i / 4]?.getD 0 / 2 ^ (24 - 8 * (i % 4)))
theorem outB_length (s : St) : (outB s).length = 32 := by simp [outB]
theorem outB_get (s : St) (i : Nat) (h : i < 32) : (outB s)[i]? = some (u8 (s.list[i / 4]?.getD 0 / 2 ^ (24 - 8 * (i % 4)))) := by
  simp [outB, h]

/-- THE SUM -/
def sumB (text : List UInt8) : List UInt8 := outB (feed start (text ++ padB text.length)).1
theorem sumB_length (text : List UInt8) : (sumB text).length = 32 := outB_length _

/-- as the program comes to it: the rest, and what comes behind -/
theorem sumB_of_rest (text : List UInt8) : sumB text = outB (feed (feed start text).1 ((feed start text).2 ++ padB text.length)).1 := by
  rw [sumB, feed_append]
end Go.Proofs.YtddbmddblhjkkaaGreatDoor
/- Contracts of octet.Put and pursuivantref01.Put: a number's bytes. -/
namespace Go.Proofs.YtddbmddblhjkkaaGreatDoor
open Go.RowKit

theorem madeCells_one (z : Value) (n : Nat) : madeCells #[z] n = Array.replicate n z := by
  apply Array.ext'
  simp only [madeCells, Array.toList_map, Array.toList_range, Array.toList_replicate]
  rw [List.eq_replicate_iff]
  refine ⟨by simp, fun b hb => ?_⟩
  simp only [List.mem_map] at hb
  obtain ⟨x, _, rfl⟩ := hb
  simp [Nat.mod_one]

/-- make([]T, n) of one-celled elements: the new block behind a name -/
theorem wpList_make_blk {P : Program} {ops : Array Oper} {rest : List Oper} {o : Oper} {a : Act} {w : World} {Q : Exit → Act → World → Prop} (hgd : o.guard = none)
    (t e : TypeId) (l c : Operand) (ho : o.op = .makeSlice t l c) (z : Value) (bytes : Nat) (ht : P.underlying t = some (.slice e)) (hinfo : (P.info? e).map (fun i => (i.zero, i.size, i.bytes)) = some (some z, 1, bytes)) (hz1 : z.cells = #[z])
    (n : Nat) (hl : a.eval l = .int .i64 (n : Int)) (hc : a.eval c = .int .i64 (n : Int)) (hb : bytes * n ≤ 281474976710656) (h63 : n ≤ 9223372036854775807)
    (h : ∀ w1, w1.heap.size = w.heap.size + 1 → Blk w1 w.heap.size e (Array.replicate n z) → Ext w w1 → wpList P ops Q rest (a.put o.dst (.slice (some ⟨w.heap.size, 0, none⟩) n n)) w1) :
    wpList P ops Q (o :: rest) a w := by
  refine wpList_plain hgd fun K hK => ?_
  obtain ⟨i, hi, hzz⟩ := Option.map_eq_some_iff.1 hinfo
  simp only [Prod.mk.injEq] at hzz
  obtain ⟨hz, hs, hb'⟩ := hzz
  have hr := run_make (P := P) w t e i z ht hi hz .i64 .i64 n n (by omega) (by omega) (by rw [hb']; rw [← Int.natCast_mul]; omega) (by omega)
  simp only [Int.toNat_natCast, hs, Nat.mul_one, hz1, madeCells_one] at hr
  unfold Oper.wp execOp
  simp only [ho, hl, hc, Sem.run_bind, hr, Result.andThen_ok, Sem.run_pure]
  exact hK _ _ (h _ (by simp) (Blk.new w e _) ((Ext.refl w).alloc _))

/-- bytes, the first k of them laid; the last ones, from k on -/
def headC (l : List UInt8) (k : Nat) : Array Value := (bytesV (l.take k) ++ List.replicate (l.length - k) (Value.int .u8 0)).toArray
def tailC (l : List UInt8) (k : Nat) : Array Value := (List.replicate k (Value.int .u8 0) ++ bytesV (l.drop k)).toArray
theorem headC_zero (l : List UInt8) : headC l 0 = Array.replicate l.length (.int .u8 0) := by simp [headC, bytesV]
theorem headC_all (l : List UInt8) : headC l l.length = (bytesV l).toArray := by simp [headC]
theorem headC_size (l : List UInt8) (k : Nat) (h : k ≤ l.length) : (headC l k).size = l.length := by simp [headC, bytesV]; omega
theorem headC_set (l : List UInt8) (k : Nat) (h : k < l.length) : (headC l k).setIfInBounds k (.int .u8 ((l[k]?.getD 0).toNat : Int)) = headC l (k + 1) := by
  apply Array.ext'
  obtain ⟨m, hm⟩ : ∃ m, l.length - k = m + 1 := ⟨l.length - k - 1, by omega⟩
  have hm2 : l.length - (k + 1) = m := by omega
  have hl : (bytesV (l.take k)).length = k := by rw [bytesV_length]; simp; omega
  simp only [headC, hm, hm2, List.replicate_succ, Array.toList_setIfInBounds]
  rw [List.set_append_right _ _ (by omega), hl, Nat.sub_self, List.set_cons_zero, List.take_succ_eq_append_getElem h, bytesV_append]
  simp [bytesV, byteV, List.getElem?_eq_getElem h]
theorem tailC_full (l : List UInt8) : tailC l l.length = Array.replicate l.length (.int .u8 0) := by simp [tailC, bytesV]
theorem tailC_all (l : List UInt8) : tailC l 0 = (bytesV l).toArray := by simp [tailC]
theorem tailC_size (l : List UInt8) (k : Nat) (h : k ≤ l.length) : (tailC l k).size = l.length := by simp [tailC, bytesV]; omega
theorem tailC_set (l : List UInt8) (k : Nat) (h : k < l.length) : (tailC l (k + 1)).setIfInBounds k (.int .u8 ((l[k]?.getD 0).toNat : Int)) = tailC l k := by
  apply Array.ext'
  simp only [tailC, Array.toList_setIfInBounds]
  rw [List.replicate_succ', List.append_assoc, List.set_append_right _ _ (by simp)]
  simp only [List.length_replicate, Nat.sub_self, List.singleton_append, List.set_cons_zero]
  rw [show bytesV (l.drop k) = byteV l[k] :: bytesV (l.drop (k + 1)) from by rw [List.drop_eq_getElem_cons h]; rfl]
  simp [byteV, List.getElem?_eq_getElem h]

theorem putB_get (n size k : Nat) (h : k < size) : (putB n size)[k]?.getD 0 = UInt8.ofNat (n / 256 ^ (size - 1 - k)) := by
  simp [putB, h]
theorem byte_of (x : Nat) : ((UInt8.ofNat x).toNat : Int) = (x : Int) % 256 := by
  rw [UInt8.toNat_ofNat']; omega

theorem pow_bytes (m : Nat) : (256 : Nat) ^ m = 2 ^ (8 * m) := by rw [Nat.pow_mul]
theorem put_byte (n size k : Nat) (h : k < size) : Value.int .u8 ((n : Int) / 2 ^ (8 * (size - 1 - k)) % 256) = Value.int .u8 (((putB n size)[k]?.getD 0).toNat : Int) := by
  rw [putB_get n size k h, byte_of, pow_bytes]
  simp

/-- a block of cells is a slice of the call's own -/
theorem own_of_blk {w : World} {g base : Nat} {e : TypeId} {xs : List Value} (h : Blk w g e xs.toArray) (hb : base ≤ g) (hm : xs.length ≤ maxLen) : w.ownsRow base e 1 (.slice (some ⟨g, 0, none⟩) xs.length xs.length) xs.length xs :=
  ⟨by simp, .inr ⟨g, xs.length, xs.toArray, rfl, hb, h, Nat.le_refl _, hm, by simp, by simp⟩⟩

set_option maxRecDepth 100000 in
set_option maxHeartbeats 1000000 in
theorem oPut_any (n size : Nat) (h1 : 1 ≤ size) (h8 : size ≤ 8) (hn : n ≤ 1099511627776) (hfit : n < 256 ^ size) (w : World) :
    Calls Tryz.prog 41 #[.int .i64 (n : Int), .int .i64 (size : Int)] w fun e w' => ∃ v', e = .returned (.tuple #[v', .int .i64 0]) ∧ w'.ownsRow w.heap.size 5 1 v' size (bytesV (putB n size)) ∧ Ext w w' := by
  have hn' : (n : Int) ≤ 1099511627776 := by omega
  have hsh : size < 8 → (n : Int) / 2 ^ (8 * size) = 0 := by
    intro _
    apply Int.ediv_eq_zero_of_lt (by omega)
    have : (256 : Nat) ^ size = 2 ^ (8 * size) := by rw [Nat.pow_mul]
    rw [this] at hfit
    exact_mod_cast hfit
  have Hfit := Lib.hid hfit
  clear hfit hn
  have Hsh := Lib.hid hsh
  clear hsh
  have hcase : size < 8 ∧ (n : Int) / 2 ^ (8 * size) = 0 ∨ 8 ≤ size := by
    by_cases h : size < 8
    · exact .inl ⟨h, Hsh.out h⟩
    · exact .inr (by omega)
  have Hl : Hid ((putB n size).length = size) := putB_length n size
  rcases hcase with ⟨h, hs⟩ | h
  all_goals
    go_enter Tryz.func41, Tryz.ntmps41
    go_wp2_with (at_make; refine wpList_make_blk rfl 22 5 _ _ rfl (.int .u8 0) 1 Tryz.underlying22 info_u8 rfl size rfl rfl (by omega) (by omega) ?_; intro w1 hs1 hb1 E1)
    go_loopw [33] (fun i wr => ∃ k : Nat, k ≤ size ∧ i = .int .i64 k ∧ Blk wr w.heap.size 5 (headC (putB n size) k) ∧ Ext w wr) (fun i _ => size - (intOf i).toNat)
    case atStart => exact ⟨0, by omega, rfl, by rw [headC_zero, Hl.out]; exact hb1, E1⟩
    case round =>
      clear hb1 E1 hs1
      obtain ⟨k, hk, rfl, B, E⟩ := hrel
      by_cases hlt : k < size
      · have c0 : ∃ u, wr.cell? ⟨w.heap.size, k, none⟩ = some u := by rw [B.cell]; exact ⟨_, Array.getElem?_eq_getElem (by rw [headC_size _ _ (by rw [Hl.out]; omega), Hl.out]; exact hlt)⟩
        obtain ⟨u0, c0⟩ := c0
        have f0 := B.frozen k
        go_wp2
        go_roundw
        case rel =>
          refine ⟨k + 1, by omega, by go_num, ?_, E.setCell (by simp) _⟩
          rw [← headC_set _ _ (by rw [Hl.out]; exact hlt)]
          exact B.set_ (put_byte n size k hlt)
        case measure => simp [intOf]; omega
      · obtain rfl : k = size := by omega
        go_wp2
        go_ret2
        refine ⟨_, rfl, ?_, E⟩
        have hB : Blk wr w.heap.size 5 (bytesV (putB n k)).toArray := by have := headC_all (putB n k); rw [Hl.out] at this; rw [← this]; exact B
        have hf := own_of_blk hB (Nat.le_refl _) (by rw [bytesV_length, Hl.out]; unfold maxLen; omega)
        rw [bytesV_length, Hl.out] at hf
        exact hf

theorem div_pow_succ (n m : Nat) : n / 256 ^ m / 256 = n / 256 ^ (m + 1) := by rw [Nat.div_div_eq_div_mul, Nat.pow_succ]
theorem put_low (n size k : Nat) (h : k < size) : Value.int .u8 (((n / 256 ^ (size - (k + 1)) : Nat) : Int) % 256) = Value.int .u8 (((putB n size)[k]?.getD 0).toNat : Int) := by
  rw [putB_get n size k h, byte_of, show size - 1 - k = size - (k + 1) by omega]

set_option maxRecDepth 100000 in
set_option maxHeartbeats 1000000 in
theorem rPut_any (n size : Nat) (h1 : 1 ≤ size) (h8 : size ≤ 8) (hn : n ≤ 1099511627776) (hfit : n < 256 ^ size) (w : World) :
    Calls Tryz.prog 78 #[.int .i64 (n : Int), .int .i64 (size : Int)] w fun e w' => ∃ v', e = .returned (.tuple #[v', .bool true]) ∧ w'.ownsRow w.heap.size 5 1 v' size (bytesV (putB n size)) ∧ Ext w w' := by
  have hn' : (n : Int) ≤ 1099511627776 := by omega
  have Hfit := Lib.hid hfit
  clear hfit hn
  have Hl : Hid ((putB n size).length = size) := putB_length n size
  go_enter Tryz.func78, Tryz.ntmps78
  go_wp2_with (at_make; refine wpList_make_blk rfl 22 5 _ _ rfl (.int .u8 0) 1 Tryz.underlying22 info_u8 rfl size rfl rfl (by omega) (by omega) ?_; intro w1 hs1 hb1 E1)
  go_loopw [7, 0] (fun i m wr => ∃ k : Nat, k ≤ size ∧ i = .int .i64 ((k : Int) - 1) ∧ m = .int .i64 ((n / 256 ^ (size - k) : Nat) : Int) ∧ Blk wr w.heap.size 5 (tailC (putB n size) k) ∧ Ext w wr) (fun i _ _ => (intOf i + 1).toNat)
  case atStart => exact ⟨size, by omega, rfl, by simp, by have := tailC_full (putB n size); rw [Hl.out] at this; rw [this]; exact hb1, E1⟩
  case round =>
    clear hb1 E1 hs1
    obtain ⟨k, hk, rfl, rfl, B, E⟩ := hrel
    obtain ⟨q, hq⟩ : ∃ q, q = n / 256 ^ (size - k) := ⟨_, rfl⟩
    have hqn : (q : Int) ≤ 1099511627776 := by have := Nat.div_le_self n (256 ^ (size - k)); omega
    rw [← hq]
    have Hq := Lib.hid hq
    clear hq
    cases k with
    | zero =>
      have hq0 : q = 0 := by rw [Hq.out]; exact Nat.div_eq_of_lt Hfit.out
      subst hq0
      go_wp2
      go_ret2
      refine ⟨_, rfl, ?_, E⟩
      rw [tailC_all] at B
      have hf := own_of_blk B (Nat.le_refl _) (by rw [bytesV_length, Hl.out]; unfold maxLen; omega)
      rw [bytesV_length, Hl.out] at hf
      exact hf
    | succ j =>
      have c0 : ∃ u, wr.cell? ⟨w.heap.size, j, none⟩ = some u := by rw [B.cell]; exact ⟨_, Array.getElem?_eq_getElem (by rw [tailC_size _ _ (by rw [Hl.out]; omega), Hl.out]; omega)⟩
      obtain ⟨u0, c0⟩ := c0
      have f0 := B.frozen j
      go_wp2
      go_roundw
      case rel =>
        refine ⟨j, by omega, by go_num, ?_, ?_, E.setCell (by simp) _⟩
        · rw [show size - j = size - (j + 1) + 1 by omega, ← div_pow_succ, ← Hq.out]; simp
        · rw [← tailC_set _ _ (by rw [Hl.out]; omega)]
          exact B.set_ (by rw [Hq.out]; exact put_low n size j (by omega))
      case measure => simp [intOf]
end Go.Proofs.YtddbmddblhjkkaaGreatDoor
/- The hash in memory; contracts of sha.New, Len, Fork, Write. -/
namespace Go.Proofs.YtddbmddblhjkkaaGreatDoor
open Go.RowKit
attribute [local go_sem] Later.cell?
attribute [local go_sem ↓] Go.wp_at_zero Go.wp_at_succ

/-- a whole array or struct stored into a part of a block -/
theorem wpList_store_at {P : Program} {ops : Array Oper} {rest : List Oper} {o : Oper} {a : Act} {w : World} {Q : Exit → Act → World → Prop} (hgd : o.guard = none) (ty : TypeId) (x y : Operand) (ho : o.op = .store ty x y)
    (g off : Nat) (cells : Array Value) (hx : a.eval x = .pointer (some ⟨g, off, none⟩)) (hy : a.eval y = .agg cells) (t : TypeId) (cur : Array Value) (hg : Blk w g t cur)
    (hi : (P.info? ty).map (·.size) = some cells.size) (hfit : off + cells.size ≤ cur.size) (h1 : cells.all (·.oneCell') = true)
    (h : ∀ w1, w1.heap.size = w.heap.size → Blk w1 g t (cur.toList.take off ++ cells.toList ++ cur.toList.drop (off + cells.size)).toArray → w.grownBy w1 (some g) → wpList P ops Q rest (a.put o.dst undef) w1) : wpList P ops Q (o :: rest) a w := by
  refine wpList_plain hgd fun K hK => ?_
  have hst := run_storeCells_at P g off t cells.toList 0 cur w hg (by simpa using hfit) (fun v hv => (Array.all_eq_true_iff_forall_mem.1 h1) v (by simpa using hv))
  simp only [Nat.add_zero, Array.length_toList] at hst
  have hr : (storeVar ty ⟨g, off, none⟩ (.agg cells)).run P w = .ok () (w.setRow g (cur.toList.take off ++ cells.toList ++ cur.toList.drop (off + cells.size)).toArray) := by
    cases hq : P.info? ty with
    | none => simp [hq] at hi
    | some i =>
      have hs : cells.size = i.size := by simp [hq] at hi; omega
      simp [storeVar, sizeOf, typeInfo, hq, Value.cells, hs, hst]
  unfold Oper.wp execOp
  simp only [ho, hx, hy, Instr.storeAt, Instr.sureAddr, Sem.run_bind, Sem.run_pure, Result.andThen_ok, hr]
  exact hK _ _ (h (w.setRow g _) (by simp) (setRow_heap w g cur _ t (0, 0) hg) ⟨rfl, rfl, rfl, by simp, fun k _ hk => setRow_other w g k _ (fun e => hk (by rw [e]))⟩)

/-- the cells of a hash -/
def hashC (s : St) (rv : Value) (n : Nat) : Array Value := #[.int .u32 s.a, .int .u32 s.b, .int .u32 s.c, .int .u32 s.d, .int .u32 s.e, .int .u32 s.f, .int .u32 s.g, .int .u32 s.h, rv, .int .i64 (n : Int)]
/-- a hash: its state, the bytes that make no block yet, how many were written -/
def HashAt (w : World) (g : Nat) (s : St) (rest : List UInt8) (n : Nat) : Prop := ∃ A c, Blk w g 144 (hashC s (.slice A rest.length c) n) ∧ Sl w (.slice A rest.length c) rest
theorem HashAt.ext {w w' : World} {g : Nat} {s : St} {rest : List UInt8} {n : Nat} (h : HashAt w g s rest n) (he : Ext w w') : HashAt w' g s rest n := by
  obtain ⟨A, c, hb, hs⟩ := h
  exact ⟨A, c, hb.ext he, hs.ext he⟩
theorem HashAt.lt {w : World} {g : Nat} {s : St} {rest : List UInt8} {n : Nat} (h : HashAt w g s rest n) : g < w.heap.size := by
  obtain ⟨A, c, hb, hs⟩ := h
  exact hb.lt
/-- .. whose bytes lie in a block from base on -/
def HashIn (w : World) (base : Nat) (g : Nat) (s : St) (rest : List UInt8) (n : Nat) : Prop := ∃ A c, Blk w g 144 (hashC s (.slice A rest.length c) n) ∧ Sl w (.slice A rest.length c) rest ∧ ∀ ad : Addr, A = some ad → base ≤ ad.block
theorem HashIn.at_ {w : World} {base g : Nat} {s : St} {rest : List UInt8} {n : Nat} (h : HashIn w base g s rest n) : HashAt w g s rest n := by
  obtain ⟨A, c, hb, hs, _⟩ := h
  exact ⟨A, c, hb, hs⟩
theorem own_from {w : World} {base : Nat} {e : TypeId} {size : Nat} {A : Option Addr} {n m c : Nat} {xs : List Value} (h : w.ownsRow base e size (.slice A n c) m xs) : ∀ ad : Addr, A = some ad → base ≤ ad.block := by
  rintro ad rfl
  rcases h.2 with ⟨h, _⟩ | ⟨g, cap, cur, h, hb, _⟩
  · cases h
  · cases h; exact hb
theorem hash_noByte {w : World} {g : Nat} {s : St} {A : Option Addr} {m c n : Nat} (h : Blk w g 144 (hashC s (.slice A m c) n)) (o : Nat) (k : Int) : w.cell? ⟨g, o, none⟩ ≠ some (.int .u8 k) := by
  rw [h.cell]
  intro hc
  have := Array.mem_of_getElem? hc
  simp [hashC] at this
theorem hash_pos {w : World} {g : Nat} {s : St} {A : Option Addr} {m c n : Nat} (h : Blk w g 144 (hashC s (.slice A m c) n)) (hK : Kst w) : g ≠ 0 := by
  rintro rfl
  have h8 := hK 8 (.int .u32 3624381080) rfl
  have := h.cell (0 + 8)
  rw [h8] at this
  simp [hashC] at this
theorem Kst.grown {w w' : World} {g : Nat} (h : Kst w) (hg : w.grownBy w' (some g)) (h0 : g ≠ 0) : Kst w' := fun j v hv => hg.cell (h j v hv) (by simp; omega)

set_option maxRecDepth 100000 in
set_option maxHeartbeats 400000 in
theorem new_any (w : World) :
    Calls Tryz.prog 81 #[] w fun e w' => ∃ g, e = .returned (.pointer (some ⟨g, 0, none⟩)) ∧ w.heap.size ≤ g ∧ HashAt w' g start [] 0 ∧ Ext w w' := by
  go_enter Tryz.func81, Tryz.ntmps81
  go_wp2_with fail
  refine (start_any _).mono ?_
  rintro e w1 ⟨rfl, E1⟩
  unfold start St.vals
  go_wp2
  go_ret
  refine ⟨_, rfl, E1.size, ⟨none, 0, Blk.new w1 _ _, SlR.none_ _ _ _ _⟩, E1.alloc _⟩

set_option maxRecDepth 100000 in
set_option maxHeartbeats 400000 in
theorem fork_nil (w : World) : Calls Tryz.prog 94 #[.pointer none] w fun e w' => e = .returned (.pointer none) ∧ w = w' := by
  go_enter Tryz.func94, Tryz.ntmps94
  go_wp2
  go_ret
  exact ⟨rfl, rfl⟩

set_option maxRecDepth 100000 in
set_option maxHeartbeats 400000 in
theorem fork_in (g : Nat) (s : St) (rest : List UInt8) (n : Nat) (w : World) (h : HashAt w g s rest n) (hr : rest.length < 64) :
    Calls Tryz.prog 94 #[.pointer (some ⟨g, 0, none⟩)] w fun e w' => ∃ g', e = .returned (.pointer (some ⟨g', 0, none⟩)) ∧ w.heap.size ≤ g' ∧ HashIn w' w.heap.size g' s rest n ∧ Ext w w' := by
  obtain ⟨A, c, hb, hs⟩ := h
  have h0 : w.cell? ⟨g, 0, none⟩ = some (.int .u32 s.a) := hb.cell 0
  have h1 : w.cell? ⟨g, 1, none⟩ = some (.int .u32 s.b) := hb.cell 1
  have h2 : w.cell? ⟨g, 2, none⟩ = some (.int .u32 s.c) := hb.cell 2
  have h3 : w.cell? ⟨g, 3, none⟩ = some (.int .u32 s.d) := hb.cell 3
  have h4 : w.cell? ⟨g, 4, none⟩ = some (.int .u32 s.e) := hb.cell 4
  have h5 : w.cell? ⟨g, 5, none⟩ = some (.int .u32 s.f) := hb.cell 5
  have h6 : w.cell? ⟨g, 6, none⟩ = some (.int .u32 s.g) := hb.cell 6
  have h7 : w.cell? ⟨g, 7, none⟩ = some (.int .u32 s.h) := hb.cell 7
  have h8 : w.cell? ⟨g, 8, none⟩ = some (.slice A rest.length c) := hb.cell 8
  have h9 : w.cell? ⟨g, 9, none⟩ = some (.int .i64 (n : Int)) := hb.cell 9
  have Hb := Lib.hid hb
  have Hs := Lib.hid hs
  clear hb hs
  go_enter Tryz.func94, Tryz.ntmps94
  go_wp2
  go_region_held3 (fun w' => w'.cell? ⟨g, 0, none⟩ = some (.int .u32 s.a) ∧ w'.cell? ⟨g, 1, none⟩ = some (.int .u32 s.b) ∧ w'.cell? ⟨g, 2, none⟩ = some (.int .u32 s.c) ∧ w'.cell? ⟨g, 3, none⟩ = some (.int .u32 s.d) ∧ w'.cell? ⟨g, 4, none⟩ = some (.int .u32 s.e) ∧ w'.cell? ⟨g, 5, none⟩ = some (.int .u32 s.f) ∧ w'.cell? ⟨g, 6, none⟩ = some (.int .u32 s.g) ∧ w'.cell? ⟨g, 7, none⟩ = some (.int .u32 s.h) ∧ w'.cell? ⟨g, 8, none⟩ = some (.slice A rest.length c) ∧ w'.cell? ⟨g, 9, none⟩ = some (.int .i64 (n : Int)))
    (first | go_keep | (refine ⟨E1.cell h0, E1.cell h1, E1.cell h2, E1.cell h3, E1.cell h4, E1.cell h5, E1.cell h6, E1.cell h7, E1.cell h8, E1.cell h9⟩))
    (first | (go_at_call 24; refine (cloneB_any _ rest w.drew (Hs.out.ext (Ext.refl w).drew) (by omega)).mono ?_; rintro e w1 ⟨v', rfl, hown, E1'⟩; have E1 : Ext w w1 := (Ext.refl w).drew.trans E1'; clear E1'; obtain ⟨A', c', rfl, hc'⟩ := own_form hown))
  go_wp2
  go_ret
  exact ⟨_, rfl, E1.size, ⟨A', c', Blk.new w1 _ _, SlR.ext (SlR.of_own hown) ((Ext.refl w1).alloc _), own_from hown⟩, E1.alloc _⟩
theorem fork_any (g : Nat) (s : St) (rest : List UInt8) (n : Nat) (w : World) (h : HashAt w g s rest n) (hr : rest.length < 64) :
    Calls Tryz.prog 94 #[.pointer (some ⟨g, 0, none⟩)] w fun e w' => ∃ g', e = .returned (.pointer (some ⟨g', 0, none⟩)) ∧ w.heap.size ≤ g' ∧ HashAt w' g' s rest n ∧ Ext w w' :=
  (fork_in g s rest n w h hr).mono fun _ _ ⟨g', he, hg, hh, hx⟩ => ⟨g', he, hg, hh.at_, hx⟩
end Go.Proofs.YtddbmddblhjkkaaGreatDoor
/- The contract of (*sha.Hash).Write. -/
namespace Go.Proofs.YtddbmddblhjkkaaGreatDoor
open Go.RowKit
attribute [local go_sem] Later.cell?

def lenV : Value → Nat | .slice _ n _ => n | _ => 0

set_option maxRecDepth 100000 in
set_option maxHeartbeats 400000 in
theorem write_nil (v : Value) (w : World) : Calls Tryz.prog 82 #[.pointer none, v] w fun e w' => e = .returned (.int .i64 0) ∧ w = w' := by
  go_enter Tryz.func82, Tryz.ntmps82
  go_wp2
  go_ret
  exact ⟨rfl, rfl⟩

theorem slAll_new (w : World) (t : TypeId) (vs : List Value) (bss : List (List UInt8)) (hl : vs.length = bss.length) (h : ∀ (i : Nat) (bs : List UInt8), bss[i]? = some bs → ∃ v, vs[i]? = some v ∧ Sl w v bs) :
    SlAll (w.alloc (.cells vs.toArray t)) (.slice (some ⟨w.heap.size, 0, none⟩) bss.length bss.length) bss := by
  refine ⟨vs, SlR.of_cells (by omega) (Nat.le_refl _) (fun j v hv => ?_), fun i bs hi => ?_⟩
  · rw [Nat.zero_add, (Blk.new w t vs.toArray).cell]
    simpa using hv
  · obtain ⟨v, hv, hs⟩ := h i bs hi
    exact ⟨v, hv, hs.ext ((Ext.refl w).alloc _)⟩
theorem size_setCell (w : World) (p : Addr) (u : Value) : (w.setCell p u).heap.size = w.heap.size := by simp [World.setCell]
theorem grown_ext {a b c : World} {row : Option Nat} (h : a.grownBy b row) (he : Ext b c) : a.grownBy c row :=
  ⟨he.os.trans h.os, he.tape.trans h.tape, he.output.trans h.output, Nat.le_trans h.size he.size, fun k hk hr => (he.block k (Nat.lt_of_lt_of_le hk h.size)).trans (h.block k hk hr)⟩
theorem grown_trans {a b c : World} {row : Option Nat} (h : a.grownBy b row) (k : b.grownBy c row) : a.grownBy c row :=
  ⟨k.os.trans h.os, k.tape.trans h.tape, k.output.trans h.output, Nat.le_trans h.size k.size, fun i hi hr => (k.block i (Nat.lt_of_lt_of_le hi h.size) hr).trans (h.block i hi hr)⟩

theorem Sl.drop {w : World} {b o c k : Nat} {l : List UInt8} (h : Sl w (.slice (some ⟨b, o, none⟩) l.length c) l) (hk : k ≤ l.length) : Sl w (.slice (some ⟨b, o + k, none⟩) (l.length - k) (c - k)) (l.drop k) := by
  have hc := SlR.len_le h
  refine ⟨by simp [bytesV_length], some ⟨b, o + k, none⟩, c - k, by simp, by simp; omega, fun hn => ?_⟩
  obtain ⟨b', o', he, hx⟩ := SlR.here h (by simp at hn; omega)
  cases he
  refine ⟨b, o + k, rfl, fun j v hv => ?_⟩
  rw [bytesV_drop, List.getElem?_drop] at hv
  rw [Nat.add_assoc]
  exact hx _ v hv

theorem Blk.cast {w : World} {g : Nat} {t : TypeId} {cs cs' : Array Value} (h : Blk w g t cs) (e : cs = cs') : Blk w g t cs' := e ▸ h

/-- the loop of Write and what stands behind it, over what is to be fed -/
def WriteRel (w : World) (g : Nat) (f : St × List UInt8) (rv : Value) (n : Nat) (v : Value) (wr : World) : Prop :=
  ∃ (l : List UInt8) (s : St), Sl wr v l ∧ feed s l = f ∧ Blk wr g 144 (hashC s rv n) ∧ w.grownBy wr (some g) ∧ l.length ≤ 1073741904

set_option maxRecDepth 100000 in
set_option maxHeartbeats 2000000 in
theorem write_in (g : Nat) (s : St) (rest b : List UInt8) (n : Nat) (bv : Value) (w : World) (hK : Kst w) (hH : HashAt w g s rest n) (hb : Sl w bv b) (hr : rest.length < 64) (hn : n + b.length ≤ 1073740000) :
    Calls Tryz.prog 82 #[.pointer (some ⟨g, 0, none⟩), bv] w fun e w' => e = .returned (.int .i64 (b.length : Int)) ∧ HashIn w' w.heap.size g (feed s (rest ++ b)).1 (feed s (rest ++ b)).2 (n + b.length) ∧ w.grownBy w' (some g) := by
  obtain ⟨A, c, hB, hs⟩ := hH
  obtain ⟨Bb, cb, rfl, hcb⟩ := SlR.form hb
  have h8 : w.cell? ⟨g, 8, none⟩ = some (.slice A rest.length c) := hB.cell 8
  have h9 : w.cell? ⟨g, 9, none⟩ = some (.int .i64 (n : Int)) := hB.cell 9
  have f9 := hB.frozen 9
  have hg0 := hash_pos hB hK
  have Hg0 := Lib.hid hg0
  clear hg0
  have B1 : Blk (w.setCell ⟨g, 9, none⟩ (.int .i64 ((n : Int) + (b.length : Int)))) g 144 (hashC s (.slice A rest.length c) (n + b.length)) := by
    have := hB.set 9 (.int .i64 ((n : Int) + (b.length : Int)))
    simpa [hashC] using this
  have G1 : w.grownBy (w.setCell ⟨g, 9, none⟩ (.int .i64 ((n : Int) + (b.length : Int)))) (some g) := ⟨rfl, rfl, rfl, by simp [World.setCell], fun k _ hk => heap_setCell_other w _ k _ (fun e => hk (by rw [e]))⟩
  have S1 := hb.grown G1 (hash_noByte hB)
  have R1 := hs.grown G1 (hash_noByte hB)
  have HS := Lib.hid S1
  have HR := Lib.hid R1
  clear S1 R1 hs hb
  have hcases : rest.length < 1 ∨ 0 < rest.length := by omega
  have HB1 := Lib.hid B1
  have HG1 := Lib.hid G1
  clear B1 G1
  have hall : SlAll ((w.setCell ⟨g, 9, none⟩ (.int .i64 ((n : Int) + (b.length : Int)))).alloc (.cells #[.slice A rest.length c, .slice Bb b.length cb] 22)) (.slice (some ⟨w.heap.size, 0, none⟩) 2 2) [rest, b] := by
    have := slAll_new (w.setCell ⟨g, 9, none⟩ (.int .i64 ((n : Int) + (b.length : Int)))) 22 [.slice A rest.length c, .slice Bb b.length cb] [rest, b] rfl (by
      intro i bs hi
      rcases i with _ | _ | i
      · simp at hi; subst hi; exact ⟨_, rfl, HR.out⟩
      · simp at hi; subst hi; exact ⟨_, rfl, HS.out⟩
      · simp at hi)
    rw [size_setCell] at this
    exact this
  have Hcall := Lib.hid (concatB_any _ [rest, b] _ hall (by simp) (by simp [total]; omega))
  clear hall
  rcases hcases with h0 | hpos
  focus
    go_enter Tryz.func82, Tryz.ntmps82
    go_wp2
    have hstart : Hid (WriteRel w g (feed s (rest ++ b)) (.slice A rest.length c) (n + b.length) (.slice Bb b.length cb) (w.setCell ⟨g, 9, none⟩ (.int .i64 ((n : Int) + (b.length : Int))))) :=
      ⟨b, s, HS.out, by rw [List.eq_nil_of_length_eq_zero (show rest.length = 0 by omega)]; rfl, HB1.out, HG1.out, by omega⟩
  rotate_left
  focus
    go_enter Tryz.func82, Tryz.ntmps82
    go_wp2_with fail
    refine (Hcall.out).mono ?_
    rintro e w1 ⟨v1, rfl, hown, E1⟩
    obtain ⟨A1, c1, rfl, hc1⟩ := own_form hown
    have E2 : Ext (w.setCell ⟨g, 9, none⟩ (.int .i64 ((n : Int) + (b.length : Int)))) w1 := ((Ext.refl _).alloc _).trans E1
    have G2 : w.grownBy w1 (some g) := grown_ext HG1.out E2
    have hstart : Hid (WriteRel w g (feed s (rest ++ b)) (.slice A rest.length c) (n + b.length) (.slice A1 (rest.length + b.length) c1) w1) :=
      ⟨rest ++ b, s, by have := SlR.of_own hown; simpa [Sl] using this, rfl, HB1.out.ext E2, G2, by simp; omega⟩
    clear E2 G2 E1 hown
    go_wp2
  all_goals
    clear HB1 HG1 HS HR Hcall h8 h9 f9 hB
    go_loopw [5] (fun v wr => WriteRel w g (feed s (rest ++ b)) (.slice A rest.length c) (n + b.length) v wr) (fun v _ => lenV v)
    case atStart => exact hstart.out
    case round =>
      clear hstart
      obtain ⟨l, s', S, hf, B, G, hl⟩ := hrel
      obtain ⟨A2, c2, rfl, hc2⟩ := SlR.form S
      have HF := Lib.hid hf
      have HS := Lib.hid S
      have HG := Lib.hid G
      clear hf S G
      by_cases h64 : 64 ≤ l.length
      · obtain ⟨b0, o0, rfl, hcl⟩ := SlR.here HS.out (by omega)
        have Hcl := Lib.hid hcl
        clear hcl
        have a0 : wr.cell? ⟨g, 0, none⟩ = some (.int .u32 s'.a) := B.cell 0
        have a1 : wr.cell? ⟨g, 1, none⟩ = some (.int .u32 s'.b) := B.cell 1
        have a2 : wr.cell? ⟨g, 2, none⟩ = some (.int .u32 s'.c) := B.cell 2
        have a3 : wr.cell? ⟨g, 3, none⟩ = some (.int .u32 s'.d) := B.cell 3
        have a4 : wr.cell? ⟨g, 4, none⟩ = some (.int .u32 s'.e) := B.cell 4
        have a5 : wr.cell? ⟨g, 5, none⟩ = some (.int .u32 s'.f) := B.cell 5
        have a6 : wr.cell? ⟨g, 6, none⟩ = some (.int .u32 s'.g) := B.cell 6
        have a7 : wr.cell? ⟨g, 7, none⟩ = some (.int .u32 s'.h) := B.cell 7
        have hgl : g < wr.heap.size := B.lt
        have hblk : ∀ x : Later wr, Calls Tryz.prog 93 #[.agg s'.vals, .slice (some ⟨b0, o0, none⟩) 64 c2] x.w fun e w' => e = .returned (.agg (blk s' (l.take 64)).vals) ∧ Ext x.w w' := fun x =>
          block_yes s' (l.take 64) b0 o0 c2 (by omega) x.w (((hK.grown HG.out Hg0.out)).ext x.ext) (fun j hj => by
            have := x.ext.cell (Hcl.out j _ (bytesV_get l j (by omega)))
            rw [this]; simp [hj])
        have Hblk := Lib.hid hblk
        clear hblk
        obtain ⟨z, hz⟩ : ∃ z, z = blk s' (l.take 64) := ⟨_, rfl⟩
        rw [← hz] at Hblk
        have Hz := Lib.hid hz
        clear hz
        go_wp2
        refine wp_region_lat_tail 8 (by kernel_rfl) (by kernel_rfl) ?_
        simp only [List.take_succ_cons, List.take_zero, List.drop_succ_cons, List.drop_zero]
        repeat (go_big_quiet_step ((go_at_call 93; exact lat_call (Hblk.out _))))
        refine wpQuiet_nil ?_
        intro w5 E5
        have B5 := B.ext E5
        have HB5 := Lib.hid B5
        clear B5 a0 a1 a2 a3 a4 a5 a6 a7 B
        have hcc : 64 < c2 ∨ c2 = 64 := by omega
        go_wp2_with (refine wpList_store_at rfl 126 _ _ rfl g 0 z.vals rfl rfl 144 _ HB5.out info_a8 (by simp [hashC, St.vals]) (by simp [St.vals, Value.oneCell']) ?_; intro w6 hs6 hb6 hg6)
        all_goals
          refine ⟨⟨l.drop 64, z, ?_, ?_, ?_, ?_, ?_⟩, by simp [lenV]; omega⟩
          · have h6 := (HS.out.ext E5).grown hg6 (hash_noByte HB5.out)
            rcases hcc with hcc | hcc
            · first
                | exact Sl.drop h6 h64
                | (rw [if_neg (by omega)]; exact Sl.drop h6 h64)
                | (exfalso; omega)
            · have hd : l.drop 64 = [] := List.eq_nil_of_length_eq_zero (by simp; omega)
              rw [hd, show l.length - 64 = 0 by omega]
              exact SlR.none_ _ _ _ _
          · rw [← HF.out, feed_more s' l h64, ← Hz.out]
          · exact Blk.cast hb6 (by simp [hashC, St.vals])
          · exact grown_trans (grown_ext HG.out E5) hg6
          · simp; omega
      · have hlt : l.length < 64 := by omega
        have a8 : wr.cell? ⟨g, 8, none⟩ = some (.slice A rest.length c) := B.cell 8
        go_wp2_with fail
        refine (cloneB_any _ l _ HS.out (by omega)).mono ?_
        rintro e w7 ⟨v7, rfl, hown, E7⟩
        obtain ⟨A7, c7, rfl, hc7⟩ := own_form hown
        have a8' := E7.cell a8
        have f8 := (B.ext E7).frozen 8
        have HB7 := Lib.hid (B.ext E7)
        have Hown := Lib.hid hown
        clear hown B a8
        go_wp2
        go_ret
        have hfe : feed s (rest ++ b) = (s', l) := by rw [← HF.out, feed_less s' l hlt]
        have hG8 : w7.grownBy (w7.setCell ⟨g, 8, none⟩ (.slice A7 l.length c7)) (some g) := ⟨rfl, rfl, rfl, by simp [World.setCell], fun k _ hk => heap_setCell_other w7 _ k _ (fun e => hk (by rw [e]))⟩
        refine ⟨rfl, ?_, grown_trans (grown_ext HG.out E7) hG8⟩
        rw [hfe]
        refine ⟨A7, c7, Blk.cast (HB7.out.set 8 (.slice A7 l.length c7)) (by simp [hashC]), Sl.grown (SlR.of_own Hown.out) hG8 (hash_noByte HB7.out), fun ad had => ?_⟩
        have := own_from Hown.out ad had
        have := HG.out.size
        omega
theorem write_any (g : Nat) (s : St) (rest b : List UInt8) (n : Nat) (bv : Value) (w : World) (hK : Kst w) (hH : HashAt w g s rest n) (hb : Sl w bv b) (hr : rest.length < 64) (hn : n + b.length ≤ 1073740000) :
    Calls Tryz.prog 82 #[.pointer (some ⟨g, 0, none⟩), bv] w fun e w' => e = .returned (.int .i64 (b.length : Int)) ∧ HashAt w' g (feed s (rest ++ b)).1 (feed s (rest ++ b)).2 (n + b.length) ∧ w.grownBy w' (some g) :=
  (write_in g s rest b n bv w hK hH hb hr hn).mono fun _ _ ⟨he, hh, hx⟩ => ⟨he, hh.at_, hx⟩
end Go.Proofs.YtddbmddblhjkkaaGreatDoor
/- The contracts of (*sha.Hash).Sum and Reset. -/
namespace Go.Proofs.YtddbmddblhjkkaaGreatDoor
open Go.RowKit

def zb32 : Array Value := Array.replicate 32 (.int .u8 0)
theorem zero_a32 (w : World) : (zeroValue 33).run Tryz.prog w = .ok (.agg zb32) w := by kernel_rfl
theorem info_a32 : (Tryz.prog.info? 33).map (·.size) = some 32 := by kernel_rfl
theorem zb32_size (l : List UInt8) (h : l.length = 32) : zb32.size = (bytesV l).toArray.size := by simp [zb32, bytesV_length, h]
theorem info_hash : (Tryz.prog.info? 144).map (·.size) = some 10 := by kernel_rfl
theorem zb32_one : zb32.all (·.oneCell') = true := by decide +kernel
/-- a digest as a value -/
abbrev dgV (l : List UInt8) : Value := .agg (bytesV l).toArray
theorem bytes_one (l : List UInt8) : (bytesV l).toArray.all (·.oneCell') = true := Array.all_eq_true_iff_forall_mem.2 (fun v hv => bytesV_one l v (by simpa using hv))
theorem zb32_head (l : List UInt8) (h : l.length = 32) : headC l 0 = zb32 := by rw [headC_zero, h]; rfl

theorem oPut_int (a sz : Int) (n size : Nat) (ha : a = n) (hsz : sz = size) (h1 : 1 ≤ size) (h8 : size ≤ 8) (hn : n ≤ 1099511627776) (hfit : n < 256 ^ size) (w : World) :
    Calls Tryz.prog 41 #[.int .i64 a, .int .i64 sz] w fun e w' => ∃ v', e = .returned (.tuple #[v', .int .i64 0]) ∧ w'.ownsRow w.heap.size 5 1 v' size (bytesV (putB n size)) ∧ Ext w w' := by
  subst ha hsz
  exact oPut_any n size h1 h8 hn hfit w
theorem rPut_int (a sz : Int) (n size : Nat) (ha : a = n) (hsz : sz = size) (h1 : 1 ≤ size) (h8 : size ≤ 8) (hn : n ≤ 1099511627776) (hfit : n < 256 ^ size) (w : World) :
    Calls Tryz.prog 78 #[.int .i64 a, .int .i64 sz] w fun e w' => ∃ v', e = .returned (.tuple #[v', .bool true]) ∧ w'.ownsRow w.heap.size 5 1 v' size (bytesV (putB n size)) ∧ Ext w w' := by
  subst ha hsz
  exact rPut_any n size h1 h8 hn hfit w
theorem padB_small (n : Nat) : (padB n).length ≤ 80 := by simp [padB, putB_length]; omega
theorem sl_of_blk {w : World} {g : Nat} {t : TypeId} {l : List UInt8} (h : Blk w g t (bytesV l).toArray) : Sl w (.slice (some ⟨g, 0, none⟩) l.length l.length) l :=
  SlR.of_cells (by rw [bytesV_length]; omega) (Nat.le_refl _) (fun j v hv => by rw [Nat.zero_add, h.cell]; simpa using hv)
theorem hashC_get (z : St) (rv : Value) (n j : Nat) (h : j < 8) : (hashC z rv n)[j]? = some (.int .u32 (z.list[j]?.getD 0)) := by
  rcases j with _ | _ | _ | _ | _ | _ | _ | _ | j
  all_goals first | rfl | omega
theorem fit8 (n : Nat) (h : n ≤ 1099511627776) : n < 256 ^ 8 := by omega
theorem fit4 (n : Nat) (h : n ≤ 1073741824) : n < 256 ^ 4 := by omega
theorem fit2 (n : Nat) (h : n ≤ 255) : n < 256 ^ 2 := by omega

/-- a whole array out of its block -/
theorem wpList_load_blk {P : Program} {ops : Array Oper} {rest : List Oper} {o : Oper} {a : Act} {w : World} {Q : Exit → Act → World → Prop} {g : Nat} {t : TypeId} {cs : Array Value} (hg : Blk w g t cs) (hgd : o.guard = none) (ty : TypeId) (x : Operand) (ho : o.op = .load ty x)
    (hx : a.eval x = .pointer (some ⟨g, 0, none⟩)) {d : TypeDesc} (hu : P.underlying ty = some d) (hd : (match d with | .struct _ | .array _ _ => true | _ => false) = true) (hi : (P.info? ty).map (·.size) = some cs.size)
    (h : wpList P ops Q rest (a.put o.dst (.agg cs)) w) : wpList P ops Q (o :: rest) a w :=
  wpList_load_row hgd ty x ho g hx t cs (0, 0) d hg hu hd hi h
theorem ret_blk {P : Program} {fn : Func} {p : Tmp} {ty : TypeId} {tmps : Array Value} {w : World} {g : Nat} {t : TypeId} {cs : Array Value} (hg : Blk w g t cs) (h : fn.results = #[.cell p ty]) (hp : tmps.getD p undef = .pointer (some ⟨g, 0, none⟩))
    {d : TypeDesc} (hu : P.underlying ty = some d) (hd : (match d with | .struct _ | .array _ _ => true | _ => false) = true) (hi : (P.info? ty).map (·.size) = some cs.size) :
    (results fn tmps).run P w = .ok (.agg cs) w := results_cell_row h tmps w g t cs (0, 0) d hp hg hu hd hi

set_option maxRecDepth 100000 in
set_option maxHeartbeats 400000 in
theorem sum_nil (w : World) : Calls Tryz.prog 83 #[.pointer none] w fun e w' => e = .returned (.agg zb32) ∧ Ext w w' := by
  go_enter Tryz.func83, Tryz.ntmps83
  go_wp2_with (first | (have _ := hb1; refine wpList_alloc_blk rfl 33 rfl (.agg zb32) zero_a32 ?_; intro w2 hs2 hb2 he2; rw [hs1] at hb2) | (refine wpList_alloc_blk rfl 33 rfl (.agg zb32) zero_a32 ?_; intro w1 hs1 hb1 he1) | (refine wpList_load_blk hb2 rfl 33 _ rfl rfl Tryz.underlying33 rfl info_a32 ?_) | (refine wpList_store_blk rfl 33 _ _ rfl w.heap.size zb32 rfl rfl 33 zb32 (hb1.ext he2) info_a32 rfl zb32_one ?_; intro w3 hs3 hb3 hg3))
  refine bodyPost_ret (v := .agg zb32) (ret_blk hb3 rfl rfl Tryz.underlying33 rfl info_a32) rfl ?_
  exact ⟨rfl, (he1.trans he2).grown hg3 (by simp)⟩

set_option maxRecDepth 100000 in
set_option maxHeartbeats 2000000 in
theorem sum_any (g : Nat) (s : St) (rest : List UInt8) (n : Nat) (w : World) (hK : Kst w) (hH : HashAt w g s rest n) (hr : rest.length < 64) (hmod : n % 64 = rest.length) (hn : n ≤ 1073730000) :
    Calls Tryz.prog 83 #[.pointer (some ⟨g, 0, none⟩)] w fun e w' => e = .returned (dgV (outB (feed s (rest ++ padB n)).1)) ∧ Ext w w' := by
  have HH := Lib.hid hH
  have Hmod := Lib.hid hmod
  clear hH hmod
  go_enter Tryz.func83, Tryz.ntmps83
  go_wp2_with (first | (have _ := hb0; refine wpList_alloc_blk rfl 33 rfl (.agg zb32) zero_a32 ?_; intro w1 hs1 hb1 he1; rw [hs0] at hb1) | (refine wpList_alloc_blk rfl 33 rfl (.agg zb32) zero_a32 ?_; intro w0 hs0 hb0 he0))
  have E1 : Ext w w1 := he0.trans he1
  have B1 : Blk w1 w.heap.size 33 zb32 := hb0.ext he1
  have B2 : Blk w1 (w.heap.size + 1) 33 zb32 := hb1
  clear hs0 hb0 he0 hs1 hb1 he1
  refine (fork_any g s rest n _ (HH.out.ext E1) hr).mono ?_
  rintro e w2 ⟨g', rfl, hg', H2, E2⟩
  have h9 : w2.cell? ⟨g, 9, none⟩ = some (.int .i64 (n : Int)) := by obtain ⟨A, c, hb, _⟩ := HH.out.ext (E1.trans E2); exact hb.cell 9
  obtain ⟨A2, c2, Hb2, Hs2⟩ := id H2
  have h8 : w2.cell? ⟨g', 8, none⟩ = some (.slice A2 rest.length c2) := Hb2.cell 8
  have HH2 := Lib.hid H2
  clear Hb2 Hs2 H2
  go_wp2_with fail
  refine (oPut_int _ _ (8 * n) 8 (by omega) rfl (by omega) (by omega) (by omega) (fit8 _ (by omega)) _).mono ?_
  rintro e w3 ⟨v3, rfl, O3, E3⟩
  obtain ⟨A3, c3, rfl, hc3⟩ := own_form O3
  have HO3 := Lib.hid O3
  clear O3
  go_wp2_with (at_make; refine wpList_make_blk rfl 22 5 _ _ rfl (.int .u8 0) 1 Tryz.underlying22 info_u8 rfl ((119 - rest.length) % 64) (by simp [Act.eval]; omega) (by simp [Act.eval]; omega) (by omega) (by omega) ?_; intro w4 hs4 hb4 he4)
  have hz4 : w4.heap.size = w3.heap.size + 1 + 1 := by rw [hs4]; simp
  have Hz4 := Lib.hid hz4
  have hb4' : Blk w4 (w3.heap.size + 1) 5 (Array.replicate ((119 - rest.length) % 64) (.int .u8 0)) := by simpa using hb4
  have b128 : Blk w4 w3.heap.size 5 #[.int .u8 128] := (Blk.new w3 5 #[.int .u8 128]).ext he4
  have E34 : Ext w3 w4 := ((Ext.refl w3).alloc _).trans he4
  have hall : SlAll (w4.alloc (.cells #[.slice (some ⟨w3.heap.size, 0, none⟩) 1 1, .slice (some ⟨w3.heap.size + 1, 0, none⟩) ((119 - rest.length) % 64) ((119 - rest.length) % 64), .slice A3 8 c3] 22)) (.slice (some ⟨w3.heap.size + 1 + 1, 0, none⟩) 3 3)
      [[128], List.replicate ((119 - rest.length) % 64) 0, putB (8 * n) 8] := by
    have := slAll_new w4 22 [.slice (some ⟨w3.heap.size, 0, none⟩) 1 1, .slice (some ⟨w3.heap.size + 1, 0, none⟩) ((119 - rest.length) % 64) ((119 - rest.length) % 64), .slice A3 8 c3] [[128], List.replicate ((119 - rest.length) % 64) 0, putB (8 * n) 8] rfl (by
      intro i bs hi
      rcases i with _ | _ | _ | i
      · simp at hi; subst hi; exact ⟨_, rfl, sl_of_blk (l := [128]) b128⟩
      · simp at hi; subst hi
        refine ⟨_, rfl, ?_⟩
        have h5 := sl_of_blk (l := List.replicate ((119 - rest.length) % 64) 0) (w := w4) (g := w3.heap.size + 1) (t := 5) (by simpa [bytesV, byteV] using hb4')
        simpa using h5
      · simp at hi; subst hi; exact ⟨_, rfl, by have h6 := SlR.ext (SlR.of_own HO3.out) E34; rw [Sl, putB_length]; exact h6⟩
      · simp at hi)
    rw [hz4] at this
    exact this
  have hpad : [[128], List.replicate ((119 - rest.length) % 64) 0, putB (8 * n) 8].flatten = padB n := by simp [padB, Hmod.out]
  have Hcall := Lib.hid (concatB_any _ _ _ hall (by simp) (by rw [total, hpad]; have := padB_small n; omega))
  rw [hpad] at Hcall
  clear hall hpad hb4 hb4' b128 hz4 hs4
  refine Hcall.out.mono ?_
  rintro e w5 ⟨v5, rfl, O5, E5⟩
  obtain ⟨A5, c5, rfl, hc5⟩ := own_form O5
  have E45 : Ext w2 w5 := E3.trans (E34.trans (((Ext.refl w4).alloc _).trans E5))
  have K5 := hK.ext ((E1.trans E2).trans E45)
  have hps := padB_small n
  have Hwr := Lib.hid (write_any g' s rest (padB n) n _ w5 K5 (HH2.out.ext E45) (SlR.of_own O5) hr (by omega))
  clear Hcall O5 K5
  go_wp2_with fail
  refine Hwr.out.mono ?_
  rintro e w6 ⟨rfl, H6, G6⟩
  clear Hwr
  obtain ⟨z, hz⟩ : ∃ z, z = (feed s (rest ++ padB n)).1 := ⟨_, rfl⟩
  rw [← hz] at H6
  have Hz := Lib.hid hz
  clear hz
  obtain ⟨A6, c6, D3, _⟩ := H6
  have hlt5 : w.heap.size + 1 < w1.heap.size := B2.lt
  have hne : g' ≠ w.heap.size ∧ g' ≠ w.heap.size + 1 := by omega
  have E15 : Ext w1 w5 := E2.trans E45
  have D1 := (B1.ext E15).grown G6 (by simp; omega)
  have D2 := (B2.ext E15).grown G6 (by simp; omega)
  have E6 : Ext w w6 := (E1.trans E15).grown G6 (by simp; have := E1.size; omega)
  have Hl : Hid ((outB z).length = 32) := outB_length z
  clear B1 B2 E1 E2 E3 E34 E5 E45 E15 G6 he4 HO3 h8 h9 HH2 HH
  go_wp2
  go_loopw [38] (fun i wr => ∃ k : Nat, k ≤ 32 ∧ i = .int .i64 k ∧ Blk wr w.heap.size 33 zb32 ∧ Blk wr (w.heap.size + 1) 33 (headC (outB z) k) ∧ Blk wr g' 144 (hashC z (.slice A6 (feed s (rest ++ padB n)).2.length c6) (n + (padB n).length)) ∧ Ext w wr) (fun i _ => 32 - (intOf i).toNat)
  case atStart => exact ⟨0, by omega, rfl, D1, by rw [zb32_head _ Hl.out]; exact D2, D3, E6⟩
  case round =>
    clear D1 D2 D3 E6
    obtain ⟨k, hk, rfl, D1, D2, D3, E6⟩ := hrel
    by_cases hlt : k < 32
    · have hc : wr.cell? ⟨g', k / 4, none⟩ = some (.int .u32 (z.list[k / 4]?.getD 0)) := by rw [D3.cell]; exact hashC_get z _ _ _ (by omega)
      have c0 : ∃ u, wr.cell? ⟨w.heap.size + 1, k, none⟩ = some u := by rw [D2.cell]; exact ⟨_, Array.getElem?_eq_getElem (by rw [headC_size _ _ (by rw [Hl.out]; omega), Hl.out]; exact hlt)⟩
      obtain ⟨u0, c0⟩ := c0
      have f0 := D2.frozen k
      go_wp2
      go_roundw
      case rel =>
        refine ⟨k + 1, by omega, by go_num, D1.far (by simp) _, ?_, D3.far (by simp; omega) _, E6.setCell (by simp) _⟩
        rw [← headC_set _ _ (by rw [Hl.out]; exact hlt)]
        exact D2.set_ (by rw [outB_get _ _ hlt, Option.getD_some, u8_toNat])
      case measure => simp [intOf]; omega
    · obtain rfl : k = 32 := by omega
      have D2' : Blk wr (w.heap.size + 1) 33 (bytesV (outB z)).toArray := by have := headC_all (outB z); rw [Hl.out] at this; rw [← this]; exact D2
      have hz32 : Hid (zb32.size = (bytesV (outB z)).toArray.size) := zb32_size _ Hl.out
      have hi32 : Hid ((Tryz.prog.info? 33).map (·.size) = some (bytesV (outB z)).toArray.size) := by rw [List.size_toArray, bytesV_length, Hl.out]; exact info_a32
      go_wp2_with (first | (refine wpList_load_blk D2' rfl 33 _ rfl rfl Tryz.underlying33 rfl hi32.out ?_) | (refine wpList_store_blk rfl 33 _ _ rfl w.heap.size (bytesV (outB z)).toArray rfl rfl 33 zb32 D1 hi32.out hz32.out (bytes_one _) ?_; intro w7 hs7 hb7 hg7))
      refine bodyPost_ret (v := dgV (outB z)) (ret_blk hb7 rfl rfl Tryz.underlying33 rfl hi32.out) rfl ?_
      exact ⟨by rw [Hz.out], E6.grown hg7 (by simp)⟩

end Go.Proofs.YtddbmddblhjkkaaGreatDoor
/- The contract of sha.Of. -/
namespace Go.Proofs.YtddbmddblhjkkaaGreatDoor
open Go.RowKit

set_option maxRecDepth 100000 in
set_option maxHeartbeats 1000000 in
theorem of_any (pv : Value) (bss : List (List UInt8)) (w : World) (hK : Kst w) (hv : SlAll w pv bss) (hn : bss.length ≤ 1073741824) (hlen : total bss ≤ 1073730000) :
    Calls Tryz.prog 71 #[pv] w fun e w' => e = .returned (dgV (sumB bss.flatten)) ∧ Ext w w' := by
  obtain ⟨A, c, rfl, hc⟩ := hv.form
  have HV := Lib.hid hv
  clear hv
  go_enter Tryz.func71, Tryz.ntmps71
  go_wp2_with (first | (refine wpList_alloc_blk rfl 33 rfl (.agg zb32) zero_a32 ?_; intro w1 hs1 hb1 he1))
  refine (new_any _).mono ?_
  rintro e w2 ⟨g, rfl, hg, H2, E2⟩
  have B2 := hb1.ext E2
  have E12 := he1.trans E2
  have hne : w.heap.size < g := by omega
  clear hs1 hb1 he1 E2 hg
  go_wp2
  go_loopw [9] (fun i wr => ∃ k : Nat, k ≤ bss.length ∧ i = .int .i64 k ∧ Blk wr w.heap.size 33 zb32 ∧ HashAt wr g (feed start (bss.take k).flatten).1 (feed start (bss.take k).flatten).2 (total (bss.take k)) ∧ Ext w wr) (fun i _ => bss.length - (intOf i).toNat)
  case atStart => exact ⟨0, by omega, rfl, B2, by rw [List.take_zero, List.flatten_nil, feed_less start [] (by simp)]; exact H2, E12⟩
  case round =>
    clear B2 H2 E12
    obtain ⟨k, hk, rfl, B2, H2, E2⟩ := hrel
    by_cases hlt : k < bss.length
    · obtain ⟨b, o, B, d, rfl, hcell, hs⟩ := HV.out.at_ hlt
      have hcell2 := E2.cell hcell
      have h1 := total_take_succ bss k hlt
      have h2 := total_take_le bss (k + 1)
      have Hw := Lib.hid (write_any g _ _ bss[k] _ _ wr (hK.ext E2) H2 (hs.ext E2) (feed_rest_lt _ _) (by omega))
      have H1 := Lib.hid h1
      clear h1 h2 H2 hs
      go_wp2_with fail
      refine Hw.out.mono ?_
      rintro e w3 ⟨rfl, H3, G3⟩
      clear Hw
      have hfl : (bss.take (k + 1)).flatten = (bss.take k).flatten ++ bss[k] := by rw [List.take_succ_eq_append_getElem hlt, List.flatten_append]; simp
      have H3' : Hid (HashAt w3 g (feed start (bss.take (k + 1)).flatten).1 (feed start (bss.take (k + 1)).flatten).2 (total (bss.take (k + 1)))) := by
        rw [hfl, feed_append start, H1.out]; exact H3
      clear H3 hfl
      have B3 := B2.grown G3 (by simp; omega)
      have E3 := E2.grown G3 (by simp; omega)
      go_wp2
      go_roundw
      case rel => exact ⟨k + 1, by omega, by go_num, B3, H3'.out, E3⟩
      case measure => simp [intOf]; omega
    · obtain rfl : k = bss.length := by omega
      rw [List.take_length] at H2
      have Hs := Lib.hid (sum_any g _ _ _ wr (hK.ext E2) H2 (feed_rest_lt _ _) (by rw [feed_rest_mod]; rfl) hlen)
      have hsum : Hid (outB (feed (feed start bss.flatten).1 ((feed start bss.flatten).2 ++ padB (total bss))).1 = sumB bss.flatten) := (sumB_of_rest _).symm
      rw [hsum.out] at Hs
      have hl := sumB_length bss.flatten
      obtain ⟨z, hz⟩ : ∃ z, z = sumB bss.flatten := ⟨_, rfl⟩
      rw [← hz] at Hs hl
      have Hz := Lib.hid hz
      have Hl := Lib.hid hl
      clear hz hl H2 hsum
      have hz32 : Hid (zb32.size = (bytesV z).toArray.size) := zb32_size _ Hl.out
      have hi32 : Hid ((Tryz.prog.info? 33).map (·.size) = some (bytesV z).toArray.size) := by rw [List.size_toArray, bytesV_length, Hl.out]; exact info_a32
      go_wp2_with fail
      refine Hs.out.mono ?_
      rintro e w3 ⟨rfl, E3⟩
      have B3 := B2.ext E3
      go_wp2_with (first | (refine wpList_store_blk rfl 33 _ _ rfl w.heap.size (bytesV z).toArray rfl rfl 33 zb32 B3 hi32.out hz32.out (bytes_one _) ?_; intro w7 hs7 hb7 hg7))
      refine bodyPost_ret (v := dgV z) (ret_blk hb7 rfl rfl Tryz.underlying33 rfl hi32.out) rfl ?_
      exact ⟨by rw [Hz.out], (E2.trans E3).grown hg7 (by simp)⟩
end Go.Proofs.YtddbmddblhjkkaaGreatDoor
/- The contract of pursuivantref02.Block. -/
namespace Go.Proofs.YtddbmddblhjkkaaGreatDoor
open Go.RowKit
attribute [local go_sem] Later.cell?

theorem turn_int (x k : Int) (h1 : 1 ≤ k) (h2 : k ≤ 31) (w : World) :
    Calls Tryz.prog 89 #[.int .u32 x, .int .u64 k] w fun e w' => e = .returned (.int .u32 (rotr x k.toNat)) ∧ w = w' := by
  obtain ⟨n, rfl⟩ := Int.eq_ofNat_of_zero_le (show 0 ≤ k by omega)
  exact turn_any x n (by omega) (by omega) w

theorem word_bytes (b : List UInt8) (t : Nat) : word b t = bits .or .u32 (bits .or .u32 (bits .or .u32 (((b[4 * t]?.getD 0).toNat : Int) % 4294967296 * 16777216 % 4294967296) (((b[4 * t + 1]?.getD 0).toNat : Int) % 4294967296 * 65536 % 4294967296)) (((b[4 * t + 2]?.getD 0).toNat : Int) % 4294967296 * 256 % 4294967296)) (((b[4 * t + 3]?.getD 0).toNat : Int) % 4294967296) := by
  have l0 := (b[4 * t]?.getD 0).toNat_lt
  have l1 := (b[4 * t + 1]?.getD 0).toNat_lt
  have l2 := (b[4 * t + 2]?.getD 0).toNat_lt
  have l3 := (b[4 * t + 3]?.getD 0).toNat_lt
  rw [Int.emod_eq_of_lt (a := ((b[4 * t]?.getD 0).toNat : Int)) (by omega) (by omega), Int.emod_eq_of_lt (a := ((b[4 * t + 1]?.getD 0).toNat : Int)) (by omega) (by omega), Int.emod_eq_of_lt (a := ((b[4 * t + 2]?.getD 0).toNat : Int)) (by omega) (by omega), Int.emod_eq_of_lt (a := ((b[4 * t + 3]?.getD 0).toNat : Int)) (by omega) (by omega)]
  simp [word, or32, shl32]

theorem zero_a8 (w : World) : (zeroValue 126).run Tryz.prog w = .ok (.agg (cells32 zeroSt.list)) w := by kernel_rfl
theorem u32_max : IntKind.u32.max = 4294967295 := rfl
theorem plus_comm (s r : St) : s.plus r = r.plus s := by simp [St.plus, add32, Int.add_comm]

set_option maxRecDepth 100000 in
set_option maxHeartbeats 1000000 in
theorem rblock_no (s : St) (A : Option Addr) (n c : Nat) (hn : ((n : Int) != 64) = true) (w : World) :
    Calls Tryz.prog 80 #[.agg s.vals, .slice A n c] w fun e w' => e = .returned (.agg zeroSt.vals) ∧ Ext w w' := by
  unfold St.vals
  go_enter Tryz.func80, Tryz.ntmps80
  go_wp2
  refine bodyPost_ret (v := .agg zeroSt.vals) (by simp [results, Tryz.results80, go_sem, zeroSt, St.vals]) rfl ?_
  exact ⟨rfl, ((Ext.refl w).alloc _).alloc _⟩

set_option maxRecDepth 100000 in
set_option maxHeartbeats 4000000 in
theorem rblock_yes (s : St) (bs : List UInt8) (b o c : Nat) (w : World)
    (hcell : ∀ j, j < 64 → w.cell? ⟨b, o + j, none⟩ = some (.int .u8 ((bs[j]?.getD 0).toNat : Int))) :
    Calls Tryz.prog 80 #[.agg s.vals, .slice (some ⟨b, o, none⟩) 64 c] w fun e w' => e = .returned (.agg (blk s bs).vals) ∧ Ext w w' := by
  have Hcell := Lib.hid hcell
  clear hcell
  show Calls Tryz.prog 80 #[.agg #[.int .u32 s.a, .int .u32 s.b, .int .u32 s.c, .int .u32 s.d, .int .u32 s.e, .int .u32 s.f, .int .u32 s.g, .int .u32 s.h], .slice (some ⟨b, o, none⟩) 64 c] w _
  go_enter Tryz.func80, Tryz.ntmps80
  go_wp2_with (first | (refine wpList_alloc_blk rfl 140 rfl (.agg (zeros 64)) zero_a64 ?_; intro w2 hs2 hb2 he2))
  have B0 : Blk w2 w.heap.size 126 (cells32 s.list) := ((Blk.new w _ _).alloc _).ext he2
  have B1 : Blk w2 (w.heap.size + 1) 126 (cells32 zeroSt.list) := by
    have := Blk.new (w.alloc (.cells (cells32 s.list) 126)) 126 (cells32 zeroSt.list)
    rw [World.size_alloc] at this
    exact this.ext he2
  have B2 : Blk w2 (w.heap.size + 1 + 1) 140 (zeros 64) := by simpa [Value.cells] using hb2
  have E2 : Ext w w2 := (((Ext.refl w).alloc _).alloc _).trans he2
  clear hs2 hb2 he2
  go_loopw [6] (fun i wr => ∃ t : Nat, t ≤ 64 ∧ i = .int .i64 t ∧ Blk wr w.heap.size 126 (cells32 s.list) ∧ Blk wr (w.heap.size + 1) 126 (cells32 zeroSt.list) ∧ Blk wr (w.heap.size + 1 + 1) 140 (wcells (ws bs t)) ∧ Ext w wr)
    (fun i _ => 64 - (intOf i).toNat)
  case atStart => exact ⟨0, by omega, rfl, B0, B1, by rw [ws, wcells_nil]; exact B2, E2⟩
  case round =>
    clear B0 B1 B2 E2
    obtain ⟨t, ht, rfl, B0, B1, B2, E2⟩ := hrel
    obtain ⟨W, hW⟩ : ∃ W, W = ws bs t := ⟨_, rfl⟩
    rw [← hW] at B2
    have hWl : Hid (W.length = t) := by rw [hW]; exact ws_length bs t
    have HW := Lib.hid hW
    clear hW
    by_cases hlt : t < 64
    · have c0 : ∃ u, wr.cell? ⟨w.heap.size + 1 + 1, t, none⟩ = some u := by rw [B2.cell]; exact ⟨_, Array.getElem?_eq_getElem (by rw [wcells_size _ (by rw [hWl.out]; omega)]; exact hlt)⟩
      obtain ⟨u0, c0⟩ := c0
      have f0 := B2.frozen t
      have hg : w.heap.size + 1 + 1 < wr.heap.size := B2.lt
      by_cases h16 : t < 16
      · have d0 := E2.cell (Hcell.out (4 * t) (by omega))
        have d1 := E2.cell (Hcell.out (4 * t + 1) (by omega))
        have d2 := E2.cell (Hcell.out (4 * t + 2) (by omega))
        have d3 := E2.cell (Hcell.out (4 * t + 3) (by omega))
        have hb : b < wr.heap.size := World.block_lt_of_cell? _ _ d0
        go_wp2
        refine wp_region_lat_tail 35 (by kernel_rfl) (by kernel_rfl) ?_
        simp only [List.take_succ_cons, List.take_zero, List.drop_succ_cons, List.drop_zero]
        repeat (go_big_quiet_step (fail))
        refine wpQuiet_nil ?_
        intro w5 E5
        have c5 : w5.cell? ⟨w.heap.size + 1 + 1, t, none⟩ = some u0 := E5.cell c0
        have f5 := (B2.ext E5).frozen t
        go_wp2
        go_roundw
        case rel =>
          refine ⟨t + 1, by omega, by go_num, (B0.ext E5).far (by simp <;> omega) _, (B1.ext E5).far (by simp <;> omega) _, ?_, (E2.trans E5).setCell (by simp <;> omega) _⟩
          have h9 := wcells_snoc W (word bs t) (by rw [hWl.out]; exact hlt)
          rw [hWl.out] at h9
          rw [ws, if_pos h16, ← HW.out, ← h9]
          exact (B2.ext E5).set_ (by rw [word_bytes])
        case measure => simp [intOf]; omega
      · have c15 : wr.cell? ⟨w.heap.size + 1 + 1, t - 15, none⟩ = some (.int .u32 (W[t - 15]?.getD 0)) := by rw [B2.cell, wcells_get _ _ (by rw [hWl.out]; omega)]
        have c2 : wr.cell? ⟨w.heap.size + 1 + 1, t - 2, none⟩ = some (.int .u32 (W[t - 2]?.getD 0)) := by rw [B2.cell, wcells_get _ _ (by rw [hWl.out]; omega)]
        have c16 : wr.cell? ⟨w.heap.size + 1 + 1, t - 16, none⟩ = some (.int .u32 (W[t - 16]?.getD 0)) := by rw [B2.cell, wcells_get _ _ (by rw [hWl.out]; omega)]
        have c7 : wr.cell? ⟨w.heap.size + 1 + 1, t - 7, none⟩ = some (.int .u32 (W[t - 7]?.getD 0)) := by rw [B2.cell, wcells_get _ _ (by rw [hWl.out]; omega)]
        go_wp2
        refine wp_region_lat (by kernel_rfl) (by kernel_rfl) ?_
        repeat (go_big_quiet_step (fail))
        refine wpQuiet_nil ?_
        intro w5 E5
        have c16' := E5.cell c16
        have c7' := E5.cell c7
        have hg' : w.heap.size + 1 + 1 < w5.heap.size := Nat.lt_of_lt_of_le hg E5.size
        have c0' : w5.cell? ⟨w.heap.size + 1 + 1, t, none⟩ = some u0 := E5.cell c0
        go_wp2
        refine wp_region_lat_tail 29 (by kernel_rfl) (by kernel_rfl) ?_
        simp only [List.take_succ_cons, List.take_zero, List.drop_succ_cons, List.drop_zero]
        repeat (go_big_quiet_step ((go_at_call 89; exact lat_same (turn_int _ _ (by omega) (by omega) _))))
        refine wpQuiet_nil ?_
        intro w6 E6
        have B6 := (B2.ext E5).ext E6
        have c6 : w6.cell? ⟨w.heap.size + 1 + 1, t, none⟩ = some u0 := E6.cell c0'
        have f6 := B6.frozen t
        go_wp2
        go_roundw
        case rel =>
          refine ⟨t + 1, by omega, by go_num, ((B0.ext E5).ext E6).far (by simp <;> omega) _, ((B1.ext E5).ext E6).far (by simp <;> omega) _, ?_, ((E2.trans E5).trans E6).setCell (by simp <;> omega) _⟩
          have h9 := wcells_snoc W (next W t) (by rw [hWl.out]; exact hlt)
          rw [hWl.out] at h9
          rw [ws, if_neg h16, ← HW.out, ← h9]
          exact B6.set_ (by simp [next, sm0, sm1, xor32, shr32])
        case measure => simp [intOf]; omega
    · obtain rfl : t = 64 := by omega
      obtain ⟨wo, rfl⟩ : ∃ wo : World, wo = wr := ⟨_, rfl⟩
      go_wp2_with (first | (refine wpList_load_row rfl 126 _ rfl w.heap.size rfl 126 (cells32 s.list) (0, 0) _ B0 Tryz.underlying126 rfl info_a8 ?_) | (refine wpList_alloc_blk rfl 126 rfl (.agg (cells32 zeroSt.list)) zero_a8 ?_; intro w3 hs3 hb3 he3) | (refine wpList_store_blk rfl 126 _ _ rfl wo.heap.size (cells32 s.list) rfl rfl 126 (cells32 zeroSt.list) hb3 info_a8 rfl (cells32_one _) ?_; intro w4 hs4 hb4 hg4))
      have hz : w.heap.size + 1 + 1 < wo.heap.size := B2.lt
      have D0 := (B0.ext he3).grown hg4 (by simp <;> omega)
      have D1 := (B1.ext he3).grown hg4 (by simp <;> omega)
      have D2 := (B2.ext he3).grown hg4 (by simp <;> omega)
      have E4 : Ext w w4 := (E2.trans he3).grown hg4 (by simp <;> omega)
      clear hs3 hb3 he3 hs4 hg4 B0 B1 B2 E2
      go_loopw [10] (fun i wr => ∃ t : Nat, t ≤ 64 ∧ i = .int .i64 t ∧ Blk wr w.heap.size 126 (cells32 s.list) ∧ Blk wr (w.heap.size + 1) 126 (cells32 zeroSt.list) ∧ Blk wr (w.heap.size + 1 + 1) 140 (wcells W)
          ∧ Blk wr wo.heap.size 126 (cells32 (rounds s W t).list) ∧ Ext w wr) (fun i _ => 64 - (intOf i).toNat)
      case atStart => exact ⟨0, by omega, rfl, D0, D1, D2, by rw [rounds]; exact hb4, E4⟩
      case round =>
        clear D0 D1 D2 E4 hb4
        obtain ⟨t, ht, rfl, D0, D1, D2, D3, E4⟩ := hrel
        obtain ⟨R, hR⟩ : ∃ R, R = rounds s W t := ⟨_, rfl⟩
        rw [← hR] at D3
        have HR := Lib.hid hR
        clear hR
        by_cases hlt : t < 64
        · have a0 : wr.cell? ⟨wo.heap.size, 0, none⟩ = some (.int .u32 R.a) := by rw [D3.cell]; rfl
          have a1 : wr.cell? ⟨wo.heap.size, 1, none⟩ = some (.int .u32 R.b) := by rw [D3.cell]; rfl
          have a2 : wr.cell? ⟨wo.heap.size, 2, none⟩ = some (.int .u32 R.c) := by rw [D3.cell]; rfl
          have a3 : wr.cell? ⟨wo.heap.size, 3, none⟩ = some (.int .u32 R.d) := by rw [D3.cell]; rfl
          have a4 : wr.cell? ⟨wo.heap.size, 4, none⟩ = some (.int .u32 R.e) := by rw [D3.cell]; rfl
          have a5 : wr.cell? ⟨wo.heap.size, 5, none⟩ = some (.int .u32 R.f) := by rw [D3.cell]; rfl
          have a6 : wr.cell? ⟨wo.heap.size, 6, none⟩ = some (.int .u32 R.g) := by rw [D3.cell]; rfl
          have a7 : wr.cell? ⟨wo.heap.size, 7, none⟩ = some (.int .u32 R.h) := by rw [D3.cell]; rfl
          have hw : wr.cell? ⟨w.heap.size + 1 + 1, t, none⟩ = some (.int .u32 (W[t]?.getD 0)) := by
            rw [D2.cell, wcells_get _ _ (by rw [hWl.out]; exact hlt)]
          have hl3 : wo.heap.size < wr.heap.size := D3.lt
          have hl2 : w.heap.size + 1 + 1 < wr.heap.size := D2.lt
          go_wp2
          refine wp_region_lat (by kernel_rfl) (by kernel_rfl) ?_
          repeat (go_big_quiet_step (first | (go_at_call 89; exact lat_same (turn_int _ _ (by omega) (by omega) _)) | (go_at_call 90; exact lat_call (round_any t hlt _))))
          refine wpQuiet_nil ?_
          intro w5 E5
          have b0 := E5.cell a0
          have b1 := E5.cell a1
          have b2 := E5.cell a2
          have b3 := E5.cell a3
          have b4 := E5.cell a4
          have b5 := E5.cell a5
          have b6 := E5.cell a6
          have b7 := E5.cell a7
          have hl5 : wo.heap.size < w5.heap.size := Nat.lt_of_lt_of_le hl3 E5.size
          clear a0 a1 a2 a3 a4 a5 a6 a7 hw hl2
          go_wp2
          refine wp_region_lat (by kernel_rfl) (by kernel_rfl) ?_
          repeat (go_big_quiet_step (first | (go_at_call 89; exact lat_same (turn_int _ _ (by omega) (by omega) _))))
          refine wpQuiet_nil ?_
          intro w6 E6
          have a0 := E6.cell b0
          have a1 := E6.cell b1
          have a2 := E6.cell b2
          have a3 := E6.cell b3
          have a4 := E6.cell b4
          have a5 := E6.cell b5
          have a6 := E6.cell b6
          have a7 := E6.cell b7
          clear b0 b1 b2 b3 b4 b5 b6 b7
          have F3 := (D3.ext E5).ext E6
          go_wp2_with (refine wpList_store_blk rfl 126 _ _ rfl wo.heap.size _ rfl rfl 126 (cells32 R.list) F3 info_a8 rfl (by simp [Value.oneCell']) ?_; intro w7 hs7 hb7 hg7)
          go_roundw
          case rel =>
            refine ⟨t + 1, by omega, by go_num, ((D0.ext E5).ext E6).grown hg7 (by simp <;> omega), ((D1.ext E5).ext E6).grown hg7 (by simp <;> omega), ((D2.ext E5).ext E6).grown hg7 (by simp <;> omega), ?_, ((E4.trans E5).trans E6).grown hg7 (by simp <;> omega)⟩
            rw [rounds, ← HR.out]
            refine Blk.cast hb7 ?_
            simp [cells32, St.list, St.round, t1Of, t2Of, add32, bg1, bg0, cho, maj, xor32, and32, not32, u32_max]
          case measure => simp [intOf]; omega
        · obtain rfl : t = 64 := by omega
          obtain ⟨wp, rfl⟩ : ∃ wp : World, wp = wr := ⟨_, rfl⟩
          go_wp2
          have hl2 : w.heap.size + 1 + 1 < wo.heap.size := hz
          go_loopw [13] (fun i wr => ∃ k : Nat, k ≤ 8 ∧ i = .int .i64 k ∧ Blk wr w.heap.size 126 (cells32 s.list) ∧ Blk wr (w.heap.size + 1) 126 (cells32 zeroSt.list)
              ∧ Blk wr wo.heap.size 126 (cells32 (mix R.list s.list k)) ∧ Ext w wr) (fun i _ => 8 - (intOf i).toNat)
          case atStart => exact ⟨0, by omega, rfl, D0, D1, by rw [mix_zero]; exact D3, E4⟩
          case round =>
            clear D0 D1 D2 D3 E4
            obtain ⟨k, hk, rfl, D0, D1, D3, E4⟩ := hrel
            by_cases hk8 : k < 8
            · have hc : wr.cell? ⟨wo.heap.size, k, none⟩ = some (.int .u32 (R.list[k]?.getD 0)) := by
                rw [D3.cell, cells32_get _ _ (by rw [mix_length R.list s.list k rfl (by rw [list_length]; omega), list_length]; exact hk8), mix_get R.list s.list k rfl hk8]
              have hd : wr.cell? ⟨w.heap.size, k, none⟩ = some (.int .u32 (s.list[k]?.getD 0)) := by
                rw [D0.cell, cells32_get _ _ hk8]
              have hl0 : w.heap.size < wr.heap.size := D0.lt
              have hl3 : wo.heap.size < wr.heap.size := D3.lt
              go_wp2
              refine wp_region_lat_tail 9 (by kernel_rfl) (by kernel_rfl) ?_
              simp only [List.take_succ_cons, List.take_zero, List.drop_succ_cons, List.drop_zero]
              repeat (go_big_quiet_step (fail))
              refine wpQuiet_nil ?_
              intro w5 E5
              have hc5 := E5.cell hc
              have hf5 := (D3.ext E5).frozen k
              go_wp2
              go_roundw
              case rel =>
                refine ⟨k + 1, by omega, by go_num, (D0.ext E5).far (by simp <;> omega) _, (D1.ext E5).far (by simp <;> omega) _, ?_, (E4.trans E5).setCell (by simp <;> omega) _⟩
                rw [← mix_set R.list s.list k rfl hk8, ← cells32_set]
                exact (D3.ext E5).set_ (by simp [add32])
              case measure => simp [intOf]; omega
            · obtain rfl : k = 8 := by omega
              rw [mix_all, plus_comm] at D3
              have hfin : Hid (s.plus R = blk s bs) := by rw [blk, ← HW.out, HR.out]; exact rfl
              rw [hfin.out] at D3
              obtain ⟨z, hz⟩ : ∃ z, z = blk s bs := ⟨_, rfl⟩
              rw [← hz] at D3
              have Hz := Lib.hid hz
              clear hz
              go_wp2_with (first | (refine wpList_load_row rfl 126 _ rfl wo.heap.size rfl 126 (cells32 z.list) (0, 0) _ D3 Tryz.underlying126 rfl info_a8 ?_) | (refine wpList_store_blk rfl 126 _ _ rfl (w.heap.size + 1) (cells32 z.list) rfl rfl 126 _ D1 info_a8 rfl (cells32_one _) ?_; intro w6 hs6 hb6 hg6))
              refine bodyPost_ret (v := .agg (cells32 z.list)) (results_cell_row rfl _ _ (w.heap.size + 1) 126 _ (0, 0) _ rfl hb6 Tryz.underlying126 rfl info_a8) rfl ?_
              exact ⟨by rw [← Hz.out]; rfl, E4.grown hg6 (by simp)⟩
end Go.Proofs.YtddbmddblhjkkaaGreatDoor
/- Slices of bytes that the call owns, and append onto them at this program's types. -/
namespace Go.Proofs.YtddbmddblhjkkaaGreatDoor
open Go.RowKit

/-- bytes in a row of the call's own -/
def Own (w : World) (base : Nat) (v : Value) (bs : List UInt8) : Prop := w.ownsRow base 5 1 v bs.length (bytesV bs)
section
variable {w w' : World} {base : Nat} {v : Value} {bs : List UInt8}
theorem Own.sl (h : Own w base v bs) : Sl w v bs := SlR.of_own h
theorem Own.ext (h : Own w base v bs) (he : Ext w w') : Own w' base v bs := own_kept h he
theorem Own.base_ {base' : Nat} (h : Own w base v bs) (hb : base' ≤ base) : Own w base' v bs := own_base h hb
theorem Own.form (h : Own w base v bs) : ∃ A c, v = .slice A bs.length c ∧ bs.length ≤ c := own_form h
theorem Own.from (h : Own w base v bs) : ∀ j, v.ownBlock = some j → base ≤ j := fun j hj => (World.ownsRow.lt h j hj).1
theorem Own.none_ (w : World) (base : Nat) : Own w base (.slice none 0 0) [] := World.ownsRow_nil w base _ _
theorem Own.empty (w : World) (base : Nat) (hb : base ≤ w.heap.size) : Own (w.alloc (.cells #[] 5)) base (.slice (some ⟨w.heap.size, 0, none⟩) 0 0) [] := World.ownsRow_made w #[] 0 hb (by unfold maxLen; omega) (by simp)
theorem own_mk {n : Nat} {xs : List Value} (h : w.ownsRow base 5 1 v n xs) (hn : n = bs.length) (hx : xs = bytesV bs) : Own w base v bs := by subst hn hx; exact h
end

/-- append(s, x...) of bytes -/
theorem wpList_appB {ops : Array Oper} {rest : List Oper} {o : Oper} {a : Act} {Q : Exit → Act → World → Prop} {w : World} {base : Nat} {v xv : Value} {xs bs : List UInt8} (hown : Own w base v xs) (hr : Sl w xv bs) (hgd : o.guard = none) (s x : Operand)
    (ho : o.op = .call { callee := .builtin .append, args := #[s, x], argTypes := #[22, 22] }) (hs : a.eval s = v) (hx : a.eval x = xv) (hlen : xs.length + bs.length ≤ 1099511627776) (hbase : base ≤ w.heap.size)
    (h : ∀ v' w', Own w' base v' (xs ++ bs) → w.grownBy w' v.ownBlock → (v'.ownBlock = v.ownBlock ∨ v'.ownBlock = some w.heap.size) → wpList Tryz.prog ops Q rest (a.put o.dst v') w') : wpList Tryz.prog ops Q (o :: rest) a w := by
  obtain ⟨i0, hi, hz0, hz1, hz2⟩ := info_parts info_u8
  obtain ⟨A, c, rfl, hc⟩ := SlR.form hr
  refine wpList_append_sl (P := Tryz.prog) w hgd s x 22 ho base 5 i0 (.int .u8 0) 1 1 Tryz.underlying22 hi hz0 hz1 hz2 rfl (by omega) v xs.length (bytesV xs) hs hown A bs.length c (bytesV bs) hx hr (bytesV_one bs) (by unfold maxLen; omega) (by omega) hbase ?_
  intro v' w' h1 h2 h3
  exact h v' w' (own_mk h1 (by simp) (by rw [bytesV_append])) h2 h3

/-- a slice of one byte, just built -/
theorem sl_one {w : World} {t : TypeId} {x : Int} (b : UInt8) (hb : x = (b.toNat : Int)) : Sl (w.alloc (.cells #[.int .u8 x] t)) (.slice (some ⟨w.heap.size, 0, none⟩) 1 1) [b] := by
  subst hb
  refine SlR.of_cells rfl (Nat.le_refl _) (fun j v hv => ?_)
  rw [Nat.zero_add, (Blk.new w t _).cell]
  simpa [bytesV, byteV] using hv
end Go.Proofs.YtddbmddblhjkkaaGreatDoor
