/- Words of 32 bits as the model has them (integers), and what both texts compute of them: the schedule, the rounds, a block. Plain: no program. -/
import Derived.WalkKit
namespace Go.Proofs.YtafjnlikmjahfaaDoor

/-- bits of words, in the model's own operations -/
def xor32 (a b : Int) : Int := bits .xor .u32 a b
def and32 (a b : Int) : Int := bits .and .u32 a b
def or32 (a b : Int) : Int := bits .or .u32 a b
def add32 (a b : Int) : Int := (a + b) % 4294967296
def shl32 (a : Int) (n : Nat) : Int := a * 2 ^ n % 4294967296
def shr32 (a : Int) (n : Nat) : Int := a / 2 ^ n
theorem u32_all : (if IntKind.u32.signed = true then (-1 : Int) else IntKind.u32.max) = 4294967295 := rfl
def not32 (a : Int) : Int := bits .xor .u32 4294967295 a
def rotr (x : Int) (n : Nat) : Int := or32 (shl32 x (32 - n)) (shr32 x n)

theorem or32_comm (a b : Int) : or32 a b = or32 b a := by
  unfold or32 bits
  simp only [BitVec.or_comm]

/-- the two small sigmas of the schedule, the two great ones of a round, choice and majority -/
def sm0 (x : Int) : Int := xor32 (xor32 (rotr x 7) (rotr x 18)) (shr32 x 3)
def sm1 (x : Int) : Int := xor32 (xor32 (rotr x 17) (rotr x 19)) (shr32 x 10)
def bg1 (e : Int) : Int := xor32 (xor32 (rotr e 6) (rotr e 11)) (rotr e 25)
def bg0 (a : Int) : Int := xor32 (xor32 (rotr a 2) (rotr a 13)) (rotr a 22)
def cho (e f g : Int) : Int := xor32 (and32 e f) (and32 (not32 e) g)
def maj (a b c : Int) : Int := xor32 (xor32 (and32 a b) (and32 a c)) (and32 b c)

/-- a state: eight words -/
structure St where
  a : Int
  b : Int
  c : Int
  d : Int
  e : Int
  f : Int
  g : Int
  h : Int

def St.list (s : St) : List Int := [s.a, s.b, s.c, s.d, s.e, s.f, s.g, s.h]
def St.vals (s : St) : Array Value := #[.int .u32 s.a, .int .u32 s.b, .int .u32 s.c, .int .u32 s.d, .int .u32 s.e, .int .u32 s.f, .int .u32 s.g, .int .u32 s.h]

def t1Of (s : St) (k w : Int) : Int := (s.h + bg1 s.e + cho s.e s.f s.g + k + w) % 4294967296
def t2Of (s : St) : Int := add32 (bg0 s.a) (maj s.a s.b s.c)
/-- one round -/
def St.round (s : St) (k w : Int) : St := ⟨add32 (t1Of s k w) (t2Of s), s.a, s.b, s.c, add32 s.d (t1Of s k w), s.e, s.f, s.g⟩
def St.plus (s t : St) : St := ⟨add32 s.a t.a, add32 s.b t.b, add32 s.c t.c, add32 s.d t.d, add32 s.e t.e, add32 s.f t.f, add32 s.g t.g, add32 s.h t.h⟩

/-- the rounds' constants -/
def ks : List Int := [1116352408, 1899447441, 3049323471, 3921009573, 961987163, 1508970993, 2453635748, 2870763221, 3624381080, 310598401, 607225278, 1426881987, 1925078388, 2162078206, 2614888103, 3248222580, 3835390401, 4022224774, 264347078, 604807628, 770255983, 1249150122, 1555081692, 1996064986, 2554220882, 2821834349, 2952996808, 3210313671, 3336571891, 3584528711, 113926993, 338241895, 666307205, 773529912, 1294757372, 1396182291, 1695183700, 1986661051, 2177026350, 2456956037, 2730485921, 2820302411, 3259730800, 3345764771, 3516065817, 3600352804, 4094571909, 275423344, 430227734, 506948616, 659060556, 883997877, 958139571, 1322822218, 1537002063, 1747873779, 1955562222, 2024104815, 2227730452, 2361852424, 2428436474, 2756734187, 3204031479, 3329325298]
theorem ks_length : ks.length = 64 := rfl

/-- the t-th word of a block, from its four bytes -/
def word (b : List UInt8) (t : Nat) : Int :=
  or32 (or32 (or32 (shl32 ((b.getD (4 * t) 0).toNat) 24) (shl32 ((b.getD (4 * t + 1) 0).toNat) 16)) (shl32 ((b.getD (4 * t + 2) 0).toNat) 8)) ((b.getD (4 * t + 3) 0).toNat)

/-- the next word of the schedule, behind those that are there -/
def next (l : List Int) (t : Nat) : Int :=
  (l[t - 16]?.getD 0 + sm0 (l[t - 15]?.getD 0) + l[t - 7]?.getD 0 + sm1 (l[t - 2]?.getD 0)) % 4294967296
/-- the first t words of the schedule -/
def ws (b : List UInt8) : Nat → List Int
  | 0 => []
  | t + 1 => ws b t ++ [if t < 16 then word b t else next (ws b t) t]

theorem ws_length (b : List UInt8) (t : Nat) : (ws b t).length = t := by
  induction t with
  | zero => rfl
  | succ t ih => simp [ws, ih]

theorem or32_add (x y : Nat) (hx : x < 16777216) (hy : y < 256) : or32 ((x * 256 : Nat) : Int) (y : Int) = ((x * 256 + y : Nat) : Int) := by
  unfold or32
  rw [u32_or_nat _ _ (by omega) (by omega)]
  congr 1
  have h := Nat.shiftLeft_add_eq_or_of_lt (show y < 2 ^ 8 by omega) x
  rw [Nat.shiftLeft_eq] at h
  exact h.symm
theorem or32_assoc_add (x y z : Nat) (hx : x < 16777216) (hy : y < 256) (hz : x * 256 + y = z) : or32 ((x * 256 : Nat) : Int) (y : Int) = (z : Int) := by
  rw [or32_add x y hx hy, hz]
theorem shl32_nat (x n : Nat) (h : x * 2 ^ n < 4294967296) : shl32 (x : Int) n = ((x * 2 ^ n : Nat) : Int) := by
  unfold shl32
  have : ((x * 2 ^ n : Nat) : Int) = (x : Int) * 2 ^ n := by simp
  rw [← this, Int.emod_eq_of_lt (by omega) (by omega)]
/-- the same word, byte by byte -/
def accW (b : List UInt8) (t : Nat) : Nat → Int
  | 0 => 0
  | k + 1 => or32 (shl32 (accW b t k) 8) ((b.getD (4 * t + k) 0).toNat)

theorem accW_step (b : List UInt8) (t k : Nat) : bits .or .u32 (accW b t k * 256 % 4294967296) (((b[4 * t + k]?.getD 0).toNat : Int) % 4294967296) = accW b t (k + 1) := by
  have l := (b[4 * t + k]?.getD 0).toNat_lt
  rw [Int.emod_eq_of_lt (a := ((b[4 * t + k]?.getD 0).toNat : Int)) (by omega) (by omega)]
  simp [accW, or32, shl32]
theorem accW_four (b : List UInt8) (t : Nat) : accW b t 4 = word b t := by
  have l0 := (b.getD (4 * t) 0).toNat_lt
  have l1 := (b.getD (4 * t + 1) 0).toNat_lt
  have l2 := (b.getD (4 * t + 2) 0).toNat_lt
  have l3 := (b.getD (4 * t + 3) 0).toNat_lt
  simp only [accW, word, Nat.add_zero]
  generalize (b.getD (4 * t) 0).toNat = x0 at *
  generalize (b.getD (4 * t + 1) 0).toNat = x1 at *
  generalize (b.getD (4 * t + 2) 0).toNat = x2 at *
  generalize (b.getD (4 * t + 3) 0).toNat = x3 at *
  have z : shl32 0 8 = ((0 * 256 : Nat) : Int) := by decide
  rw [z, or32_assoc_add 0 x0 x0 (by omega) (by omega) (by omega)]
  rw [shl32_nat x0 8 (by omega), show x0 * 2 ^ 8 = x0 * 256 by omega, or32_add x0 x1 (by omega) (by omega)]
  rw [shl32_nat _ 8 (by omega), show (x0 * 256 + x1) * 2 ^ 8 = (x0 * 256 + x1) * 256 by omega, or32_add _ x2 (by omega) (by omega)]
  rw [shl32_nat _ 8 (by omega), show ((x0 * 256 + x1) * 256 + x2) * 2 ^ 8 = ((x0 * 256 + x1) * 256 + x2) * 256 by omega]
  rw [shl32_nat x0 24 (by omega), shl32_nat x1 16 (by omega), shl32_nat x2 8 (by omega)]
  have e1 : or32 ((x0 * 2 ^ 24 : Nat) : Int) ((x1 * 2 ^ 16 : Nat) : Int) = (((x0 * 256 + x1) * 65536 : Nat) : Int) := by
    unfold or32
    rw [u32_or_nat _ _ (by omega) (by omega)]
    congr 1
    have h := Nat.shiftLeft_add_eq_or_of_lt (show x1 * 2 ^ 16 < 2 ^ 24 by omega) x0
    rw [Nat.shiftLeft_eq] at h
    rw [← h]; omega
  have e2 : or32 (((x0 * 256 + x1) * 65536 : Nat) : Int) ((x2 * 2 ^ 8 : Nat) : Int) = ((((x0 * 256 + x1) * 256 + x2) * 256 : Nat) : Int) := by
    unfold or32
    rw [u32_or_nat _ _ (by omega) (by omega)]
    congr 1
    have h := Nat.shiftLeft_add_eq_or_of_lt (show x2 * 2 ^ 8 < 2 ^ 16 by omega) (x0 * 256 + x1)
    rw [Nat.shiftLeft_eq] at h
    rw [show (2 : Nat) ^ 16 = 65536 from rfl] at h
    rw [← h]; omega
  rw [e1, e2]

/-- the cells of the schedule while the words l stand -/
def zeros (n : Nat) : Array Value := Array.replicate n (.int .u32 0)
def wcells (l : List Int) : Array Value := (l.map (Value.int .u32)).toArray ++ zeros (64 - l.length)
theorem wcells_nil : wcells [] = zeros 64 := by simp [wcells, zeros]
theorem wcells_size (l : List Int) (h : l.length ≤ 64) : (wcells l).size = 64 := by simp [wcells, zeros]; omega
theorem wcells_get (l : List Int) (j : Nat) (h : j < l.length) : (wcells l)[j]? = some (.int .u32 (l[j]?.getD 0)) := by
  unfold wcells
  rw [Array.getElem?_append_left (by simpa using h)]
  simp [List.getElem?_eq_getElem h]
theorem wcells_snoc (l : List Int) (x : Int) (h : l.length < 64) : (wcells l).setIfInBounds l.length (.int .u32 x) = wcells (l ++ [x]) := by
  apply Array.ext'
  obtain ⟨m, hm⟩ : ∃ m, 64 - l.length = m + 1 := ⟨63 - l.length, by omega⟩
  have hm2 : 64 - (l.length + 1) = m := by omega
  simp [wcells, zeros, hm, hm2, List.replicate_succ]
theorem wcells_full (l : List Int) (h : l.length = 64) : wcells l = (l.map (Value.int .u32)).toArray := by simp [wcells, h, zeros]
theorem wcells_here (l : List Int) (h : l.length < 64) : wcells l = (wcells l).setIfInBounds l.length (.int .u32 0) := by
  rw [wcells_snoc l 0 h]
  apply Array.ext'
  obtain ⟨m, hm⟩ : ∃ m, 64 - l.length = m + 1 := ⟨63 - l.length, by omega⟩
  have hm2 : 64 - (l.length + 1) = m := by omega
  simp [wcells, zeros, hm, hm2, List.replicate_succ]

/-- the state behind the first t rounds -/
def rounds (s : St) (w : List Int) : Nat → St
  | 0 => s
  | t + 1 => (rounds s w t).round (ks[t]?.getD 0) (w[t]?.getD 0)

/-- a block -/
def blk (s : St) (b : List UInt8) : St := s.plus (rounds s (ws b 64) 64)

/-- eight words as cells; two lists of them, added as far as k -/
def cells32 (l : List Int) : Array Value := (l.map (Value.int .u32)).toArray
theorem vals_cells (s : St) : s.vals = cells32 s.list := rfl
def mix (s r : List Int) (k : Nat) : List Int := List.zipWith add32 (s.take k) (r.take k) ++ s.drop k
theorem mix_zero (s r : List Int) : mix s r 0 = s := by simp [mix]
theorem mix_length (s r : List Int) (k : Nat) (h : s.length = r.length) (hk : k ≤ s.length) : (mix s r k).length = s.length := by
  simp [mix]; omega
theorem mix_get (s r : List Int) (k : Nat) (h : s.length = r.length) (hk : k < s.length) : (mix s r k)[k]? = s[k]? := by
  unfold mix
  rw [List.getElem?_append_right (by simp; omega)]
  have : k - (List.zipWith add32 (s.take k) (r.take k)).length = 0 := by simp; omega
  rw [this]
  simp
theorem mix_set (s r : List Int) (k : Nat) (h : s.length = r.length) (hk : k < s.length) : (mix s r k).set k (add32 (s[k]?.getD 0) (r[k]?.getD 0)) = mix s r (k + 1) := by
  have hr : k < r.length := by omega
  unfold mix
  have hl : (List.zipWith add32 (s.take k) (r.take k)).length = k := by simp; omega
  rw [List.set_append_right _ _ (by omega), hl, Nat.sub_self]
  rw [List.drop_eq_getElem_cons hk]
  simp only [List.set_cons_zero, List.getElem?_eq_getElem hk, List.getElem?_eq_getElem hr, Option.getD_some]
  rw [List.take_succ_eq_append_getElem hk, List.take_succ_eq_append_getElem hr, List.zipWith_append (by simp; omega)]
  simp
theorem list_length (s : St) : s.list.length = 8 := rfl
theorem mix_all (s r : St) : mix s.list r.list 8 = (s.plus r).list := rfl

def start : St := ⟨1779033703, 3144134277, 1013904242, 2773480762, 1359893119, 2600822924, 528734635, 1541459225⟩
def zeroSt : St := ⟨0, 0, 0, 0, 0, 0, 0, 0⟩
end Go.Proofs.YtafjnlikmjahfaaDoor
