/- What the sum of a text is: blocks fed one behind the other, the padding, the 32 bytes; and that feeding in pieces is feeding at once. Plain. -/
import Derived.Test.YtafjnlikmjahfaaDoorWords
import Derived.Test.YtafjnlikmjahfaaDoorSlices
namespace Go.Proofs.YtafjnlikmjahfaaDoor

/-- all whole blocks of a text are fed; what is left is less than one -/
def feed (s : St) (l : List UInt8) : St × List UInt8 :=
  if 64 ≤ l.length then feed (blk s (l.take 64)) (l.drop 64) else (s, l)
  termination_by l.length
  decreasing_by simp; omega

theorem feed_less (s : St) (l : List UInt8) (h : l.length < 64) : feed s l = (s, l) := by
  rw [feed, if_neg (by omega)]
theorem feed_more (s : St) (l : List UInt8) (h : 64 ≤ l.length) : feed s l = feed (blk s (l.take 64)) (l.drop 64) := by
  rw [feed, if_pos h]
theorem feed_rest_lt (s : St) (l : List UInt8) : (feed s l).2.length < 64 := by
  induction hn : l.length using Nat.strongRecOn generalizing s l with
  | _ n ih =>
    by_cases h : 64 ≤ l.length
    · rw [feed_more s l h]
      exact ih (l.drop 64).length (by simp; omega) _ _ rfl
    · rw [feed_less s l (by omega)]
      show l.length < 64
      omega
theorem feed_append (s : St) (l m : List UInt8) : feed s (l ++ m) = feed (feed s l).1 ((feed s l).2 ++ m) := by
  induction hn : l.length using Nat.strongRecOn generalizing s l with
  | _ n ih =>
    by_cases h : 64 ≤ l.length
    · rw [feed_more s l h, feed_more s (l ++ m) (by simp; omega)]
      rw [List.take_append_of_le_length h, List.drop_append_of_le_length h]
      exact ih (l.drop 64).length (by simp; omega) _ _ rfl
    · rw [feed_less s l (by omega)]
theorem feed_rest_mod (s : St) (l : List UInt8) : (feed s l).2.length = l.length % 64 := by
  induction hn : l.length using Nat.strongRecOn generalizing s l with
  | _ n ih =>
    by_cases h : 64 ≤ l.length
    · rw [feed_more s l h, ih (l.drop 64).length (by simp; omega) _ _ rfl]
      simp
      omega
    · rw [feed_less s l (by omega)]
      show l.length = n % 64
      omega

/-- a number's bytes, the highest first -/
def putB (n size : Nat) : List UInt8 := (List.range size).map fun i => UInt8.ofNat (n / 256 ^ (size - 1 - i))
theorem putB_length (n size : Nat) : (putB n size).length = size := by simp [putB]

/-- what comes behind a text of so many bytes -/
def padB (n : Nat) : List UInt8 := 128 :: (List.replicate ((119 - n % 64) % 64) 0 ++ putB (8 * n) 8)
theorem padB_length (n : Nat) : (n + (padB n).length) % 64 = 0 := by
  simp [padB, putB_length]
  omega

/-- an integer's lowest byte -/
def u8 (z : Int) : UInt8 := UInt8.ofNat (z % 256).toNat
theorem u8_toNat (z : Int) : ((u8 z).toNat : Int) = z % 256 := by
  unfold u8
  have h1 : 0 ≤ z % 256 := by omega
  have h2 : z % 256 < 256 := by omega
  rw [UInt8.toNat_ofNat']
  omega

/-- a state's 32 bytes -/
def outB (s : St) : List UInt8 := (List.range 32).map fun i => u8 (s.list[i / 4]?.getD 0 / 2 ^ (24 - 8 * (i % 4)))
theorem outB_length (s : St) : (outB s).length = 32 := by simp [outB]
theorem outB_get (s : St) (i : Nat) (h : i < 32) : (outB s)[i]? = some (u8 (s.list[i / 4]?.getD 0 / 2 ^ (24 - 8 * (i % 4)))) := by
  simp [outB, h]

/-- THE SUM -/
def sumB (text : List UInt8) : List UInt8 := outB (feed start (text ++ padB text.length)).1
theorem sumB_length (text : List UInt8) : (sumB text).length = 32 := outB_length _

/-- as the program comes to it: the rest, and what comes behind -/
theorem sumB_of_rest (text : List UInt8) : sumB text = outB (feed (feed start text).1 ((feed start text).2 ++ padB text.length)).1 := by
  rw [sumB, feed_append]
end Go.Proofs.YtafjnlikmjahfaaDoor
