/- Contracts of octet.Put and pursuivantref01.Put: a number's bytes. -/
import Derived.Test.YtafjnlikmjahfaaDoorByteA
import Derived.Test.YtafjnlikmjahfaaDoorSum
namespace Go.Proofs.YtafjnlikmjahfaaDoor
open Go.RowKit

theorem madeCells_one (z : Value) (n : Nat) : madeCells #[z] n = Array.replicate n z := by
  apply Array.ext'
  simp only [madeCells, Array.toList_map, Array.toList_range, Array.toList_replicate]
  rw [List.eq_replicate_iff]
  refine ⟨by simp, fun b hb => ?_⟩
  simp only [List.mem_map] at hb
  obtain ⟨x, _, rfl⟩ := hb
  simp [Nat.mod_one]

/-- make([]T, n) of one-celled elements: the new block behind a name -/
theorem wpList_make_blk {P : Program} {ops : Array Oper} {rest : List Oper} {o : Oper} {a : Act} {w : World} {Q : Exit → Act → World → Prop} (hgd : o.guard = none)
    (t e : TypeId) (l c : Operand) (ho : o.op = .makeSlice t l c) (z : Value) (bytes : Nat) (ht : P.underlying t = some (.slice e)) (hinfo : (P.info? e).map (fun i => (i.zero, i.size, i.bytes)) = some (some z, 1, bytes)) (hz1 : z.cells = #[z])
    (n : Nat) (hl : a.eval l = .int .i64 (n : Int)) (hc : a.eval c = .int .i64 (n : Int)) (hb : bytes * n ≤ 281474976710656) (h63 : n ≤ 9223372036854775807)
    (h : ∀ w1, w1.heap.size = w.heap.size + 1 → Blk w1 w.heap.size e (Array.replicate n z) → Ext w w1 → wpList P ops Q rest (a.put o.dst (.slice (some ⟨w.heap.size, 0, none⟩) n n)) w1) :
    wpList P ops Q (o :: rest) a w := by
  refine wpList_plain hgd fun K hK => ?_
  obtain ⟨i, hi, hzz⟩ := Option.map_eq_some_iff.1 hinfo
  simp only [Prod.mk.injEq] at hzz
  obtain ⟨hz, hs, hb'⟩ := hzz
  have hr := run_make (P := P) w t e i z ht hi hz .i64 .i64 n n (by omega) (by omega) (by rw [hb']; rw [← Int.natCast_mul]; omega) (by omega)
  simp only [Int.toNat_natCast, hs, Nat.mul_one, hz1, madeCells_one] at hr
  unfold Oper.wp execOp
  simp only [ho, hl, hc, Sem.run_bind, hr, Result.andThen_ok, Sem.run_pure]
  exact hK _ _ (h _ (by simp) (Blk.new w e _) ((Ext.refl w).alloc _))

/-- bytes, the first k of them laid; the last ones, from k on -/
def headC (l : List UInt8) (k : Nat) : Array Value := (bytesV (l.take k) ++ List.replicate (l.length - k) (Value.int .u8 0)).toArray
def tailC (l : List UInt8) (k : Nat) : Array Value := (List.replicate k (Value.int .u8 0) ++ bytesV (l.drop k)).toArray
theorem headC_zero (l : List UInt8) : headC l 0 = Array.replicate l.length (.int .u8 0) := by simp [headC, bytesV]
theorem headC_all (l : List UInt8) : headC l l.length = (bytesV l).toArray := by simp [headC]
theorem headC_size (l : List UInt8) (k : Nat) (h : k ≤ l.length) : (headC l k).size = l.length := by simp [headC, bytesV]; omega
theorem headC_set (l : List UInt8) (k : Nat) (h : k < l.length) : (headC l k).setIfInBounds k (.int .u8 ((l[k]?.getD 0).toNat : Int)) = headC l (k + 1) := by
  apply Array.ext'
  obtain ⟨m, hm⟩ : ∃ m, l.length - k = m + 1 := ⟨l.length - k - 1, by omega⟩
  have hm2 : l.length - (k + 1) = m := by omega
  have hl : (bytesV (l.take k)).length = k := by rw [bytesV_length]; simp; omega
  simp only [headC, hm, hm2, List.replicate_succ, Array.toList_setIfInBounds]
  rw [List.set_append_right _ _ (by omega), hl, Nat.sub_self, List.set_cons_zero, List.take_succ_eq_append_getElem h, bytesV_append]
  simp [bytesV, byteV, List.getElem?_eq_getElem h]
theorem tailC_full (l : List UInt8) : tailC l l.length = Array.replicate l.length (.int .u8 0) := by simp [tailC, bytesV]
theorem tailC_all (l : List UInt8) : tailC l 0 = (bytesV l).toArray := by simp [tailC]
theorem tailC_size (l : List UInt8) (k : Nat) (h : k ≤ l.length) : (tailC l k).size = l.length := by simp [tailC, bytesV]; omega
theorem tailC_set (l : List UInt8) (k : Nat) (h : k < l.length) : (tailC l (k + 1)).setIfInBounds k (.int .u8 ((l[k]?.getD 0).toNat : Int)) = tailC l k := by
  apply Array.ext'
  simp only [tailC, Array.toList_setIfInBounds]
  rw [List.replicate_succ', List.append_assoc, List.set_append_right _ _ (by simp)]
  simp only [List.length_replicate, Nat.sub_self, List.singleton_append, List.set_cons_zero]
  rw [show bytesV (l.drop k) = byteV l[k] :: bytesV (l.drop (k + 1)) from by rw [List.drop_eq_getElem_cons h]; rfl]
  simp [byteV, List.getElem?_eq_getElem h]

theorem putB_get (n size k : Nat) (h : k < size) : (putB n size)[k]?.getD 0 = UInt8.ofNat (n / 256 ^ (size - 1 - k)) := by
  simp [putB, h]
theorem byte_of (x : Nat) : ((UInt8.ofNat x).toNat : Int) = (x : Int) % 256 := by
  rw [UInt8.toNat_ofNat']; omega

theorem pow_bytes (m : Nat) : (256 : Nat) ^ m = 2 ^ (8 * m) := by rw [Nat.pow_mul]
theorem put_byte (n size k : Nat) (h : k < size) : Value.int .u8 ((n : Int) / 2 ^ (8 * (size - 1 - k)) % 256) = Value.int .u8 (((putB n size)[k]?.getD 0).toNat : Int) := by
  rw [putB_get n size k h, byte_of, pow_bytes]
  simp

/-- a block of cells is a slice of the call's own -/
theorem own_of_blk {w : World} {g base : Nat} {e : TypeId} {xs : List Value} (h : Blk w g e xs.toArray) (hb : base ≤ g) (hm : xs.length ≤ maxLen) : w.ownsRow base e 1 (.slice (some ⟨g, 0, none⟩) xs.length xs.length) xs.length xs :=
  ⟨by simp, .inr ⟨g, xs.length, xs.toArray, rfl, hb, h, Nat.le_refl _, hm, by simp, by simp⟩⟩

set_option maxRecDepth 100000 in
set_option maxHeartbeats 1000000 in
theorem oPut_any (n size : Nat) (h1 : 1 ≤ size) (h8 : size ≤ 8) (hn : n ≤ 1099511627776) (hfit : n < 256 ^ size) (w : World) :
    Calls Tryd.prog 42 #[.int .i64 (n : Int), .int .i64 (size : Int)] w fun e w' => ∃ v', e = .returned (.tuple #[v', .int .i64 0]) ∧ w'.ownsRow w.heap.size 5 1 v' size (bytesV (putB n size)) ∧ Ext w w' := by
  have hn' : (n : Int) ≤ 1099511627776 := by omega
  have hsh : size < 8 → (n : Int) / 2 ^ (8 * size) = 0 := by
    intro _
    apply Int.ediv_eq_zero_of_lt (by omega)
    have : (256 : Nat) ^ size = 2 ^ (8 * size) := by rw [Nat.pow_mul]
    rw [this] at hfit
    exact_mod_cast hfit
  have Hfit := Lib.hid hfit
  clear hfit hn
  have Hsh := Lib.hid hsh
  clear hsh
  have hcase : size < 8 ∧ (n : Int) / 2 ^ (8 * size) = 0 ∨ 8 ≤ size := by
    by_cases h : size < 8
    · exact .inl ⟨h, Hsh.out h⟩
    · exact .inr (by omega)
  have Hl : Hid ((putB n size).length = size) := putB_length n size
  rcases hcase with ⟨h, hs⟩ | h
  all_goals
    go_enter Tryd.func42, Tryd.ntmps42
    go_wp2_with (at_make; refine wpList_make_blk rfl 51 5 _ _ rfl (.int .u8 0) 1 Tryd.underlying51 info_u8 rfl size rfl rfl (by omega) (by omega) ?_; intro w1 hs1 hb1 E1)
    go_loopw [33] (fun i wr => ∃ k : Nat, k ≤ size ∧ i = .int .i64 k ∧ Blk wr w.heap.size 5 (headC (putB n size) k) ∧ Ext w wr) (fun i _ => size - (intOf i).toNat)
    case atStart => exact ⟨0, by omega, rfl, by rw [headC_zero, Hl.out]; exact hb1, E1⟩
    case round =>
      clear hb1 E1 hs1
      obtain ⟨k, hk, rfl, B, E⟩ := hrel
      by_cases hlt : k < size
      · have c0 : ∃ u, wr.cell? ⟨w.heap.size, k, none⟩ = some u := by rw [B.cell]; exact ⟨_, Array.getElem?_eq_getElem (by rw [headC_size _ _ (by rw [Hl.out]; omega), Hl.out]; exact hlt)⟩
        obtain ⟨u0, c0⟩ := c0
        have f0 := B.frozen k
        go_wp2
        go_roundw
        case rel =>
          refine ⟨k + 1, by omega, by go_num, ?_, E.setCell (by simp) _⟩
          rw [← headC_set _ _ (by rw [Hl.out]; exact hlt)]
          exact B.set_ (put_byte n size k hlt)
        case measure => simp [intOf]; omega
      · obtain rfl : k = size := by omega
        go_wp2
        go_ret2
        refine ⟨_, rfl, ?_, E⟩
        have hB : Blk wr w.heap.size 5 (bytesV (putB n k)).toArray := by have := headC_all (putB n k); rw [Hl.out] at this; rw [← this]; exact B
        have hf := own_of_blk hB (Nat.le_refl _) (by rw [bytesV_length, Hl.out]; unfold maxLen; omega)
        rw [bytesV_length, Hl.out] at hf
        exact hf

theorem div_pow_succ (n m : Nat) : n / 256 ^ m / 256 = n / 256 ^ (m + 1) := by rw [Nat.div_div_eq_div_mul, Nat.pow_succ]
theorem put_low (n size k : Nat) (h : k < size) : Value.int .u8 (((n / 256 ^ (size - (k + 1)) : Nat) : Int) % 256) = Value.int .u8 (((putB n size)[k]?.getD 0).toNat : Int) := by
  rw [putB_get n size k h, byte_of, show size - 1 - k = size - (k + 1) by omega]

set_option maxRecDepth 100000 in
set_option maxHeartbeats 1000000 in
theorem rPut_any (n size : Nat) (h1 : 1 ≤ size) (h8 : size ≤ 8) (hn : n ≤ 1099511627776) (hfit : n < 256 ^ size) (w : World) :
    Calls Tryd.prog 47 #[.int .i64 (n : Int), .int .i64 (size : Int)] w fun e w' => ∃ v', e = .returned (.tuple #[v', .bool true]) ∧ w'.ownsRow w.heap.size 5 1 v' size (bytesV (putB n size)) ∧ Ext w w' := by
  have hn' : (n : Int) ≤ 1099511627776 := by omega
  have Hfit := Lib.hid hfit
  clear hfit hn
  have Hl : Hid ((putB n size).length = size) := putB_length n size
  go_enter Tryd.func47, Tryd.ntmps47
  go_wp2_with (at_make; refine wpList_make_blk rfl 51 5 _ _ rfl (.int .u8 0) 1 Tryd.underlying51 info_u8 rfl size rfl rfl (by omega) (by omega) ?_; intro w1 hs1 hb1 E1)
  go_loopw [7, 0] (fun i m wr => ∃ k : Nat, k ≤ size ∧ i = .int .i64 ((k : Int) - 1) ∧ m = .int .i64 ((n / 256 ^ (size - k) : Nat) : Int) ∧ Blk wr w.heap.size 5 (tailC (putB n size) k) ∧ Ext w wr) (fun i _ _ => (intOf i + 1).toNat)
  case atStart => exact ⟨size, by omega, rfl, by simp, by have := tailC_full (putB n size); rw [Hl.out] at this; rw [this]; exact hb1, E1⟩
  case round =>
    clear hb1 E1 hs1
    obtain ⟨k, hk, rfl, rfl, B, E⟩ := hrel
    obtain ⟨q, hq⟩ : ∃ q, q = n / 256 ^ (size - k) := ⟨_, rfl⟩
    have hqn : (q : Int) ≤ 1099511627776 := by have := Nat.div_le_self n (256 ^ (size - k)); omega
    rw [← hq]
    have Hq := Lib.hid hq
    clear hq
    cases k with
    | zero =>
      have hq0 : q = 0 := by rw [Hq.out]; exact Nat.div_eq_of_lt Hfit.out
      subst hq0
      go_wp2
      go_ret2
      refine ⟨_, rfl, ?_, E⟩
      rw [tailC_all] at B
      have hf := own_of_blk B (Nat.le_refl _) (by rw [bytesV_length, Hl.out]; unfold maxLen; omega)
      rw [bytesV_length, Hl.out] at hf
      exact hf
    | succ j =>
      have c0 : ∃ u, wr.cell? ⟨w.heap.size, j, none⟩ = some u := by rw [B.cell]; exact ⟨_, Array.getElem?_eq_getElem (by rw [tailC_size _ _ (by rw [Hl.out]; omega), Hl.out]; omega)⟩
      obtain ⟨u0, c0⟩ := c0
      have f0 := B.frozen j
      go_wp2
      go_roundw
      case rel =>
        refine ⟨j, by omega, by go_num, ?_, ?_, E.setCell (by simp) _⟩
        · rw [show size - j = size - (j + 1) + 1 by omega, ← div_pow_succ, ← Hq.out]; simp
        · rw [← tailC_set _ _ (by rw [Hl.out]; omega)]
          exact B.set_ (by rw [Hq.out]; exact put_low n size j (by omega))
      case measure => simp [intOf]
end Go.Proofs.YtafjnlikmjahfaaDoor
