/- The contracts of (*sha.Hash).Sum and Reset. -/
import Derived.Test.YtafjnlikmjahfaaDoorHashB
namespace Go.Proofs.YtafjnlikmjahfaaDoor
open Go.RowKit

def zb32 : Array Value := Array.replicate 32 (.int .u8 0)
theorem zero_a32 (w : World) : (zeroValue 30).run Tryd.prog w = .ok (.agg zb32) w := by kernel_rfl
theorem info_a32 : (Tryd.prog.info? 30).map (·.size) = some 32 := by kernel_rfl
theorem zb32_size (l : List UInt8) (h : l.length = 32) : zb32.size = (bytesV l).toArray.size := by simp [zb32, bytesV_length, h]
theorem info_hash : (Tryd.prog.info? 76).map (·.size) = some 10 := by kernel_rfl
theorem zb32_one : zb32.all (·.oneCell') = true := by decide +kernel
/-- a digest as a value -/
abbrev dgV (l : List UInt8) : Value := .agg (bytesV l).toArray
theorem bytes_one (l : List UInt8) : (bytesV l).toArray.all (·.oneCell') = true := Array.all_eq_true_iff_forall_mem.2 (fun v hv => bytesV_one l v (by simpa using hv))
theorem zb32_head (l : List UInt8) (h : l.length = 32) : headC l 0 = zb32 := by rw [headC_zero, h]; rfl

theorem oPut_int (a sz : Int) (n size : Nat) (ha : a = n) (hsz : sz = size) (h1 : 1 ≤ size) (h8 : size ≤ 8) (hn : n ≤ 1099511627776) (hfit : n < 256 ^ size) (w : World) :
    Calls Tryd.prog 42 #[.int .i64 a, .int .i64 sz] w fun e w' => ∃ v', e = .returned (.tuple #[v', .int .i64 0]) ∧ w'.ownsRow w.heap.size 5 1 v' size (bytesV (putB n size)) ∧ Ext w w' := by
  subst ha hsz
  exact oPut_any n size h1 h8 hn hfit w
theorem rPut_int (a sz : Int) (n size : Nat) (ha : a = n) (hsz : sz = size) (h1 : 1 ≤ size) (h8 : size ≤ 8) (hn : n ≤ 1099511627776) (hfit : n < 256 ^ size) (w : World) :
    Calls Tryd.prog 47 #[.int .i64 a, .int .i64 sz] w fun e w' => ∃ v', e = .returned (.tuple #[v', .bool true]) ∧ w'.ownsRow w.heap.size 5 1 v' size (bytesV (putB n size)) ∧ Ext w w' := by
  subst ha hsz
  exact rPut_any n size h1 h8 hn hfit w
theorem padB_small (n : Nat) : (padB n).length ≤ 80 := by simp [padB, putB_length]; omega
theorem sl_of_blk {w : World} {g : Nat} {t : TypeId} {l : List UInt8} (h : Blk w g t (bytesV l).toArray) : Sl w (.slice (some ⟨g, 0, none⟩) l.length l.length) l :=
  SlR.of_cells (by rw [bytesV_length]; omega) (Nat.le_refl _) (fun j v hv => by rw [Nat.zero_add, h.cell]; simpa using hv)
theorem hashC_get (z : St) (rv : Value) (n j : Nat) (h : j < 8) : (hashC z rv n)[j]? = some (.int .u32 (z.list[j]?.getD 0)) := by
  rcases j with _ | _ | _ | _ | _ | _ | _ | _ | j
  all_goals first | rfl | omega
theorem fit8 (n : Nat) (h : n ≤ 1099511627776) : n < 256 ^ 8 := by omega
theorem fit4 (n : Nat) (h : n ≤ 1073741824) : n < 256 ^ 4 := by omega
theorem fit2 (n : Nat) (h : n ≤ 255) : n < 256 ^ 2 := by omega

/-- a whole array out of its block -/
theorem wpList_load_blk {P : Program} {ops : Array Oper} {rest : List Oper} {o : Oper} {a : Act} {w : World} {Q : Exit → Act → World → Prop} {g : Nat} {t : TypeId} {cs : Array Value} (hg : Blk w g t cs) (hgd : o.guard = none) (ty : TypeId) (x : Operand) (ho : o.op = .load ty x)
    (hx : a.eval x = .pointer (some ⟨g, 0, none⟩)) {d : TypeDesc} (hu : P.underlying ty = some d) (hd : (match d with | .struct _ | .array _ _ => true | _ => false) = true) (hi : (P.info? ty).map (·.size) = some cs.size)
    (h : wpList P ops Q rest (a.put o.dst (.agg cs)) w) : wpList P ops Q (o :: rest) a w :=
  wpList_load_row hgd ty x ho g hx t cs (0, 0) d hg hu hd hi h
theorem ret_blk {P : Program} {fn : Func} {p : Tmp} {ty : TypeId} {tmps : Array Value} {w : World} {g : Nat} {t : TypeId} {cs : Array Value} (hg : Blk w g t cs) (h : fn.results = #[.cell p ty]) (hp : tmps.getD p undef = .pointer (some ⟨g, 0, none⟩))
    {d : TypeDesc} (hu : P.underlying ty = some d) (hd : (match d with | .struct _ | .array _ _ => true | _ => false) = true) (hi : (P.info? ty).map (·.size) = some cs.size) :
    (results fn tmps).run P w = .ok (.agg cs) w := results_cell_row h tmps w g t cs (0, 0) d hp hg hu hd hi

set_option maxRecDepth 100000 in
set_option maxHeartbeats 400000 in
theorem sum_nil (w : World) : Calls Tryd.prog 34 #[.pointer none] w fun e w' => e = .returned (.agg zb32) ∧ Ext w w' := by
  go_enter Tryd.func34, Tryd.ntmps34
  go_wp2_with (first | (have _ := hb1; refine wpList_alloc_blk rfl 30 rfl (.agg zb32) zero_a32 ?_; intro w2 hs2 hb2 he2; rw [hs1] at hb2) | (refine wpList_alloc_blk rfl 30 rfl (.agg zb32) zero_a32 ?_; intro w1 hs1 hb1 he1) | (refine wpList_load_blk hb2 rfl 30 _ rfl rfl Tryd.underlying30 rfl info_a32 ?_) | (refine wpList_store_blk rfl 30 _ _ rfl w.heap.size zb32 rfl rfl 30 zb32 (hb1.ext he2) info_a32 rfl zb32_one ?_; intro w3 hs3 hb3 hg3))
  refine bodyPost_ret (v := .agg zb32) (ret_blk hb3 rfl rfl Tryd.underlying30 rfl info_a32) rfl ?_
  exact ⟨rfl, (he1.trans he2).grown hg3 (by simp)⟩

set_option maxRecDepth 100000 in
set_option maxHeartbeats 2000000 in
theorem sum_any (g : Nat) (s : St) (rest : List UInt8) (n : Nat) (w : World) (hK : Kst w) (hH : HashAt w g s rest n) (hr : rest.length < 64) (hmod : n % 64 = rest.length) (hn : n ≤ 1073730000) :
    Calls Tryd.prog 34 #[.pointer (some ⟨g, 0, none⟩)] w fun e w' => e = .returned (dgV (outB (feed s (rest ++ padB n)).1)) ∧ Ext w w' := by
  have HH := Lib.hid hH
  have Hmod := Lib.hid hmod
  clear hH hmod
  go_enter Tryd.func34, Tryd.ntmps34
  go_wp2_with (first | (have _ := hb0; refine wpList_alloc_blk rfl 30 rfl (.agg zb32) zero_a32 ?_; intro w1 hs1 hb1 he1; rw [hs0] at hb1) | (refine wpList_alloc_blk rfl 30 rfl (.agg zb32) zero_a32 ?_; intro w0 hs0 hb0 he0))
  have E1 : Ext w w1 := he0.trans he1
  have B1 : Blk w1 w.heap.size 30 zb32 := hb0.ext he1
  have B2 : Blk w1 (w.heap.size + 1) 30 zb32 := hb1
  clear hs0 hb0 he0 hs1 hb1 he1
  refine (fork_any g s rest n _ (HH.out.ext E1) hr).mono ?_
  rintro e w2 ⟨g', rfl, hg', H2, E2⟩
  have h9 : w2.cell? ⟨g, 9, none⟩ = some (.int .i64 (n : Int)) := by obtain ⟨A, c, hb, _⟩ := HH.out.ext (E1.trans E2); exact hb.cell 9
  obtain ⟨A2, c2, Hb2, Hs2⟩ := id H2
  have h8 : w2.cell? ⟨g', 8, none⟩ = some (.slice A2 rest.length c2) := Hb2.cell 8
  have HH2 := Lib.hid H2
  clear Hb2 Hs2 H2
  go_wp2_with fail
  refine (oPut_int _ _ (8 * n) 8 (by omega) rfl (by omega) (by omega) (by omega) (fit8 _ (by omega)) _).mono ?_
  rintro e w3 ⟨v3, rfl, O3, E3⟩
  obtain ⟨A3, c3, rfl, hc3⟩ := own_form O3
  have HO3 := Lib.hid O3
  clear O3
  go_wp2_with (at_make; refine wpList_make_blk rfl 51 5 _ _ rfl (.int .u8 0) 1 Tryd.underlying51 info_u8 rfl ((119 - rest.length) % 64) (by simp [Act.eval]; omega) (by simp [Act.eval]; omega) (by omega) (by omega) ?_; intro w4 hs4 hb4 he4)
  have hz4 : w4.heap.size = w3.heap.size + 1 + 1 := by rw [hs4]; simp
  have Hz4 := Lib.hid hz4
  have hb4' : Blk w4 (w3.heap.size + 1) 5 (Array.replicate ((119 - rest.length) % 64) (.int .u8 0)) := by simpa using hb4
  have b128 : Blk w4 w3.heap.size 5 #[.int .u8 128] := (Blk.new w3 5 #[.int .u8 128]).ext he4
  have E34 : Ext w3 w4 := ((Ext.refl w3).alloc _).trans he4
  have hall : SlAll (w4.alloc (.cells #[.slice (some ⟨w3.heap.size, 0, none⟩) 1 1, .slice (some ⟨w3.heap.size + 1, 0, none⟩) ((119 - rest.length) % 64) ((119 - rest.length) % 64), .slice A3 8 c3] 51)) (.slice (some ⟨w3.heap.size + 1 + 1, 0, none⟩) 3 3)
      [[128], List.replicate ((119 - rest.length) % 64) 0, putB (8 * n) 8] := by
    have := slAll_new w4 51 [.slice (some ⟨w3.heap.size, 0, none⟩) 1 1, .slice (some ⟨w3.heap.size + 1, 0, none⟩) ((119 - rest.length) % 64) ((119 - rest.length) % 64), .slice A3 8 c3] [[128], List.replicate ((119 - rest.length) % 64) 0, putB (8 * n) 8] rfl (by
      intro i bs hi
      rcases i with _ | _ | _ | i
      · simp at hi; subst hi; exact ⟨_, rfl, sl_of_blk (l := [128]) b128⟩
      · simp at hi; subst hi
        refine ⟨_, rfl, ?_⟩
        have h5 := sl_of_blk (l := List.replicate ((119 - rest.length) % 64) 0) (w := w4) (g := w3.heap.size + 1) (t := 5) (by simpa [bytesV, byteV] using hb4')
        simpa using h5
      · simp at hi; subst hi; exact ⟨_, rfl, by have h6 := SlR.ext (SlR.of_own HO3.out) E34; rw [Sl, putB_length]; exact h6⟩
      · simp at hi)
    rw [hz4] at this
    exact this
  have hpad : [[128], List.replicate ((119 - rest.length) % 64) 0, putB (8 * n) 8].flatten = padB n := by simp [padB, Hmod.out]
  have Hcall := Lib.hid (concatB_any _ _ _ hall (by simp) (by rw [total, hpad]; have := padB_small n; omega))
  rw [hpad] at Hcall
  clear hall hpad hb4 hb4' b128 hz4 hs4
  refine Hcall.out.mono ?_
  rintro e w5 ⟨v5, rfl, O5, E5⟩
  obtain ⟨A5, c5, rfl, hc5⟩ := own_form O5
  have E45 : Ext w2 w5 := E3.trans (E34.trans (((Ext.refl w4).alloc _).trans E5))
  have K5 := hK.ext ((E1.trans E2).trans E45)
  have hps := padB_small n
  have Hwr := Lib.hid (write_any g' s rest (padB n) n _ w5 K5 (HH2.out.ext E45) (SlR.of_own O5) hr (by omega))
  clear Hcall O5 K5
  go_wp2_with fail
  refine Hwr.out.mono ?_
  rintro e w6 ⟨rfl, H6, G6⟩
  clear Hwr
  obtain ⟨z, hz⟩ : ∃ z, z = (feed s (rest ++ padB n)).1 := ⟨_, rfl⟩
  rw [← hz] at H6
  have Hz := Lib.hid hz
  clear hz
  obtain ⟨A6, c6, D3, _⟩ := H6
  have hlt5 : w.heap.size + 1 < w1.heap.size := B2.lt
  have hne : g' ≠ w.heap.size ∧ g' ≠ w.heap.size + 1 := by omega
  have E15 : Ext w1 w5 := E2.trans E45
  have D1 := (B1.ext E15).grown G6 (by simp; omega)
  have D2 := (B2.ext E15).grown G6 (by simp; omega)
  have E6 : Ext w w6 := (E1.trans E15).grown G6 (by simp; have := E1.size; omega)
  have Hl : Hid ((outB z).length = 32) := outB_length z
  clear B1 B2 E1 E2 E3 E34 E5 E45 E15 G6 he4 HO3 h8 h9 HH2 HH
  go_wp2
  go_loopw [38] (fun i wr => ∃ k : Nat, k ≤ 32 ∧ i = .int .i64 k ∧ Blk wr w.heap.size 30 zb32 ∧ Blk wr (w.heap.size + 1) 30 (headC (outB z) k) ∧ Blk wr g' 76 (hashC z (.slice A6 (feed s (rest ++ padB n)).2.length c6) (n + (padB n).length)) ∧ Ext w wr) (fun i _ => 32 - (intOf i).toNat)
  case atStart => exact ⟨0, by omega, rfl, D1, by rw [zb32_head _ Hl.out]; exact D2, D3, E6⟩
  case round =>
    clear D1 D2 D3 E6
    obtain ⟨k, hk, rfl, D1, D2, D3, E6⟩ := hrel
    by_cases hlt : k < 32
    · have hc : wr.cell? ⟨g', k / 4, none⟩ = some (.int .u32 (z.list[k / 4]?.getD 0)) := by rw [D3.cell]; exact hashC_get z _ _ _ (by omega)
      have c0 : ∃ u, wr.cell? ⟨w.heap.size + 1, k, none⟩ = some u := by rw [D2.cell]; exact ⟨_, Array.getElem?_eq_getElem (by rw [headC_size _ _ (by rw [Hl.out]; omega), Hl.out]; exact hlt)⟩
      obtain ⟨u0, c0⟩ := c0
      have f0 := D2.frozen k
      go_wp2
      go_roundw
      case rel =>
        refine ⟨k + 1, by omega, by go_num, D1.far (by simp) _, ?_, D3.far (by simp; omega) _, E6.setCell (by simp) _⟩
        rw [← headC_set _ _ (by rw [Hl.out]; exact hlt)]
        exact D2.set_ (by rw [outB_get _ _ hlt, Option.getD_some, u8_toNat])
      case measure => simp [intOf]; omega
    · obtain rfl : k = 32 := by omega
      have D2' : Blk wr (w.heap.size + 1) 30 (bytesV (outB z)).toArray := by have := headC_all (outB z); rw [Hl.out] at this; rw [← this]; exact D2
      have hz32 : Hid (zb32.size = (bytesV (outB z)).toArray.size) := zb32_size _ Hl.out
      have hi32 : Hid ((Tryd.prog.info? 30).map (·.size) = some (bytesV (outB z)).toArray.size) := by rw [List.size_toArray, bytesV_length, Hl.out]; exact info_a32
      go_wp2_with (first | (refine wpList_load_blk D2' rfl 30 _ rfl rfl Tryd.underlying30 rfl hi32.out ?_) | (refine wpList_store_blk rfl 30 _ _ rfl w.heap.size (bytesV (outB z)).toArray rfl rfl 30 zb32 D1 hi32.out hz32.out (bytes_one _) ?_; intro w7 hs7 hb7 hg7))
      refine bodyPost_ret (v := dgV (outB z)) (ret_blk hb7 rfl rfl Tryd.underlying30 rfl hi32.out) rfl ?_
      exact ⟨by rw [Hz.out], E6.grown hg7 (by simp)⟩

end Go.Proofs.YtafjnlikmjahfaaDoor
