/- Texts: string(b), []byte(s); contracts of octet.Text, pursuivantref01.Text, and of slices.Grow and slices.Concat of slices of bytes. -/
import Derived.Test.YtafjnlikmjahfaaDoorOfB
import Derived.Lib.AppendStr
import Derived.Lib.ConvBytes
import Derived.Laws.BytesArg
namespace Go.Proofs.YtafjnlikmjahfaaDoor
open Go.RowKit

/-- bytes as a string -/
def strB (l : List UInt8) : ByteArray := ⟨l.toArray⟩
theorem strB_data (l : List UInt8) : (strB l).data.toList = l := by simp [strB]
theorem strB_size (l : List UInt8) : (strB l).size = l.length := by simp [strB, ByteArray.size]
theorem strB_of (s : ByteArray) : strB s.data.toList = s := by cases s; simp [strB]

theorem run_conv_none (w : World) (p : Option Addr) (c : Nat) : (convert 51 9 (.slice p 0 c)).run Tryd.prog w = .ok (.string ByteArray.empty) w := by
  rw [run_convert_bytes_string w 51 9 5 _ 0 c Tryd.underlying51 Tryd.underlying5 Tryd.underlying9]
  cases p <;> simp [Conv.bytesToString, loadCells]
  all_goals rfl
/-- string(b) -/
theorem run_conv_str {w : World} {v : Value} {bs : List UInt8} (h : Sl w v bs) : (convert 51 9 v).run Tryd.prog w = .ok (.string (strB bs)) w := by
  obtain ⟨A, c, rfl, hc⟩ := SlR.form h
  by_cases h0 : bs.length = 0
  · obtain rfl : bs = [] := List.eq_nil_of_length_eq_zero h0
    exact run_conv_none w A c
  · obtain ⟨b, o, rfl, hx⟩ := SlR.here h (by omega)
    have := run_convert_bytes_arg (P := Tryd.prog) w 51 5 Tryd.underlying51 Tryd.underlying5 b o bs.length c (bs.map fun x => (x.toNat : Int)) (by simp) (fun i hi => by
      rw [hx i _ (bytesV_get bs i hi)]
      simp [List.getElem?_eq_getElem hi]) 9 Tryd.underlying9
    rw [this]
    have e : strOfNums (bs.map fun x => (x.toNat : Int)) = strB bs := by
      simp only [strOfNums, strB, List.map_map]
      congr 2
      refine (List.map_congr_left (fun x _ => ?_)).trans (List.map_id _)
      simp
    rw [e]

theorem ext_bytesWorld (w : World) (e : TypeId) (s : ByteArray) : Ext w (Lib.bytesWorld w e s) :=
  ⟨rfl, rfl, rfl, by rw [Lib.bytesWorld_size]; omega, fun k hk => Lib.bytesWorld_at_old w e s k hk⟩
/-- []byte(s) -/
theorem wpList_conv_bytes {ops : Array Oper} {rest : List Oper} {o : Oper} {a : Act} {Q : Exit → Act → World → Prop} {w : World} (hgd : o.guard = none) (x : Operand) (ho : o.op = .convert 9 51 x) (s : ByteArray) (hx : a.eval x = .string s)
    (h : ∀ w1 c, Sl w1 (.slice (some ⟨w.heap.size, 0, none⟩) s.size c) s.data.toList → w1.heap.size = w.heap.size + 1 → Ext w w1 → wpList Tryd.prog ops Q rest (a.put o.dst (.slice (some ⟨w.heap.size, 0, none⟩) s.size c)) w1) : wpList Tryd.prog ops Q (o :: rest) a w := by
  refine wpList_plain hgd fun K hK => ?_
  have hr := Lib.run_convert_string_bytes (P := Tryd.prog) w 9 51 5 s Tryd.underlying9 Tryd.underlying51 Tryd.underlying5
  unfold Oper.wp execOp
  simp only [ho, hx, Sem.run_bind, hr, Result.andThen_ok, Sem.run_pure]
  refine hK _ _ (h _ _ ?_ (Lib.bytesWorld_size w _ s) (ext_bytesWorld w _ s))
  have hl : s.data.toList.length = s.size := rfl
  have hge := grownCap_ge w s.size 0 5
  have hs : SlR (Lib.bytesWorld w 5 s) 1 (.slice (some ⟨w.heap.size, 0, none⟩) s.size (grownCap w s.size 0 5)) s.size (bytesV s.data.toList) :=
    SlR.of_cells (by rw [bytesV_length, hl, Nat.mul_one]) hge (fun j v hv => by
      have hj : j < s.size := by have := (List.getElem?_eq_some_iff.1 hv).1; rw [bytesV_length, hl] at this; exact this
      rw [Nat.zero_add, Lib.bytesWorld_cell w _ s j hj, ← hv, bytesV_get _ _ (by rw [hl]; exact hj)]
      simp)
  exact hs

/-- a text's bytes -/
def textB (l : List UInt8) : List UInt8 := putB l.length 4 ++ l
theorem textB_length (l : List UInt8) : (textB l).length = 4 + l.length := by simp [textB, putB_length]

set_option maxRecDepth 100000 in
set_option maxHeartbeats 400000 in
theorem oText_any (s : ByteArray) (hs : s.size ≤ 1048576) (w : World) :
    Calls Tryd.prog 32 #[.string s] w fun e w' => ∃ v', e = .returned (.tuple #[v', .int .i64 0]) ∧ Own w' w.heap.size v' (textB s.data.toList) ∧ Ext w w' := by
  obtain ⟨i0, hi, hz0, hz1, hz2⟩ := info_parts info_u8
  go_enter Tryd.func32, Tryd.ntmps32
  go_wp2_with fail
  refine (oPut_int _ _ s.size 4 rfl rfl (by omega) (by omega) (by omega) (fit4 _ (by omega)) _).mono ?_
  rintro e w1 ⟨v1, rfl, O1, E1⟩
  have HO := Lib.hid O1
  clear O1
  go_wp2_with (at_builtin; refine Lib.wpList_append_own_string _ rfl _ _ 51 9 rfl w.heap.size 5 i0 Tryd.underlying51 Tryd.underlying9 hi hz0 hz1 hz2 v1 4 _ rfl HO.out s rfl (by unfold maxLen; omega) (by omega) E1.size ?_; intro v2 w2 ho2 hg2 _)
  go_ret2
  refine ⟨v2, rfl, own_mk ho2 (by rw [textB_length]; rfl) (by rw [textB, bytesV_append]; rfl), E1.grown hg2 (fun j hj => (World.ownsRow.lt HO.out j hj).1)⟩

set_option maxRecDepth 100000 in
set_option maxHeartbeats 400000 in
theorem rText_any (s : ByteArray) (hs : s.size ≤ 1048576) (w : World) :
    Calls Tryd.prog 35 #[.string s] w fun e w' => ∃ v', e = .returned v' ∧ Own w' w.heap.size v' (textB s.data.toList) ∧ Ext w w' := by
  obtain ⟨i0, hi, hz0, hz1, hz2⟩ := info_parts info_u8
  go_enter Tryd.func35, Tryd.ntmps35
  go_wp2_with fail
  refine (rPut_int _ _ s.size 4 rfl rfl (by omega) (by omega) (by omega) (fit4 _ (by omega)) _).mono ?_
  rintro e w1 ⟨v1, rfl, O1, E1⟩
  have HO := Lib.hid O1
  clear O1
  go_wp2_with (at_builtin; refine Lib.wpList_append_own_string _ rfl _ _ 51 9 rfl w.heap.size 5 i0 Tryd.underlying51 Tryd.underlying9 hi hz0 hz1 hz2 v1 4 _ rfl HO.out s rfl (by unfold maxLen; omega) (by omega) E1.size ?_; intro v2 w2 ho2 hg2 _)
  go_ret
  refine ⟨v2, rfl, own_mk ho2 (by rw [textB_length]; rfl) (by rw [textB, bytesV_append]; rfl), E1.grown hg2 (fun j hj => (World.ownsRow.lt HO.out j hj).1)⟩

set_option maxRecDepth 100000 in
set_option maxHeartbeats 400000 in
theorem growBB_any (n : Nat) (hn : n ≤ 1073741824) (w : World) :
    Calls Tryd.prog 41 #[.slice none 0 0, .int .i64 (n : Int)] w fun e w' => ∃ v', e = .returned v' ∧ w'.ownsRow w.heap.size 51 1 v' 0 [] ∧ Ext w w' := by
  obtain ⟨i0, hi, hz0, hz1, hz2⟩ := info_parts info_bytes
  by_cases h0 : 0 < n
  · have hr := fun w => Lib.run_append_nil_zeros (P := Tryd.prog) w 59 3 59 51 i0 (.slice none 0 0) .i64 .i64 Tryd.underlying59 Tryd.underlying3 hi hz0 n h0 (by omega) (by omega) (by rw [hz2]; omega)
    have Hr := Lib.hid hr
    clear hr
    go_enter Tryd.func41, Tryd.ntmps41
    go_wp2_with (at_builtin; refine Lib.wpList_append_run _ rfl _ _ 59 3 rfl _ _ rfl rfl _ _ (Hr.out _) ?_)
    go_ret
    refine ⟨_, rfl, ?_, ?_⟩
    · have hge := grownCap_ge w n 0 51
      exact World.ownsRow_made w _ (grownCap w n 0 51) (Nat.le_refl _) (grownCap_le_maxLen w n 0 51 (by unfold maxLen; omega)) (by simp [size_zeroCells]; omega)
    · exact ((Ext.refl w).alloc _).drew
  · have hn0 : n = 0 := by omega
    subst hn0
    go_enter Tryd.func41, Tryd.ntmps41
    go_wp2
    go_ret
    exact ⟨_, rfl, World.ownsRow_nil w _ _ _, Ext.refl w⟩

/-- a slice of slices of slices of bytes, as cells -/
def SlSl (w : World) (pv : Value) (vss : List (List Value)) : Prop := ∃ vs : List Value, SlR w 1 pv vss.length vs ∧ ∀ (i : Nat) (xs : List Value), vss[i]? = some xs → ∃ v, vs[i]? = some v ∧ SlR w 1 v xs.length xs
theorem SlSl.form {w : World} {pv : Value} {vss : List (List Value)} (h : SlSl w pv vss) : ∃ A c, pv = .slice A vss.length c ∧ vss.length ≤ c := by
  obtain ⟨vs, h1, _⟩ := h
  exact h1.form
theorem SlSl.at_ {w : World} {A : Option Addr} {c k : Nat} {vss : List (List Value)} (h : SlSl w (.slice A vss.length c) vss) (hk : k < vss.length) :
    ∃ b o B d, A = some ⟨b, o, none⟩ ∧ w.cell? ⟨b, o + k, none⟩ = some (.slice B vss[k].length d) ∧ SlR w 1 (.slice B vss[k].length d) vss[k].length vss[k] := by
  obtain ⟨vs, h1, h2⟩ := h
  obtain ⟨b, o, hA, hc⟩ := h1.here (by omega)
  obtain ⟨v, hv, hs⟩ := h2 k vss[k] (List.getElem?_eq_getElem hk)
  obtain ⟨B, d, rfl, _⟩ := SlR.form hs
  exact ⟨b, o, B, d, hA, hc k _ hv, hs⟩
def totalV (vss : List (List Value)) : Nat := vss.flatten.length
theorem totalV_take_succ (vss : List (List Value)) (k : Nat) (h : k < vss.length) : totalV (vss.take (k + 1)) = totalV (vss.take k) + vss[k].length := by
  unfold totalV
  rw [List.take_succ_eq_append_getElem h, List.flatten_append, List.length_append]
  simp
theorem totalV_take_le (vss : List (List Value)) (k : Nat) : totalV (vss.take k) ≤ totalV vss := by
  unfold totalV
  conv => rhs; rw [← List.take_append_drop k vss]
  rw [List.flatten_append, List.length_append]
  omega
theorem flatV_take_succ (vss : List (List Value)) (k : Nat) (h : k < vss.length) : (vss.take (k + 1)).flatten = (vss.take k).flatten ++ vss[k] := by
  rw [List.take_succ_eq_append_getElem h, List.flatten_append]
  simp

set_option maxRecDepth 100000 in
set_option maxHeartbeats 1000000 in
theorem concatBB_any (pv : Value) (vss : List (List Value)) (w : World) (hv : SlSl w pv vss) (h1 : ∀ xs ∈ vss, ∀ u ∈ xs, u.oneCell' = true) (hn : vss.length ≤ 1073741824) (hlen : totalV vss ≤ 1073741824) :
    Calls Tryd.prog 31 #[pv] w fun e w' => ∃ v', e = .returned v' ∧ w'.ownsRow w.heap.size 51 1 v' vss.flatten.length vss.flatten ∧ Ext w w' := by
  obtain ⟨A, c, rfl, hc⟩ := hv.form
  obtain ⟨i0, hi, hz0, hz1, hz2⟩ := info_parts info_bytes
  have HV := Lib.hid hv
  have H1c := Lib.hid h1
  clear hv h1
  go_enter Tryd.func31, Tryd.ntmps31
  go_wp2
  go_loop [11, 3] (fun i s => ∃ k : Nat, k ≤ vss.length ∧ i = .int .i64 k ∧ s = .int .i64 (totalV (vss.take k) : Nat)) (fun i _ => vss.length - (intOf i).toNat)
  case atStart => exact ⟨0, by omega, rfl, rfl⟩
  case round =>
    obtain ⟨k, hk, rfl, rfl⟩ := hrel
    by_cases hlt : k < vss.length
    · obtain ⟨b, o, B, d, rfl, hcell, _⟩ := HV.out.at_ hlt
      have h1 := totalV_take_succ vss k hlt
      have h2 := totalV_take_le vss (k + 1)
      have H1 := Lib.hid h1
      have h3 : totalV (vss.take k) + vss[k].length ≤ 1073741824 := by omega
      clear h1 h2
      go_wp2
      go_round
      case rel => exact ⟨k + 1, by omega, by go_num, by rw [H1.out]; go_num⟩
      case measure => simp [intOf]; omega
    · obtain rfl : k = vss.length := by omega
      rw [List.take_length]
      go_wp2_with (go_at_call 41; refine (growBB_any (totalV vss) hlen _).mono ?_; rintro e w1 ⟨v0, rfl, hown, E1⟩; obtain ⟨A0, c0, rfl, hc0⟩ := own_form hown)
      go_loopw [27, 6] (fun i v wr => ∃ k : Nat, k ≤ vss.length ∧ i = .int .i64 k ∧ wr.ownsRow w.heap.size 51 1 v (totalV (vss.take k)) (vss.take k).flatten ∧ Ext w wr) (fun i _ _ => vss.length - (intOf i).toNat)
      case atStart => exact ⟨0, by omega, rfl, hown, E1⟩
      case round =>
        clear hown E1
        obtain ⟨k, hk, rfl, hown, E1⟩ := hrel
        by_cases hlt : k < vss.length
        · obtain ⟨b, o, B, d, rfl, hcell, hs⟩ := HV.out.at_ hlt
          have hcell1 := E1.cell hcell
          have H1 := Lib.hid (totalV_take_succ vss k hlt)
          have h2 := totalV_take_le vss (k + 1)
          have h3 : totalV (vss.take k) + vss[k].length ≤ 1073741824 := by have := H1.out; omega
          clear h2
          have Hs := Lib.hid (SlR.ext hs E1)
          have Hown := Lib.hid hown
          clear hs hown
          go_wp2_with (at_builtin; refine wpList_append_sl _ rfl _ _ 59 rfl w.heap.size 51 i0 (.slice none 0 0) 1 24 Tryd.underlying59 hi hz0 hz1 hz2 rfl (by omega) u6 _ _ rfl Hown.out B vss[k].length d vss[k] rfl Hs.out (H1c.out _ (List.getElem_mem _)) (by unfold maxLen; omega) (by omega) E1.size ?_; intro v' w2 h21 h22 h23)
          go_roundw
          case rel => exact ⟨k + 1, by omega, by go_num, by rw [H1.out, flatV_take_succ vss k hlt]; exact h21, E1.grown h22 (fun j hj => (Hown.out.lt j hj).1)⟩
          case measure => simp [intOf]; omega
        · obtain rfl : k = vss.length := by omega
          rw [List.take_length] at hown
          go_wp2
          go_ret
          exact ⟨_, rfl, hown, E1⟩
end Go.Proofs.YtafjnlikmjahfaaDoor
