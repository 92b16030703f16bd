/- The contract of (*sha.Hash).Write. -/
import Derived.Test.YtafjnlikmjahfaaDoorHashA
namespace Go.Proofs.YtafjnlikmjahfaaDoor
open Go.RowKit
attribute [local go_sem] Later.cell?

def lenV : Value → Nat | .slice _ n _ => n | _ => 0

set_option maxRecDepth 100000 in
set_option maxHeartbeats 400000 in
theorem write_nil (v : Value) (w : World) : Calls Tryd.prog 33 #[.pointer none, v] w fun e w' => e = .returned (.int .i64 0) ∧ w = w' := by
  go_enter Tryd.func33, Tryd.ntmps33
  go_wp2
  go_ret
  exact ⟨rfl, rfl⟩

theorem slAll_new (w : World) (t : TypeId) (vs : List Value) (bss : List (List UInt8)) (hl : vs.length = bss.length) (h : ∀ (i : Nat) (bs : List UInt8), bss[i]? = some bs → ∃ v, vs[i]? = some v ∧ Sl w v bs) :
    SlAll (w.alloc (.cells vs.toArray t)) (.slice (some ⟨w.heap.size, 0, none⟩) bss.length bss.length) bss := by
  refine ⟨vs, SlR.of_cells (by omega) (Nat.le_refl _) (fun j v hv => ?_), fun i bs hi => ?_⟩
  · rw [Nat.zero_add, (Blk.new w t vs.toArray).cell]
    simpa using hv
  · obtain ⟨v, hv, hs⟩ := h i bs hi
    exact ⟨v, hv, hs.ext ((Ext.refl w).alloc _)⟩
theorem size_setCell (w : World) (p : Addr) (u : Value) : (w.setCell p u).heap.size = w.heap.size := by simp [World.setCell]
theorem grown_ext {a b c : World} {row : Option Nat} (h : a.grownBy b row) (he : Ext b c) : a.grownBy c row :=
  ⟨he.os.trans h.os, he.tape.trans h.tape, he.output.trans h.output, Nat.le_trans h.size he.size, fun k hk hr => (he.block k (Nat.lt_of_lt_of_le hk h.size)).trans (h.block k hk hr)⟩
theorem grown_trans {a b c : World} {row : Option Nat} (h : a.grownBy b row) (k : b.grownBy c row) : a.grownBy c row :=
  ⟨k.os.trans h.os, k.tape.trans h.tape, k.output.trans h.output, Nat.le_trans h.size k.size, fun i hi hr => (k.block i (Nat.lt_of_lt_of_le hi h.size) hr).trans (h.block i hi hr)⟩

theorem Sl.drop {w : World} {b o c k : Nat} {l : List UInt8} (h : Sl w (.slice (some ⟨b, o, none⟩) l.length c) l) (hk : k ≤ l.length) : Sl w (.slice (some ⟨b, o + k, none⟩) (l.length - k) (c - k)) (l.drop k) := by
  have hc := SlR.len_le h
  refine ⟨by simp [bytesV_length], some ⟨b, o + k, none⟩, c - k, by simp, by simp; omega, fun hn => ?_⟩
  obtain ⟨b', o', he, hx⟩ := SlR.here h (by simp at hn; omega)
  cases he
  refine ⟨b, o + k, rfl, fun j v hv => ?_⟩
  rw [bytesV_drop, List.getElem?_drop] at hv
  rw [Nat.add_assoc]
  exact hx _ v hv

theorem Blk.cast {w : World} {g : Nat} {t : TypeId} {cs cs' : Array Value} (h : Blk w g t cs) (e : cs = cs') : Blk w g t cs' := e ▸ h

/-- the loop of Write and what stands behind it, over what is to be fed -/
def WriteRel (w : World) (g : Nat) (f : St × List UInt8) (rv : Value) (n : Nat) (v : Value) (wr : World) : Prop :=
  ∃ (l : List UInt8) (s : St), Sl wr v l ∧ feed s l = f ∧ Blk wr g 76 (hashC s rv n) ∧ w.grownBy wr (some g) ∧ l.length ≤ 1073741904

set_option maxRecDepth 100000 in
set_option maxHeartbeats 2000000 in
theorem write_in (g : Nat) (s : St) (rest b : List UInt8) (n : Nat) (bv : Value) (w : World) (hK : Kst w) (hH : HashAt w g s rest n) (hb : Sl w bv b) (hr : rest.length < 64) (hn : n + b.length ≤ 1073740000) :
    Calls Tryd.prog 33 #[.pointer (some ⟨g, 0, none⟩), bv] w fun e w' => e = .returned (.int .i64 (b.length : Int)) ∧ HashIn w' w.heap.size g (feed s (rest ++ b)).1 (feed s (rest ++ b)).2 (n + b.length) ∧ w.grownBy w' (some g) := by
  obtain ⟨A, c, hB, hs⟩ := hH
  obtain ⟨Bb, cb, rfl, hcb⟩ := SlR.form hb
  have h8 : w.cell? ⟨g, 8, none⟩ = some (.slice A rest.length c) := hB.cell 8
  have h9 : w.cell? ⟨g, 9, none⟩ = some (.int .i64 (n : Int)) := hB.cell 9
  have f9 := hB.frozen 9
  have hg0 := hash_pos hB hK
  have Hg0 := Lib.hid hg0
  clear hg0
  have B1 : Blk (w.setCell ⟨g, 9, none⟩ (.int .i64 ((n : Int) + (b.length : Int)))) g 76 (hashC s (.slice A rest.length c) (n + b.length)) := by
    have := hB.set 9 (.int .i64 ((n : Int) + (b.length : Int)))
    simpa [hashC] using this
  have G1 : w.grownBy (w.setCell ⟨g, 9, none⟩ (.int .i64 ((n : Int) + (b.length : Int)))) (some g) := ⟨rfl, rfl, rfl, by simp [World.setCell], fun k _ hk => heap_setCell_other w _ k _ (fun e => hk (by rw [e]))⟩
  have S1 := hb.grown G1 (hash_noByte hB)
  have R1 := hs.grown G1 (hash_noByte hB)
  have HS := Lib.hid S1
  have HR := Lib.hid R1
  clear S1 R1 hs hb
  have hcases : rest.length < 1 ∨ 0 < rest.length := by omega
  have HB1 := Lib.hid B1
  have HG1 := Lib.hid G1
  clear B1 G1
  have hall : SlAll ((w.setCell ⟨g, 9, none⟩ (.int .i64 ((n : Int) + (b.length : Int)))).alloc (.cells #[.slice A rest.length c, .slice Bb b.length cb] 51)) (.slice (some ⟨w.heap.size, 0, none⟩) 2 2) [rest, b] := by
    have := slAll_new (w.setCell ⟨g, 9, none⟩ (.int .i64 ((n : Int) + (b.length : Int)))) 51 [.slice A rest.length c, .slice Bb b.length cb] [rest, b] rfl (by
      intro i bs hi
      rcases i with _ | _ | i
      · simp at hi; subst hi; exact ⟨_, rfl, HR.out⟩
      · simp at hi; subst hi; exact ⟨_, rfl, HS.out⟩
      · simp at hi)
    rw [size_setCell] at this
    exact this
  have Hcall := Lib.hid (concatB_any _ [rest, b] _ hall (by simp) (by simp [total]; omega))
  clear hall
  rcases hcases with h0 | hpos
  focus
    go_enter Tryd.func33, Tryd.ntmps33
    go_wp2
    have hstart : Hid (WriteRel w g (feed s (rest ++ b)) (.slice A rest.length c) (n + b.length) (.slice Bb b.length cb) (w.setCell ⟨g, 9, none⟩ (.int .i64 ((n : Int) + (b.length : Int))))) :=
      ⟨b, s, HS.out, by rw [List.eq_nil_of_length_eq_zero (show rest.length = 0 by omega)]; rfl, HB1.out, HG1.out, by omega⟩
  rotate_left
  focus
    go_enter Tryd.func33, Tryd.ntmps33
    go_wp2_with fail
    refine (Hcall.out).mono ?_
    rintro e w1 ⟨v1, rfl, hown, E1⟩
    obtain ⟨A1, c1, rfl, hc1⟩ := own_form hown
    have E2 : Ext (w.setCell ⟨g, 9, none⟩ (.int .i64 ((n : Int) + (b.length : Int)))) w1 := ((Ext.refl _).alloc _).trans E1
    have G2 : w.grownBy w1 (some g) := grown_ext HG1.out E2
    have hstart : Hid (WriteRel w g (feed s (rest ++ b)) (.slice A rest.length c) (n + b.length) (.slice A1 (rest.length + b.length) c1) w1) :=
      ⟨rest ++ b, s, by have := SlR.of_own hown; simpa [Sl] using this, rfl, HB1.out.ext E2, G2, by simp; omega⟩
    clear E2 G2 E1 hown
    go_wp2
  all_goals
    clear HB1 HG1 HS HR Hcall h8 h9 f9 hB
    go_loopw [5] (fun v wr => WriteRel w g (feed s (rest ++ b)) (.slice A rest.length c) (n + b.length) v wr) (fun v _ => lenV v)
    case atStart => exact hstart.out
    case round =>
      clear hstart
      obtain ⟨l, s', S, hf, B, G, hl⟩ := hrel
      obtain ⟨A2, c2, rfl, hc2⟩ := SlR.form S
      have HF := Lib.hid hf
      have HS := Lib.hid S
      have HG := Lib.hid G
      clear hf S G
      by_cases h64 : 64 ≤ l.length
      · obtain ⟨b0, o0, rfl, hcl⟩ := SlR.here HS.out (by omega)
        have Hcl := Lib.hid hcl
        clear hcl
        have a0 : wr.cell? ⟨g, 0, none⟩ = some (.int .u32 s'.a) := B.cell 0
        have a1 : wr.cell? ⟨g, 1, none⟩ = some (.int .u32 s'.b) := B.cell 1
        have a2 : wr.cell? ⟨g, 2, none⟩ = some (.int .u32 s'.c) := B.cell 2
        have a3 : wr.cell? ⟨g, 3, none⟩ = some (.int .u32 s'.d) := B.cell 3
        have a4 : wr.cell? ⟨g, 4, none⟩ = some (.int .u32 s'.e) := B.cell 4
        have a5 : wr.cell? ⟨g, 5, none⟩ = some (.int .u32 s'.f) := B.cell 5
        have a6 : wr.cell? ⟨g, 6, none⟩ = some (.int .u32 s'.g) := B.cell 6
        have a7 : wr.cell? ⟨g, 7, none⟩ = some (.int .u32 s'.h) := B.cell 7
        have hgl : g < wr.heap.size := B.lt
        have hblk : ∀ x : Later wr, Calls Tryd.prog 44 #[.agg s'.vals, .slice (some ⟨b0, o0, none⟩) 64 c2] x.w fun e w' => e = .returned (.agg (blk s' (l.take 64)).vals) ∧ Ext x.w w' := fun x =>
          block_yes s' (l.take 64) b0 o0 c2 (by omega) x.w (((hK.grown HG.out Hg0.out)).ext x.ext) (fun j hj => by
            have := x.ext.cell (Hcl.out j _ (bytesV_get l j (by omega)))
            rw [this]; simp [hj])
        have Hblk := Lib.hid hblk
        clear hblk
        obtain ⟨z, hz⟩ : ∃ z, z = blk s' (l.take 64) := ⟨_, rfl⟩
        rw [← hz] at Hblk
        have Hz := Lib.hid hz
        clear hz
        go_wp2
        refine wp_region_lat_tail 8 (by kernel_rfl) (by kernel_rfl) ?_
        simp only [List.take_succ_cons, List.take_zero, List.drop_succ_cons, List.drop_zero]
        repeat (go_big_quiet_step ((go_at_call 44; exact lat_call (Hblk.out _))))
        refine wpQuiet_nil ?_
        intro w5 E5
        have B5 := B.ext E5
        have HB5 := Lib.hid B5
        clear B5 a0 a1 a2 a3 a4 a5 a6 a7 B
        have hcc : 64 < c2 ∨ c2 = 64 := by omega
        go_wp2_with (refine wpList_store_at rfl 73 _ _ rfl g 0 z.vals rfl rfl 76 _ HB5.out info_a8 (by simp [hashC, St.vals]) (by simp [St.vals, Value.oneCell']) ?_; intro w6 hs6 hb6 hg6)
        all_goals
          refine ⟨⟨l.drop 64, z, ?_, ?_, ?_, ?_, ?_⟩, by simp [lenV]; omega⟩
          · have h6 := (HS.out.ext E5).grown hg6 (hash_noByte HB5.out)
            rcases hcc with hcc | hcc
            · first
                | exact Sl.drop h6 h64
                | (rw [if_neg (by omega)]; exact Sl.drop h6 h64)
                | (exfalso; omega)
            · have hd : l.drop 64 = [] := List.eq_nil_of_length_eq_zero (by simp; omega)
              rw [hd, show l.length - 64 = 0 by omega]
              exact SlR.none_ _ _ _ _
          · rw [← HF.out, feed_more s' l h64, ← Hz.out]
          · exact Blk.cast hb6 (by simp [hashC, St.vals])
          · exact grown_trans (grown_ext HG.out E5) hg6
          · simp; omega
      · have hlt : l.length < 64 := by omega
        have a8 : wr.cell? ⟨g, 8, none⟩ = some (.slice A rest.length c) := B.cell 8
        go_wp2_with fail
        refine (cloneB_any _ l _ HS.out (by omega)).mono ?_
        rintro e w7 ⟨v7, rfl, hown, E7⟩
        obtain ⟨A7, c7, rfl, hc7⟩ := own_form hown
        have a8' := E7.cell a8
        have f8 := (B.ext E7).frozen 8
        have HB7 := Lib.hid (B.ext E7)
        have Hown := Lib.hid hown
        clear hown B a8
        go_wp2
        go_ret
        have hfe : feed s (rest ++ b) = (s', l) := by rw [← HF.out, feed_less s' l hlt]
        have hG8 : w7.grownBy (w7.setCell ⟨g, 8, none⟩ (.slice A7 l.length c7)) (some g) := ⟨rfl, rfl, rfl, by simp [World.setCell], fun k _ hk => heap_setCell_other w7 _ k _ (fun e => hk (by rw [e]))⟩
        refine ⟨rfl, ?_, grown_trans (grown_ext HG.out E7) hG8⟩
        rw [hfe]
        refine ⟨A7, c7, Blk.cast (HB7.out.set 8 (.slice A7 l.length c7)) (by simp [hashC]), Sl.grown (SlR.of_own Hown.out) hG8 (hash_noByte HB7.out), fun ad had => ?_⟩
        have := own_from Hown.out ad had
        have := HG.out.size
        omega
theorem write_any (g : Nat) (s : St) (rest b : List UInt8) (n : Nat) (bv : Value) (w : World) (hK : Kst w) (hH : HashAt w g s rest n) (hb : Sl w bv b) (hr : rest.length < 64) (hn : n + b.length ≤ 1073740000) :
    Calls Tryd.prog 33 #[.pointer (some ⟨g, 0, none⟩), bv] w fun e w' => e = .returned (.int .i64 (b.length : Int)) ∧ HashAt w' g (feed s (rest ++ b)).1 (feed s (rest ++ b)).2 (n + b.length) ∧ w.grownBy w' (some g) :=
  (write_in g s rest b n bv w hK hH hb hr hn).mono fun _ _ ⟨he, hh, hx⟩ => ⟨he, hh.at_, hx⟩
end Go.Proofs.YtafjnlikmjahfaaDoor
