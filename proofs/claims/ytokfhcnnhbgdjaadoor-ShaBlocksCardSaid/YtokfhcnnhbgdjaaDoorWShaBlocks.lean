/- The walk of the law ShaBlocks. -/
import Derived.Test.YtokfhcnnhbgdjaaDoorLivesA
namespace Go.Proofs.YtokfhcnnhbgdjaaDoor
open Go.RowKit
attribute [local go_sem] Later.cell?

theorem load_a8 {w : World} {g : Nat} {t : TypeId} {s : St} (h : Blk w g t s.vals) : (Instr.loadAt 23 (.pointer (some ⟨g, 0, none⟩))).run Tryd.prog w = .ok (.agg s.vals) w :=
  run_loadAt_mid w g 0 23 s.vals.toList _ (fun j v hv => by rw [Nat.zero_add, h.cell]; simpa using hv) Tryd.underlying23 rfl info_a8
theorem zeroB_getD (bs : List UInt8) (j : Nat) : bs.getD j 0 = bs[j]?.getD 0 := by simp

set_option maxRecDepth 100000 in
set_option maxHeartbeats 1000000 in
theorem shaBlocks_any (s : St) (v : Value) (bs : List UInt8) (w : World) (hK : Kst w) (hv : Sl w v bs) :
    Calls Tryd.prog 3 #[.agg s.vals, v] w fun e w' => e = .returned (.bool true) ∧ Ext w w' := by
  obtain ⟨A, c, rfl, hc⟩ := hv.form
  obtain ⟨z, hz⟩ : ∃ z : St, ∀ w', Ext w w' → (Calls Tryd.prog 9 #[.agg s.vals, .slice A bs.length c] w' fun e w'' => e = .returned (.agg z.vals) ∧ Ext w' w'') ∧ (Calls Tryd.prog 10 #[.agg s.vals, .slice A bs.length c] w' fun e w'' => e = .returned (.agg z.vals) ∧ Ext w' w'') := by
    by_cases h64 : bs.length = 64
    · obtain ⟨b, o, rfl, hcell⟩ := hv.here (by omega)
      refine ⟨blk s bs, fun w' E => ?_⟩
      have hcell' : ∀ j, j < 64 → w'.cell? ⟨b, o + j, none⟩ = some (.int .u8 ((bs[j]?.getD 0).toNat : Int)) := fun j hj => E.cell (hcell j _ (by simp [bytesV, byteV, List.getElem?_eq_getElem (show j < bs.length by omega)]))
      rw [h64]
      exact ⟨block_yes s bs b o c (by omega) w' (hK.ext E) (fun j hj => by rw [zeroB_getD]; exact hcell' j hj), rblock_yes s bs b o c w' hcell'⟩
    · exact ⟨zeroSt, fun w' _ => ⟨block_no s A bs.length c (by simp; omega) w', rblock_no s A bs.length c (by simp; omega) w'⟩⟩
  have Hz := Lib.hid hz
  clear hz
  have hlv : ∀ w', Ext w w' → Calls Tryd.prog 8 #[] w' fun e w'' => e = .returned (.bool true) ∧ Ext w' w'' := fun w' E => lives2_any w' (hK.ext E)
  have Hlv := Lib.hid hlv
  clear hlv
  unfold St.vals
  go_enter Tryd.func3, Tryd.ntmps3
  by_cases h2 : bs.length ≤ 200
  · have h3 : ((bs.length : Int) > 200) = False := by simp; omega
    go_wp2
    have hB0 : Blk (w.alloc (.cells s.vals 23)) w.heap.size 23 s.vals := Blk.new w _ _
    have E0 : Ext w (w.alloc (.cells s.vals 23)) := (Ext.refl w).alloc _
    unfold St.vals at hB0 E0
    revert hB0 E0
    generalize World.alloc w _ = w1
    intro hB0 E1
    have hB : Blk w1 w.heap.size 23 s.vals := hB0
    have hload : ∀ w', (∃ x : Later w1, w' = x.w) → (Instr.loadAt 23 (.pointer (some ⟨w.heap.size, 0, none⟩))).run Tryd.prog w' = .ok (.agg s.vals) w' := by rintro w' ⟨x, rfl⟩; exact load_a8 (hB.ext x.ext)
    have hb : ∀ x : Later w1, Calls Tryd.prog 9 #[.agg s.vals, .slice A bs.length c] x.w fun e w'' => e = .returned (.agg z.vals) ∧ Ext x.w w'' := fun x => (Hz.out _ (E1.trans x.ext)).1
    have hr : ∀ x : Later w1, Calls Tryd.prog 10 #[.agg s.vals, .slice A bs.length c] x.w fun e w'' => e = .returned (.agg z.vals) ∧ Ext x.w w'' := fun x => (Hz.out _ (E1.trans x.ext)).2
    have hl : ∀ x : Later w1, Calls Tryd.prog 8 #[] x.w fun e w'' => e = .returned (.bool true) ∧ Ext x.w w'' := fun x => Hlv.out _ (E1.trans x.ext)
    have Hb := Lib.hid hb
    have Hr := Lib.hid hr
    have Hl := Lib.hid hl
    have Hload := Lib.hid hload
    have heq := fun w => equal_a8 z w
    clear hload hB hB0 hb hr hl
    refine wp_region_lat (by kernel_rfl) (by kernel_rfl) ?_
    repeat (first | (refine quiet_load rfl 23 _ rfl (.agg s.vals) Hload.out ?_; simp only [Act.put, List.setIfInBounds_toArray, List.set_cons_succ, List.set_cons_zero]) | go_big_quiet_step (first | (go_at_call 8; exact lat_call (Hl.out _)) | (go_at_call 9; exact lat_call (Hb.out _)) | (go_at_call 10; exact lat_call (Hr.out _))))
    refine wpQuiet_nil ?_
    intro w9 E9
    go_wp2
    go_ret
    exact ⟨rfl, E1.trans E9⟩
  · have h3 : ((bs.length : Int) > 200) = True := by simp; omega
    have hl := Hlv.out (w.alloc (.cells s.vals 23)) ((Ext.refl w).alloc _)
    unfold St.vals at hl
    have Hl := Lib.hid hl
    clear hl
    go_wp2_with fail
    refine Hl.out.mono ?_
    rintro e w2 ⟨rfl, E2⟩
    go_wp2
    go_ret
    exact ⟨rfl, ((Ext.refl w).alloc _).trans E2⟩
end Go.Proofs.YtokfhcnnhbgdjaaDoor
