/- The walk of the law ShaWrites. -/
import Derived.Test.YtokfhcnnhbgdjaaDoorLivesA
import Derived.Test.YtokfhcnnhbgdjaaDoorGuard
namespace Go.Proofs.YtokfhcnnhbgdjaaDoor
open Go.RowKit
attribute [local go_sem] Later.cell?
attribute [local go_sem ↓] Go.wp_at_zero Go.wp_at_succ

/-- a hash whose rest lies in none of these blocks -/
def HashOff (w : World) (g : Nat) (s : St) (rest : List UInt8) (n : Nat) (N : List (Option Nat)) : Prop :=
  ∃ A c, Blk w g 52 (hashC s (.slice A rest.length c) n) ∧ Sl w (.slice A rest.length c) rest ∧ ∀ b o, A = some ⟨b, o, none⟩ → 0 < rest.length → some b ∉ N
section
variable {w w' : World} {g : Nat} {s : St} {rest : List UInt8} {n : Nat} {N : List (Option Nat)}
theorem HashOff.at_ (h : HashOff w g s rest n N) : HashAt w g s rest n := by
  obtain ⟨A, c, hb, hs, _⟩ := h
  exact ⟨A, c, hb, hs⟩
theorem HashOff.blk (h : HashOff w g s rest n N) : ∃ cs, Blk w g 52 cs := by
  obtain ⟨A, c, hb, hs, _⟩ := h
  exact ⟨_, hb⟩
theorem HashOff.noByte (h : HashOff w g s rest n N) : ∀ o (k : Int), w.cell? ⟨g, o, none⟩ ≠ some (.int .u8 k) := by
  obtain ⟨A, c, hb, hs, _⟩ := h
  exact hash_noByte hb
theorem HashOff.ext (h : HashOff w g s rest n N) (he : Ext w w') : HashOff w' g s rest n N := by
  obtain ⟨A, c, hb, hs, hN⟩ := h
  exact ⟨A, c, hb.ext he, hs.ext he, hN⟩
theorem HashIn.off {base : Nat} (h : HashIn w base g s rest n) (hN : ∀ b, some b ∈ N → b < base) : HashOff w g s rest n N := by
  obtain ⟨A, c, hb, hs, hA⟩ := h
  refine ⟨A, c, hb, hs, fun b o e _ hm => ?_⟩
  have h1 := hA _ e
  have h2 := hN b hm
  simp at h1
  omega
/-- another hash is written -/
theorem HashOff.other {g2 : Nat} (h : HashOff w g s rest n N) (hg : w.grownBy w' (some g2)) (hne : g ≠ g2) (hnb : ∀ o (k : Int), w.cell? ⟨g2, o, none⟩ ≠ some (.int .u8 k)) : HashOff w' g s rest n N := by
  obtain ⟨A, c, hb, hs, hN⟩ := h
  exact ⟨A, c, hb.grown hg (by simpa using hne), hs.grown hg hnb, hN⟩
/-- a row that is not the rest's is appended to; the row may have moved to a new block -/
theorem HashOff.append {q q' : Option Nat} {M : List (Option Nat)} (h : HashOff w g s rest n N) (hg : w.grownBy w' q) (hq : q ∈ N) (hne : q ≠ some g) (hM : ∀ x ∈ M, x ∈ N ∨ x = q') (hq' : q' = q ∨ q' = some w.heap.size) : HashOff w' g s rest n M := by
  obtain ⟨A, c, hb, hs, hN⟩ := h
  refine ⟨A, c, hb.grown hg (Ne.symm hne), ?_, fun b o e hp hm => ?_⟩
  · obtain ⟨hl, A', c', hv, hc, hr⟩ := hs
    cases hv
    refine ⟨hl, A, c, rfl, hc, fun hp => ?_⟩
    obtain ⟨b, o, rfl, hx⟩ := hr hp
    refine ⟨b, o, rfl, fun j u hu => hg.cell (hx j u hu) ?_⟩
    intro e
    exact hN b o rfl hp (e ▸ hq)
  · subst e
    rcases hM _ hm with h1 | h1
    · exact hN b o rfl hp h1
    · rcases hq' with h2 | h2
      · exact hN b o rfl hp (by rw [h1, h2]; exact hq)
      · rw [h2] at h1
        injection h1 with h1
        obtain ⟨b', o', e', hx⟩ := SlR.here hs hp
        cases e'
        have := World.block_lt_of_cell? w _ (hx 0 _ (bytesV_get rest 0 hp))
        simp at this
        omega
/-- a new block is none of its own -/
theorem HashOff.new {M : List (Option Nat)} (h : HashOff w g s rest n N) (he : Ext w w') (hM : ∀ b, some b ∈ M → some b ∈ N ∨ w.heap.size ≤ b) : HashOff w' g s rest n M := by
  obtain ⟨A, c, hb, hs, hN⟩ := h
  refine ⟨A, c, hb.ext he, hs.ext he, fun b o e hp hm => ?_⟩
  subst e
  rcases hM b hm with h1 | h1
  · exact hN b o rfl hp h1
  · obtain ⟨b', o', e', hx⟩ := SlR.here hs hp
    cases e'
    have := World.block_lt_of_cell? w _ (hx 0 _ (bytesV_get rest 0 hp))
    simp at this
    omega
end
/-- a row of bytes is kept where a hash is written -/
theorem Own.hash {w w' : World} {base g : Nat} {v : Value} {bs : List UInt8} {cs : Array Value} (h : Own w base v bs) (hb : Blk w g 52 cs) (hg : w.grownBy w' (some g)) : Own w' base v bs :=
  World.ownsRow.kept h hg (Or.inr (h.ne hb (by decide)))
theorem Own.apart {w w' : World} {base : Nat} {q : Option Nat} {v : Value} {bs : List UInt8} (h : Own w base v bs) (hg : w.grownBy w' q) (hne : ∀ j, v.ownBlock = some j → q ≠ some j) : Own w' base v bs := by
  refine World.ownsRow.kept h hg ?_
  cases hv : v.ownBlock with
  | none => exact Or.inl rfl
  | some j => exact Or.inr (Ne.symm (hne j hv))
theorem Own.lt {w : World} {base : Nat} {v : Value} {bs : List UInt8} (h : Own w base v bs) : ∀ j, v.ownBlock = some j → j < w.heap.size := fun j hj => (World.ownsRow.lt h j hj).2

/-- what is known of the fork, and of what was written when it was made -/
def FRel (B g : Nat) (q : Option Nat) (v7 v8 : Value) (wr : World) : Prop :=
  (v7 = .pointer none ∧ v8.ownBlock = none) ∨ ∃ g' th, v7 = .pointer (some ⟨g', 0, none⟩) ∧ g' ≠ g ∧ B ≤ g' ∧ HashOff wr g' (feed start th).1 (feed start th).2 th.length [q, v8.ownBlock] ∧ Own wr B v8 th ∧ th.length ≤ 10000 ∧ ∀ j, v8.ownBlock = some j → q ≠ some j
theorem FRel.ext {B g : Nat} {q : Option Nat} {v7 v8 : Value} {w w' : World} (h : FRel B g q v7 v8 w) (he : Ext w w') : FRel B g q v7 v8 w' := by
  rcases h with h | ⟨g', th, h1, h2, h3, h4, h5, h6, h7⟩
  · exact .inl h
  · exact .inr ⟨g', th, h1, h2, h3, h4.ext he, h5.ext he, h6, h7⟩
theorem FRel.hash {B g : Nat} {q : Option Nat} {v7 v8 : Value} {w w' : World} {cs : Array Value} (h : FRel B g q v7 v8 w) (hb : Blk w g 52 cs) (hnb : ∀ o (k : Int), w.cell? ⟨g, o, none⟩ ≠ some (.int .u8 k)) (hg : w.grownBy w' (some g)) : FRel B g q v7 v8 w' := by
  rcases h with h | ⟨g', th, h1, h2, h3, h4, h5, h6, h7⟩
  · exact .inl h
  · exact .inr ⟨g', th, h1, h2, h3, h4.other hg h2 hnb, h5.hash hb hg, h6, h7⟩
theorem FRel.append {B g : Nat} {v6 v6' v7 v8 : Value} {bs : List UInt8} {w w' : World} (h : FRel B g v6.ownBlock v7 v8 w) (ho : Own w B v6 bs) (hg : w.grownBy w' v6.ownBlock) (hq : v6'.ownBlock = v6.ownBlock ∨ v6'.ownBlock = some w.heap.size) : FRel B g v6'.ownBlock v7 v8 w' := by
  rcases h with h | ⟨g', th, h1, h2, h3, h4, h5, h6, h7⟩
  · exact .inl h
  · obtain ⟨cs, hb⟩ := h4.blk
    refine .inr ⟨g', th, h1, h2, h3, h4.append hg (by simp) (ho.ne hb (by decide)) (by simp) hq, h5.apart hg h7, h6, fun j hj => ?_⟩
    rcases hq with hq | hq
    · rw [hq]; exact h7 j hj
    · rw [hq]
      intro e
      have := h5.lt j hj
      injection e with e
      omega

def WritesRel (w : World) (bss : List (List UInt8)) (g : Nat) (i v6 v7 v8 : Value) (wr : World) : Prop :=
  ∃ (k : Nat) (all : List UInt8), k ≤ bss.length ∧ k ≤ 20 ∧ i = .int .i64 (k : Int) ∧ Own wr w.heap.size v6 all ∧ all.length ≤ 500 * k ∧ HashOff wr g (feed start all).1 (feed start all).2 all.length [v6.ownBlock, v8.ownBlock] ∧ FRel w.heap.size g v6.ownBlock v7 v8 wr ∧ Ext w wr

set_option maxRecDepth 100000 in
set_option maxHeartbeats 4000000 in
theorem shaWrites_any (lv : Value) (bss : List (List UInt8)) (at_ : Int) (w : World) (hK : Kst w) (hv : SlAll w lv bss) (hm : bss.length ≤ maxLen) (_ : -9223372036854775808 ≤ at_ ∧ at_ ≤ 9223372036854775807) :
    Calls Tryd.prog 5 #[lv, .int .i64 at_] w fun e w' => e = .returned (.bool true) ∧ Ext w w' := by
  unfold maxLen at hm
  obtain ⟨A, c, rfl, hc⟩ := hv.form
  have HV := Lib.hid hv
  clear hv
  have kc := conv_const
  have Kc := Lib.hid kc
  clear kc
  go_enter Tryd.func5, Tryd.ntmps5
  go_wp2_with fail
  refine (new_any _).mono ?_
  rintro e w1 ⟨g, rfl, hg, H1, E1⟩
  go_wp2_with fail
  refine (lives2_any _ (hK.ext E1)).mono ?_
  rintro e w2 ⟨rfl, E2⟩
  have H2 := H1.ext E2
  have E12 := E1.trans E2
  clear H1 E1 E2
  go_wp2
  go_loopw [9, 6, 7, 8] (fun i v6 v7 v8 wr => WritesRel w bss g i v6 v7 v8 wr) (fun i _ _ _ _ => 20 - (intOf i).toNat)
  case atStart =>
    refine ⟨0, [], by omega, by omega, rfl, Own.none_ _ _, by simp, ?_, .inl ⟨rfl, rfl⟩, E12⟩
    rw [feed_less start [] (by simp)]
    obtain ⟨A1, c1, hb, hs⟩ := H2
    exact ⟨A1, c1, hb, hs, fun _ _ _ h => absurd h (by simp)⟩
  case round =>
    clear H2 E12
    obtain ⟨k, all, hk, hk20, rfl, O, hal, H, F, E⟩ := hrel
    obtain ⟨A6, c6, rfl, hc6⟩ := O.form
    have HO := Lib.hid O
    have HH := Lib.hid H
    have HF := Lib.hid F
    clear O H F
    by_cases hlt : k < bss.length ∧ k < 20
    · obtain ⟨hlt, hlt20⟩ := hlt
      obtain ⟨b, o, B', d, rfl, hcell0, hs0⟩ := HV.out.at_ hlt
      have hbw : b < w.heap.size := by have := World.block_lt_of_cell? w _ hcell0; simpa using this
      have hcell := E.cell hcell0
      have hs := hs0.ext E
      have Hs := Lib.hid hs
      clear hcell0 hs0 hs
      obtain ⟨x, hx⟩ : ∃ x, x = bss[k] := ⟨_, rfl⟩
      rw [← hx] at hcell Hs
      have Hx := Lib.hid hx
      clear hx
      by_cases h500 : x.length ≤ 500
      · have t5 : ((x.length : Int) > 500) = False := by simp; omega
        have hcases : ((k : Int) == at_) = true ∨ ((k : Int) == at_) = false := by cases ((k : Int) == at_) <;> simp
        rcases hcases with hat | hat
        focus
          go_wp2_with fail
          have hfl := feed_rest_lt start all
          refine (fork_in g _ _ _ wr HH.out.at_ hfl).mono ?_
          rintro e w3 ⟨g3, rfl, hg3, H3, E3⟩
          have HE := E.trans E3
          have O3 := HO.out.ext E3
          have H3' := HH.out.ext E3
          clear hfl
          go_wp2_with (at_builtin; refine wpList_appB (Own.empty w3 w3.heap.size (Nat.le_refl _)) (O3.sl.ext ((Ext.refl w3).alloc _)) rfl _ _ rfl rfl rfl (by simp; omega) (by simp) ?_; intro v8 w4 ho8 hg8 hq8)
          have E4 : Ext w3 w4 := ((Ext.refl w3).alloc _).grown hg8 (by simp [Value.ownBlock])
          have hb8 : ∀ j, v8.ownBlock = some j → w3.heap.size ≤ j := ho8.from
          have O8 : Own w4 w.heap.size v8 all := by have := ho8.base_ (base' := w.heap.size) HE.size; simpa using this
          have HOz := Lib.hid (O3.ext E4)
          have hn3 : ∀ j, A6 = some j → True := fun _ _ => trivial
          have HHz : Hid (HashOff w4 g (feed start all).1 (feed start all).2 all.length [(Value.slice A6 all.length c6).ownBlock, v8.ownBlock]) :=
            H3'.new E4 (fun q hq => by
              simp only [List.mem_cons, List.not_mem_nil, or_false] at hq
              rcases hq with hq | hq
              · exact .inl (by simp [hq])
              · exact .inr (hb8 q hq.symm))
          have HFz : Hid (FRel w.heap.size g (Value.slice A6 all.length c6).ownBlock (.pointer (some ⟨g3, 0, none⟩)) v8 w4) := by
            refine .inr ⟨g3, all, rfl, ?_, ?_, ?_, O8, by omega, fun j hj e => ?_⟩
            · have := HH.out.at_.lt; omega
            · have := E.size; omega
            · refine (HashIn.off (N := [(Value.slice A6 all.length c6).ownBlock]) H3 (fun q hq => ?_)).new E4 (fun q hq => ?_)
              · simp only [List.mem_cons, List.not_mem_nil, or_false] at hq
                exact HO.out.lt q hq.symm
              · simp only [List.mem_cons, List.not_mem_nil, or_false] at hq
                rcases hq with hq | hq
                · exact .inl (by simp [hq])
                · exact .inr (hb8 q hq.symm)
            · have h1 := hb8 j hj
              have h2 := O3.lt j e
              omega
          have Ez : Ext w w4 := HE.trans E4
          have hcz : w4.cell? ⟨b, o + k, none⟩ = some (.slice B' x.length d) := (E3.trans E4).cell hcell
          have Hsz := Lib.hid (Hs.out.ext (E3.trans E4))
          obtain ⟨wz, rfl⟩ : ∃ wz : World, wz = w4 := ⟨_, rfl⟩
          clear E3 H3 HE O3 H3' ho8 hg8 hq8 E4 hb8 O8 hn3 hcell Hs HO HH HF E
          go_wp2
        rotate_left
        focus
          obtain ⟨wz, rfl⟩ : ∃ wz : World, wz = wr := ⟨_, rfl⟩
          obtain ⟨v8, rfl⟩ : ∃ v8 : Value, v8 = u8 := ⟨_, rfl⟩
          have HOz := HO
          have HHz := HH
          have HFz := HF
          have Ez := E
          have hcz := hcell
          have Hsz := Hs
          clear HO HH HF E hcell Hs
          go_wp2
        all_goals
          have hfl := feed_rest_lt start all
          have Hfl := Lib.hid hfl
          have hzz : wz.drew.heap.size = wz.heap.size := rfl
          have hgz : g < wz.heap.size := HHz.out.at_.lt
          clear hfl
          have Hw := Lib.hid (write_in g _ _ x _ (.slice B' x.length d) wz.drew ((hK.ext Ez).ext (Ext.refl wz).drew) (HHz.out.at_.ext (Ext.refl wz).drew) (Hsz.out.ext (Ext.refl wz).drew) Hfl.out (by omega))
          have hbg : ¬ (b = g) := by omega
          clear hzz
          go_region_held3 (fun w' => w'.cell? ⟨b, o + k, none⟩ = some (.slice B' x.length d))
            (first | go_keep | exact G4.cell hcz (by simpa using hbg))
            (first | (go_at_call 15; refine Hw.out.mono ?_; rintro e w4 ⟨rfl, H4, G4⟩))
          clear Hw
          obtain ⟨csz, hBz⟩ := HHz.out.blk
          have G4' : wz.grownBy w4 (some g) := ⟨G4.os, G4.tape, G4.output, G4.size, G4.block⟩
          have O4 := HOz.out.hash hBz G4'
          have F4 := HFz.out.hash hBz HHz.out.noByte G4'
          have hcell4 : w4.cell? ⟨b, o + k, none⟩ = some (.slice B' x.length d) := G4'.cell hcz (by simpa using hbg)
          have S4 := Hsz.out.grown G4' HHz.out.noByte
          have E4 : Ext w w4 := Ez.grown G4' (by simp; omega)
          have hN4 : ∀ j, some j ∈ [(Value.slice A6 all.length c6).ownBlock, v8.ownBlock] → j < wz.drew.heap.size := by
            intro j hj
            simp only [List.mem_cons, List.not_mem_nil, or_false] at hj
            rcases hj with hj | hj
            · exact HOz.out.lt j hj.symm
            · rcases HFz.out with ⟨_, h0⟩ | ⟨g', th, _, _, _, _, h5, _, _⟩
              · rw [h0] at hj; cases hj
              · exact h5.lt j hj.symm
          have H4' : HashOff w4 g (feed start (all ++ x)).1 (feed start (all ++ x)).2 (all ++ x).length [(Value.slice A6 all.length c6).ownBlock, v8.ownBlock] := by
            rw [feed_append start, List.length_append]
            exact HashIn.off H4 hN4
          have HO4 := Lib.hid O4
          have HF4 := Lib.hid F4
          have HS4 := Lib.hid S4
          have HH4 := Lib.hid H4'
          have K4 := hK.ext E4
          clear H4 G4 G4' O4 F4 S4 hN4 H4' HOz HFz HHz Hsz Ez hcz hBz
          go_wp2_with (at_builtin; refine wpList_appB HO4.out HS4.out rfl _ _ rfl rfl rfl (by omega) E4.size ?_; intro v9 w5 ho9 hg9 hq9)
          obtain ⟨A9, c9, rfl, hc9⟩ := ho9.form
          obtain ⟨cs4, hB4⟩ := HH4.out.blk
          have H5 : HashOff w5 g (feed start (all ++ x)).1 (feed start (all ++ x)).2 (all ++ x).length [(Value.slice A9 (all ++ x).length c9).ownBlock, v8.ownBlock] :=
            HH4.out.append hg9 (by simp) (HO4.out.ne hB4 (by decide)) (by simp) hq9
          have F5 := HF4.out.append HO4.out hg9 hq9
          have E5 : Ext w w5 := E4.grown hg9 HO4.out.from
          have K5 := hK.ext E5
          obtain ⟨al2, hal2⟩ : ∃ al2, al2 = all ++ x := ⟨_, rfl⟩
          rw [← hal2] at ho9 H5 F5 ⊢
          have hl2 : al2.length ≤ 500 * (k + 1) := by rw [hal2, List.length_append]; omega
          have hS5 := sum_any g _ _ _ w5 K5 H5.at_ (feed_rest_lt _ _) (by rw [feed_rest_mod]) (by omega)
          rw [← sumB_of_rest al2] at hS5
          have hl := sumB_length al2
          obtain ⟨z, hz⟩ : ∃ z, z = sumB al2 := ⟨_, rfl⟩
          rw [← hz] at hS5 hl
          have HS5 := Lib.hid hS5
          have Hz := Lib.hid hz
          have heq : ∀ w, (Op.equalIn 10000 28 (.agg (bytesV z).toArray) (.agg (bytesV z).toArray)).run Tryd.prog w = .ok true w := fun w => by rw [equal_dg z z hl hl w]; simp
          have HO5 := Lib.hid ho9
          have HH5 := Lib.hid H5
          have HF5 := Lib.hid F5
          have Hal2 := Lib.hid hal2
          clear hg9 hq9 H5 F5 ho9 hS5 hl hz hal2 HO4 HF4 HS4 HH4 hB4 K4 E4 hcell4 Hfl
          go_wp2_with fail
          refine HS5.out.mono ?_
          rintro e w6 ⟨rfl, E6⟩
          have Hr := Lib.hid (rOf_any _ al2 w6 (HO5.out.sl.ext E6) (by omega))
          rw [← Hz.out] at Hr
          go_wp2_with fail
          refine Hr.out.mono ?_
          rintro e w7 ⟨rfl, E7⟩
          have E57 := E6.trans E7
          have Hn := Lib.hid (len_any g _ _ _ w7 (HH5.out.at_.ext E57))
          clear Hr HS5 E6 E7
          go_wp2_with fail
          refine Hn.out.mono ?_
          rintro e w8 ⟨rfl, rfl⟩
          clear Hn
          go_wp2
          go_roundw
          case rel => exact ⟨k + 1, al2, by omega, by omega, by go_num, HO5.out.ext E57, hl2, HH5.out.ext E57, HF5.out.ext E57, E5.trans E57⟩
          case measure => simp [intOf]; omega
      · have t5 : ((x.length : Int) > 500) = True := by simp; omega
        go_wp2
        go_roundw
        case rel => exact ⟨k + 1, all, by omega, by omega, by go_num, HO.out, by omega, HH.out, HF.out, E⟩
        case measure => simp [intOf]; omega
    · have hend : bss.length ≤ k ∨ (k < bss.length ∧ 20 ≤ k) := by omega
      clear hlt
      rcases HF.out with ⟨rfl, h8⟩ | ⟨g', th, rfl, hg', hgB, H7, O8, hth, hap⟩
      focus
        clear HF h8
        have HHz := Lib.hid HH.out.at_
        obtain ⟨wz, rfl⟩ : ∃ wz : World, wz = wr := ⟨_, rfl⟩
        have HOz := HO
        have Ez := E
        clear HH HO E
        rcases hend with hend | ⟨hend1, hend2⟩
        all_goals go_wp2_with fail
      rotate_left 2
      focus
        obtain ⟨A8, c8, rfl, hc8⟩ := O8.form
        have hS := sum_any g' _ _ _ wr (hK.ext E) H7.at_ (feed_rest_lt _ _) (by rw [feed_rest_mod]) (by omega)
        rw [← sumB_of_rest th] at hS
        have hl1 := sumB_length th
        have hl2 := sumB_length (th ++ [120])
        obtain ⟨z1, hz1⟩ : ∃ z, z = sumB th := ⟨_, rfl⟩
        obtain ⟨z2, hz2⟩ : ∃ z, z = sumB (th ++ [120]) := ⟨_, rfl⟩
        rw [← hz1] at hS hl1
        rw [← hz2] at hl2
        have e1 : ∀ w, (Op.equalIn 10000 28 (.agg (bytesV z1).toArray) (.agg (bytesV z1).toArray)).run Tryd.prog w = .ok true w := fun w => by rw [equal_dg z1 z1 hl1 hl1 w]; simp
        have e2 : ∀ w, (Op.equalIn 10000 28 (.agg (bytesV z2).toArray) (.agg (bytesV z2).toArray)).run Tryd.prog w = .ok true w := fun w => by rw [equal_dg z2 z2 hl2 hl2 w]; simp
        have HS := Lib.hid hS
        have Hz1 := Lib.hid hz1
        have Hz2 := Lib.hid hz2
        have HO8 := Lib.hid O8
        have HH7 := Lib.hid H7
        have Hap := Lib.hid hap
        have Hg' := Lib.hid hg'
        clear hS hl1 hl2 hz1 hz2 O8 H7 hap HF hg'
        rcases hend with hend | ⟨hend1, hend2⟩
        all_goals
          go_wp2_with fail
          refine HS.out.mono ?_
          rintro e w3 ⟨rfl, E3⟩
          have Hr := Lib.hid (rOf_any _ th w3 (HO8.out.sl.ext E3) (by omega))
          rw [← Hz1.out] at Hr
          clear HS
          go_wp2_with fail
          refine Hr.out.mono ?_
          rintro e w4 ⟨rfl, E4'⟩
          have E4 := E3.trans E4'
          have Hn := Lib.hid (len_any g' _ _ _ w4 (HH7.out.at_.ext E4))
          clear Hr E3 E4'
          go_wp2_with fail
          refine Hn.out.mono ?_
          rintro e w4' ⟨rfl, rfl⟩
          clear Hn
          have Hw := Lib.hid (write_any g' _ _ [120] _ (.slice (some ⟨w4.heap.size, 0, none⟩) 1 1) (w4.alloc (.cells #[.int .u8 120] 5 (1, 2))) (hK.ext ((E.trans E4).alloc _)) (HH7.out.at_.ext (E4.alloc _)) (sl_mark w4 5 (1, 2) [120] _ rfl) (feed_rest_lt _ _) (by simp; omega))
          rw [← feed_append start, show th.length + ([120] : List UInt8).length = (th ++ [120]).length from by simp] at Hw
          have kc := Kc.out
          go_wp2_with fail
          clear kc
          refine Hw.out.mono ?_
          rintro e w5 ⟨rfl, H5, G5⟩
          clear Hw
          have E4a : Ext wr (w4.alloc (.cells #[.int .u8 120] 5 (1, 2))) := E4.alloc _
          obtain ⟨cs7, hB7⟩ := (HH7.out.ext E4a).blk
          have hnb7 := (HH7.out.ext E4a).noByte
          have O8' := (HO8.out.ext E4a).hash hB7 G5
          have O6' := (HO.out.ext E4a).hash hB7 G5
          have H6' := (HH.out.ext E4a).other G5 (Ne.symm Hg'.out) hnb7
          have E5 : Ext w w5 := (E.trans E4a).grown G5 (by simp; exact hgB)
          have hS := sum_any g' _ _ _ w5 (hK.ext E5) H5 (feed_rest_lt _ _) (by rw [feed_rest_mod]) (by simp; omega)
          rw [← sumB_of_rest (th ++ [120]), ← Hz2.out] at hS
          have HS := Lib.hid hS
          have HO8' := Lib.hid O8'
          have HO6' := Lib.hid O6'
          have HH6' := Lib.hid H6'
          clear hS O8' O6' H6' H5 G5 hB7 hnb7 E4a HH7 HO HH HO8 E4
          go_wp2_with fail
          refine HS.out.mono ?_
          rintro e w6 ⟨rfl, E6⟩
          clear HS
          go_wp2_with (at_builtin; refine wpList_unguard rfl ?_; refine wpList_appB (HO8'.out.ext (E6.alloc _)) (sl_one 120 rfl) rfl _ _ rfl rfl rfl (by simp; omega) (by have := (E5.trans E6).size; simp; omega) ?_; intro v9 w7 ho9 hg9 _)
          have E6a : Ext w5 (w6.alloc (.cells #[.int .u8 120] 5)) := E6.alloc _
          obtain ⟨cs6, hB6⟩ := (HH6'.out.ext E6a).blk
          have H7z := (HH6'.out.ext E6a).append (M := []) hg9 (by simp) ((HO8'.out.ext E6a).ne hB6 (by decide)) (by simp) (.inl rfl)
          have O7z := (HO6'.out.ext E6a).apart hg9 (fun j hj e => Hap.out j e hj)
          have E7z : Ext w w7 := (E5.trans E6a).grown hg9 HO8'.out.from
          have Hr := Lib.hid (rOf_any v9 (th ++ [120]) w7 ho9.sl (by simp; omega))
          rw [← Hz2.out] at Hr
          have HH7z := Lib.hid H7z
          have HO7z := Lib.hid O7z
          clear hg9 ho9 H7z O7z HO8' HO6' HH6' E6 E6a hB6 E5
          refine Hr.out.mono ?_
          rintro e wz ⟨rfl, E8⟩
          clear Hr
          have HHz := Lib.hid (HH7z.out.at_.ext E8)
          have HOz := Lib.hid (HO7z.out.ext E8)
          have Ez := E7z.trans E8
          clear HH7z HO7z E8 E7z e1 Hz1 Hz2 Hap Hg'
          go_wp2_with fail
          clear e2
      all_goals
        have hS := sum_any g _ _ _ wz (hK.ext Ez) HHz.out (feed_rest_lt _ _) (by rw [feed_rest_mod]) (by omega)
        rw [← sumB_of_rest all] at hS
        have hl1 := sumB_length all
        have hl0 := sumB_length []
        obtain ⟨z, hz⟩ : ∃ z, z = sumB all := ⟨_, rfl⟩
        obtain ⟨z0, hz0⟩ : ∃ z, z = sumB [] := ⟨_, rfl⟩
        rw [← hz] at hS hl1
        rw [← hz0] at hl0
        have HS := Lib.hid hS
        have Hz := Lib.hid hz
        have Hz0 := Lib.hid hz0
        have L1 := Lib.hid hl1
        have L0 := Lib.hid hl0
        clear hS hz hz0 hl1 hl0
        have s1 : Hid (zb32.size = (bytesV z).toArray.size) := zb32_size _ L1.out
        have i1 : Hid ((Tryd.prog.info? 28).map (·.size) = some (bytesV z).toArray.size) := by rw [List.size_toArray, bytesV_length, L1.out]; exact info_a32
        refine HS.out.mono ?_
        rintro e w3 ⟨rfl, E3⟩
        clear HS
        go_wp2_with (first | (refine wpList_alloc_blk rfl 28 rfl (.agg zb32) zero_a32 ?_; intro w4 hs4 hb4 he4; clear hs4) | (refine wpList_store_blk rfl 28 _ _ rfl w3.heap.size (bytesV z).toArray rfl rfl 28 zb32 hb4 i1.out s1.out (bytes_one _) ?_; intro w5 hs5 hb5 hg5))
        have E35 : Ext w3 w5 := he4.grown hg5 (by simp)
        have E5z : Ext wz w5 := E3.trans E35
        have hgz : g < wz.heap.size := HHz.out.lt
        have h3z := E3.size
        have Hrs := Lib.hid (reset_any g _ _ _ w5 (HHz.out.ext E5z))
        clear hs5 hg5 hb4 he4
        refine Hrs.out.mono ?_
        rintro e w6 ⟨rfl, H6, G6⟩
        clear Hrs
        obtain ⟨Ag, cg, hBg, _⟩ := id (HHz.out.ext E5z)
        have O6 := (HOz.out.ext E5z).hash hBg G6
        have D6 := hb5.grown G6 (by simp; omega)
        have E6 : Ext w w6 := (Ez.trans E5z).grown G6 (by simp; omega)
        have K6 := hK.ext E6
        clear hb5 hBg G6 HOz HHz E5z E35 E3 Ez
        have hload : ∀ w, (∃ x : Later w6, w = x.w) → (Instr.loadAt 28 (.pointer (some ⟨w3.heap.size, 0, none⟩))).run Tryd.prog w = .ok (.agg (bytesV z).toArray) w := by rintro w ⟨x, rfl⟩; exact load_dg (D6.ext x.ext) L1.out
        have heq : ∀ w, (Op.equalIn 10000 28 (.agg (bytesV z).toArray) (.agg (bytesV z).toArray)).run Tryd.prog w = .ok true w := fun w => by rw [equal_dg z z L1.out L1.out w]; simp
        have heq0 : ∀ w, (Op.equalIn 10000 28 (.agg (bytesV z0).toArray) (.agg (bytesV z0).toArray)).run Tryd.prog w = .ok true w := fun w => by rw [equal_dg z0 z0 L0.out L0.out w]; simp
        have hsum : ∀ x : Later w6, Calls Tryd.prog 16 #[.pointer (some ⟨g, 0, none⟩)] x.w fun e w' => e = .returned (.agg (bytesV z0).toArray) ∧ Ext x.w w' := fun x => by
          have := sum_any g start [] 0 x.w (K6.ext x.ext) (H6.ext x.ext) (by decide) (by decide) (by omega)
          rw [show outB (feed start ([] ++ padB 0)).1 = z0 from by rw [Hz0.out]; rfl] at this
          exact this
        have hlen : ∀ x : Later w6, Calls Tryd.prog 17 #[.pointer (some ⟨g, 0, none⟩)] x.w fun e w' => e = .returned (.int .i64 0) ∧ x.w = w' := fun x => len_any g start [] 0 x.w (H6.ext x.ext)
        have hr1 : ∀ x : Later w6, Calls Tryd.prog 12 #[.slice A6 all.length c6] x.w fun e w' => e = .returned (.agg (bytesV z).toArray) ∧ Ext x.w w' := fun x => by
          rw [Hz.out]; exact rOf_any _ all x.w (O6.sl.ext x.ext) (by omega)
        have hr0 : ∀ x : Later w6, Calls Tryd.prog 12 #[.slice none 0 0] x.w fun e w' => e = .returned (.agg (bytesV z0).toArray) ∧ Ext x.w w' := fun x => by
          rw [Hz0.out]; exact rOf_any _ [] x.w (SlR.none_ _ _ _ _) (by simp)
        have Hload := Lib.hid hload
        have Hsum := Lib.hid hsum
        have Hlen := Lib.hid hlen
        have Hr1 := Lib.hid hr1
        have Hr0 := Lib.hid hr0
        clear hload hsum hlen hr1 hr0 O6 D6 H6 K6
        go_wp2
        refine wp_region_lat (by kernel_rfl) (by kernel_rfl) ?_
        repeat (first | (refine quiet_load rfl 28 _ rfl (.agg (bytesV z).toArray) Hload.out ?_; simp only [Act.put, List.setIfInBounds_toArray, List.set_cons_succ, List.set_cons_zero]) | go_big_quiet_step (first | (go_at_call 16; exact lat_call (Hsum.out _)) | (go_at_call 17; exact lat_same (Hlen.out _)) | (go_at_call 12; first | (with_reducible exact lat_call (Hr0.out _)) | (with_reducible exact lat_call (Hr1.out _)))))
        refine wpQuiet_nil ?_
        intro w9 E9
        go_wp2
        go_ret
        exact ⟨rfl, E6.trans E9⟩
end Go.Proofs.YtokfhcnnhbgdjaaDoor
