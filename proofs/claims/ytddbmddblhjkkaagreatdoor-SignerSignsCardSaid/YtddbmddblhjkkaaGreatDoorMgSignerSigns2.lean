/- PROVED: the law SignerSigns of package pursuivantlaw09 returns true at every input and leaves its arguments as they were: whatever calls are made, one behind the other, what is signed and which leaves are used is what the reference says, and what is signed holds. CONDITION: the package-level variable sha.constants holds what its initialiser lays (the card ties it). -/
import Derived.Test.YtddbmddblhjkkaaGreatDoorMgA5
import Derived.Test.YtddbmddblhjkkaaGreatDoorMgSignerSigns1
import Derived.Test.YtddbmddblhjkkaaGreatDoorCards
import Derived.Test.YtddbmddblhjkkaaGreatDoorTie
/- The walk of the law SignerSigns. -/
namespace Go.Proofs.YtddbmddblhjkkaaGreatDoor
open Go.RowKit Go.Maps

/-- what is signed holds -/
theorem verify_signed (seed m : List UInt8) (b h i : Nat) (mv rv ov pv : Value) (w : World) (hK : Kst w) (hm : mayK b h = true) (hi : i < 2 ^ h) (hmv : Sl w mv m) (hl : m.length ≤ 3000) (h1 : SlD w rv (signR seed i m b)) (h2 : SlD w ov (signO seed i m b)) (h3 : SlD w pv (sigWay seed b h i)) :
    Calls Tryz.prog 16 #[.agg (pkC b h (pubB seed b h)), mv, .agg (sigC (i : Int) rv ov pv)] w fun e w' => e = .returned (.bool true) ∧ Ext w w' := by
  obtain ⟨hmb, h0, h6⟩ := (mayK_iff _ _).1 hm
  have hv := verify_whole (i : Int) (pubB seed b h) m mv rv ov pv _ _ _ w hK (pubB_length _ _ _) hmv (by omega) h1 h2 h3 (by rw [signR_length, sigWay_length]; exact hm)
  rw [signR_length, signO_length, sigWay_length, (wholeB_iff b b).2 ⟨rfl, hmb⟩, (climbOk_iff h (i : Int)).2 ⟨by omega, by omega, by
    have : ((i : Nat) : Int) < ((2 ^ h : Nat) : Int) := by omega
    simpa using this⟩, Int.toNat_natCast, sign_holds seed m b h i hi, decide_eq_true rfl] at hv
  exact hv

/-- behind k calls -/
def SigI (w wr : World) (S M X U F Kb : Nat) (seed : List UInt8) (b h : Nat) : Prop :=
  ∃ u, Sgn wr S M seed b h u (cnt u (2 ^ h)) ∧ RSgn wr X U F seed b h u ∧ (∀ j : Int, (j < 0 ∨ ((2 ^ h : Nat) : Int) ≤ j) → u j = none) ∧ Blk wr Kb 35 (pkC b h (pubB seed b h)) ∧ Ext w wr
/-- behind both signers' answers -/
structure SigE (w wr : World) (S M X U F Kb Za Zb : Nat) (seed : List UInt8) (b h : Nat) (R : Res) (a1 a2 a3 c1 c2 c3 mv : Value) (m : List UInt8) : Prop where
  s : Sgn wr S M seed b h R.u (cnt R.u (2 ^ h))
  x : RSgn wr X U F seed b h R.u
  k : Blk wr Kb 35 (pkC b h (pubB seed b h))
  za : Blk wr Za 44 (sigC R.i a1 a2 a3)
  zb : Blk wr Zb 44 (sigC R.i c1 c2 c3)
  e : Ext w wr
  q1 : SlD wr a1 R.rev
  q2 : SlD wr a2 R.oth
  q3 : SlD wr a3 R.way
  q4 : SlD wr c1 R.rev
  q5 : SlD wr c2 R.oth
  q6 : SlD wr c3 R.way
  mm : Sl wr mv m
theorem SigE.ext {w wr w' : World} {S M X U F Kb Za Zb : Nat} {seed : List UInt8} {b h : Nat} {R : Res} {a1 a2 a3 c1 c2 c3 mv : Value} {m : List UInt8} (q : SigE w wr S M X U F Kb Za Zb seed b h R a1 a2 a3 c1 c2 c3 mv m) (E : Ext wr w') : SigE w w' S M X U F Kb Za Zb seed b h R a1 a2 a3 c1 c2 c3 mv m :=
  ⟨q.s.ext E, q.x.ext E, q.k.ext E, q.za.ext E, q.zb.ext E, q.e.trans E, q.q1.ext E, q.q2.ext E, q.q3.ext E, q.q4.ext E, q.q5.ext E, q.q6.ext E, q.mm.ext E⟩
theorem sigC_noByte (i : Int) (A B C : Option Addr) (n m k c d e : Nat) : ∀ (j : Nat) (v : Int), (sigC i (.slice A n c) (.slice B m d) (.slice C k e))[j]? ≠ some (.int .u8 v) := by
  intro j v hv
  match j with
  | 0 => simp [sigC] at hv
  | 1 => simp [sigC] at hv
  | 2 => simp [sigC] at hv
  | 3 => simp [sigC] at hv
  | j + 4 => simp [sigC] at hv

set_option maxRecDepth 100000 in
set_option maxHeartbeats 4000000 in
theorem signerSigns_any (v : Value) (seed : List UInt8) (b h : Int) (lv : Value) (l : List OpV) (w : World) (hK : Kst w) (hv : Sl w v seed) (_ : -9223372036854775808 ≤ b ∧ b ≤ 9223372036854775807) (_ : -9223372036854775808 ≤ h ∧ h ≤ 9223372036854775807) (hl : SlO w lv l) :
    Calls Tryz.prog 3 #[v, .int .i64 b, .int .i64 h, lv] w fun e w' => e = .returned (.bool true) ∧ Ext w w' := by
  have Hlv := Lib.hid (fun w' (E : Ext w w') => lives9_any w' (hK.ext E))
  have Hsm := fun w' => Lib.hid (small_any b h w')
  obtain ⟨Al, cl, rfl, hcl, hops⟩ := hl
  by_cases h2 : (seed.length : Int) > 200
  · obtain ⟨A, c, rfl, hc⟩ := SlR.form hv
    clear hops hv Hsm
    go_enter Tryz.func3, Tryz.ntmps3
    go_wp2_with fail
    with_reducible refine (Hlv.out _ (Ext.refl w)).mono ?_
    rintro e w1 ⟨rfl, E1⟩
    go_wp2
    go_ret
    exact ⟨rfl, E1⟩
  · cases hm : (decide (seed.length ≤ 64) && mayK b h) with
    | false =>
      obtain ⟨A, c, rfl, hc⟩ := SlR.form hv
      have hno : mayK b h = false ∨ (mayK b h = true ∧ 64 < seed.length) := by
        cases hk : mayK b h with
        | false => exact .inl rfl
        | true =>
          refine .inr ⟨rfl, ?_⟩
          rw [hk, Bool.and_true, decide_eq_false_iff_not] at hm
          omega
      have H1 := fun w' => Lib.hid (sNew_no A seed.length c b h w' hno)
      have H2 := fun w' => Lib.hid (r9New_no A seed.length c b h w' hm)
      clear hops hv hno hm
      go_enter Tryz.func3, Tryz.ntmps3
      go_wp2_with fail
      with_reducible refine (Hsm _).out.mono ?_
      rintro e w1 ⟨⟨B, rfl⟩, rfl⟩
      cases B with
      | false =>
        go_wp2_with fail
        with_reducible refine (Hlv.out _ (Ext.refl w)).mono ?_
        rintro e w1 ⟨rfl, E1⟩
        go_wp2
        go_ret
        exact ⟨rfl, E1⟩
      | true =>
        go_wp2_with fail
        with_reducible refine (H1 _).out.mono ?_
        rintro e w1 ⟨rfl, E1⟩
        go_wp2_with fail
        with_reducible refine (H2 _).out.mono ?_
        rintro e w2 ⟨rfl, E2⟩
        go_wp2_with fail
        with_reducible refine (Hlv.out _ (E1.trans E2)).mono ?_
        rintro e w3 ⟨rfl, E3⟩
        go_wp2
        go_ret
        exact ⟨rfl, (E1.trans E2).trans E3⟩
    | true =>
      rw [Bool.and_eq_true, decide_eq_true_eq] at hm
      obtain ⟨hl64, hmk⟩ := hm
      obtain ⟨hmb, h0, h6⟩ := (mayK_iff _ _).1 hmk
      obtain ⟨h8, _, _⟩ := (mayB_iff _).1 hmb
      obtain ⟨b, rfl⟩ : ∃ n : Nat, b = n := ⟨b.toNat, by omega⟩
      obtain ⟨h, rfl⟩ : ∃ n : Nat, h = n := ⟨h.toNat, by omega⟩
      have H1 := Lib.hid (fun w' (E : Ext w w') => sNew_yes v seed b h w' (hK.ext E) (hv.ext E) hl64 hmk)
      have H2 := Lib.hid (fun w' (E : Ext w w') => r9New_yes v seed b h w' (hv.ext E) hl64 hmk)
      have H3 := Lib.hid (fun w' (E : Ext w w') => r9Public_yes v seed b h w' (hv.ext E) hl64 hmk)
      obtain ⟨A, c, rfl, hc⟩ := SlR.form hv
      have HK := Lib.hid hK
      have Hmk := Lib.hid hmk
      have Hops := Lib.hid hops
      have ip : Hid ((Tryz.prog.info? 35).map (·.size) = some (pkC b h (pubB seed b h)).size) := Lib.hid (info_pkC b h (pubB seed b h) (pubB_length _ _ _))
      have sp : Hid (zeroPk.size = (pkC b h (pubB seed b h)).size) := Lib.hid (zeroPk_size b h (pubB seed b h) (pubB_length _ _ _))
      have op : Hid ((pkC b h (pubB seed b h)).all (·.oneCell') = true) := Lib.hid (pkC_one _ _ _)
      have hh6 : h ≤ 6 := by omega
      obtain ⟨P, hP⟩ : ∃ P, P = pkC b h (pubB seed b h) := ⟨_, rfl⟩
      simp only [← hP] at ip sp op H3
      have HPk := Lib.hid hP
      clear hP
      clear hops hv hmk hmb h8 h0 h6 hK
      go_enter Tryz.func3, Tryz.ntmps3
      go_wp2_with fail
      with_reducible refine (Hsm _).out.mono ?_
      rintro e w1 ⟨⟨B, rfl⟩, rfl⟩
      cases B with
      | false =>
        go_wp2_with fail
        with_reducible refine (Hlv.out _ (Ext.refl w)).mono ?_
        rintro e w1 ⟨rfl, E1⟩
        go_wp2
        go_ret
        exact ⟨rfl, E1⟩
      | true =>
        go_wp2_with fail
        with_reducible refine (H1.out _ (Ext.refl w)).mono ?_
        rintro e w1 ⟨S, M, rfl, s1, hS, hM, E1⟩
        have S1 := Lib.hid s1
        clear s1 H1 Hsm
        go_wp2_with fail
        with_reducible refine (H2.out _ E1).mono ?_
        rintro e w2 ⟨X, U, F, rfl, x2, hX, hU, hF, E2⟩
        have S2 := Lib.hid (S1.out.ext E2)
        have F2 := E1.trans E2
        have X2 := Lib.hid x2
        have hwU : w.heap.size ≤ U := Nat.le_trans E1.size hU
        have hwF : w.heap.size ≤ F := Nat.le_trans E1.size hF
        clear x2 E1 E2 S1 H2 hU hF
        go_wp2_with fail
        with_reducible refine (Hlv.out _ F2).mono ?_
        rintro e w3 ⟨rfl, E3⟩
        have F3 := F2.trans E3
        have S3 := Lib.hid (S2.out.ext E3)
        have X3 := Lib.hid (X2.out.ext E3)
        clear F2 E3 S2 X2
        go_wp2_with fail
        with_reducible refine (H3.out _ F3).mono ?_
        rintro e w4 ⟨rfl, E4⟩
        have F4 := F3.trans E4
        have S4 := Lib.hid (S3.out.ext E4)
        have X4 := Lib.hid (X3.out.ext E4)
        clear F3 E4 S3 X3 H3
        go_wp2_with (first | (refine wpList_var rfl rfl 35 rfl _ _ rfl (.agg zeroPk) zero_pk P rfl rfl ip.out sp.out op.out ?_; intro w5 D5 E5))
        have F5 := F4.trans E5
        have HI0 : Hid (SigI w w5 S M X U F w4.heap.size seed b h) := Lib.hid ⟨_, by rw [cnt_none]; exact S4.out.ext E5, X4.out.ext E5, fun _ _ => rfl, by rw [← HPk.out]; exact D5, F5⟩
        have hKw : w.heap.size ≤ w4.heap.size := F4.size
        obtain ⟨Kb, hKb⟩ : ∃ g, g = w4.heap.size := ⟨_, rfl⟩
        rw [← hKb] at HI0 hKw
        simp only [← hKb]
        clear hKb F4 F5 S4 X4 E5 D5
        go_loopw [15] (fun i wr => ∃ k : Nat, k ≤ 12 ∧ k ≤ l.length ∧ i = .int .i64 k ∧ SigI w wr S M X U F Kb seed b h) (fun i _ => 12 - (intOf i).toNat)
        case atStart => exact ⟨0, by omega, by omega, rfl, HI0.out⟩
        case round =>
          obtain ⟨k, hk12, hkl, rfl, hI⟩ := hrel
          clear HI0
          by_cases hlt : k < l.length
          · by_cases h12 : k < 12
            · have hlti : (k : Int) < (l.length : Int) := by omega
              have h12i : (k : Int) < 12 := by omega
              have HI := Lib.hid hI
              obtain ⟨u, s, x, hun, D, E⟩ := hI
              obtain ⟨bo, o, rfl, q0, q1, q2, hS', hb1, hb2⟩ := Hops.out k l[k] (List.getElem?_eq_getElem hlt)
              obtain ⟨op1, hop1⟩ : ∃ x, x = l[k] := ⟨_, rfl⟩
              rw [← hop1] at q0 q1 q2 hS' hb1 hb2
              clear hop1
              obtain ⟨xk, xl, xv, m⟩ := op1
              dsimp only at q0 q1 q2 hS' hb1 hb2
              obtain ⟨Am, cm, rfl, _⟩ := SlR.form hS'
              have d0 := E.cell q0
              have d1 := E.cell q1
              have d2 := E.cell q2
              have HSm := Lib.hid hS'
              have Hs := Lib.hid s
              have Hx := Lib.hid x
              have Hun := Lib.hid hun
              have HD := Lib.hid D
              have hbw : bo < w.heap.size := World.block_lt_of_cell? w _ q0
              clear s x hun D hS' q0 q1 q2
              by_cases h3 : (m.length : Int) > 3000
              · go_wp2
                exact ⟨⟨k + 1, by omega, by omega, by go_num, HI.out⟩, by simp [intOf]; omega⟩
              · have hm3 : m.length ≤ 3000 := by omega
                clear HI
                by_cases h1 : (xk == 1) = true
                · obtain ⟨R, hok, HRs, HRx⟩ := both_sign seed b h u m hm3 hh6
                  have HokR := Lib.hid hok
                  have HRs' := Lib.hid HRs
                  have HRx' := Lib.hid HRx
                  clear hok HRs HRx
                  go_wp2_with (first | (have _ := zb6; fail) | (have _ := ba5; refine wpList_alloc_blk rfl 44 rfl (.agg noSig) zero_sig ?_; intro w6 hs6 zb6 E6; have d0 := E6.cell d0; have d1 := E6.cell d1) | (refine wpList_alloc_blk rfl 44 rfl (.agg noSig) zero_sig ?_; intro w5 hs5 ba5 E5; have d0 := E5.cell d0; have d1 := E5.cell d1; have d2 := E5.cell d2))
                  rw [hs5] at zb6
                  have ba6 := ba5.ext E6
                  have E56 := E5.trans E6
                  have Ex6 := E.trans E56
                  have Hs6 := Lib.hid (Hs.out.ext E56)
                  have Hx6 := Lib.hid (Hx.out.ext E56)
                  have HD6 := Lib.hid (HD.out.ext E56)
                  have HSm6 := Lib.hid (HSm.out.ext Ex6)
                  have hKz : Kb < wr.heap.size := HD.out.lt
                  have hbz : bo < wr.heap.size := Nat.lt_of_lt_of_le hbw E.size
                  have hwz : w.heap.size ≤ wr.heap.size := E.size
                  have hne6 := hs5
                  clear d2 d0 Hs Hx HD HSm E5 E6 E ba5 hs6 E56
                  with_reducible refine (HRs'.out S M _ w6 (HK.out.ext Ex6) HSm6.out Hs6.out).mono ?_
                  rintro e w7 ⟨r1, o1, p1, rfl, q1, q2, q3, s7, M7⟩
                  obtain ⟨A1, c1, rfl, _⟩ := q1.form
                  obtain ⟨A2, c2, rfl, _⟩ := q2.form
                  obtain ⟨A3, c3, rfl, _⟩ := q3.form
                  have Hq1 := Lib.hid q1
                  have Hq2 := Lib.hid q2
                  have Hq3 := Lib.hid q3
                  have Hs7 := Lib.hid s7
                  have Hx7 := Lib.hid (Hx6.out.mv M7)
                  have HD7 := Lib.hid (M7.blk HD6.out)
                  have ba7 := Lib.hid (M7.blk ba6)
                  have zb7 := Lib.hid (M7.blk zb6)
                  have HSm7 := Lib.hid (M7.sl HSm6.out)
                  replace d1 := M7.cell d1
                  have Ex7 := Ex6.grown M7.1 (fun j e => by cases e; exact hM)
                  have hz7 : wr.heap.size < w7.heap.size := ba7.out.lt
                  clear q1 q2 q3 s7 M7 Ex6 Hs6 Hx6 HD6 HSm6 ba6 zb6 hs5 hne6
                  go_wp2_with (first | (refine wpList_store_blk rfl 44 _ _ rfl wr.heap.size (sigC R.i (.slice A1 _ c1) (.slice A2 _ c2) (.slice A3 _ c3)) rfl rfl 44 noSig ba7.out info_sig rfl (sig_one _ _ _ _ _ _ _ _ _ _) ?_; intro w8 hs8 ba8 hg8; have d1 := hg8.cell d1 (by simp; omega)))
                  have hnu7 := fun o k => (by rw [ba7.out.cell]; exact noSig_noByte o k : w7.cell? ⟨wr.heap.size, o, none⟩ ≠ some (.int .u8 k))
                  have Hs8 := Lib.hid (sgn_grown Hs7.out hg8 ba7.out (by decide) hnu7)
                  have Hx8 := Lib.hid (Hx7.out.grown hg8 ba7.out (by decide) (by decide) (by decide) hnu7)
                  have HD8 := Lib.hid (HD7.out.grown hg8 (by intro e; injection e with e; omega))
                  have zb8 := Lib.hid (zb7.out.grown hg8 (by intro e; injection e with e; omega))
                  have ba8' := Lib.hid ba8
                  have HSm8 := Lib.hid (Sl.grown HSm7.out hg8 hnu7)
                  replace Hq1 := Lib.hid (slD_noByte Hq1.out ba7.out noSig_noByte hg8)
                  replace Hq2 := Lib.hid (slD_noByte Hq2.out ba7.out noSig_noByte hg8)
                  replace Hq3 := Lib.hid (slD_noByte Hq3.out ba7.out noSig_noByte hg8)
                  have Ex8 := Ex7.grown hg8 (fun j e => by cases e; exact hwz)
                  clear Hs7 Hx7 HD7 ba7 zb7 HSm7 Ex7 ba8 hg8 hnu7 HRs' hs8
                  with_reducible refine (HRx'.out X U F _ w8 HSm8.out Hx8.out).mono ?_
                  rintro e w9 ⟨r2, o2, p2, rfl, q4, q5, q6, x9, M9⟩
                  obtain ⟨A4, c4, rfl, _⟩ := q4.form
                  obtain ⟨A5, c5, rfl, _⟩ := q5.form
                  obtain ⟨A6, c6, rfl, _⟩ := q6.form
                  have Hq4 := Lib.hid q4
                  have Hq5 := Lib.hid q5
                  have Hq6 := Lib.hid q6
                  have Hs9 := Lib.hid (M9.sgn Hx8.out.ne.1 Hs8.out)
                  have Hx9 := Lib.hid x9
                  have HD9 := Lib.hid (M9.blkT HD8.out (by decide) (by decide))
                  have ba9 := Lib.hid (M9.blkT ba8'.out (by decide) (by decide))
                  have zb9 := Lib.hid (M9.blkT zb8.out (by decide) (by decide))
                  have HSm9 := Lib.hid (M9.sl HSm8.out)
                  replace Hq1 := Lib.hid (M9.slD Hq1.out)
                  replace Hq2 := Lib.hid (M9.slD Hq2.out)
                  replace Hq3 := Lib.hid (M9.slD Hq3.out)
                  have Ex9 := M9.over Ex8 hwU hwF
                  clear q4 q5 q6 x9 M9 Ex8 Hs8 Hx8 HD8 ba8' zb8 HSm8 HRx'
                  have hnu9 := fun o k => (by rw [zb9.out.cell]; exact noSig_noByte o k : w9.cell? ⟨wr.heap.size + 1, o, none⟩ ≠ some (.int .u8 k))
                  have HQ := Lib.hid (fun w10 (zb10 : Blk w10 (wr.heap.size + 1) 44 (sigC R.i (.slice A4 R.rev.length c4) (.slice A5 R.oth.length c5) (.slice A6 R.way.length c6))) (hg10 : w9.grownBy w10 (some (wr.heap.size + 1))) =>
                    (⟨sgn_grown Hs9.out hg10 zb9.out (by decide) hnu9, Hx9.out.grown hg10 zb9.out (by decide) (by decide) (by decide) hnu9, HD9.out.grown hg10 (by intro e; injection e with e; omega), ba9.out.grown hg10 (by intro e; injection e with e; omega), zb10, Ex9.grown hg10 (fun j e => by cases e; omega),
                      slD_noByte Hq1.out zb9.out noSig_noByte hg10, slD_noByte Hq2.out zb9.out noSig_noByte hg10, slD_noByte Hq3.out zb9.out noSig_noByte hg10, slD_noByte Hq4.out zb9.out noSig_noByte hg10, slD_noByte Hq5.out zb9.out noSig_noByte hg10, slD_noByte Hq6.out zb9.out noSig_noByte hg10, Sl.grown HSm9.out hg10 hnu9⟩ :
                      SigE w w10 S M X U F Kb wr.heap.size (wr.heap.size + 1) seed b h R (.slice A1 R.rev.length c1) (.slice A2 R.oth.length c2) (.slice A3 R.way.length c3) (.slice A4 R.rev.length c4) (.slice A5 R.oth.length c5) (.slice A6 R.way.length c6) (.slice Am m.length cm) m))
                  clear Hq1 Hq2 Hq3 Hq4 Hq5 Hq6 Hs9 Hx9 HD9 ba9 HSm9 Ex9 hnu9
                  go_wp2_with (first | (refine wpList_store_blk rfl 44 _ _ rfl (wr.heap.size + 1) (sigC R.i (.slice A4 _ c4) (.slice A5 _ c5) (.slice A6 _ c6)) rfl rfl 44 noSig zb9.out info_sig rfl (sig_one _ _ _ _ _ _ _ _ _ _) ?_; intro w10 hs10 zb10 hg10; have Q := Lib.hid (HQ.out w10 zb10 hg10); clear HQ hg10 hs10 zb10) | (refine wpList_unguard rfl ?_; refine wpList_load_blk Q.out.za rfl 44 _ rfl rfl Tryz.underlying44 rfl info_sig ?_) | (refine wpList_unguard rfl ?_; refine wpList_load_blk Q.out.zb rfl 44 _ rfl rfl Tryz.underlying44 rfl info_sig ?_))
                  have hlR : R.rev.length ≤ 1073741824 ∧ R.oth.length ≤ 1073741824 ∧ R.way.length ≤ 1073741824 := by
                    have hb256 : b ≤ 256 := by
                      have := (mayB_iff _).1 ((mayK_iff _ _).1 Hmk.out).1
                      omega
                    rcases HokR.out with ⟨f, hf, hR⟩ | ⟨i, hi, hR⟩
                    · rw [hR]; simp [resNo]
                    · rw [hR]; simp only [resYes, signR_length, signO_length, sigWay_length]; omega
                  with_reducible refine (r9Same_eq R.i _ _ _ _ _ _ R.rev R.oth R.way w10 Q.out.q1 Q.out.q2 Q.out.q3 Q.out.q4 Q.out.q5 Q.out.q6 hlR.1 hlR.2.1 hlR.2.2).mono ?_
                  rintro e w11 ⟨rfl, E11⟩
                  replace Q := Lib.hid (Q.out.ext E11)
                  have HL1 := Lib.hid (sLeft_any S M seed b h R.u _ w11 Q.out.s (cnt_le _ _))
                  have HL2 := Lib.hid (fun w' (E : Ext w11 w') => r9Left_any X U F seed b h R.u w' (Q.out.x.ext E))
                  obtain ⟨z, hz⟩ : ∃ z : Int, z = ((2 ^ h : Nat) : Int) - ((cnt R.u (2 ^ h) : Nat) : Int) := ⟨_, rfl⟩
                  rw [← hz] at HL1 HL2
                  clear hz hlR E11
                  go_wp2_with fail
                  with_reducible refine HL1.out.mono ?_
                  rintro e w12 ⟨rfl, E12⟩
                  replace Q := Lib.hid (Q.out.ext E12)
                  go_wp2_with fail
                  with_reducible refine (HL2.out _ E12).mono ?_
                  rintro e w13 ⟨rfl, E13⟩
                  replace Q := Lib.hid (Q.out.ext E13)
                  clear HL1 HL2 E12 E13
                  have hunR : Hid (∀ j : Int, (j < 0 ∨ ((2 ^ h : Nat) : Int) ≤ j) → R.u j = none) := Lib.hid (fun j hj => by
                    rcases HokR.out with ⟨f, hf, hR⟩ | ⟨i, hi, hR⟩
                    · rw [hR]; exact Hun.out j hj
                    · rw [hR]
                      show putU u i m j = none
                      rw [putU, if_neg (by omega)]
                      exact Hun.out j hj)
                  rcases HokR.out with ⟨f, hf, hR⟩ | ⟨i, hi, hR⟩
                  · have hf0 : (R.f == 0) = false := by
                      rw [hR]
                      show (f == 0) = false
                      simpa using hf
                    clear hR hf
                    go_wp2
                    exact ⟨⟨k + 1, by omega, by omega, by go_num, ⟨R.u, Q.out.s, Q.out.x, hunR.out, Q.out.k, Q.out.e⟩⟩, by simp [intOf]; omega⟩
                  · have hf0 : (R.f == 0) = true := by rw [hR]; rfl
                    have hri : R.i = (i : Int) := by rw [hR]; rfl
                    have hru : (R.u R.i).isSome = true := by rw [hR]; simp [resYes, putU]
                    have hle := pow_le hh6
                    have HV := Lib.hid (verify_signed seed m b h i (.slice Am m.length cm) (.slice A1 R.rev.length c1) (.slice A2 R.oth.length c2) (.slice A3 R.way.length c3) w13 (HK.out.ext Q.out.e) Hmk.out hi Q.out.mm hm3 (by have := Q.out.q1; rw [hR] at this; rw [hR]; exact this) (by have := Q.out.q2; rw [hR] at this; rw [hR]; exact this) (by have := Q.out.q3; rw [hR] at this; rw [hR]; exact this))
                    have HU := Lib.hid (fun w' (E : Ext w13 w') => sUsed_any S M seed b h R.u _ R.i w' (Q.out.s.ext E) (by rw [hri]; omega))
                    rw [← hri, ← HPk.out] at HV
                    rw [hru] at HU
                    have Dk : Hid (Blk w13 Kb 35 P) := Lib.hid (by rw [HPk.out]; exact Q.out.k)
                    clear hR hi hru hle hri
                    go_wp2_with (first | (refine wpList_unguard rfl ?_; refine wpList_load_blk Dk.out rfl 35 _ rfl rfl Tryz.underlying35 rfl ip.out ?_) | (refine wpList_unguard rfl ?_; refine wpList_load_blk Q.out.za rfl 44 _ rfl rfl Tryz.underlying44 rfl info_sig ?_))
                    with_reducible refine HV.out.mono ?_
                    rintro e w14 ⟨rfl, E14⟩
                    replace Q := Lib.hid (Q.out.ext E14)
                    have z0 : w14.cell? ⟨wr.heap.size, 0, none⟩ = some (.int .i64 R.i) := Q.out.za.cell 0
                    clear Dk HV
                    go_wp2_with fail
                    with_reducible refine (HU.out _ E14).mono ?_
                    rintro e w15 ⟨rfl, rfl⟩
                    go_wp2
                    exact ⟨⟨k + 1, by omega, by omega, by go_num, ⟨R.u, Q.out.s, Q.out.x, hunR.out, Q.out.k, Q.out.e⟩⟩, by simp [intOf]; omega⟩
                · have h1' : (xk == 1) = false := by simpa using h1
                  obtain ⟨R, hok, HRs, HRx⟩ := both_at seed b h u m xl hm3 hh6
                  have HokR := Lib.hid hok
                  have HRs' := Lib.hid HRs
                  have HRx' := Lib.hid HRx
                  clear hok HRs HRx
                  go_wp2_with (first | (have _ := zb6; fail) | (have _ := ba5; refine wpList_alloc_blk rfl 44 rfl (.agg noSig) zero_sig ?_; intro w6 hs6 zb6 E6; have d0 := E6.cell d0; have d1 := E6.cell d1) | (refine wpList_alloc_blk rfl 44 rfl (.agg noSig) zero_sig ?_; intro w5 hs5 ba5 E5; have d0 := E5.cell d0; have d1 := E5.cell d1; have d2 := E5.cell d2))
                  rw [hs5] at zb6
                  have ba6 := ba5.ext E6
                  have E56 := E5.trans E6
                  have Ex6 := E.trans E56
                  have Hs6 := Lib.hid (Hs.out.ext E56)
                  have Hx6 := Lib.hid (Hx.out.ext E56)
                  have HD6 := Lib.hid (HD.out.ext E56)
                  have HSm6 := Lib.hid (HSm.out.ext Ex6)
                  have hKz : Kb < wr.heap.size := HD.out.lt
                  have hbz : bo < wr.heap.size := Nat.lt_of_lt_of_le hbw E.size
                  have hwz : w.heap.size ≤ wr.heap.size := E.size
                  have hne6 := hs5
                  clear d2 d0 Hs Hx HD HSm E5 E6 E ba5 hs6 E56
                  with_reducible refine (HRs'.out S M _ w6 (HK.out.ext Ex6) HSm6.out Hs6.out).mono ?_
                  rintro e w7 ⟨r1, o1, p1, rfl, q1, q2, q3, s7, M7⟩
                  obtain ⟨A1, c1, rfl, _⟩ := q1.form
                  obtain ⟨A2, c2, rfl, _⟩ := q2.form
                  obtain ⟨A3, c3, rfl, _⟩ := q3.form
                  have Hq1 := Lib.hid q1
                  have Hq2 := Lib.hid q2
                  have Hq3 := Lib.hid q3
                  have Hs7 := Lib.hid s7
                  have Hx7 := Lib.hid (Hx6.out.mv M7)
                  have HD7 := Lib.hid (M7.blk HD6.out)
                  have ba7 := Lib.hid (M7.blk ba6)
                  have zb7 := Lib.hid (M7.blk zb6)
                  have HSm7 := Lib.hid (M7.sl HSm6.out)
                  replace d1 := M7.cell d1
                  have Ex7 := Ex6.grown M7.1 (fun j e => by cases e; exact hM)
                  have hz7 : wr.heap.size < w7.heap.size := ba7.out.lt
                  clear q1 q2 q3 s7 M7 Ex6 Hs6 Hx6 HD6 HSm6 ba6 zb6 hs5 hne6
                  go_wp2_with (first | (refine wpList_store_blk rfl 44 _ _ rfl wr.heap.size (sigC R.i (.slice A1 _ c1) (.slice A2 _ c2) (.slice A3 _ c3)) rfl rfl 44 noSig ba7.out info_sig rfl (sig_one _ _ _ _ _ _ _ _ _ _) ?_; intro w8 hs8 ba8 hg8; have d1 := hg8.cell d1 (by simp; omega)))
                  have hnu7 := fun o k => (by rw [ba7.out.cell]; exact noSig_noByte o k : w7.cell? ⟨wr.heap.size, o, none⟩ ≠ some (.int .u8 k))
                  have Hs8 := Lib.hid (sgn_grown Hs7.out hg8 ba7.out (by decide) hnu7)
                  have Hx8 := Lib.hid (Hx7.out.grown hg8 ba7.out (by decide) (by decide) (by decide) hnu7)
                  have HD8 := Lib.hid (HD7.out.grown hg8 (by intro e; injection e with e; omega))
                  have zb8 := Lib.hid (zb7.out.grown hg8 (by intro e; injection e with e; omega))
                  have ba8' := Lib.hid ba8
                  have HSm8 := Lib.hid (Sl.grown HSm7.out hg8 hnu7)
                  replace Hq1 := Lib.hid (slD_noByte Hq1.out ba7.out noSig_noByte hg8)
                  replace Hq2 := Lib.hid (slD_noByte Hq2.out ba7.out noSig_noByte hg8)
                  replace Hq3 := Lib.hid (slD_noByte Hq3.out ba7.out noSig_noByte hg8)
                  have Ex8 := Ex7.grown hg8 (fun j e => by cases e; exact hwz)
                  clear Hs7 Hx7 HD7 ba7 zb7 HSm7 Ex7 ba8 hg8 hnu7 HRs' hs8
                  with_reducible refine (HRx'.out X U F _ w8 HSm8.out Hx8.out).mono ?_
                  rintro e w9 ⟨r2, o2, p2, rfl, q4, q5, q6, x9, M9⟩
                  obtain ⟨A4, c4, rfl, _⟩ := q4.form
                  obtain ⟨A5, c5, rfl, _⟩ := q5.form
                  obtain ⟨A6, c6, rfl, _⟩ := q6.form
                  have Hq4 := Lib.hid q4
                  have Hq5 := Lib.hid q5
                  have Hq6 := Lib.hid q6
                  have Hs9 := Lib.hid (M9.sgn Hx8.out.ne.1 Hs8.out)
                  have Hx9 := Lib.hid x9
                  have HD9 := Lib.hid (M9.blkT HD8.out (by decide) (by decide))
                  have ba9 := Lib.hid (M9.blkT ba8'.out (by decide) (by decide))
                  have zb9 := Lib.hid (M9.blkT zb8.out (by decide) (by decide))
                  have HSm9 := Lib.hid (M9.sl HSm8.out)
                  replace Hq1 := Lib.hid (M9.slD Hq1.out)
                  replace Hq2 := Lib.hid (M9.slD Hq2.out)
                  replace Hq3 := Lib.hid (M9.slD Hq3.out)
                  have Ex9 := M9.over Ex8 hwU hwF
                  clear q4 q5 q6 x9 M9 Ex8 Hs8 Hx8 HD8 ba8' zb8 HSm8 HRx'
                  have hnu9 := fun o k => (by rw [zb9.out.cell]; exact noSig_noByte o k : w9.cell? ⟨wr.heap.size + 1, o, none⟩ ≠ some (.int .u8 k))
                  have HQ := Lib.hid (fun w10 (zb10 : Blk w10 (wr.heap.size + 1) 44 (sigC R.i (.slice A4 R.rev.length c4) (.slice A5 R.oth.length c5) (.slice A6 R.way.length c6))) (hg10 : w9.grownBy w10 (some (wr.heap.size + 1))) =>
                    (⟨sgn_grown Hs9.out hg10 zb9.out (by decide) hnu9, Hx9.out.grown hg10 zb9.out (by decide) (by decide) (by decide) hnu9, HD9.out.grown hg10 (by intro e; injection e with e; omega), ba9.out.grown hg10 (by intro e; injection e with e; omega), zb10, Ex9.grown hg10 (fun j e => by cases e; omega),
                      slD_noByte Hq1.out zb9.out noSig_noByte hg10, slD_noByte Hq2.out zb9.out noSig_noByte hg10, slD_noByte Hq3.out zb9.out noSig_noByte hg10, slD_noByte Hq4.out zb9.out noSig_noByte hg10, slD_noByte Hq5.out zb9.out noSig_noByte hg10, slD_noByte Hq6.out zb9.out noSig_noByte hg10, Sl.grown HSm9.out hg10 hnu9⟩ :
                      SigE w w10 S M X U F Kb wr.heap.size (wr.heap.size + 1) seed b h R (.slice A1 R.rev.length c1) (.slice A2 R.oth.length c2) (.slice A3 R.way.length c3) (.slice A4 R.rev.length c4) (.slice A5 R.oth.length c5) (.slice A6 R.way.length c6) (.slice Am m.length cm) m))
                  clear Hq1 Hq2 Hq3 Hq4 Hq5 Hq6 Hs9 Hx9 HD9 ba9 HSm9 Ex9 hnu9
                  go_wp2_with (first | (refine wpList_store_blk rfl 44 _ _ rfl (wr.heap.size + 1) (sigC R.i (.slice A4 _ c4) (.slice A5 _ c5) (.slice A6 _ c6)) rfl rfl 44 noSig zb9.out info_sig rfl (sig_one _ _ _ _ _ _ _ _ _ _) ?_; intro w10 hs10 zb10 hg10; have Q := Lib.hid (HQ.out w10 zb10 hg10); clear HQ hg10 hs10 zb10) | (refine wpList_unguard rfl ?_; refine wpList_load_blk Q.out.za rfl 44 _ rfl rfl Tryz.underlying44 rfl info_sig ?_) | (refine wpList_unguard rfl ?_; refine wpList_load_blk Q.out.zb rfl 44 _ rfl rfl Tryz.underlying44 rfl info_sig ?_))
                  have hlR : R.rev.length ≤ 1073741824 ∧ R.oth.length ≤ 1073741824 ∧ R.way.length ≤ 1073741824 := by
                    have hb256 : b ≤ 256 := by
                      have := (mayB_iff _).1 ((mayK_iff _ _).1 Hmk.out).1
                      omega
                    rcases HokR.out with ⟨f, hf, hR⟩ | ⟨i, hi, hR⟩
                    · rw [hR]; simp [resNo]
                    · rw [hR]; simp only [resYes, signR_length, signO_length, sigWay_length]; omega
                  with_reducible refine (r9Same_eq R.i _ _ _ _ _ _ R.rev R.oth R.way w10 Q.out.q1 Q.out.q2 Q.out.q3 Q.out.q4 Q.out.q5 Q.out.q6 hlR.1 hlR.2.1 hlR.2.2).mono ?_
                  rintro e w11 ⟨rfl, E11⟩
                  replace Q := Lib.hid (Q.out.ext E11)
                  have HL1 := Lib.hid (sLeft_any S M seed b h R.u _ w11 Q.out.s (cnt_le _ _))
                  have HL2 := Lib.hid (fun w' (E : Ext w11 w') => r9Left_any X U F seed b h R.u w' (Q.out.x.ext E))
                  obtain ⟨z, hz⟩ : ∃ z : Int, z = ((2 ^ h : Nat) : Int) - ((cnt R.u (2 ^ h) : Nat) : Int) := ⟨_, rfl⟩
                  rw [← hz] at HL1 HL2
                  clear hz hlR E11
                  go_wp2_with fail
                  with_reducible refine HL1.out.mono ?_
                  rintro e w12 ⟨rfl, E12⟩
                  replace Q := Lib.hid (Q.out.ext E12)
                  go_wp2_with fail
                  with_reducible refine (HL2.out _ E12).mono ?_
                  rintro e w13 ⟨rfl, E13⟩
                  replace Q := Lib.hid (Q.out.ext E13)
                  clear HL1 HL2 E12 E13
                  have hunR : Hid (∀ j : Int, (j < 0 ∨ ((2 ^ h : Nat) : Int) ≤ j) → R.u j = none) := Lib.hid (fun j hj => by
                    rcases HokR.out with ⟨f, hf, hR⟩ | ⟨i, hi, hR⟩
                    · rw [hR]; exact Hun.out j hj
                    · rw [hR]
                      show putU u i m j = none
                      rw [putU, if_neg (by omega)]
                      exact Hun.out j hj)
                  rcases HokR.out with ⟨f, hf, hR⟩ | ⟨i, hi, hR⟩
                  · have hf0 : (R.f == 0) = false := by
                      rw [hR]
                      show (f == 0) = false
                      simpa using hf
                    clear hR hf
                    go_wp2
                    exact ⟨⟨k + 1, by omega, by omega, by go_num, ⟨R.u, Q.out.s, Q.out.x, hunR.out, Q.out.k, Q.out.e⟩⟩, by simp [intOf]; omega⟩
                  · have hf0 : (R.f == 0) = true := by rw [hR]; rfl
                    have hri : R.i = (i : Int) := by rw [hR]; rfl
                    have hru : (R.u R.i).isSome = true := by rw [hR]; simp [resYes, putU]
                    have hle := pow_le hh6
                    have HV := Lib.hid (verify_signed seed m b h i (.slice Am m.length cm) (.slice A1 R.rev.length c1) (.slice A2 R.oth.length c2) (.slice A3 R.way.length c3) w13 (HK.out.ext Q.out.e) Hmk.out hi Q.out.mm hm3 (by have := Q.out.q1; rw [hR] at this; rw [hR]; exact this) (by have := Q.out.q2; rw [hR] at this; rw [hR]; exact this) (by have := Q.out.q3; rw [hR] at this; rw [hR]; exact this))
                    have HU := Lib.hid (fun w' (E : Ext w13 w') => sUsed_any S M seed b h R.u _ R.i w' (Q.out.s.ext E) (by rw [hri]; omega))
                    rw [← hri, ← HPk.out] at HV
                    rw [hru] at HU
                    have Dk : Hid (Blk w13 Kb 35 P) := Lib.hid (by rw [HPk.out]; exact Q.out.k)
                    clear hR hi hru hle hri
                    go_wp2_with (first | (refine wpList_unguard rfl ?_; refine wpList_load_blk Dk.out rfl 35 _ rfl rfl Tryz.underlying35 rfl ip.out ?_) | (refine wpList_unguard rfl ?_; refine wpList_load_blk Q.out.za rfl 44 _ rfl rfl Tryz.underlying44 rfl info_sig ?_))
                    with_reducible refine HV.out.mono ?_
                    rintro e w14 ⟨rfl, E14⟩
                    replace Q := Lib.hid (Q.out.ext E14)
                    have z0 : w14.cell? ⟨wr.heap.size, 0, none⟩ = some (.int .i64 R.i) := Q.out.za.cell 0
                    clear Dk HV
                    go_wp2_with fail
                    with_reducible refine (HU.out _ E14).mono ?_
                    rintro e w15 ⟨rfl, rfl⟩
                    go_wp2
                    exact ⟨⟨k + 1, by omega, by omega, by go_num, ⟨R.u, Q.out.s, Q.out.x, hunR.out, Q.out.k, Q.out.e⟩⟩, by simp [intOf]; omega⟩
            · have h12i : ¬ ((k : Int) < 12) := by omega
              have hlti : (k : Int) < (l.length : Int) := by omega
              obtain ⟨u, s, x, hun, D, E⟩ := hI
              rw [← HPk.out] at D
              have hle := pow_le hh6
              have heq : ∀ w, (Op.equalIn 10000 35 (.agg P) (.agg P)).run Tryz.prog w = .ok true w := by
                rw [HPk.out]
                exact equal_pk b h (pubB seed b h) (pubB_length _ _ _)
              have hwi := wrapI_pow hh6
              have hb2 : ∀ N : Nat, N ≤ 64 → -9223372036854775808 ≤ (N : Int) ∧ (N : Int) ≤ 9223372036854775807 := fun N h => by omega
              have HD := Lib.hid D
              have HP := Lib.hid (fun w' (E : Ext wr w') => sPublic_any S M seed b h u _ w' (s.ext E))
              rw [← HPk.out] at HP
              have HU1 := Lib.hid (fun w' (E : Ext wr w') => sUsed_any S M seed b h u _ (-1) w' (s.ext E) (by omega))
              rw [hun (-1) (.inl (by omega))] at HU1
              have HU2 := Lib.hid (fun w' (E : Ext wr w') => sUsed_any S M seed b h u _ ((2 ^ h : Nat) : Int) w' (s.ext E) (hb2 (2 ^ h) hle))
              rw [hun _ (.inr (Int.le_refl _))] at HU2
              clear s x hun D hle hb2
              go_wp2
              refine wp_region_chain 16 [(true, 0), (true, 2), (false, 1), (true, 3), (true, 4), (true, 5), (false, 6), (true, 7), (true, 8), (true, 9), (true, 10), (true, 11), (true, 12), (false, 13), (true, 14), (true, 15)] (fun w' => Ext wr w') (by kernel_rfl) (by kernel_rfl) (Ext.refl wr).drew ?_
              iterate 1
                refine wpTake_read _ _ ?_ rfl rfl ?_ ?_
                rotate_left 1
                focus
                  intro wS hS
                  clear hS
                  go_simp
                  first | done | with_reducible rfl
                simp only [Act.put, List.setIfInBounds_toArray, List.set_cons_zero, List.set_cons_succ]
              refine wpTake_load _ _ rfl rfl 35 _ rfl (.agg P) (fun wS hS => load_blk (HD.out.ext hS) Tryz.underlying35 rfl ip.out) ?_
              simp only [Act.put, List.setIfInBounds_toArray, List.set_cons_zero, List.set_cons_succ]
              refine wpTake_do _ _ rfl rfl (fun K hK' => ?_)
              refine wp_call ?_ (enters_of (P := Tryz.prog) Tryz.func18 (by kernel_rfl) rfl _ _) (HP.out _ (Ext.refl wr).drew) ?_
              focus
                rw [execOp_call_go]
                simp only [List.map_toArray, List.map_cons, List.map_nil, List.append_toArray, List.nil_append, List.append_nil]
                rfl
              rintro e w2 ⟨rfl, E2'⟩
              have E2 := (Ext.refl wr).drew.trans E2'
              refine ⟨_, rfl, hK' _ _ E2 ?_⟩
              clear hK' K
              simp only [Act.put, List.setIfInBounds_toArray, List.set_cons_zero, List.set_cons_succ]
              iterate 3
                refine wpTake_read _ _ ?_ rfl rfl ?_ ?_
                rotate_left 1
                focus
                  intro wS hS

                  go_simp
                  first | done | with_reducible rfl
                simp only [Act.put, List.setIfInBounds_toArray, List.set_cons_zero, List.set_cons_succ]
              refine wpTake_do _ _ rfl rfl (fun K hK' => ?_)
              refine wp_call ?_ (enters_of (P := Tryz.prog) Tryz.func17 (by kernel_rfl) rfl _ _) (HU1.out _ E2) ?_
              focus
                rw [execOp_call_go]
                simp only [List.map_toArray, List.map_cons, List.map_nil, List.append_toArray, List.nil_append, List.append_nil]
                rfl
              rintro e w3 ⟨rfl, rfl⟩
              refine ⟨_, rfl, hK' _ _ E2 ?_⟩
              clear hK' K
              simp only [Act.put, List.setIfInBounds_toArray, List.set_cons_zero, List.set_cons_succ]
              iterate 6
                refine wpTake_read _ _ ?_ rfl rfl ?_ ?_
                rotate_left 1
                focus
                  intro wS hS

                  go_simp
                  first | done | with_reducible rfl
                simp only [Act.put, List.setIfInBounds_toArray, List.set_cons_zero, List.set_cons_succ]
              refine wpTake_do _ _ rfl rfl (fun K hK' => ?_)
              refine wp_call ?_ (enters_of (P := Tryz.prog) Tryz.func17 (by kernel_rfl) rfl _ _) (HU2.out _ E2) ?_
              focus
                rw [execOp_call_go]
                simp only [List.map_toArray, List.map_cons, List.map_nil, List.append_toArray, List.nil_append, List.append_nil]
                rfl
              rintro e w3 ⟨rfl, rfl⟩
              refine ⟨_, rfl, hK' _ _ E2 ?_⟩
              clear hK' K
              simp only [Act.put, List.setIfInBounds_toArray, List.set_cons_zero, List.set_cons_succ]
              iterate 2
                refine wpTake_read _ _ ?_ rfl rfl ?_ ?_
                rotate_left 1
                focus
                  intro wS hS

                  go_simp
                  first | done | with_reducible rfl
                simp only [Act.put, List.setIfInBounds_toArray, List.set_cons_zero, List.set_cons_succ]
              refine wpTake_nil ?_
              go_wp2
              refine NoPanic.normal ?_
              go_wp2
              go_ret
              exact ⟨rfl, E.trans E2⟩
          · have hlti : ¬ ((k : Int) < (l.length : Int)) := by omega
            obtain ⟨u, s, x, hun, D, E⟩ := hI
            rw [← HPk.out] at D
            have hle := pow_le hh6
            have heq : ∀ w, (Op.equalIn 10000 35 (.agg P) (.agg P)).run Tryz.prog w = .ok true w := by
              rw [HPk.out]
              exact equal_pk b h (pubB seed b h) (pubB_length _ _ _)
            have hwi := wrapI_pow hh6
            have hb2 : ∀ N : Nat, N ≤ 64 → -9223372036854775808 ≤ (N : Int) ∧ (N : Int) ≤ 9223372036854775807 := fun N h => by omega
            have HD := Lib.hid D
            have HP := Lib.hid (fun w' (E : Ext wr w') => sPublic_any S M seed b h u _ w' (s.ext E))
            rw [← HPk.out] at HP
            have HU1 := Lib.hid (fun w' (E : Ext wr w') => sUsed_any S M seed b h u _ (-1) w' (s.ext E) (by omega))
            rw [hun (-1) (.inl (by omega))] at HU1
            have HU2 := Lib.hid (fun w' (E : Ext wr w') => sUsed_any S M seed b h u _ ((2 ^ h : Nat) : Int) w' (s.ext E) (hb2 (2 ^ h) hle))
            rw [hun _ (.inr (Int.le_refl _))] at HU2
            clear s x hun D hle hb2
            go_wp2
            refine wp_region_chain 16 [(true, 0), (true, 2), (false, 1), (true, 3), (true, 4), (true, 5), (false, 6), (true, 7), (true, 8), (true, 9), (true, 10), (true, 11), (true, 12), (false, 13), (true, 14), (true, 15)] (fun w' => Ext wr w') (by kernel_rfl) (by kernel_rfl) (Ext.refl wr).drew ?_
            iterate 1
              refine wpTake_read _ _ ?_ rfl rfl ?_ ?_
              rotate_left 1
              focus
                intro wS hS
                clear hS
                go_simp
                first | done | with_reducible rfl
              simp only [Act.put, List.setIfInBounds_toArray, List.set_cons_zero, List.set_cons_succ]
            refine wpTake_load _ _ rfl rfl 35 _ rfl (.agg P) (fun wS hS => load_blk (HD.out.ext hS) Tryz.underlying35 rfl ip.out) ?_
            simp only [Act.put, List.setIfInBounds_toArray, List.set_cons_zero, List.set_cons_succ]
            refine wpTake_do _ _ rfl rfl (fun K hK' => ?_)
            refine wp_call ?_ (enters_of (P := Tryz.prog) Tryz.func18 (by kernel_rfl) rfl _ _) (HP.out _ (Ext.refl wr).drew) ?_
            focus
              rw [execOp_call_go]
              simp only [List.map_toArray, List.map_cons, List.map_nil, List.append_toArray, List.nil_append, List.append_nil]
              rfl
            rintro e w2 ⟨rfl, E2'⟩
            have E2 := (Ext.refl wr).drew.trans E2'
            refine ⟨_, rfl, hK' _ _ E2 ?_⟩
            clear hK' K
            simp only [Act.put, List.setIfInBounds_toArray, List.set_cons_zero, List.set_cons_succ]
            iterate 3
              refine wpTake_read _ _ ?_ rfl rfl ?_ ?_
              rotate_left 1
              focus
                intro wS hS

                go_simp
                first | done | with_reducible rfl
              simp only [Act.put, List.setIfInBounds_toArray, List.set_cons_zero, List.set_cons_succ]
            refine wpTake_do _ _ rfl rfl (fun K hK' => ?_)
            refine wp_call ?_ (enters_of (P := Tryz.prog) Tryz.func17 (by kernel_rfl) rfl _ _) (HU1.out _ E2) ?_
            focus
              rw [execOp_call_go]
              simp only [List.map_toArray, List.map_cons, List.map_nil, List.append_toArray, List.nil_append, List.append_nil]
              rfl
            rintro e w3 ⟨rfl, rfl⟩
            refine ⟨_, rfl, hK' _ _ E2 ?_⟩
            clear hK' K
            simp only [Act.put, List.setIfInBounds_toArray, List.set_cons_zero, List.set_cons_succ]
            iterate 6
              refine wpTake_read _ _ ?_ rfl rfl ?_ ?_
              rotate_left 1
              focus
                intro wS hS

                go_simp
                first | done | with_reducible rfl
              simp only [Act.put, List.setIfInBounds_toArray, List.set_cons_zero, List.set_cons_succ]
            refine wpTake_do _ _ rfl rfl (fun K hK' => ?_)
            refine wp_call ?_ (enters_of (P := Tryz.prog) Tryz.func17 (by kernel_rfl) rfl _ _) (HU2.out _ E2) ?_
            focus
              rw [execOp_call_go]
              simp only [List.map_toArray, List.map_cons, List.map_nil, List.append_toArray, List.nil_append, List.append_nil]
              rfl
            rintro e w3 ⟨rfl, rfl⟩
            refine ⟨_, rfl, hK' _ _ E2 ?_⟩
            clear hK' K
            simp only [Act.put, List.setIfInBounds_toArray, List.set_cons_zero, List.set_cons_succ]
            iterate 2
              refine wpTake_read _ _ ?_ rfl rfl ?_ ?_
              rotate_left 1
              focus
                intro wS hS

                go_simp
                first | done | with_reducible rfl
              simp only [Act.put, List.setIfInBounds_toArray, List.set_cons_zero, List.set_cons_succ]
            refine wpTake_nil ?_
            go_wp2
            refine NoPanic.normal ?_
            go_wp2
            go_ret
            exact ⟨rfl, E.trans E2⟩
end Go.Proofs.YtddbmddblhjkkaaGreatDoor
/- PROVED: the law SignerSigns of package pursuivantlaw09 returns true at every input and leaves its arguments as they were: whatever calls are made, one behind the other, what is signed and which leaves are used is what the reference says, and what is signed holds. CONDITION: the package-level variable sha.constants holds what its initialiser lays (the card ties it). -/
namespace Go.Proofs.YtddbmddblhjkkaaGreatDoor.signerSigns
open Go.ChangeShapes Go.WideShapes Go.ChangeAt Go.RowKit

set_option maxRecDepth 100000 in
set_option maxHeartbeats 1000000 in
theorem contract (H : Type) (enc : TypeId × Value → H) (W : World) (base : Nat) (args : Array Value) (ds gs : List (DataW H)) (before : List MemPlace)
    (hval : ∀ (j : Nat) t v, Tryz.f3.params[j]? = some t → args[j]? = some v → Value.okWide Tryz.prog W .any base t v)
    (hW : DataW.Whole enc Tryz.prog Tryz.f3.params.toList Rows.signerSignsSpec.vars false W args.toList ds gs before) (hL : laidMetH Tryz.prog Rows.signerSignsRow.laid W) :
    Calls Tryz.prog 3 args W fun e W' => ∃ v, e = .returned v ∧ Rows.signerSignsSpec.post enc Tryz.prog Tryz.f3 false true false false W args v W' := by
  have hW' := hW
  obtain ⟨p, q, hA0, hV, rfl, hfz, hnd⟩ := hW
  have hA : DataW.TrodAll enc Tryz.prog W 0 (fun _ => true) true Tryz.f3.params.toList args.toList ds p := hA0
  rw [Tryz.params3] at hA hval
  obtain ⟨v0, vs0, d0, ds0, p0, q0, hargs, rfl, rfl, h0, r0⟩ := trodAll_cons hA
  obtain ⟨v1, vs1, d1, ds1, p1, q1, rfl, rfl, rfl, h1, r1⟩ := trodAll_cons r0
  obtain ⟨v2, vs2, d2, ds2, p2, q2, rfl, rfl, rfl, h2, r2⟩ := trodAll_cons r1
  obtain ⟨v3, vs3, d3, ds3, p3, q3, rfl, rfl, rfl, h3, r3⟩ := trodAll_cons r2
  obtain ⟨rfl, rfl, rfl⟩ := trodAll_nil r3
  obtain rfl : args = #[v0, v1, v2, v3] := by cases args; simp_all
  have hts : ∀ t ∈ Tryz.f3.params.toList, Tryz.prog.readableRec t = true ∧ t < Tryz.prog.types.size := by
    rw [Tryz.params3]
    intro t ht
    simp at ht
    rcases ht with rfl | rfl | rfl
    · exact ⟨by kernel_rfl, of_decide_eq_true (by kernel_rfl)⟩
    · exact ⟨by kernel_rfl, of_decide_eq_true (by kernel_rfl)⟩
    · exact ⟨by kernel_rfl, of_decide_eq_true (by kernel_rfl)⟩
  obtain ⟨x0, hx0, hm0⟩ := open_bytes (hval 0 22 v0 rfl rfl) h0
  obtain ⟨x1, rfl, hx1⟩ := open_i64 (hval 1 3 v1 rfl rfl) h1
  obtain ⟨x2, rfl, hx2⟩ := open_i64 (hval 2 3 v2 rfl rfl) h2
  obtain ⟨x3, hx3⟩ := open_ops (hval 3 23 v3 rfl rfl) h3
  refine (signerSigns_any v0 x0 x1 x2 v3 x3 W (kst_of hL) hx0 hx1 hx2 hx3).mono fun e W' ⟨he, hE⟩ => ?_
  subst he
  exact ⟨_, rfl, post_true 4 (by kernel_rfl) Tryz.underlying4 rfl laidOut hts hW' rfl hE⟩

noncomputable def args0 : Array Value := #[.slice none 0 0, .int .i64 0, .int .i64 0, .slice none 0 0]
theorem laid_met (os : Os) : laidMet Tryz.prog Rows.signerSignsRow.laid ((laidWorld os).forCall (fun _ _ => 0) ⟨#[], args0, []⟩).memory :=
  laidMet_of_run' 8 (by kernel_rfl) (by kernel_rfl)
theorem reads (os : Os) {H : Type} (enc : TypeId × Value → H) : DataW.whole enc Tryz.prog ((laidWorld os).forCall (fun _ _ => 0) ⟨#[], args0, []⟩).memory Tryz.f3.params.toList Rows.signerSignsSpec.vars false args0.toList 8 = some ([.nil, .lit (.int .i64 0), .lit (.int .i64 0), .nil], [], []) := by kernel_rfl

set_option maxRecDepth 100000 in
theorem lifted (os : Os) (started : os.Started) (H : Type) (enc : TypeId × Value → H) (F : Stop.Interp) :
    ReturnsInHanded {} Tryz.checked os 3 .any ((OpenSpec.ofChange Rows.signerSignsSpec).preRow enc Tryz.prog Tryz.f3 Rows.signerSignsRow.domain false Rows.signerSignsRow.laid) (((OpenSpec.ofChange Rows.signerSignsSpec).at F).post enc Tryz.prog Tryz.f3 false true false false) := by
  refine returnsInHanded_of_row (C := Tryz.checked) (s := OpenSpec.ofChange Rows.signerSignsSpec) own started (by kernel_rfl) Tryz.func3
    (witness_row_at (enc := enc) (C := Tryz.checked) false (laidWorld os) args0 rfl (by kernel_rfl) (by kernel_rfl) (by kernel_rfl)
      (OpenSpec.preRow_of_cond 8 (reads os enc) (by kernel_rfl) (fun k hk => by cases hk) (by kernel_rfl) (laid_met os))) ?_
  intro W base args ds gs before hval hW _ _ _ hL _ _
  exact contract H enc W base args ds gs before hval hW hL

theorem named : Tryz.prog.funcNamed "pursuivant/pursuivantlaw09.SignerSigns" = some 3 := by kernel_rfl
theorem facts : joinedFacts Tryz.prog 3 Tryz.f3 (OpenSpec.ofChange Rows.signerSignsSpec).bare Rows.signerSignsRow = true := by kernel_rfl
theorem inst : Tryz.f3.isInstance Tryz.prog Rows.signerSignsRow.origin Rows.signerSignsRow.targs := of_decide_eq_true (by kernel_rfl)
theorem wrap : Tryz.f3.isWrapper Tryz.prog Rows.signerSignsRow.wrapper Rows.signerSignsRow.mainSum := by unfold Func.isWrapper; first | (rw [if_pos (by decide +kernel)]; kernel_rfl) | (rw [if_neg (by decide +kernel)]; exact ⟨rfl, rfl⟩)
theorem said : Rows.SignerSignsSaid :=
  OpenClaim.holds_of_cond 3 Tryz.f3 rfl rfl rfl rfl rfl rfl rfl ⟨rfl, rfl, rfl, rfl, rfl⟩ rfl rfl rfl rfl rfl named Tryz.func3 facts inst wrap
    (fun os started H enc _ F => by rw [OpenClaim.pre_eq_preRow]; exact lifted os started H enc F)

theorem plain (f : FuncId) (fn : Func) (hf : Tryz.pinned.checked.prog.funcNamed "pursuivant/pursuivantlaw09.SignerSigns" = some f) (hfn : Tryz.pinned.checked.prog.funcs[f]? = some fn) :
    false = Tryz.pinned.checked.prog.looks [] ∧ ∀ (j : Nat) t, fn.params[j]? = some t → Tryz.pinned.checked.prog.wantsStandIn t = false := by
  obtain rfl : f = 3 := Option.some.inj ((show Tryz.prog.funcNamed "pursuivant/pursuivantlaw09.SignerSigns" = some 3 by kernel_rfl).symm.trans hf) |>.symm
  obtain rfl : fn = Tryz.f3 := (Option.some.inj (Tryz.func3.symm.trans hfn)).symm
  refine ⟨by kernel_rfl, fun j t ht => ?_⟩
  rw [Tryz.params3] at ht
  have ht' := Array.mem_of_getElem? ht
  simp at ht'
  rcases ht' with rfl | rfl | rfl
  · exact (show Tryz.prog.wantsStandIn 22 = false by kernel_rfl)
  · exact (show Tryz.prog.wantsStandIn 3 = false by kernel_rfl)
  · exact (show Tryz.prog.wantsStandIn 23 = false by kernel_rfl)

theorem card : Rows.SignerSignsCardSaid :=
  Claim7.holds_tied_plain_at .later [] _ _ _ _ said (fun _ h => by cases h) (by kernel_rfl) (fun _ h => by cases h) signerSigns_row_tie rfl ⟨rfl, rfl⟩ (by kernel_rfl) rfl plain (by kernel_rfl)
#print axioms card
end Go.Proofs.YtddbmddblhjkkaaGreatDoor.signerSigns
