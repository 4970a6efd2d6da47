/- YuasaQuiet: the body. -/
import Derived.Test.YtfcnjhgfaibmnaaJ2
import Derived.Test.YtfcnjhgfaibmnaaQ1
namespace Go.Hw
open Go.RowKit Go.Proofs Go.ChangeShapes

theorem Mk.shade_zero (M : Mk) : M.shade 0 = M := by unfold Mk.shade Mk.can; simp
theorem Mk.yu_zero (M : Mk) (e : Bool) (x : Int) (h : e = true → x = 0) : M.yu 0 x e = M := by
  unfold Mk.yu; rw [M.shade_zero]
  split
  · rw [h (by assumption)]; exact M.shade_zero
  · rfl
theorem mod_idx {x : Int} {n : Nat} (hn : 0 < n) : ∃ i : Nat, x % (n : Int) = i ∧ i < n :=
  ⟨(x % (n : Int)).toNat, by rw [Int.toNat_of_nonneg (Int.emod_nonneg _ (by omega))], by have := Int.emod_lt_of_pos x (show (0 : Int) < n by omega); have := Int.emod_nonneg x (show (n : Int) ≠ 0 by omega); omega⟩

set_option maxRecDepth 100000 in
set_option maxHeartbeats 2000000 in
theorem yuasaQuiet_any (v1 v2 v3 : Value) (fs : List Int) (es : List (Int × Int × Int)) (nw : Nat) (fw : Nat → Nat → Int) (w : World) (G : Gh) (hI : Inv w G) (h1 : U8s w G v1 fs) (h2 : U16s3 w G v2 es) (h3 : IntRows .u8 2 w G v3 nw fw) :
    Calls Try.prog 5 #[.agg #[v1, v2], v3] w (quiet (.bool true) w G) := by
  obtain ⟨p, cap, hv1, hl1, hp⟩ := id h1
  obtain ⟨q, cap2, hv2, hl2, hq⟩ := id h2
  obtain ⟨p3, cap3, hv3, hl3, hp3⟩ := id h3
  subst hv1 hv2 hv3
  have hS0 : Step (fun _ => False) w G (w.alloc (.cells #[.slice p fs.length cap, .slice q es.length cap2] 25)) G := (St.refl hI).alloc _
  have hr0 := Raw.new hI #[.slice p fs.length cap, .slice q es.length cap2] 25
  have H1 := Lib.hid h1
  have H2 := Lib.hid h2
  have H3 := Lib.hid h3
  have HS0 := Lib.hid hS0
  have HR0 := Lib.hid hr0
  clear h1 h2 h3 hp hq hp3 hI hS0 hr0
  go_enter Try.func5, Try.ntmps5
  go_wp2_with fail
  refine (law14_fit _ G HS0.out.inv).mono ?_
  rintro e w1 ⟨rfl, G1, hS1⟩
  have hc0 : w1.cell? ⟨w.heap.size, 0, none⟩ = some (.slice p fs.length cap) := (HR0.out.step hS1).cell 0
  have hc1 : w1.cell? ⟨w.heap.size, 1, none⟩ = some (.slice q es.length cap2) := (HR0.out.step hS1).cell 1
  have HS1 := Lib.hid (HS0.out.seqT hS1)
  have HR1 := Lib.hid (HR0.out.step hS1)
  clear hS1
  go_wp2_with fail
  refine (graph_small _ _ fs es w1 G1 HS1.out.inv (H1.out.step HS1.out) (H2.out.step HS1.out)).mono ?_
  rintro e w2 ⟨rfl, G2, hS2⟩
  have hc0 : w2.cell? ⟨w.heap.size, 0, none⟩ = some (.slice p fs.length cap) := (HR1.out.step hS2).cell 0
  have hc1 : w2.cell? ⟨w.heap.size, 1, none⟩ = some (.slice q es.length cap2) := (HR1.out.step hS2).cell 1
  have HS2 := Lib.hid (HS1.out.seqT hS2)
  clear hS2 HS1 HR1 HS0 HR0
  by_cases hsm : fs.length ≤ 40 ∧ es.length ≤ 120
  · have e1 : (decide (fs.length ≤ 40) && decide (es.length ≤ 120)) = true := by simp [hsm.1, hsm.2]
    rw [e1]
    clear e1
    obtain ⟨hs1, hs2⟩ := hsm
    by_cases hx3 : nw ≤ 40
    · go_wp2_with fail
      refine (law_made _ _ fs es hs1 hs2 HS2.out (H1.out.step HS2.out) (H2.out.step HS2.out)).mono ?_
      rintro e w3 ⟨K, G3, pl, capl, rfl, hKw, hKG, hK3, hKv, ⟨ok, -⟩, hS3, -⟩
      have HK := Lib.hid hK3
      have Ok := Lib.hid ok
      have Hkw := Lib.hid (And.intro hKw hKG)
      have Hkv := Lib.hid hKv
      have hl40 : K.l.length ≤ 40 := ok.le
      have H3a := Lib.hid (H3.out.step (HS2.out.seqT hS3))
      clear hK3 ok hKw hKG hKv hS3 H3 H1 H2
      go_wp2_with fail
      refine (Ok.out.new HK.out 4 (by omega)).mono ?_
      rintro e w4 ⟨m, M, G4, rfl, hM4, q1, q2, q3, q4, q5, q6, hS4, q7⟩
      have H4 := Lib.hid hM4
      have HTr := Lib.hid (q6 (fun _ => True))
      have Hq1 := Lib.hid q1
      have Hgr := Lib.hid (fun q => show M.isGrey q = false by simp [Mk.isGrey, hasR, q1])
      have H3b := Lib.hid (H3a.out.step hS4)
      clear hM4 q1 q2 q3 q4 q5 q6 q7 hS4 H3a HK
      go_wp2_with fail
      refine (yuasa_new m w4).mono ?_
      rintro e w5 ⟨rfl, rfl⟩
      have hS5 : Step (fun _ => False) w4 G4 (w4.alloc (.cells #[.func (.func 14) #[.pointer (some ⟨m, 0, none⟩)] #[]] 93)) G4 := (St.refl H4.out.inv).alloc _
      have hB5 : YuAt (w4.alloc (.cells #[.func (.func 14) #[.pointer (some ⟨m, 0, none⟩)] #[]] 93)) G4 w4.heap.size m := Raw.new H4.out.inv _ _
      have H5 := Lib.hid (H4.out.step0 hS5)
      have HB5 := Lib.hid hB5
      have H3c := Lib.hid (H3b.out.step hS5)
      clear hS5 hB5 H4 H3b
      generalize w4.alloc (.cells #[.func (.func 14) #[.pointer (some ⟨m, 0, none⟩)] #[]] 93) = w5 at *
      generalize w4.heap.size = b at *
      go_wp2
      go_loopw [36] (fun i W => ∃ (k : Nat) (G' : Gh), k ≤ nw ∧ i = .int .i64 k ∧ LM K m M W G' ∧ YuAt W G' b m ∧ IntRows .u8 2 W G' (.slice p3 nw cap3) nw fw) (fun i _ => nw - (intOf i).toNat)
      case atStart => exact ⟨0, G4, Nat.zero_le _, rfl, H5.out, HB5.out, H3c.out⟩
      case round =>
        obtain ⟨k, G7, hk, rfl, h7, hB7, hw7⟩ := hrel
        have H7 := Lib.hid h7
        have HB7 := Lib.hid hB7
        have Hw7 := Lib.hid hw7
        clear h7 hB7 hw7 H5 HB5 H3c
        by_cases hgo : k < nw ∧ 0 < K.l.length
        · obtain ⟨hlt, hlp⟩ := hgo
          obtain ⟨_, _, he, -, hq3⟩ := Hw7.out
          cases he
          obtain ⟨ad, rfl, hq1, hq2, hq4⟩ := hq3 k hlt
          obtain ⟨hce1, hwf1⟩ := hq4 0 (by omega)
          obtain ⟨hce2, hwf2⟩ := hq4 1 (by omega)
          rw [add_off ad (k * 2) 0] at hce2
          rw [Nat.add_zero] at hce1
          have hb1 := wf_u8 hwf1
          have hb2 := wf_u8 hwf2
          clear hq1 hq2 hq3 hq4 hwf1 hwf2
          generalize fw k 0 = x1 at *
          generalize fw k 1 = x2 at *
          have hrow := H7.out.lw.row
          rw [Hkv.out] at hrow
          obtain ⟨i1, hi1, hi1l⟩ := mod_idx (x := x1) hlp
          obtain ⟨i2, hi2, hi2l⟩ := mod_idx (x := x2) hlp
          obtain ⟨g6, rfl, hrc1, -⟩ := hrow.item hi1l
          obtain ⟨_, hg6, hrc2, -⟩ := hrow.item hi2l
          cases hg6
          clear hrow
          generalize K.l.getD i1 0 = r1 at *
          generalize K.l.getD i2 0 = r2 at *
          have hI7 := H7.out.inv
          have hS8 : Step (fun _ => False) wr G7 (wr.alloc (.cells #[.int .u8 x1, .int .u8 x2] 26)) G7 := (St.refl hI7).alloc _
          have hR8 := Raw.new hI7 #[.int .u8 x1, .int .u8 x2] 26
          have h8 := H7.out.step0 hS8
          have hrk : ∀ i v, wr.cell? ⟨g6, i, none⟩ = some v → (wr.alloc (.cells #[.int .u8 x1, .int .u8 x2] 26)).cell? ⟨g6, i, none⟩ = some v := fun i v hv => (World.cell?_alloc_past _ _ _ (World.block_lt_of_cell? wr _ hv)).trans hv
          have HB8 := Lib.hid (HB7.out.step hS8)
          have Hw8 := Lib.hid (Hw7.out.step hS8)
          have H8 := Lib.hid h8
          have HR8 := Lib.hid hR8
          have Hrk := Lib.hid hrk
          clear hS8 hR8 h8 hrk hI7
          go_wp2_with fail
          replace hrc1 := Hrk.out _ _ hrc1
          replace hrc2 := Hrk.out _ _ hrc2
          clear Hrk hce1 hce2
          generalize hb13 : wr.heap.size = b13 at *
          generalize wr.alloc (.cells #[.int .u8 x1, .int .u8 x2] 26) = w8 at *
          have hk0 : w8.cell? ⟨b13, 0, none⟩ = some (.int .u8 x1) := HR8.out.cell 0
          have hk1 : w8.cell? ⟨b13, 1, none⟩ = some (.int .u8 x2) := HR8.out.cell 1
          go_quiet (fail)
          have hS9 : Step (fun _ => False) w8 G7 (w8.drewN nq) G7 := (St.refl H8.out.inv).drewN nq
          have H9 := Lib.hid (H8.out.step0 hS9)
          have HB9 := Lib.hid (HB8.out.step hS9)
          have Hw9 := Lib.hid (Hw8.out.step hS9)
          have HR9 := Lib.hid (HR8.out.step hS9)
          clear hS9 hk0 hk1 hrc1 hrc2 hi1 hi2 H8 HB8 Hw8 HR8 H7 HB7 Hw7
          generalize w8.drewN nq = w9 at *
          go_wp2_with fail
          refine (H9.out.yuPre HB9.out r1 0).mono ?_
          rw [Mk.shade_zero]
          rintro e w10 ⟨rfl, G10, h10, hS10⟩
          have H10 := Lib.hid h10
          have HB10 := Lib.hid (HB9.out.step hS10)
          have Hw10 := Lib.hid (Hw9.out.step hS10)
          have HR10 := Lib.hid (HR9.out.step hS10)
          have hk0 : w10.cell? ⟨b13, 0, none⟩ = some (.int .u8 x1) := HR10.out.cell 0
          clear h10 hS10 H9 HB9 Hw9 HR9
          go_wp2_with fail
          refine (H10.out.yuPost HB10.out r1 0 r2 _ false).mono ?_
          rw [Mk.yu_zero _ _ _ (by simp)]
          rintro e w11 ⟨rfl, G11, h11, hS11⟩
          have H11 := Lib.hid h11
          have HB11 := Lib.hid (HB10.out.step hS11)
          have Hw11 := Lib.hid (Hw10.out.step hS11)
          clear h11 hS11 H10 HB10 Hw10 HR10 hk0
          go_wp2_with fail
          refine (H11.out.yuPost HB11.out r1 0 0 false true).mono ?_
          rw [Mk.yu_zero _ _ _ (by simp)]
          rintro e w12 ⟨rfl, G12, h12, hS12⟩
          have H12 := Lib.hid h12
          have HB12 := Lib.hid (HB11.out.step hS12)
          have Hw12 := Lib.hid (Hw11.out.step hS12)
          clear h12 hS12 H11 HB11 Hw11
          go_wp2
          go_roundw
          case rel => exact ⟨k + 1, G12, by omega, by go_num, H12.out, HB12.out, Hw12.out⟩
          case measure => simp [intOf]; omega
        · by_cases hlt : k < nw
          · have hl0 : K.l.length = 0 := by omega
            have hrow := H7.out.lw.row
            rw [Hkv.out] at hrow
            rw [hl0] at hrow hgo ⊢
            obtain ⟨_, _, he, -, hq3⟩ := Hw7.out
            cases he
            obtain ⟨ad, rfl, hq1, hq2, hq4⟩ := hq3 k hlt
            obtain ⟨hce1, hwf1⟩ := hq4 0 (by omega)
            obtain ⟨hce2, hwf2⟩ := hq4 1 (by omega)
            rw [add_off ad (k * 2) 0] at hce2
            rw [Nat.add_zero] at hce1
            clear hq1 hq2 hq3 hq4 hwf1 hwf2
            generalize fw k 0 = x1 at *
            generalize fw k 1 = x2 at *
            have hS8 : Step (fun _ => False) wr G7 (wr.alloc (.cells #[.int .u8 x1, .int .u8 x2] 26)) G7 := (St.refl H7.out.inv).alloc _
            have H8 := Lib.hid (H7.out.step0 hS8)
            clear hS8 hrow
            go_wp2_with fail
            refine (H8.out.count).mono ?_
            rw [show pcn M.mr M.n = 0 by rw [Hq1.out]; exact pcn_none _]
            rintro e w19 ⟨rfl, G19, h19, hS19⟩
            have H19 := Lib.hid h19
            clear h19 hS19
            go_wp2_with fail
            refine (H19.out.drained).mono ?_
            rw [Mk.drained_of Hgr.out]
            rintro e w20 ⟨rfl, G20, h20, hS20⟩
            have H20 := Lib.hid h20
            clear h20 hS20
            go_wp2_with fail
            refine (H20.out.trace Ok.out 9 (by omega) (by omega)).mono ?_
            rw [Mk.trace_dry _ Hgr.out]
            rintro e w21 ⟨rfl, G21, h21, hS21⟩
            have hfin := h21.lw.st
            rw [Hkw.out.1, Hkw.out.2] at hfin
            have Hfin := Lib.hid hfin
            clear h21 hS21 hfin
            go_wp2
            go_ret
            exact ⟨rfl, G21, Hfin.out⟩
          · obtain rfl : k = nw := by omega
            clear hgo
            go_wp2_with fail
            refine (H7.out.count).mono ?_
            rw [show pcn M.mr M.n = 0 by rw [Hq1.out]; exact pcn_none _]
            rintro e w19 ⟨rfl, G19, h19, hS19⟩
            have H19 := Lib.hid h19
            clear h19 hS19
            go_wp2_with fail
            refine (H19.out.drained).mono ?_
            rw [Mk.drained_of Hgr.out]
            rintro e w20 ⟨rfl, G20, h20, hS20⟩
            have H20 := Lib.hid h20
            clear h20 hS20
            go_wp2_with fail
            refine (H20.out.trace Ok.out 9 (by omega) (by omega)).mono ?_
            rw [Mk.trace_dry _ Hgr.out]
            rintro e w21 ⟨rfl, G21, h21, hS21⟩
            have hfin := h21.lw.st
            rw [Hkw.out.1, Hkw.out.2] at hfin
            have Hfin := Lib.hid hfin
            clear h21 hS21 hfin
            go_wp2
            go_ret
            exact ⟨rfl, G21, Hfin.out⟩
    · go_wp2
      go_ret
      exact ⟨rfl, G2, HS2.out⟩
  · have e1 : (decide (fs.length ≤ 40) && decide (es.length ≤ 120)) = false := by
      rw [Bool.and_eq_false_iff, decide_eq_false_iff_not, decide_eq_false_iff_not]; omega
    rw [e1]
    clear e1
    go_wp2
    go_ret
    exact ⟨rfl, G2, HS2.out⟩
end Go.Hw
