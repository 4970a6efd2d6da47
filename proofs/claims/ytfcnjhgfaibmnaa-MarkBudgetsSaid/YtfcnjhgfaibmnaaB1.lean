/- MarkBudgets: the body. -/
import Derived.Test.YtfcnjhgfaibmnaaV2
namespace Go.Hw
open Go.RowKit Go.Proofs Go.ChangeShapes

set_option maxRecDepth 100000 in
set_option maxHeartbeats 2000000 in
theorem budgets_any (v1 v2 v3 : Value) (fs : List Int) (es : List (Int × Int × Int)) (xs : List Int) (x : Int) (hx0 : 0 ≤ x) (hx1 : x ≤ 255) (w : World) (G : Gh) (hI : Inv w G) (h1 : U8s w G v1 fs) (h2 : U16s3 w G v2 es) (h3 : U8s w G v3 xs) :
    Calls Try.prog 6 #[.agg #[v1, v2], v3, .int .u8 x] w (quiet (.bool true) w G) := by
  obtain ⟨p, cap, hv1, hl1, hp⟩ := id h1
  obtain ⟨q, cap2, hv2, hl2, hq⟩ := id h2
  obtain ⟨p3, cap3, hv3, hl3, hp3⟩ := id h3
  subst hv1 hv2 hv3
  have H1 := Lib.hid h1
  have H2 := Lib.hid h2
  have H3 := Lib.hid h3
  have HI := Lib.hid hI
  have hS0 : Step (fun _ => False) w G (w.alloc (.cells #[.slice p fs.length cap, .slice q es.length cap2] 25)) G := (St.refl hI).alloc _
  have hr0 := Raw.new hI #[.slice p fs.length cap, .slice q es.length cap2] 25
  have HS0 := Lib.hid hS0
  have HR0 := Lib.hid hr0
  clear h1 h2 h3 hp hq hp3 hI hS0 hr0
  go_enter Try.func6, Try.ntmps6
  go_wp2_with fail
  refine (law11_fit _ G HS0.out.inv).mono ?_
  rintro e w1 ⟨rfl, G1, hS1⟩
  have hc0 : w1.cell? ⟨w.heap.size, 0, none⟩ = some (.slice p fs.length cap) := (HR0.out.step hS1).cell 0
  have hc1 : w1.cell? ⟨w.heap.size, 1, none⟩ = some (.slice q es.length cap2) := (HR0.out.step hS1).cell 1
  have HS1 := Lib.hid (HS0.out.seqT hS1)
  have HR1 := Lib.hid (HR0.out.step hS1)
  clear hS1
  go_wp2_with fail
  refine (graph_small _ _ fs es w1 G1 HS1.out.inv (H1.out.step HS1.out) (H2.out.step HS1.out)).mono ?_
  rintro e w2 ⟨rfl, G2, hS2⟩
  have hc0 : w2.cell? ⟨w.heap.size, 0, none⟩ = some (.slice p fs.length cap) := (HR1.out.step hS2).cell 0
  have hc1 : w2.cell? ⟨w.heap.size, 1, none⟩ = some (.slice q es.length cap2) := (HR1.out.step hS2).cell 1
  have HS2 := Lib.hid (HS1.out.seqT hS2)
  clear hS2 HS1 HR1 HS0 HR0
  by_cases hsm : fs.length ≤ 40 ∧ es.length ≤ 120
  · have e1 : (decide (fs.length ≤ 40) && decide (es.length ≤ 120)) = true := by simp [hsm.1, hsm.2]
    rw [e1]
    clear e1
    obtain ⟨hs1, hs2⟩ := hsm
    by_cases hx3 : xs.length ≤ 20
    · go_wp2_with fail
      refine (law_made _ _ fs es hs1 hs2 HS2.out (H1.out.step HS2.out) (H2.out.step HS2.out)).mono ?_
      rintro e w3 ⟨K, G3, pl, capl, rfl, hKw, hKG, hK3, hKv, ok, hS3, -⟩
      have HK := Lib.hid hK3
      have Ok := Lib.hid ok
      have Hkw := Lib.hid (And.intro hKw hKG)
      have Hkv := Lib.hid hKv
      have hl40 : K.l.length ≤ 40 := ok.le
      have H3a := Lib.hid (H3.out.step (HS2.out.seqT hS3))
      clear hK3 ok hKw hKG hKv hS3 H3 H1 H2
      go_wp2_with fail
      refine (Ok.out.new HK.out 3 (by omega)).mono ?_
      rintro e w4 ⟨m, M, G4, rfl, hM4, q1, q2, q3, q4, q5, q6, hS4, q7⟩
      have HM4 := Lib.hid hM4
      have HTr := Lib.hid (q6 (fun r => r ∈ someOf K.l xs))
      have Hsc0 := Lib.hid q2
      have H3b := Lib.hid (H3a.out.step hS4)
      clear hM4 q1 q2 q3 q4 q5 q6 q7 hS4 H3a HK
      go_wp2_with fail
      refine (Ok.out.new HM4.out.lw 64 (by omega)).mono ?_
      rintro e w5 ⟨o, O, G5, rfl, hO5, q1, q2, q3, q4, q5, q6, hS5, q7⟩
      have H5 := Lib.hid (HM4.out.two hS5 hO5 q7)
      have HTo := Lib.hid (q6 (fun r => r ∈ someOf K.l xs))
      have H3c := Lib.hid (H3b.out.step hS5)
      clear hO5 q1 q2 q3 q4 q5 q6 q7 hS5 H3b HM4
      have hrow5 := H5.out.lw.row
      rw [Hkv.out] at hrow5
      have Hrow5 := Lib.hid hrow5
      clear hrow5
      go_wp2_with fail
      refine (law11_some _ _ K.l xs K.lb (by omega) (by omega) w5 G5 H5.out.inv Hrow5.out H3c.out).mono ?_
      rintro e w6 ⟨vr, G6, rfl, hvr, hS6⟩
      have H6 := Lib.hid (H5.out.step0 hS6)
      have hrl := someOf_len K.l xs
      have Hrm := Lib.hid (fun r (hr : r ∈ someOf K.l xs) => (someOf_mem hr : r ∈ K.l))
      have Hvr := Lib.hid hvr
      obtain ⟨pr, capr, he, -⟩ := hvr.val
      subst he
      clear hvr hS6 H5 H3c Hrow5
      generalize hroots : someOf K.l xs = rs at *
      generalize w5.heap.size = rb at *
      go_wp2
      go_loopw [47] (fun i W => ∃ (k : Nat) (M' O' : Mk) (G' : Gh), k ≤ rs.length ∧ i = .int .i64 k ∧ LM2 K m o M' O' W G' ∧
        Tr K.P K.P K.l (fun r => r ∈ rs) M' ∧ Tr K.P K.P K.l (fun r => r ∈ rs) O' ∧ (∀ r ∈ rs.take k, hasR M'.mr r = true ∧ hasR O'.mr r = true) ∧ M'.sc = M.sc ∧ RowAt W G' rb (.slice pr rs.length capr) rs) (fun i _ => rs.length - (intOf i).toNat)
      case atStart => exact ⟨0, M, O, G6, Nat.zero_le _, rfl, H6.out, HTr.out, HTo.out, fun r hr => by simp at hr, rfl, Hvr.out⟩
      case round =>
        obtain ⟨k, M', O', G7, hk, rfl, h7, hTm, hTo, hmk, hsc, hrow⟩ := hrel
        have H7 := Lib.hid h7
        have HTm := Lib.hid hTm
        have HTo7 := Lib.hid hTo
        have Hmk := Lib.hid hmk
        have Hsc := Lib.hid hsc
        have Hrow := Lib.hid hrow
        clear h7 hTm hTo hmk hsc hrow H6 Hvr
        by_cases hlt : k < rs.length
        · obtain ⟨gr, rfl, hrc, hrin, htk⟩ := Hrow.out.item hlt
          have Htk := Lib.hid htk
          have Hri := Lib.hid hrin
          clear htk hrin
          generalize rs.getD k 0 = r at *
          go_wp2_with fail
          refine (H7.out.shade r).mono ?_
          rintro e w8 ⟨rfl, G8, h8, hS8⟩
          have H8 := Lib.hid h8
          have Hrow8 := Lib.hid (Hrow.out.step hS8)
          clear h8 hS8 hrc
          go_wp2_with fail
          refine (H8.out.shade' r).mono ?_
          rintro e w9 ⟨rfl, G9, h9, hS9⟩
          have H9 := Lib.hid h9
          have Hrow9 := Lib.hid (Hrow8.out.step hS9)
          clear h9 hS9
          go_wp2
          go_roundw
          case rel =>
            have hrl' := Hrm.out r Hri.out
            refine ⟨k + 1, M'.shade r, O'.shade r, G9, by omega, by go_num, H9.out, HTm.out.shade hrl' (.root Hri.out), HTo7.out.shade hrl' (.root Hri.out), fun z hz => ?_, (Mk.shade_same M' r).1.trans Hsc.out, Hrow9.out⟩
            rw [Htk.out] at hz
            have hb1 := HTm.out.bd r hrl'
            have hb2 := HTo7.out.bd r hrl'
            rcases List.mem_append.1 hz with hz | hz
            · exact ⟨(Mk.shade_mr hb1).2 (.inr (Hmk.out z hz).1), (Mk.shade_mr hb2).2 (.inr (Hmk.out z hz).2)⟩
            · rw [List.mem_singleton.1 hz]; exact ⟨(Mk.shade_mr hb1).2 (.inl rfl), (Mk.shade_mr hb2).2 (.inl rfl)⟩
          case measure => simp [intOf]; omega
        · obtain rfl : k = rs.length := by omega
          have hk9 : 0 ≤ x % 9 ∧ x % 9 ≤ 8 := by omega
          obtain ⟨kk, hkk⟩ : ∃ kk : Int, x % 9 = kk := ⟨_, rfl⟩
          rw [hkk] at hk9
          clear hlt hk
          go_wp2_with fail
          refine (H7.out.trace Ok.out kk (by omega) (by omega)).mono ?_
          rintro e w8 ⟨rfl, G8, h8, hS8⟩
          have hTd := Tr.trace Ok.out.cl kk.toNat HTm.out
          have hmM : ∀ r ∈ rs, hasR (Mk.trace K.P kk.toNat M').2.mr r = true := fun r hr => hTd.mono r (Hmk.out r (by rw [List.take_length]; exact hr)).1
          have hmO : ∀ r ∈ rs, hasR O'.mr r = true := fun r hr => (Hmk.out r (by rw [List.take_length]; exact hr)).2
          have hcnt := hTd.count (Hsc.out.trans Hsc0.out) Ok.out.ob.nd
          generalize (Mk.trace K.P kk.toNat M').1 = j at *
          generalize (Mk.trace K.P kk.toNat M').2 = M8 at *
          have hjk : j ≤ kk.toNat := hTd.le
          have H8 := Lib.hid h8
          have HTd := Lib.hid hTd
          have HmM := Lib.hid hmM
          have HmO := Lib.hid hmO
          have Hcnt := Lib.hid hcnt
          clear h8 hTd hmM hmO hcnt hS8 H7 Hmk Hsc HTm
          go_wp2_with fail
          go_loopw [16, 66] (fun c i W => ∃ (k : Nat) (G' : Gh), k ≤ K.l.length ∧ i = .int .i64 k ∧ c = .int .i64 ((K.l.take k).filter fun r => hasR M8.sc r).length ∧ LM2 K m o M8 O' W G') (fun _ i _ => K.l.length - (intOf i).toNat)
          case atStart => exact ⟨0, G8, Nat.zero_le _, rfl, by simp, H8.out⟩
          case round =>
            obtain ⟨k, G9, hk, rfl, rfl, h9⟩ := hrel
            have H9 := Lib.hid h9
            clear h9
            by_cases hlt : k < K.l.length
            · have hrow9 := H9.out.lw.row
              rw [Hkv.out] at hrow9
              obtain ⟨gl, rfl, hrc, hrin, htk⟩ := hrow9.item hlt
              have hfl2 : ((K.l.take k).filter fun r => hasR M8.sc r).length ≤ k := Nat.le_trans (List.length_filter_le _ _) (by simp; omega)
              have hstep : ((K.l.take (k + 1)).filter fun r => hasR M8.sc r).length = ((K.l.take k).filter fun r => hasR M8.sc r).length + (if hasR M8.sc (K.l.getD k 0) = true then 1 else 0) := by
                rw [htk, List.filter_append, List.length_append, List.filter_cons, List.filter_nil]
                generalize K.l.getD k 0 = z
                by_cases hh : hasR M8.sc z = true <;> simp [hh]
              have Hstep := Lib.hid hstep
              have Hri := Lib.hid hrin
              clear hrow9 htk hstep hrin
              generalize K.l.getD k 0 = r at *
              generalize ((K.l.take k).filter fun r => hasR M8.sc r).length = c at *
              go_wp2_with fail
              refine (H9.out.scanned r).mono ?_
              rintro e w10 ⟨rfl, G10, h10, hS10⟩
              have H10 := Lib.hid h10
              clear h10 hS10 hrc
              cases hsr : hasR M8.sc r with
              | false =>
                have Hst0 := Lib.hid (show ((K.l.take (k + 1)).filter fun r => hasR M8.sc r).length = c by rw [Hstep.out, hsr]; simp)
                clear hsr
                go_wp2
                go_roundw
                case rel => exact ⟨k + 1, G10, by omega, by go_num, by rw [Hst0.out], H10.out⟩
                case measure => simp [intOf]; omega
              | true =>
                have Hst0 := Lib.hid (show ((K.l.take (k + 1)).filter fun r => hasR M8.sc r).length = c + 1 by rw [Hstep.out, hsr]; simp)
                have Hsr := Lib.hid hsr
                clear hsr
                obtain ⟨vv, hrun, hrv⟩ := H10.out.lw.gr.look (by have := Ok.out.nn; omega) (Ok.out.bd Hri.out)
                have htab : K.tab r = K.P r := by rw [Ok.out.tb, if_pos Hri.out]
                rw [htab] at hrv
                obtain ⟨pv, cv, rfl, -⟩ := hrv.val
                have hpl : (K.P r).length ≤ 100 := Nat.le_trans (pts_len _ _ _) (by have := Ok.out.fl r; omega)
                have Hrv := Lib.hid hrv
                clear hrv htab
                go_wp2_with fail
                go_loopw [80] (fun i W => ∃ (k : Nat) (G' : Gh), k ≤ (K.P r).length ∧ i = .int .i64 k ∧ LM2 K m o M8 O' W G' ∧ RowAt W G' K.base (.slice pv (K.P r).length cv) (K.P r)) (fun i _ => (K.P r).length - (intOf i).toNat)
                case atStart => exact ⟨0, G10, Nat.zero_le _, rfl, H10.out, Hrv.out⟩
                case round =>
                  obtain ⟨k2, G11, hk2, rfl, h11, hrw⟩ := hrel
                  have H11 := Lib.hid h11
                  have Hrw := Lib.hid hrw
                  clear h11 hrw hrun
                  by_cases hlt2 : k2 < (K.P r).length
                  · obtain ⟨gy, rfl, hrc, hyin, -⟩ := Hrw.out.item hlt2
                    have Hyn := Lib.hid hyin
                    clear hyin
                    generalize (K.P r).getD k2 0 = y at *
                    have Hym := Lib.hid (HTd.out.tr.cl r Hsr.out y Hyn.out)
                    go_wp2_with fail
                    refine (H11.out.marked y).mono ?_
                    rintro e w12 ⟨rfl, G12, h12, hS12⟩
                    have H12 := Lib.hid h12
                    have Hrw12 := Lib.hid (Hrw.out.step hS12)
                    rw [Hym.out]
                    clear h12 hS12 hrc
                    go_wp2
                    go_roundw
                    case rel => exact ⟨k2 + 1, G12, by omega, by go_num, H12.out, Hrw12.out⟩
                    case measure => simp [intOf]; omega
                  · go_wp2
                    go_roundw
                    case rel => exact ⟨k + 1, G11, by omega, by go_num, by rw [Hst0.out]; go_num, H11.out⟩
                    case measure => simp [intOf]; omega
            · obtain rfl : k = K.l.length := by omega
              have hc : ((K.l.take K.l.length).filter fun r => hasR M8.sc r).length = j := by rw [List.take_length]; exact Hcnt.out
              rw [hc]
              clear hc hlt hk Hcnt HTo
              have hkk2 : (j : Int) ≤ kk := by omega
              by_cases hjk2 : (j : Int) < kk
              · have Hdr := Lib.hid (Mk.drained_of (HTd.out.dry (by omega)))
                go_wp2_with fail
                refine (H9.out.drained).mono ?_
                rw [Hdr.out]
                rintro e w10 ⟨rfl, G10, h10, hS10⟩
                have H10 := Lib.hid h10
                clear h10 hS10
                go_wp2_with fail
                have Hf1 := Lib.hid (show (Mk.trace K.P (0 : Int).toNat M8) = (0, M8) from rfl)
                refine (H10.out.trace Ok.out 0 (by omega) (by omega)).mono ?_
                rw [Hf1.out]
                rintro e w11 ⟨rfl, G11, h11, hS11⟩
                have H11 := Lib.hid h11
                have Hf2 := Lib.hid (show (Mk.trace K.P (-5 : Int).toNat M8) = (0, M8) from rfl)
                clear h11 hS11
                go_wp2_with fail
                refine (H11.out.trace Ok.out (-5) (by omega) (by omega)).mono ?_
                rw [Hf2.out]
                rintro e w12 ⟨rfl, G12, h12, hS12⟩
                have H12 := Lib.hid h12
                clear h12 hS12
                go_wp2_with fail
                refine (H12.out.trace Ok.out 100 (by omega) (by omega)).mono ?_
                rintro e w13 ⟨rfl, G13, h13, hS13⟩
                have H13 := Lib.hid h13
                clear h13 hS13
                go_wp2_with fail
                refine (H13.out.trace' Ok.out 100 (by omega) (by omega)).mono ?_
                rintro e w14 ⟨rfl, G14, h14, hS14⟩
                have H14 := Lib.hid h14
                clear h14 hS14
                have hsame : ∀ r, hasR (Mk.trace K.P (100 : Int).toNat M8).2.mr r = hasR (Mk.trace K.P (100 : Int).toNat O').2.mr r := fun r => by
                  have t1 := Tr.trace Ok.out.cl (100 : Int).toNat HTd.out.tr
                  have t2 := Tr.trace Ok.out.cl (100 : Int).toNat HTo7.out
                  have l1 := t1.le_len
                  have l2 := t2.le_len
                  have c1 := t1.tr.closed (t1.dry (by show _ < 100; omega)) (fun r hr => t1.mono r (HmM.out r hr)) r
                  have c2 := t2.tr.closed (t2.dry (by show _ < 100; omega)) (fun r hr => t2.mono r (HmO.out r hr)) r
                  rw [Bool.eq_iff_iff, c1, c2]
                have Hsame := Lib.hid hsame
                clear hsame
                generalize (Mk.trace K.P (100 : Int).toNat M8).1 = j1 at *
                generalize (Mk.trace K.P (100 : Int).toNat M8).2 = M9 at *
                generalize (Mk.trace K.P (100 : Int).toNat O').1 = j2 at *
                generalize (Mk.trace K.P (100 : Int).toNat O').2 = O9 at *
                go_wp2
                go_loopw [124] (fun i W => ∃ (k : Nat) (G' : Gh), k ≤ K.l.length ∧ i = .int .i64 k ∧ LM2 K m o M9 O9 W G') (fun i _ => K.l.length - (intOf i).toNat)
                case atStart => exact ⟨0, G14, Nat.zero_le _, rfl, H14.out⟩
                case round =>
                  obtain ⟨k, G15, hk, rfl, h15⟩ := hrel
                  have H15 := Lib.hid h15
                  clear h15
                  by_cases hlt : k < K.l.length
                  · have hrow9 := H15.out.lw.row
                    rw [Hkv.out] at hrow9
                    obtain ⟨gl, rfl, hrc, hrin, htk⟩ := hrow9.item hlt
                    clear hrow9 htk hrin
                    generalize K.l.getD k 0 = r at *
                    go_wp2_with fail
                    refine (H15.out.marked r).mono ?_
                    rintro e w16 ⟨rfl, G16, h16, hS16⟩
                    have H16 := Lib.hid h16
                    clear h16 hS16 hrc
                    go_wp2_with fail
                    refine (H16.out.marked' r).mono ?_
                    rintro e w17 ⟨rfl, G17, h17, hS17⟩
                    have H17 := Lib.hid h17
                    clear h17 hS17
                    rw [Hsame.out r]
                    cases hh : hasR O9.mr r with
                    | true =>
                      clear hh
                      go_wp2
                      go_roundw
                      case rel => exact ⟨k + 1, G17, by omega, by go_num, H17.out⟩
                      case measure => simp [intOf]; omega
                    | false =>
                      clear hh
                      go_wp2
                      go_roundw
                      case rel => exact ⟨k + 1, G17, by omega, by go_num, H17.out⟩
                      case measure => simp [intOf]; omega
                  · obtain rfl : k = K.l.length := by omega
                    go_wp2_with fail
                    refine (H15.out.own (Mk.ids_clean M9) (mark_reset m M9 wr G15 H15.out.inv H15.out.mi.mk')).mono ?_
                    rintro e w18 ⟨rfl, G18, h18, hS18⟩
                    have H18 := Lib.hid h18
                    clear h18 hS18
                    go_wp2_with fail
                    refine (H18.out.count).mono ?_
                    rw [show pcn M9.clean.mr M9.clean.n = 0 from pcn_none _]
                    rintro e w19 ⟨rfl, G19, h19, hS19⟩
                    have H19 := Lib.hid h19
                    clear h19 hS19
                    go_wp2_with fail
                    refine (H19.out.drained).mono ?_
                    rw [show M9.clean.drained = true from Mk.drained_of M9.grey_clean]
                    rintro e w20 ⟨rfl, G20, h20, hS20⟩
                    have H20 := Lib.hid h20
                    clear h20 hS20
                    go_wp2_with fail
                    refine (H20.out.trace Ok.out 9 (by omega) (by omega)).mono ?_
                    rw [Mk.trace_clean]
                    rintro e w21 ⟨rfl, G21, h21, hS21⟩
                    have hfin := h21.lw.st
                    rw [Hkw.out.1, Hkw.out.2] at hfin
                    have Hfin := Lib.hid hfin
                    clear h21 hS21 hfin
                    go_wp2
                    go_ret
                    exact ⟨rfl, G21, Hfin.out⟩
              · obtain rfl : (j : Int) = kk := by omega
                go_wp2_with fail
                have Hf1 := Lib.hid (show (Mk.trace K.P (0 : Int).toNat M8) = (0, M8) from rfl)
                refine (H9.out.trace Ok.out 0 (by omega) (by omega)).mono ?_
                rw [Hf1.out]
                rintro e w11 ⟨rfl, G11, h11, hS11⟩
                have H11 := Lib.hid h11
                have Hf2 := Lib.hid (show (Mk.trace K.P (-5 : Int).toNat M8) = (0, M8) from rfl)
                clear h11 hS11
                go_wp2_with fail
                refine (H11.out.trace Ok.out (-5) (by omega) (by omega)).mono ?_
                rw [Hf2.out]
                rintro e w12 ⟨rfl, G12, h12, hS12⟩
                have H12 := Lib.hid h12
                clear h12 hS12
                go_wp2_with fail
                refine (H12.out.trace Ok.out 100 (by omega) (by omega)).mono ?_
                rintro e w13 ⟨rfl, G13, h13, hS13⟩
                have H13 := Lib.hid h13
                clear h13 hS13
                go_wp2_with fail
                refine (H13.out.trace' Ok.out 100 (by omega) (by omega)).mono ?_
                rintro e w14 ⟨rfl, G14, h14, hS14⟩
                have H14 := Lib.hid h14
                clear h14 hS14
                have hsame : ∀ r, hasR (Mk.trace K.P (100 : Int).toNat M8).2.mr r = hasR (Mk.trace K.P (100 : Int).toNat O').2.mr r := fun r => by
                  have t1 := Tr.trace Ok.out.cl (100 : Int).toNat HTd.out.tr
                  have t2 := Tr.trace Ok.out.cl (100 : Int).toNat HTo7.out
                  have l1 := t1.le_len
                  have l2 := t2.le_len
                  have c1 := t1.tr.closed (t1.dry (by show _ < 100; omega)) (fun r hr => t1.mono r (HmM.out r hr)) r
                  have c2 := t2.tr.closed (t2.dry (by show _ < 100; omega)) (fun r hr => t2.mono r (HmO.out r hr)) r
                  rw [Bool.eq_iff_iff, c1, c2]
                have Hsame := Lib.hid hsame
                clear hsame
                generalize (Mk.trace K.P (100 : Int).toNat M8).1 = j1 at *
                generalize (Mk.trace K.P (100 : Int).toNat M8).2 = M9 at *
                generalize (Mk.trace K.P (100 : Int).toNat O').1 = j2 at *
                generalize (Mk.trace K.P (100 : Int).toNat O').2 = O9 at *
                go_wp2
                go_loopw [124] (fun i W => ∃ (k : Nat) (G' : Gh), k ≤ K.l.length ∧ i = .int .i64 k ∧ LM2 K m o M9 O9 W G') (fun i _ => K.l.length - (intOf i).toNat)
                case atStart => exact ⟨0, G14, Nat.zero_le _, rfl, H14.out⟩
                case round =>
                  obtain ⟨k, G15, hk, rfl, h15⟩ := hrel
                  have H15 := Lib.hid h15
                  clear h15
                  by_cases hlt : k < K.l.length
                  · have hrow9 := H15.out.lw.row
                    rw [Hkv.out] at hrow9
                    obtain ⟨gl, rfl, hrc, hrin, htk⟩ := hrow9.item hlt
                    clear hrow9 htk hrin
                    generalize K.l.getD k 0 = r at *
                    go_wp2_with fail
                    refine (H15.out.marked r).mono ?_
                    rintro e w16 ⟨rfl, G16, h16, hS16⟩
                    have H16 := Lib.hid h16
                    clear h16 hS16 hrc
                    go_wp2_with fail
                    refine (H16.out.marked' r).mono ?_
                    rintro e w17 ⟨rfl, G17, h17, hS17⟩
                    have H17 := Lib.hid h17
                    clear h17 hS17
                    rw [Hsame.out r]
                    cases hh : hasR O9.mr r with
                    | true =>
                      clear hh
                      go_wp2
                      go_roundw
                      case rel => exact ⟨k + 1, G17, by omega, by go_num, H17.out⟩
                      case measure => simp [intOf]; omega
                    | false =>
                      clear hh
                      go_wp2
                      go_roundw
                      case rel => exact ⟨k + 1, G17, by omega, by go_num, H17.out⟩
                      case measure => simp [intOf]; omega
                  · obtain rfl : k = K.l.length := by omega
                    go_wp2_with fail
                    refine (H15.out.own (Mk.ids_clean M9) (mark_reset m M9 wr G15 H15.out.inv H15.out.mi.mk')).mono ?_
                    rintro e w18 ⟨rfl, G18, h18, hS18⟩
                    have H18 := Lib.hid h18
                    clear h18 hS18
                    go_wp2_with fail
                    refine (H18.out.count).mono ?_
                    rw [show pcn M9.clean.mr M9.clean.n = 0 from pcn_none _]
                    rintro e w19 ⟨rfl, G19, h19, hS19⟩
                    have H19 := Lib.hid h19
                    clear h19 hS19
                    go_wp2_with fail
                    refine (H19.out.drained).mono ?_
                    rw [show M9.clean.drained = true from Mk.drained_of M9.grey_clean]
                    rintro e w20 ⟨rfl, G20, h20, hS20⟩
                    have H20 := Lib.hid h20
                    clear h20 hS20
                    go_wp2_with fail
                    refine (H20.out.trace Ok.out 9 (by omega) (by omega)).mono ?_
                    rw [Mk.trace_clean]
                    rintro e w21 ⟨rfl, G21, h21, hS21⟩
                    have hfin := h21.lw.st
                    rw [Hkw.out.1, Hkw.out.2] at hfin
                    have Hfin := Lib.hid hfin
                    clear h21 hS21 hfin
                    go_wp2
                    go_ret
                    exact ⟨rfl, G21, Hfin.out⟩
    · go_wp2
      go_ret
      exact ⟨rfl, G2, HS2.out⟩
  · have e1 : (decide (fs.length ≤ 40) && decide (es.length ≤ 120)) = false := by
      rw [Bool.and_eq_false_iff, decide_eq_false_iff_not, decide_eq_false_iff_not]; omega
    rw [e1]
    clear e1
    go_wp2
    go_ret
    exact ⟨rfl, G2, HS2.out⟩
end Go.Hw
