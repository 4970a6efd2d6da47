/- MarkReaches: the body. -/
import Derived.Test.YtfcnjhgfaibmnaaV3
import Derived.Test.YtfcnjhgfaibmnaaY2
import Derived.Test.YtfcnjhgfaibmnaaR2
namespace Go.Hw
open Go.RowKit Go.Proofs Go.ChangeShapes

set_option maxRecDepth 100000 in
set_option maxHeartbeats 2000000 in
theorem reaches_any (v1 v2 v3 : Value) (fs : List Int) (es : List (Int × Int × Int)) (xs : List Int) (x y : Int) (hx : 0 ≤ x ∧ x ≤ 255) (hy : 0 ≤ y ∧ y ≤ 255) (w : World) (G : Gh) (hI : Inv w G) (h1 : U8s w G v1 fs) (h2 : U16s3 w G v2 es) (h3 : U8s w G v3 xs) :
    Calls Try.prog 3 #[.agg #[v1, v2], v3, .agg #[.int .u8 x, .int .u8 y]] w (quiet (.bool true) w G) := by
  obtain ⟨p, cap, hv1, hl1, hp⟩ := id h1
  obtain ⟨q, cap2, hv2, hl2, hq⟩ := id h2
  obtain ⟨p3, cap3, hv3, hl3, hp3⟩ := id h3
  subst hv1 hv2 hv3
  have hS0 : Step (fun _ => False) w G (w.alloc (.cells #[.slice p fs.length cap, .slice q es.length cap2] 25)) G := (St.refl hI).alloc _
  have hr0 := Raw.new hI #[.slice p fs.length cap, .slice q es.length cap2] 25
  have hS1 := hS0.alloc (.cells #[.int .u8 x, .int .u8 y] 26)
  have hr1 := Raw.new hS0.inv #[.int .u8 x, .int .u8 y] 26
  have hr0' := hr0.alloc (.cells #[.int .u8 x, .int .u8 y] 26)
  rw [World.size_alloc] at hr1
  have H1 := Lib.hid h1
  have H2 := Lib.hid h2
  have H3 := Lib.hid h3
  have HI := Lib.hid hI
  have HS0 := Lib.hid hS1
  have HR0 := Lib.hid hr0'
  have HB0 := Lib.hid hr1
  clear h1 h2 h3 hp hq hp3 hI hS0 hr0 hS1 hr1 hr0'
  go_enter Try.func3, Try.ntmps3
  go_wp2_with fail
  refine (law11_fit _ G HS0.out.inv).mono ?_
  rintro e w1 ⟨rfl, G1, hS1⟩
  have hc0 : w1.cell? ⟨w.heap.size, 0, none⟩ = some (.slice p fs.length cap) := (HR0.out.step hS1).cell 0
  have hc1 : w1.cell? ⟨w.heap.size, 1, none⟩ = some (.slice q es.length cap2) := (HR0.out.step hS1).cell 1
  have HS1 := Lib.hid (HS0.out.seqT hS1)
  have HR1 := Lib.hid (HR0.out.step hS1)
  have HB1 := Lib.hid (HB0.out.step hS1)
  clear hS1
  go_wp2_with fail
  refine (graph_small _ _ fs es w1 G1 HS1.out.inv (H1.out.step HS1.out) (H2.out.step HS1.out)).mono ?_
  rintro e w2 ⟨rfl, G2, hS2⟩
  have hc0 : w2.cell? ⟨w.heap.size, 0, none⟩ = some (.slice p fs.length cap) := (HR1.out.step hS2).cell 0
  have hc1 : w2.cell? ⟨w.heap.size, 1, none⟩ = some (.slice q es.length cap2) := (HR1.out.step hS2).cell 1
  have HS2 := Lib.hid (HS1.out.seqT hS2)
  have HB2 := Lib.hid (HB1.out.step hS2)
  clear hS2 HS1 HR1 HS0 HR0 HB0 HB1
  by_cases hsm : fs.length ≤ 40 ∧ es.length ≤ 120
  · have e1 : (decide (fs.length ≤ 40) && decide (es.length ≤ 120)) = true := by simp [hsm.1, hsm.2]
    rw [e1]
    clear e1
    obtain ⟨hs1, hs2⟩ := hsm
    by_cases hx3 : xs.length ≤ 20
    · go_wp2_with fail
      refine (law_made _ _ fs es hs1 hs2 HS2.out (H1.out.step HS2.out) (H2.out.step HS2.out)).mono ?_
      rintro e w3 ⟨K, G3, pl, capl, rfl, hKw, hKG, hK3, hKv, ok, hS3, -⟩
      have HK := Lib.hid hK3
      have Ok := Lib.hid ok
      have Hkw := Lib.hid (And.intro hKw hKG)
      have Hkv := Lib.hid hKv
      have hl40 : K.l.length ≤ 40 := ok.le
      have H3a := Lib.hid (H3.out.step (HS2.out.seqT hS3))
      have HB3 := Lib.hid (HB2.out.step hS3)
      have hcb := HB3.out.cell 0
      clear hK3 ok hKw hKG hKv hS3 H3 H1 H2 HB2
      obtain ⟨kr, hkr, hkr2⟩ : ∃ kr : Nat, x % 12 = kr ∧ kr ≤ 11 := ⟨(x % 12).toNat, by omega, by omega⟩
      go_wp2_with fail
      refine (Ok.out.new HK.out kr (by omega)).mono ?_
      rintro e w4 ⟨m, M, G4, rfl, hM4, q1, q2, q3, q4, q5, q6, hS4, q7⟩
      have H4 := Lib.hid hM4
      have HTr := Lib.hid (q6 (fun r => r ∈ someOf K.l xs))
      have Hsc0 := Lib.hid q2
      have H3b := Lib.hid (H3a.out.step hS4)
      have HB4 := Lib.hid (HB3.out.step hS4)
      clear hM4 q1 q2 q3 q4 q5 q6 q7 hS4 H3a HK HB3 hcb hkr
      have hrow5 := H4.out.lw.row
      rw [Hkv.out] at hrow5
      have Hrow5 := Lib.hid hrow5
      clear hrow5
      go_wp2_with fail
      refine (law11_some _ _ K.l xs K.lb (by omega) (by omega) w4 G4 H4.out.inv Hrow5.out H3b.out).mono ?_
      rintro e w6 ⟨vr, G6, rfl, hvr, hS6⟩
      have H6 := Lib.hid (H4.out.step0 hS6)
      have HB6 := Lib.hid (HB4.out.step hS6)
      have hrl := someOf_len K.l xs
      have Hrm := Lib.hid (fun r (hr : r ∈ someOf K.l xs) => (someOf_mem hr : r ∈ K.l))
      have Hvr := Lib.hid hvr
      obtain ⟨pr, capr, he, -⟩ := hvr.val
      subst he
      clear hvr hS6 H4 H3b Hrow5 HB4
      generalize hroots : someOf K.l xs = rs at *
      generalize w4.heap.size = rb at *
      go_wp2
      go_loopw [47] (fun i W => ∃ (k : Nat) (M' : Mk) (G' : Gh), k ≤ rs.length ∧ i = .int .i64 k ∧ LM K m M' W G' ∧
        Tr K.P K.P K.l (fun r => r ∈ rs) M' ∧ (∀ r ∈ rs.take k, hasR M'.mr r = true) ∧ M'.sc = M.sc ∧ RowAt W G' rb (.slice pr rs.length capr) rs ∧ Raw W G' (w.heap.size + 1) #[.int .u8 x, .int .u8 y] 26) (fun i _ => rs.length - (intOf i).toNat)
      case atStart => exact ⟨0, M, G6, Nat.zero_le _, rfl, H6.out, HTr.out, fun r hr => by simp at hr, rfl, Hvr.out, HB6.out⟩
      case round =>
        obtain ⟨k, M', G7, hk, rfl, h7, hTm, hmk, hsc, hrow, hB⟩ := hrel
        have H7 := Lib.hid h7
        have HTm := Lib.hid hTm
        have Hmk := Lib.hid hmk
        have Hsc := Lib.hid hsc
        have Hrow := Lib.hid hrow
        have HB7 := Lib.hid hB
        clear h7 hTm hmk hsc hrow H6 Hvr hB HB6
        by_cases hlt : k < rs.length
        · obtain ⟨gr, rfl, hrc, hrin, htk⟩ := Hrow.out.item hlt
          have Htk := Lib.hid htk
          have Hri := Lib.hid hrin
          clear htk hrin
          generalize rs.getD k 0 = r at *
          go_wp2_with fail
          refine (H7.out.marked r).mono ?_
          rintro e w8 ⟨rfl, G8, h8, hS8⟩
          have H8 := Lib.hid h8
          have Hrow8 := Lib.hid (Hrow.out.step hS8)
          have HB8 := Lib.hid (HB7.out.step hS8)
          clear h8 hS8 hrc
          go_wp2_with fail
          refine (H8.out.shade r).mono ?_
          rw [Mk.can_iff (HTm.out.bd r (Hrm.out r Hri.out))]
          rintro e w9 ⟨rfl, G9, h9, hS9⟩
          have H9 := Lib.hid h9
          have Hrow9 := Lib.hid (Hrow8.out.step hS9)
          have HB9 := Lib.hid (HB8.out.step hS9)
          clear h9 hS9
          have hrel : ∃ (k' : Nat) (M' : Mk) (G' : Gh), k' ≤ rs.length ∧ (k : Int) + 1 = k' ∧ LM K m M' w9 G' ∧
              Tr K.P K.P K.l (fun r => r ∈ rs) M' ∧ (∀ r ∈ rs.take k', hasR M'.mr r = true) ∧ M'.sc = M.sc ∧ RowAt w9 G' rb (.slice (some ⟨gr, 0, none⟩) rs.length capr) rs ∧ Raw w9 G' (w.heap.size + 1) #[.int .u8 x, .int .u8 y] 26 := by
            have hrl' := Hrm.out r Hri.out
            refine ⟨k + 1, M'.shade r, G9, by omega, by omega, H9.out, HTm.out.shade hrl' (.root Hri.out), fun z hz => ?_, (Mk.shade_same M' r).1.trans Hsc.out, Hrow9.out, HB9.out⟩
            rw [Htk.out] at hz
            have hb1 := HTm.out.bd r hrl'
            rcases List.mem_append.1 hz with hz | hz
            · exact (Mk.shade_mr hb1).2 (.inr (Hmk.out z hz))
            · rw [List.mem_singleton.1 hz]; exact (Mk.shade_mr hb1).2 (.inl rfl)
          have Hrel := Lib.hid hrel
          clear hrel
          cases hh : hasR M'.mr r with
          | true =>
            clear hh
            go_wp2
            go_roundw
            case rel => obtain ⟨k', M', G', a1, a2, a3⟩ := Hrel.out; exact ⟨k', M', G', a1, by rw [← a2], a3⟩
            case measure => simp [intOf]; omega
          | false =>
            clear hh
            go_wp2
            go_roundw
            case rel => obtain ⟨k', M', G', a1, a2, a3⟩ := Hrel.out; exact ⟨k', M', G', a1, by rw [← a2], a3⟩
            case measure => simp [intOf]; omega
        · obtain rfl : k = rs.length := by omega
          have Hmk0 := Lib.hid (fun r (hr : r ∈ rs) => Hmk.out r (by rw [List.take_length]; exact hr))
          clear hlt hk
          go_wp2_with fail
          refine (law11_reach _ rs K.l rb K.bm K.base K.n K.tab (fun _ => False) Hrm.out (fun r hr y hy => Ok.out.cl r hr y (by rw [← Ok.out.tab_eq r hr]; exact hy)) (fun r hr => by rw [Ok.out.tab_eq r hr]; exact Ok.out.plen r) (fun r hr => by have := Ok.out.ob.pos hr; omega) (by omega) (by omega) (by have := Ok.out.nn; omega) wr G7 H7.out.inv Hrow.out H7.out.lw.gr).mono ?_
          rintro e w8 ⟨bw, nw, ks, G8, rfl, hmap, hknd, hkm, -, hS8, -⟩
          have H8 := Lib.hid (H7.out.step0 hS8)
          have HB8 := Lib.hid (HB7.out.step hS8)
          have Hmap := Lib.hid hmap
          have Hkm := Lib.hid (fun x => (hkm x).trans (Ok.out.reached Hrm.out x))
          have Hknd := Lib.hid hknd
          have hc0 : (K.l.filter fun r => hasR M'.sc r).length = 0 := by rw [Hsc.out.trans Hsc0.out]; simp [hasR]
          have Hc0 := Lib.hid hc0
          clear hmap hknd hkm hS8 hc0 H7 HB7 Hrow
          have hrows : ∃ ps cs, K.v = .slice ps K.l.length cs := ⟨pl, capl, Hkv.out⟩
          clear hrows
          go_wp2
          go_loopg [16] (K.l.length + 1) (fun g c W => ∃ (M2 : Mk) (G' : Gh) (n : Nat), g + n = K.l.length + 1 ∧ c = .int .i64 n ∧ n = (K.l.filter fun r => hasR M2.sc r).length ∧ LM K m M2 W G' ∧ Tr K.P K.P K.l (fun r => r ∈ rs) M2 ∧ (∀ r ∈ rs, hasR M2.mr r = true) ∧
            IMapAt W G' bw nw (isK ks) ks ∧ Raw W G' (w.heap.size + 1) #[.int .u8 x, .int .u8 y] 26)
          case atStart => exact ⟨M', G8, 0, by simp, rfl, Hc0.out.symm, H8.out, HTm.out, Hmk0.out, Hmap.out, HB8.out⟩
          case round =>
            obtain ⟨M2, G9, c, hgk, rfl, hcn, h9, hT2, hm2, hmap9, hB9⟩ := hrel
            have H9 := Lib.hid h9
            have HT2 := Lib.hid hT2
            have Hm2 := Lib.hid hm2
            have Hmap9 := Lib.hid hmap9
            have HB9 := Lib.hid hB9
            have Hgk := Lib.hid hgk
            have Hcn := Lib.hid hcn
            have hcl : c ≤ K.l.length := by rw [hcn]; exact List.length_filter_le _ _
            clear h9 hT2 hm2 hmap9 hB9 hgk hcn H8 HB8 Hmap HTm Hmk0 Hc0
            go_wp2_with fail
            refine (H9.out.drained).mono ?_
            rintro e w10 ⟨rfl, G10, h10, hS10⟩
            have H10 := Lib.hid h10
            have HB10 := Lib.hid (HB9.out.step hS10)
            have Hmap10 := Lib.hid (Hmap9.out.step hS10)
            have hcb := HB10.out.cell 1
            clear h10 hS10
            cases hd : M2.drained with
            | false =>
              obtain ⟨kk, hkk, hk1, hk5⟩ : ∃ kk : Nat, 1 + y % 5 = kk ∧ 1 ≤ kk ∧ kk ≤ 5 := ⟨(1 + y % 5).toNat, by omega, by omega, by omega⟩
              have hTd := Tr.trace Ok.out.cl kk HT2.out
              have hj0 := hTd.pos (by omega) hd
              have hadd := hTd.add Ok.out.ob.nd
              have hfle : ((K.l.filter fun r => hasR (Mk.trace K.P kk M2).2.sc r).length) ≤ K.l.length := List.length_filter_le _ _
              have hw := H10.out.trace Ok.out kk (by omega) (by omega)
              rw [Int.toNat_natCast] at hw
              have hm3 : ∀ r ∈ rs, hasR (Mk.trace K.P kk M2).2.mr r = true := fun r hr => hTd.mono r (Hm2.out r hr)
              have hT3 := hTd.tr
              rw [← Hcn.out] at hadd
              generalize (Mk.trace K.P kk M2).1 = j at *
              generalize (Mk.trace K.P kk M2).2 = M3 at *
              have Hw := Lib.hid hw
              have Hm3 := Lib.hid hm3
              have HT3 := Lib.hid hT3
              have Hadd := Lib.hid hadd
              have hcj : c + j ≤ K.l.length := by omega
              have hjd : decide ((j : Int) = 0) = false := by simp; omega
              have hgt : decide ((c : Int) + (j : Int) > (K.l.length : Int)) = false := by simp; omega
              clear hd hTd hw hm3 hT3 hadd hfle
              go_wp2_with fail
              refine Hw.out.mono ?_
              rintro e w11 ⟨rfl, G11, h11, hS11⟩
              have H11 := Lib.hid h11
              have HB11 := Lib.hid (HB10.out.step hS11)
              have Hmap11 := Lib.hid (Hmap10.out.step hS11)
              clear h11 hS11 hcb Hw
              go_wp2
              go_roundg (gk - j)
              case measure => have := Hgk.out; omega
              case rel => exact ⟨M3, G11, c + j, by have := Hgk.out; omega, by go_num, Hadd.out.symm, H11.out, HT3.out, Hm3.out, Hmap11.out, HB11.out⟩
            | true =>
              have hgr := HT2.out.drained_iff.1 hd
              have Hgr := Lib.hid hgr
              have hwant : ∀ r, isK ks r = if hasR M2.mr r = true then 1 else 0 := fun r => by
                by_cases hr : hasR M2.mr r = true
                · rw [if_pos hr, isK_mem ((Hkm.out r).2 ((HT2.out.closed hgr Hm2.out r).1 hr))]
                · rw [if_neg hr, isK_not (fun h => hr ((HT2.out.closed hgr Hm2.out r).2 ((Hkm.out r).1 h)))]
              have Hwant := Lib.hid hwant
              have hsm : ∀ r, hasR M2.sc r = hasR M2.mr r := HT2.out.sc_eq hgr
              have hks : ks.length = c := by
                rw [keys_len Hknd.out Ok.out.ob.nd (fun x => (Hkm.out x).trans (HT2.out.closed hgr Hm2.out x).symm) HT2.out.inl, Hcn.out]
                exact congrArg List.length (filter_congr' fun r _ => (hsm r).symm)
              have hpc : pcn M2.mr M2.n = c := by
                rw [pcn_marks Ok.out.ob.nd HT2.out.inl HT2.out.bd, Hcn.out]
                exact congrArg List.length (filter_congr' fun r _ => (hsm r).symm)
              have Hsm := Lib.hid hsm
              have Hks := Lib.hid hks
              have Hpc := Lib.hid hpc
              have Hgr := Lib.hid hgr
              clear hgr hd hcb hwant hsm hks hpc
              go_wp2
              go_loopw [86] (fun i W => ∃ (k : Nat) (G' : Gh), k ≤ K.l.length ∧ i = .int .i64 k ∧ LM K m M2 W G' ∧ IMapAt W G' bw nw (isK ks) ks) (fun i _ => K.l.length - (intOf i).toNat)
              case atStart => exact ⟨0, G10, Nat.zero_le _, rfl, H10.out, Hmap10.out⟩
              case round =>
                obtain ⟨k, G12, hk, rfl, h12, hmap12⟩ := hrel
                by_cases hlt : k < K.l.length
                · have hrow9 := h12.lw.row
                  rw [Hkv.out] at hrow9
                  obtain ⟨gl, rfl, hrc, hrin, htk⟩ := hrow9.item hlt
                  have hrb := Ok.out.bd hrin
                  clear hrow9 htk hrin
                  generalize K.l.getD k 0 = r at *
                  have hs1 := Hsm.out r
                  have hw1 := Hwant.out r
                  have Hs1 := Lib.hid hs1
                  have Hw1 := Lib.hid hw1
                  clear hs1 hw1
                  have hd12 : Step (fun _ => False) wr G12 wr.drew G12 := (St.refl h12.inv).drew
                  have h13 := h12.step0 hd12
                  have hmap13 := hmap12.step hd12
                  obtain ⟨J, hJd⟩ : ∃ J : World → Prop, J = fun w' => ∃ G', LM K m M2 w' G' ∧ IMapAt w' G' bw nw (isK ks) ks := ⟨_, rfl⟩
                  have hJ : J wr.drew := by rw [hJd]; exact ⟨G12, h13, hmap13⟩
                  have hne : Nonempty (QW J) := ⟨⟨_, hJ⟩⟩
                  have hlook : ∀ q : QW J, (Instr.lookup 38 (.map (some bw)) (.int .i64 r) false).run Try.prog q.val = .ok (.int .i64 (if hasR M2.mr r = true then 1 else 0)) q.val := fun ⟨W, hj⟩ => by
                    rw [hJd] at hj
                    obtain ⟨G', h1, h2⟩ := hj
                    rw [← Hw1.out]; exact h2.look hrb
                  have hJm : ∀ W, J W → ∀ r, Calls Try.prog 13 #[.pointer (some ⟨m, 0, none⟩), .int .i64 r] W (fun e w' => e = .returned (.bool (hasR M2.mr r)) ∧ J w') := fun W hj r => by
                    rw [hJd] at hj ⊢
                    obtain ⟨G', h1, h2⟩ := hj
                    exact (h1.marked r).mono fun e w' ⟨he, G'', h3, hS⟩ => ⟨he, G'', h3, h2.step hS⟩
                  have hJs : ∀ W, J W → ∀ r, Calls Try.prog 18 #[.pointer (some ⟨m, 0, none⟩), .int .i64 r] W (fun e w' => e = .returned (.bool (hasR M2.sc r)) ∧ J w') := fun W hj r => by
                    rw [hJd] at hj ⊢
                    obtain ⟨G', h1, h2⟩ := hj
                    exact (h1.scanned r).mono fun e w' ⟨he, G'', h3, hS⟩ => ⟨he, G'', h3, h2.step hS⟩
                  have hJx : ∀ W, J W → ∃ G', LM K m M2 W G' ∧ IMapAt W G' bw nw (isK ks) ks := fun W hj => by rw [hJd] at hj; exact hj
                  have HJ := Lib.hid hJ
                  have HJm := Lib.hid hJm
                  have HJs := Lib.hid hJs
                  have HJx := Lib.hid hJx
                  clear hrb hmap12 h12 hd12 h13 hmap13 hJ hJm hJs hJx hJd
                  cases hmr : hasR M2.mr r with
                  | true =>
                    rw [hmr] at hlook
                    simp only [reduceIte] at hlook
                    have hJm2 := fun W hj => HJm.out W hj r
                    have hJs2 := fun W hj => HJs.out W hj r
                    rw [Hs1.out] at hJs2
                    rw [hmr] at hJm2 hJs2
                    have HJm2 := Lib.hid hJm2
                    have HJs2 := Lib.hid hJs2
                    clear hmr hJm2 hJs2
                    go_wp2
                    refine wp_region_class (by kernel_rfl) (by kernel_rfl) HJ.out ?_
                    repeat (go_big_quiet_step (first
                      | (go_at_call 13; rename_i q; exact Calls.in_class (HJm2.out q.val q.ok))
                      | (go_at_call 18; rename_i q; exact Calls.in_class (HJs2.out q.val q.ok))))
                    refine wpQuiet_nil ?_
                    rintro W2 ⟨q2, hq2⟩
                    have hj2 : J W2 := by rw [hq2]; exact q2.ok
                    have hrel := HJx.out W2 hj2
                    have Hrel := Lib.hid hrel
                    clear hlook hne hrel hj2 hq2
                    go_wp2
                    go_roundw
                    case rel => obtain ⟨G2, h2, hm2⟩ := Hrel.out; exact ⟨k + 1, G2, by omega, by go_num, h2, hm2⟩
                    case measure => simp [intOf]; omega
                  | false =>
                    rw [hmr] at hlook
                    simp only [reduceIte, Bool.false_eq_true] at hlook
                    have hJm2 := fun W hj => HJm.out W hj r
                    have hJs2 := fun W hj => HJs.out W hj r
                    rw [Hs1.out] at hJs2
                    rw [hmr] at hJm2 hJs2
                    have HJm2 := Lib.hid hJm2
                    have HJs2 := Lib.hid hJs2
                    clear hmr hJm2 hJs2
                    go_wp2
                    refine wp_region_class (by kernel_rfl) (by kernel_rfl) HJ.out ?_
                    repeat (go_big_quiet_step (first
                      | (go_at_call 13; rename_i q; exact Calls.in_class (HJm2.out q.val q.ok))
                      | (go_at_call 18; rename_i q; exact Calls.in_class (HJs2.out q.val q.ok))))
                    refine wpQuiet_nil ?_
                    rintro W2 ⟨q2, hq2⟩
                    have hj2 : J W2 := by rw [hq2]; exact q2.ok
                    have hrel := HJx.out W2 hj2
                    have Hrel := Lib.hid hrel
                    clear hlook hne hrel hj2 hq2
                    go_wp2
                    go_roundw
                    case rel => obtain ⟨G2, h2, hm2⟩ := Hrel.out; exact ⟨k + 1, G2, by omega, by go_num, h2, hm2⟩
                    case measure => simp [intOf]; omega
                · obtain rfl : k = K.l.length := by omega
                  have H13 := Lib.hid h12
                  have hlen := hmap12.len
                  rw [Hks.out] at hlen
                  clear h12 hmap12 hlt hk
                  go_wp2_with fail
                  refine (H13.out.count).mono ?_
                  rw [Hpc.out]
                  rintro e w19 ⟨rfl, G19, h19, hS19⟩
                  have H19 := Lib.hid h19
                  clear h19 hS19 hlen
                  go_wp2_with fail
                  refine (H19.out.trace Ok.out 5 (by omega) (by omega)).mono ?_
                  rw [Mk.trace_dry _ Hgr.out]
                  rintro e w21 ⟨rfl, G21, h21, hS21⟩
                  have hfin := h21.lw.st
                  rw [Hkw.out.1, Hkw.out.2] at hfin
                  have Hfin := Lib.hid hfin
                  clear h21 hS21 hfin
                  go_wp2
                  go_ret
                  exact ⟨rfl, G21, Hfin.out⟩
    · go_wp2
      go_ret
      exact ⟨rfl, G2, HS2.out⟩
  · have e1 : (decide (fs.length ≤ 40) && decide (es.length ≤ 120)) = false := by
      rw [Bool.and_eq_false_iff, decide_eq_false_iff_not, decide_eq_false_iff_not]; omega
    rw [e1]
    clear e1
    go_wp2
    go_ret
    exact ⟨rfl, G2, HS2.out⟩
end Go.Hw
