/- Law 11: Graph.Made. -/
import Derived.Test.YtfcnjhgfaibmnaaL1
namespace Go.Hw
open Go.RowKit Go.Proofs Go.ChangeShapes
attribute [local go_sem] Oper.semAt_some

set_option maxRecDepth 100000 in
set_option maxHeartbeats 2000000 in
theorem graph_made (v1 v2 : Value) (fs : List Int) (es : List (Int × Int × Int)) (hfl : fs.length ≤ 40) (hel : es.length ≤ 120) (w : World) (G : Gh) (hI : Inv w G) (h1 : U8s w G v1 fs) (h2 : U16s3 w G v2 es) :
    Calls Try.prog 10 #[.agg #[v1, v2]] w (madePost fs.length w G) := by
  obtain ⟨p, cap, rfl, hl1, hp⟩ := h1
  obtain ⟨q, cap2, rfl, hl2, hq⟩ := h2
  have hmm := @run_makeMap Try.prog
  have Hp := Lib.hid hp
  have Hq := Lib.hid hq
  have HI := Lib.hid hI
  clear hp hq hI
  refine (callsIn_wide (n := 0)).1 ?_
  refine callsIn_of_wp_marks Try.func10 rfl trivial ?_ rfl
  simp only [Try.ntmps10, List.size_toArray, List.length_cons, List.length_nil, Nat.reduceAdd, Nat.reduceSub, Array.replicate_succ, Array.replicate_zero, List.push_toArray, List.append_toArray, List.nil_append, List.cons_append]
  have hst0 : Step (fun _ => False) w G (w.alloc (.cells #[.slice p fs.length cap, .slice q es.length cap2] 25)) G := (St.refl HI.out).alloc _
  have hr1 := Raw.new HI.out #[.slice p fs.length cap, .slice q es.length cap2] 25
  have HS0 := Lib.hid hst0
  have HR1 := Lib.hid hr1
  clear hst0 hr1
  gi_wp2_with fail
  refine ⟨trivial, rfl, ?_⟩
  refine (callsIn_wide.2 (arena_new 64 (by omega) (by omega) _ G HS0.out.inv)).mono ?_
  rintro e w1 ⟨a, A, G1, rfl, ha1, ha2, hA, hsp, p1, p2, p3, hS1⟩
  have hW0 := wf_newA 64 A.sp A.pb A.wb (by omega) (by omega)
  rw [← newA_of p1 p2 p3] at hW0
  have hA0 : Objs A S0 [] := ⟨hW0, List.nodup_nil, (fun r => by simp [hasR]), (fun r h => by cases h), (fun r h => by cases h), by rw [p3]; simp⟩
  have HA := Lib.hid hA
  have HO := Lib.hid hA0
  have HR2 := Lib.hid (HR1.out.step hS1)
  have HS1 := Lib.hid (HS0.out.seqT hS1)
  clear hA hA0 hW0 p1 p2 p3 HS0 HR1 hS1
  have hcg : w1.cell? ⟨w.heap.size, 0, none⟩ = some (.slice p fs.length cap) := HR2.out.cell 0
  have hcg2 : w1.cell? ⟨w.heap.size, 1, none⟩ = some (.slice q es.length cap2) := HR2.out.cell 1
  have hlt1 : w.heap.size < w1.heap.size := HR2.out.lt
  gi_wp2
  have hm0 : MdAt w G w.heap.size w1.heap.size (w1.heap.size + 1) a (.slice p fs.length cap) (.slice q es.length cap2) (.slice none 0 0) [] A S0 ((w1.alloc (.map #[] 0)).alloc (.cells #[.map (some w1.heap.size)] 30)) G1 := by
    have hI1 := HS1.out.inv
    have hr7 := Raw.new (hI1.alloc (.map #[] 0)) #[.map (some w1.heap.size)] 30
    rw [World.size_alloc] at hr7
    exact ⟨(HS1.out.alloc _).alloc _, (HR2.out.alloc _).alloc _, hr7, hI1.new _ (Nat.le_refl _), (heap_alloc_lt _ _ (by simp)).trans (heap_alloc_new _ _), ⟨HA.out.ar, HA.out.st⟩, RowAt.nil _ _ _, (by have := ha1; simp at this; omega), (by have := hsp; simp at this; omega), by omega, by omega, by omega⟩
  have HM0 := Lib.hid hm0
  clear hm0 HA HR2 HS1 hcg hcg2 hmm HI
  generalize ((w1.alloc (.map #[] 0)).alloc (.cells #[.map (some w1.heap.size)] 30)) = w2 at *
  generalize w1.heap.size = bm at *
  generalize hgb : w.heap.size = gb at *
  gi_loopw [6, 25] (fun v i W => ∃ (k : Nat) (l : List Int) (A : Ar) (S : Nat → Bool) (G' : Gh), k ≤ fs.length ∧ i = .int .i64 k ∧ l.length = k ∧ Objs A S l ∧ MdAt w G gb bm (bm + 1) a (.slice p fs.length cap) (.slice q es.length cap2) v l A S W G') (fun _ i _ => fs.length - (intOf i).toNat)
  case atStart => exact ⟨0, [], A, S0, G1, Nat.zero_le _, rfl, rfl, HO.out, HM0.out⟩
  case round =>
    obtain ⟨k, l, A2, S2, G2, hk, rfl, hlk, hO, hM⟩ := hrel
    have HO2 := Lib.hid hO
    have HM2 := Lib.hid hM
    clear hO hM HO HM0
    by_cases hlt : k < fs.length
    · obtain ⟨ad, rfl, hq1, hq2, hq3, hq4, hq5⟩ := Hp.out k hlt
      have hce : wr.cell? (ad.add k) = some (.int .u8 (fs.getD k 0)) := (cell_raw HM2.out.st (by rwa [add_block]) (by rwa [add_block, hgb])).trans hq3
      clear hq1 hq2 hq3
      generalize fs.getD k 0 = x at *
      gi_wp2_with fail
      refine ⟨trivial, rfl, ?_⟩
      obtain ⟨n, A3, htk, T⟩ := HO2.out.room (f := x % 7) (by omega)
      have hcn := cell_new a A2 S2 (x % 7) (by omega) wr G2 HM2.out.st.inv HM2.out.ar HO2.out.wf
      unfold newPost at hcn
      rw [htk] at hcn
      refine (callsIn_wide.2 hcn).mono ?_
      clear hcn
      rintro e w3 ⟨rfl, G3, hA3, hS3⟩
      have hO3 := HO2.out.add (by omega) T
      have hsp3 : (setWord A3 (addTo S2 n) n 0 (x % 7)).sp = A2.sp := by rw [(setWord_pages A3 (addTo S2 n) n 0 (x % 7)).2.2.1]; exact T.sp
      have hM3 := HM2.out.step hS3 (fun y hy => by rcases hy with rfl | rfl; exact HM2.out.na; exact HM2.out.ns) hA3 hsp3
      have hn1 : (n : Int) ≠ 0 := by have := T.n1; omega
      have hnx : n ≤ 1000000 := by have := hO3.pos (r := (n : Int)) (by simp); omega
      have HO3 := Lib.hid hO3
      have HM3 := Lib.hid hM3
      clear hO3 hM3 hA3 hS3 htk T hsp3 hce
      generalize setWord A3 (addTo S2 n) n 0 (x % 7) = A4 at *
      generalize addTo S2 n = S4 at *
      have hrl : u6.ownBlock ≠ none → True := fun _ => trivial
      clear hrl
      obtain ⟨i0, hi, hz0, hz1, hz2⟩ := info_parts info_ref
      gi_wp2_with (gi_at_builtin; refine wpListIn_append_own_at _ rfl _ _ 29 rfl (bm + 1 + 1) 36 i0 (.int .i64 0) 1 8 Try.underlying29 hi hz0 hz1 hz2 rfl (by decide) _ l.length _ rfl (ownsRow_congr (w := w3) HM3.out.row.row ?h1) ⟨w3.heap.size, 0, none⟩ 1 1 [.int .i64 n] rfl rfl ?h2 (by simp [Value.oneCell']) ?h3 ?h4 ?h5 ?_)
      case h1 => intro g' hg'; exact heap_alloc_lt w3 _ (HM3.out.row.row.lt g' hg').2
      case h2 => exact cell_one_new w3 _ _
      case h3 => simp only [maxLen]; omega
      case h4 => omega
      case h5 => have := HM3.out.r7.lt; simp; omega
      intro v' w4 hrow4 hg4 _ hob4
      have hM4 := HM3.out.push (by rw [hlk]; exact hrow4) hg4 hob4
      have HM4 := Lib.hid hM4
      clear hM4 hrow4 hg4 hob4
      gi_wp2
      go_roundw
      case rel => exact ⟨k + 1, l ++ [(n : Int)], A4, S4, G3, by omega, by go_num, by simp [hlk], HO3.out, HM4.out⟩
      case measure => simp [intOf]; omega
    · obtain rfl : k = fs.length := by omega
      have hcg : wr.cell? ⟨gb, 1, none⟩ = some (.slice q es.length cap2) := HM2.out.rg.cell 1
      have hl40 : l.length ≤ 40 := by omega
      have Hlk := Lib.hid hlk
      clear Hp hlk hk hlt
      by_cases hl0 : l = []
      · subst hl0
        obtain ⟨p6, cap6, rfl, -⟩ := HM2.out.row.val
        gi_wp2
        gi_loopw [53] (fun i W => ∃ (k : Nat), k ≤ es.length ∧ i = .int .i64 k ∧ MdAt w G gb bm (bm + 1) a (.slice p fs.length cap) (.slice q es.length cap2) (.slice p6 0 cap6) [] A2 S2 W G2) (fun i _ => es.length - (intOf i).toNat)
        case atStart => exact ⟨0, Nat.zero_le _, rfl, HM2.out⟩
        case round =>
          obtain ⟨k, hk, rfl, hM5⟩ := hrel
          have HM5 := Lib.hid hM5
          have hI5 := hM5.st.inv
          clear hM5 HM2 hcg
          by_cases hlt : k < es.length
          · obtain ⟨ad, rfl, hq1, hq2, ⟨hq3, hq4, hq5⟩, hb1, hb2, hb3⟩ := Hq.out k hlt
            have hce : ∀ j, wr.cell? (ad.add j) = w.cell? (ad.add j) := fun j => cell_raw HM5.out.st (by rwa [add_block]) (by rwa [add_block, hgb])
            have hce1 := (hce (k * 3)).trans hq3
            have hce2 := (hce (k * 3 + 1)).trans hq4
            have hce3 := (hce (k * 3 + 2)).trans hq5
            rw [add_off ad (k * 3) 0] at hce2
            rw [add_off ad (k * 3) 1] at hce3
            clear hq1 hq2 hq3 hq4 hq5 hce
            generalize es.getD k (0, 0, 0) = x at *
            obtain ⟨x1, x2, x3⟩ := x
            dsimp only at *
            have hM6 := HM5.out.step0 (((St.refl hI5).alloc (.cells #[.int .u16 x1, .int .u16 x2, .int .u16 x3] 70) : St (fun _ => False) wr.heap.size wr G2 _ G2))
            have HM6 := Lib.hid hM6
            have hc7 : (wr.alloc (.cells #[.int .u16 x1, .int .u16 x2, .int .u16 x3] 70)).cell? ⟨bm + 1, 0, none⟩ = some (.map (some bm)) := hM6.r7.cell 0
            clear hM6 HM5
            gi_wp2
            gi_loopw [95] (fun i W => i = .int .i64 0 ∧ W = wr.alloc (.cells #[.int .u16 x1, .int .u16 x2, .int .u16 x3] 70)) (fun _ _ => 0)
            case atStart => exact ⟨rfl, rfl⟩
            case round =>
              obtain ⟨rfl, rfl⟩ := hrel
              gi_wp2
              gi_quiet (fail)
              gi_wp2
              exact HM6.out.leave HO2.out Hlk.out rfl rfl rfl
          · obtain rfl : k = es.length := by omega
            have hc7 : wr.cell? ⟨bm + 1, 0, none⟩ = some (.map (some bm)) := HM5.out.r7.cell 0
            gi_wp2
            gi_loopw [95] (fun i W => i = .int .i64 0 ∧ W = wr) (fun _ _ => 0)
            case atStart => exact ⟨rfl, rfl⟩
            case round =>
              obtain ⟨rfl, rfl⟩ := hrel
              gi_wp2
              gi_quiet (fail)
              gi_wp2
              exact HM5.out.leave HO2.out Hlk.out rfl rfl rfl
      · have hlp : 0 < l.length := List.length_pos_iff.2 hl0
        clear hl0
        gi_wp2
        gi_loopw [53] (fun i W => ∃ (k : Nat) (A : Ar) (G' : Gh), k ≤ es.length ∧ i = .int .i64 k ∧ Objs A S2 l ∧ MdAt w G gb bm (bm + 1) a (.slice p fs.length cap) (.slice q es.length cap2) u6 l A S2 W G') (fun i _ => es.length - (intOf i).toNat)
        case atStart => exact ⟨0, A2, G2, Nat.zero_le _, rfl, HO2.out, HM2.out⟩
        case round =>
          obtain ⟨k, A5, G5, hk, rfl, hO5, hM5⟩ := hrel
          have HO5 := Lib.hid hO5
          have HM5 := Lib.hid hM5
          clear hO5 hM5 HO2 HM2 hcg
          by_cases hlt : k < es.length
          · obtain ⟨ad, rfl, hq1, hq2, ⟨hq3, hq4, hq5⟩, hb1, hb2, hb3⟩ := Hq.out k hlt
            have hce : ∀ j, wr.cell? (ad.add j) = w.cell? (ad.add j) := fun j => cell_raw HM5.out.st (by rwa [add_block]) (by rwa [add_block, hgb])
            have hce1 := (hce (k * 3)).trans hq3
            have hce2 := (hce (k * 3 + 1)).trans hq4
            have hce3 := (hce (k * 3 + 2)).trans hq5
            rw [add_off ad (k * 3) 0] at hce2
            rw [add_off ad (k * 3) 1] at hce3
            obtain ⟨p6, cap6, rfl, hrv⟩ := HM5.out.row.val
            clear hq1 hq2 hq3 hq4 hq5 hce
            generalize es.getD k (0, 0, 0) = x at *
            obtain ⟨x1, x2, x3⟩ := x
            dsimp only at *
            obtain ⟨i1, hi1, hi1l⟩ : ∃ i : Nat, x1 % (l.length : Int) = i ∧ i < l.length := ⟨(x1 % (l.length : Int)).toNat, by rw [Int.toNat_of_nonneg (Int.emod_nonneg _ (by omega))], by have := Int.emod_lt_of_pos x1 (show (0 : Int) < l.length by omega); have := Int.emod_nonneg x1 (show (l.length : Int) ≠ 0 by omega); omega⟩
            obtain ⟨i2, hi2, hi2l⟩ : ∃ i : Nat, x2 % (l.length : Int) = i ∧ i < l.length := ⟨(x2 % (l.length : Int)).toNat, by rw [Int.toNat_of_nonneg (Int.emod_nonneg _ (by omega))], by have := Int.emod_lt_of_pos x2 (show (0 : Int) < l.length by omega); have := Int.emod_nonneg x2 (show (l.length : Int) ≠ 0 by omega); omega⟩
            obtain ⟨g6, rfl, hrc1⟩ := hrv i1 hi1l
            obtain ⟨g6', hg6, hrc2⟩ := hrv i2 hi2l
            cases hg6
            have Hrv := Lib.hid hrv
            clear hrv
            gi_wp2_with fail
            have hI5 := HM5.out.st.inv
            have hS6 : Step (fun _ => False) wr G5 (wr.alloc (.cells #[.int .u16 x1, .int .u16 x2, .int .u16 x3] 70)) G5 := (St.refl hI5).alloc _
            have hR6 := Raw.new hI5 #[.int .u16 x1, .int .u16 x2, .int .u16 x3] 70
            have hM6 := HM5.out.step0 hS6
            have hrk : ∀ i v, wr.cell? ⟨g6, i, none⟩ = some v → (wr.alloc (.cells #[.int .u16 x1, .int .u16 x2, .int .u16 x3] 70)).cell? ⟨g6, i, none⟩ = some v := fun i v hv => (World.cell?_alloc_past _ _ _ (World.block_lt_of_cell? wr _ hv)).trans hv
            replace hrc1 := hrk _ _ hrc1
            replace hrc2 := hrk _ _ hrc2
            have HM6 := Lib.hid hM6
            have HR6 := Lib.hid hR6
            generalize hb13 : wr.heap.size = b13 at *
            clear hrk hS6 hR6 hM6 hI5 hce1 hce2 hce3 HM5
            generalize wr.alloc (.cells #[.int .u16 x1, .int .u16 x2, .int .u16 x3] 70) = wr2 at *
            have hk0 : wr2.cell? ⟨b13, 0, none⟩ = some (.int .u16 x1) := HR6.out.cell 0
            have hk1 : wr2.cell? ⟨b13, 1, none⟩ = some (.int .u16 x2) := HR6.out.cell 1
            have hk2 : wr2.cell? ⟨b13, 2, none⟩ = some (.int .u16 x3) := HR6.out.cell 2
            generalize hr1 : l.getD i1 0 = r1 at *
            generalize hr2 : l.getD i2 0 = r2 at *
            gi_quiet (fail)
            have hr1m : r1 ∈ l := by rw [← hr1, List.getD_eq_getElem?_getD, List.getElem?_eq_getElem hi1l]; exact List.getElem_mem _
            have hr2m : r2 ∈ l := by rw [← hr2, List.getD_eq_getElem?_getD, List.getElem?_eq_getElem hi2l]; exact List.getElem_mem _
            have hr1b := HO5.out.pos hr1m
            have hr2b := HO5.out.pos hr2m
            have hfl1 := HO5.out.fl r1 hr1m
            have hS7 : Step (fun _ => False) wr2 G5 (wr2.drewN nq) G5 := (St.refl HM6.out.st.inv).drewN nq
            have hM7 := HM6.out.step0 hS7
            have hR7 := HR6.out.step hS7
            have HM7 := Lib.hid hM7
            have HR7 := Lib.hid hR7
            have Hr2 := Lib.hid hr2m
            clear hS7 hM7 hR7 HM6 HR6 hk0 hk1 hk2 hrc1 hrc2 hr1 hr2 hr1m hr2m hi1 hi2
            generalize wr2.drewN nq = w7 at *
            gi_wp2_with fail
            refine ⟨trivial, rfl, ?_⟩
            refine (callsIn_wide.2 (cell_fields a A5 S2 r1 (by omega) w7 G5 HM7.out.st.inv HM7.out.ar HO5.out.wf)).mono ?_
            rintro e w8 ⟨rfl, G8, hS8⟩
            have hM8 := HM7.out.step0 hS8
            have hk2 : w8.cell? ⟨b13, 2, none⟩ = some (.int .u16 x3) := (HR7.out.step hS8).cell 2
            have HM8 := Lib.hid hM8
            clear hM8 hS8 HM7 HR7
            generalize hnf : wordAt A5 S2 r1 0 = nf at *
            by_cases hnf0 : nf > 0
            · have hd0 : decide (nf > 0) = true := by simpa using hnf0
              have hmod := Int.emod_lt_of_pos x3 (show (0 : Int) < nf by omega)
              have hmod0 := Int.emod_nonneg x3 (show nf ≠ 0 by omega)
              obtain ⟨jf, hjf⟩ : ∃ jf, x3 % nf = jf := ⟨_, rfl⟩
              rw [hjf] at hmod hmod0
              gi_wp2_with fail
              refine ⟨trivial, rfl, ?_⟩
              refine (callsIn_wide.2 (cell_setField a A5 S2 r1 jf r2 (by omega) (by omega) w8 G8 HM8.out.st.inv HM8.out.ar HO5.out.wf)).mono ?_
              rintro e w9 ⟨rfl, G9, hA9, hS9⟩
              have hM9 := HM8.out.step hS9 (fun y hy => by subst hy; exact HM8.out.na) hA9 (by unfold Hw.setField; split; exact (setWord_pages _ _ _ _ _).2.2.1; rfl)
              have hO9 := HO5.out.set (x := r1) (i := jf) (y := r2) (by omega) Hr2.out
              have HM9 := Lib.hid hM9
              have HO9 := Lib.hid hO9
              clear hM9 hO9 hA9 hS9
              gi_wp2
              go_roundw
              case rel => exact ⟨k + 1, _, G9, by omega, by go_num, HO9.out, HM9.out⟩
              case measure => simp [intOf]; omega
            · gi_wp2
              go_roundw
              case rel => exact ⟨k + 1, A5, G8, by omega, by go_num, HO5.out, HM8.out⟩
              case measure => simp [intOf]; omega
          · obtain rfl : k = es.length := by omega
            clear Hq hk hlt
            obtain ⟨p6, cap6, rfl, hrv⟩ := HM5.out.row.val
            have Hrv := Lib.hid hrv
            clear hrv
            have h3 : Md3 w G (bm + 1) bm a (bm + 2) (.slice p6 l.length cap6) l A5 S2 wr G5 := ⟨HM5.out.st, HM5.out.r7, HM5.out.ar, HM5.out.row⟩
            have hg3 : GrpAt wr G5 bm wr.heap.size 0 (fun _ => []) (fun _ => False) := by
              have hml := (Array.getElem?_eq_some_iff.1 HM5.out.mh).1
              refine ⟨HM5.out.mr, .map [], ⟨[], rfl⟩, ⟨#[], 0, HM5.out.mh, ⟨by simp, MapKept.stamped_empty 0, by simp⟩, Nat.le_refl _, rfl, hml, by simp, by simp⟩, fun x => rfl, fun es' clock hb x hx => ?_⟩
              rw [HM5.out.mh] at hb; cases hb; simp at hx
            have H3 := Lib.hid h3
            have Hg3 := Lib.hid hg3
            have Hgl0 := Lib.hid (show ∀ g, (Value.slice p6 l.length cap6).ownBlock = some g → g < wr.heap.size from fun g hg => (HM5.out.row.row.lt g hg).2)
            have Hb7 := Lib.hid (show bm + 1 < wr.heap.size from HM5.out.r7.lt)
            have Ha1 := Lib.hid HM5.out.na
            have Hsp := Lib.hid HM5.out.ns
            clear h3 hg3 HM5
            gi_wp2
            refine wpIn_loop_ghost (mdI3 w G (bm + 1) bm a (bm + 2) wr.heap.size (.slice p6 l.length cap6) l A5 S2) l.length ?_ ?_
            · exact ⟨0, 0, G5, [], fun _ => [], by omega, H3.out, Marks.nil _ _ _ _, Nat.le_refl _, Hg3.out, by omega, fun x => by simp, rfl⟩
            · rintro i f wr3 ⟨j, n3, G6, ds, tab, hij, h3, hmk, hbs, hg3, hn3, htab, hf⟩
              generalize hu : (fun i => f.tmps.getD i undef) = u at hf
              clear hu
              subst hf
              have H3' := Lib.hid h3
              have Hg3' := Lib.hid hg3
              have Hmk := Lib.hid hmk
              have Htab := Lib.hid htab
              clear h3 hg3 hmk htab H3 Hg3
              cases i with
              | zero =>
                obtain rfl : j = l.length := by omega
                have hc7 : wr3.cell? ⟨bm + 1, 0, none⟩ = some (.map (some bm)) := H3'.out.r7.cell 0
                gi_wp2
                gi_quiet (fail)
                have hS7 : St (fun _ => False) wr3.heap.size wr3 G6 (wr3.drewN nq) G6 := (St.refl H3'.out.st.inv).drewN nq
                have H7 := Lib.hid (H3'.out.step0 hS7 H3'.out.st.le)
                have Hg7 := Lib.hid (Hg3'.out.step hS7)
                have Hm7 := Lib.hid (Hmk.out.st hS7 (Nat.le_refl _))
                clear hS7 H3' Hg3' Hmk
                gi_wp2
                exact made_leave H7.out HO5.out Hm7.out Hg7.out hn3 (fun x => by rw [Htab.out, List.take_length]) Hlk.out Ha1.out Hsp.out rfl rfl rfl
              | succ i =>
                have hlt : j < l.length := by omega
                obtain ⟨p7, cap7, he7, hrv7⟩ := H3'.out.row.val
                cases he7
                obtain ⟨gl, rfl, hcl⟩ := hrv7 j hlt
                have Hgl := Hgl0
                clear hrv7
                have hxm : l.getD j 0 ∈ l := by rw [List.getD_eq_getElem?_getD, List.getElem?_eq_getElem hlt]; exact List.getElem_mem _
                generalize hx : l.getD j 0 = x at *
                have hxb := HO5.out.pos hxm
                have hflx := HO5.out.fl x hxm
                have hxn : tab x = [] := by
                  rw [Htab.out, if_neg]
                  rw [← hx]; exact take_notin HO5.out.nd hlt
                have Hxn := Lib.hid hxn
                clear hxn
                gi_wp2_with fail
                refine ⟨trivial, rfl, ?_⟩
                refine (callsIn_wide.2 (cell_points a x _)).mono ?_
                rintro e w5 ⟨rfl, hw5⟩
                obtain ⟨c, hcc⟩ : ∃ c, wr3.heap.size = c := ⟨_, rfl⟩
                have hR0 : MdR w G (bm + 1) bm a (bm + 2) wr.heap.size c n3 (.slice (some ⟨gl, 0, none⟩) l.length cap6) l A5 S2 x tab ds [] w5 G6 := by
                  have hI6 := H3'.out.st.inv
                  have i1 := hI6.alloc (.cells #[.int .i64 x] 36)
                  have i2 := i1.alloc (.cells #[.pointer (some ⟨a, 0, none⟩)] 28)
                  have hst : St (fun _ => False) wr3.heap.size wr3 G6 w5 G6 := by rw [hw5]; exact (((St.refl hI6).alloc _).alloc _).alloc _
                  have r1 := Raw.new hI6 #[.int .i64 x] 36
                  have r2 := Raw.new i1 #[.pointer (some ⟨a, 0, none⟩)] 28
                  have r3 := Raw.new i2 #[.int .i64 x] 36
                  simp only [World.size_alloc, hcc] at r1 r2 r3
                  have hg0 : GrpAt w5 G6 bm wr.heap.size n3 tab (fun g => c ≤ g ∧ g ≤ c + 2) := (Hg3'.out.also (fun g hg => .inr (by omega))).step hst
                  refine ⟨H3'.out.step0 hst H3'.out.st.le, by rw [← hcc]; exact Hmk.out.st hst (Nat.le_refl _), by rw [hw5]; exact (r1.alloc _).alloc _, by rw [hw5]; exact r2.alloc _, by rw [hw5]; exact r3, ?_⟩
                  have e : updT tab x [] = tab := by
                    funext y; unfold updT
                    by_cases hy : y = x
                    · rw [if_pos hy, hy]; exact Hxn.out.symm
                    · rw [if_neg hy]
                  rw [e]; exact hg0
                have HR0 := Lib.hid hR0
                have hsz5 : w5.heap.size = c + 3 := by rw [hw5]; simp [hcc]
                have hwc : w.heap.size ≤ c := by rw [← hcc]; exact H3'.out.st.le
                have Hcb := Lib.hid (show wr.heap.size ≤ c by rw [← hcc]; exact hbs)
                have Hbw := Lib.hid (show w.heap.size ≤ bm by rw [hgb]; omega)
                clear hw5 hR0
                simp only [World.size_alloc, hcc]
                gi_wp2
                refine range_out (gf := 68) (lb := #[.pointer (some ⟨c + 1, 0, none⟩), .pointer (some ⟨c + 1 + 1, 0, none⟩)]) rfl (enters_of Try.func68 (by kernel_rfl) rfl) (pts_seq (c + 1) (c + 1 + 1) a A5 S2 x (by omega) HO5.out.wf (by omega) (fun e => by omega)) (fun _ => rfl)
                  (MdR w G (bm + 1) bm a (bm + 2) wr.heap.size c n3 (.slice (some ⟨gl, 0, none⟩) l.length cap6) l A5 S2 x tab ds) (fun _ _ _ _ => False)
                  (fun y a' _ _ => a' = mdB (fun i => a'.tmps.getD i undef) a (bm + 1) (.slice (some ⟨gl, 0, none⟩) l.length cap6) l.length j c y)
                  ?_ (fun _ _ _ _ h => h.elim) ?_ (fun _ _ _ _ _ _ h => h.elim) (fun _ _ _ _ _ _ h _ => h) HR0.out ?_ ?_ ?_ (fun _ _ _ _ _ _ _ _ h => h.elim)
                · intro pre W G' h
                  have h5 := h.r2.lt
                  exact ⟨h.md.st.inv, ⟨h.r1.heap, h.r2.heap, h.md.ar⟩, by omega⟩
                · intro pre W G' W' G'' h k
                  exact h.step0 k (by omega) (by omega)
                · intro l2 pre y W G' K hI' hK
                  have hK' := fun a' => hK a' W G' hI'
                  clear hK
                  dsimp only [encI]
                  gi_wp2
                  refine hK' _ ?_ (Keep.refl _ _ _)
                  rfl
                · rintro l2 pre y a' W G' hl2 hgl2 ⟨q2, hq2⟩ hR ha' hpre
                  generalize hu : (fun i => a'.tmps.getD i undef) = u' at ha'
                  clear hu
                  subst ha'
                  have hc7 : W.cell? ⟨bm + 1, 0, none⟩ = some (.map (some bm)) := hR.md.r7.cell 0
                  have hc18 : W.cell? ⟨c, 0, none⟩ = some (.int .i64 x) := hR.rc.cell 0
                  have HR := Lib.hid hR
                  clear hR hq2
                  obtain ⟨hgr, D, hDm, hown, hDt, hsh0⟩ := HR.out.gr
                  have hn0 : n3 + pre.length < maxLen := by
                    have h1 := hpre.length_le
                    have h2 := pts_len A5 S2 x
                    simp at h1
                    unfold maxLen; omega
                  have hkey := key_ref (x := x) (by omega)
                  obtain ⟨i0, hi, hz0, hz1, hz2⟩ := info_parts info_ref
                  have hinvW := HR.out.md.st.inv
                  have hr2lt := HR.out.r2.lt
                  have hrs : ∀ w : World, (Instr.buildSlice 29 1 #[(0, .int .i64 y)]).run Try.prog w = .ok (.slice (some ⟨w.heap.size, 0, none⟩) 1 1) (w.alloc (.cells #[.int .i64 y] 36)) := fun w => by go_simp
                  have hlm : ∀ (w : World) (u : Value), w.cell? ⟨bm + 1, 0, none⟩ = some u → (Instr.loadAt 30 (.pointer (some ⟨bm + 1, 0, none⟩))).run Try.prog w = .ok u w := fun w u hu => by go_simp
                  have hle : ∀ (w : World) (u : Value), w.cell? ⟨c, 0, none⟩ = some u → (Instr.loadAt 36 (.pointer (some ⟨c, 0, none⟩))).run Try.prog w = .ok u w := fun w u hu => by go_simp
                  have hyb : -9223372036854775808 ≤ y ∧ y ≤ 9223372036854775807 := by
                    have := HO5.out.pos (HO5.out.pts hxm (hpre.subset (show y ∈ pre ++ [y] by simp)))
                    omega
                  have hwy : (Lit.int .i64 y).wf = true := by simp [Lit.wf, IntKind.min, IntKind.max, IntKind.signed, IntKind.bits]; omega
                  have hn1 : n3 + pre.length + 1 ≤ 1000000 := by
                    have h1 := hpre.length_le
                    have h2 := pts_len A5 S2 x
                    simp at h1; omega
                  have hput := fun w hf => MdR.put (w := w) (y := y) HR.out hDm hDt hf Hb7.out (Nat.lt_succ_self _) (by omega) Hgl.out Hbw.out Hcb.out hgr
                  have Hput := Lib.hid hput
                  clear hput
                  gi_wp2
                  refine wpIn_region_any (by kernel_rfl) ?_
                  refine region_app (P := Try.prog) (tm := 30) (te := 36) (ts := 29) (Wd := W.drew) (base := wr.heap.size) (bm := bm) (n := n3 + pre.length) (D := D) (No := fun g => G' g ≠ .raw ∨ (c ≤ g ∧ g ≤ c + 2)) (x := x) (y := y) (c7 := bm + 1) (c18 := c) (sz := 115)
                    ⟨⟨_, rfl, rfl, rfl, rfl⟩, ⟨_, rfl, rfl, rfl, rfl⟩, ⟨_, rfl, rfl, rfl, rfl⟩, ⟨_, rfl, rfl, rfl, rfl⟩, ⟨_, rfl, rfl, rfl, rfl⟩, ⟨_, rfl, rfl, rfl, rfl⟩, ⟨_, rfl, rfl, rfl, rfl⟩, ⟨_, rfl, rfl, rfl, rfl⟩, ⟨_, rfl, rfl, rfl, rfl⟩, by kernel_rfl⟩
                    ref_law Try.underlying30 zero_refs Try.underlying29 hi hz0 hz1 hz2 hlm hle hrs hkey hwy hn1 ?_ (by have := Hb7.out; omega) hown hsh0 ?_ ?_ ?_ _ (by decide) (List.replicate 9 false) rfl ?_
                  · have := HR.out.gr.lt
                    show wr.heap.size ≤ W.heap.size
                    have := Hcb.out
                    omega
                  · intro g hg hN
                    rcases hN with hN | hN
                    · exact hN (hinvW.new g hg)
                    · have : W.heap.size ≤ g := hg
                      omega
                  · intro g hg hN
                    exact ⟨by have := Hb7.out; omega, fun e => hN (.inr ⟨by omega, by omega⟩)⟩
                  · intro a' w' hf
                    obtain ⟨k1, k2⟩ := Hput.out w' hf
                    exact ⟨G', k1, k2.mono (by omega)⟩
                  · refine ⟨rfl, rfl, rfl, rfl, ?_, ?_, ?_, ?_, ?_, fun _ => rfl, ?_, ?_, ?_, ?_, fun _ => ⟨hc7, hc18⟩, ?_, ?_⟩ <;> (intro hh; simp at hh)
                · rintro D W G' hD hgd hR hd
                  have hmk4 : Marks w.heap.size W.heap.size ({ target := .collected D, args := #[] } :: ds) W G' :=
                    hR.mks.cons (by omega) (by omega) (Array.getElem?_eq_some_iff.1 hd).1 hgd hd
                  have hg4 : GrpAt W G' bm wr.heap.size (n3 + (pts A5 S2 x).length) (updT tab x (pts A5 S2 x)) (fun _ => False) := hR.gr.also (fun g hg => hg.elim)
                  have hsz4 := hR.r2.lt
                  have hpl := pts_len A5 S2 x
                  have htab4 : ∀ z, updT tab x (pts A5 S2 x) z = if z ∈ l.take (j + 1) then pts A5 S2 z else [] := by
                    intro z
                    have e : l.take (j + 1) = l.take j ++ [x] := by
                      rw [List.take_succ_eq_append_getElem hlt, ← hx, List.getD_eq_getElem?_getD, List.getElem?_eq_getElem hlt, Option.getD_some]
                    unfold updT
                    by_cases hz : z = x
                    · rw [if_pos hz, hz, if_pos (by rw [e]; simp)]
                    · rw [if_neg hz, Htab.out, e]
                      simp [hz]
                  have H4 := Lib.hid hR.md
                  have Hm4 := Lib.hid hmk4
                  have Hg4 := Lib.hid hg4
                  have Ht4 := Lib.hid htab4
                  clear hR hmk4 hg4 htab4 hgd hd
                  gi_wp2
                  refine ⟨i, Nat.lt_succ_self _, j + 1, _, G', _, _, by omega, H4.out, Hm4.out, by have := Hcb.out; omega, Hg4.out, by omega, Ht4.out, ?_⟩
                  rfl
end Go.Hw
