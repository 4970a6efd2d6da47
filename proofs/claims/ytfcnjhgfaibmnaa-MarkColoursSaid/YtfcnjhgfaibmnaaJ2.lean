/- Law 14: its fit. -/
import Derived.Test.YtfcnjhgfaibmnaaJ1
import Derived.Test.YtfcnjhgfaibmnaaL2
namespace Go.Hw
open Go.RowKit Go.Proofs Go.ChangeShapes

/-- Bytes that the call lays. -/
theorem U8s.new {w : World} {G : Gh} (hI : Inv w G) (xs : List Int) (hx : ∀ x ∈ xs, 0 ≤ x ∧ x ≤ 255) (hl : xs.length ≤ 1000) (t : TypeId) : U8s (w.alloc (.cells (xs.map (Value.int .u8)).toArray t)) G (.slice (some ⟨w.heap.size, 0, none⟩) xs.length xs.length) xs := by
  refine ⟨some ⟨w.heap.size, 0, none⟩, xs.length, rfl, by omega, fun i hi => ⟨_, rfl, hI.new _ (Nat.le_refl _), by simp, ?_, hx _ (by rw [List.getD_eq_getElem?_getD, List.getElem?_eq_getElem hi]; exact List.getElem_mem _)⟩⟩
  have e1 : (⟨w.heap.size, 0, none⟩ : Addr).add i = ⟨w.heap.size, i, none⟩ := by unfold Addr.add; split <;> simp_all
  rw [e1, cell_of (heap_alloc_new w _)]
  simp [List.getD, List.getElem?_eq_getElem hi]
theorem U16s3.nil (w : World) (G : Gh) : U16s3 w G (.slice none 0 0) [] := ⟨none, 0, rfl, by simp, fun i hi => by simp at hi⟩

theorem nodup3 {l : List Int} (h : l.Nodup) (hl : l.length = 3) : ∃ a b c, l = [a, b, c] ∧ a ≠ b ∧ a ≠ c ∧ b ≠ c := by
  match l, hl with
  | [a, b, c], _ =>
    simp at h
    exact ⟨a, b, c, rfl, h.1.1, h.1.2, h.2⟩

theorem RowAt.at3 {w : World} {G : Gh} {base g n c : Nat} {x y z : Int} (h : RowAt w G base (.slice (some ⟨g, 0, none⟩) n c) [x, y, z]) : w.cell? ⟨g, 0, none⟩ = some (.int .i64 x) ∧ w.cell? ⟨g, 1, none⟩ = some (.int .i64 y) ∧ w.cell? ⟨g, 2, none⟩ = some (.int .i64 z) := by
  obtain ⟨_, e0, h0, -⟩ := h.item (k := 0) (by simp)
  cases e0
  obtain ⟨_, e1, h1, -⟩ := h.item (k := 1) (by simp)
  cases e1
  obtain ⟨_, e2, h2, -⟩ := h.item (k := 2) (by simp)
  cases e2
  exact ⟨by simpa using h0, by simpa using h1, by simpa using h2⟩
theorem LM.yuPre {K : LK} {m b : Nat} {M : Mk} {W : World} {G : Gh} (h : LM K m M W G) (hb : YuAt W G b m) (src old : Int) : Calls Try.prog 31 #[.pointer (some ⟨b, 0, none⟩), .int .i64 src, .int .i64 old] W (lmPost K m M (.tuple #[]) (M.shade old) W G) := h.own (Mk.ids_shade _ _) (yuasa_pre b m M src old W G h.inv h.mi.mk' hb)
theorem Mk.ids_yu (M : Mk) (old new : Int) (early : Bool) : (M.yu old new early).ids = M.ids := by
  unfold Mk.yu; split
  · exact (Mk.ids_shade _ _).trans (Mk.ids_shade _ _)
  · exact Mk.ids_shade _ _
theorem LM.yuPost {K : LK} {m b : Nat} {M : Mk} {W : World} {G : Gh} (h : LM K m M W G) (hb : YuAt W G b m) (src old new : Int) (black early : Bool) :
    Calls Try.prog 32 #[.pointer (some ⟨b, 0, none⟩), .agg #[.int .i64 src, .int .i64 old, .int .i64 new, .bool black, .bool early]] W (lmPost K m M (.tuple #[]) (M.yu old new early) W G) := h.own (Mk.ids_yu _ _ _ _) (yuasa_post b m M src old new black early W G h.inv h.mi.mk' hb)

set_option maxRecDepth 100000 in
set_option maxHeartbeats 1000000 in
theorem law14_fit (w : World) (G : Gh) (hI : Inv w G) : Calls Try.prog 29 #[] w (quiet (.bool true) w G) := by
  have hu := U8s.new hI [2, 2, 2] (by simp) (by simp) 5
  simp only [List.map_cons, List.map_nil, List.length_cons, List.length_nil, Nat.reduceAdd] at hu
  have hS0 : Step (fun _ => False) w G (w.alloc (.cells #[.int .u8 2, .int .u8 2, .int .u8 2] 5)) G := (St.refl hI).alloc _
  have HU := Lib.hid hu
  have HS0 := Lib.hid hS0
  clear hu hS0 hI
  go_enter Try.func29, Try.ntmps29
  go_wp2_with fail
  refine (law_made _ _ [2, 2, 2] [] (by simp) (by simp) HS0.out HU.out (U16s3.nil _ _)).mono ?_
  rintro e w3 ⟨K, G3, pl, capl, rfl, hKw, hKG, hK3, hKv, ⟨ok, hlen⟩, hS3, -⟩
  simp only [List.length_cons, List.length_nil, Nat.reduceAdd] at hlen
  obtain ⟨y0, y1, y2, hl, d1, d2, d3⟩ := nodup3 ok.ob.nd hlen
  rw [hlen] at hKv ⊢
  have HK := Lib.hid hK3
  have Ok := Lib.hid ok
  have Hkw := Lib.hid (And.intro hKw hKG)
  have Hkv := Lib.hid hKv
  have Hl := Lib.hid hl
  clear hK3 ok hKw hKG hKv hl hlen hS3
  go_wp2_with fail
  refine (Ok.out.new HK.out 4 (by omega)).mono ?_
  rintro e w4 ⟨m, M, G4, rfl, hM4, q1, q2, q3, q4, q5, q6, hS4, q7⟩
  have H4 := Lib.hid hM4
  have HTr := Lib.hid (q6 (fun _ => True))
  have Hq1 := Lib.hid q1
  clear hM4 q1 q2 q3 q4 q5 q6 q7 hS4 HK
  go_wp2_with fail
  refine (yuasa_new m w4).mono ?_
  rintro e w5 ⟨rfl, rfl⟩
  have hS5 : Step (fun _ => False) w4 G4 (w4.alloc (.cells #[.func (.func 14) #[.pointer (some ⟨m, 0, none⟩)] #[]] 93)) G4 := (St.refl H4.out.inv).alloc _
  have hB5 : YuAt (w4.alloc (.cells #[.func (.func 14) #[.pointer (some ⟨m, 0, none⟩)] #[]] 93)) G4 w4.heap.size m := Raw.new H4.out.inv _ _
  have H5 := Lib.hid (H4.out.step0 hS5)
  have HB5 := Lib.hid hB5
  clear hS5 hB5 H4
  generalize w4.alloc (.cells #[.func (.func 14) #[.pointer (some ⟨m, 0, none⟩)] #[]] 93) = w5 at *
  generalize w4.heap.size = b at *
  have hrow5 := H5.out.lw.row
  rw [Hkv.out, Hl.out] at hrow5
  obtain ⟨g, rfl, -⟩ := hrow5.item (k := 0) (by simp)
  obtain ⟨hc0, hc1, hc2⟩ := hrow5.at3
  clear hrow5
  go_wp2
  go_still_tail 7, (by kernel_rfl)
  change wpList _ _ _ _ _ w5.drew
  have hD : Step (fun _ => False) w5 G4 w5.drew G4 := (St.refl H5.out.inv).drew
  have H6 := Lib.hid (H5.out.step0 hD)
  have HB6 := Lib.hid (HB5.out.step hD)
  clear hD hc0 hc1 hc2 H5 HB5
  generalize w5.drew = w6 at *
  go_wp2_with fail
  refine (H6.out.yuPre HB6.out y0 y1).mono ?_
  rintro e w7 ⟨rfl, G7, h7, hS7⟩
  have H7 := Lib.hid h7
  have HB7 := Lib.hid (HB6.out.step hS7)
  have hrow7 := h7.lw.row
  rw [Hkv.out, Hl.out] at hrow7
  obtain ⟨hc0, hc1, hc2⟩ := hrow7.at3
  clear h7 hS7 hrow7 H6 HB6
  go_wp2
  go_still_tail 11, (by kernel_rfl)
  change wpList _ _ _ _ _ w7.drew
  have hD : Step (fun _ => False) w7 G7 w7.drew G7 := (St.refl H7.out.inv).drew
  have H8 := Lib.hid (H7.out.step0 hD)
  have HB8 := Lib.hid (HB7.out.step hD)
  clear hD hc0 hc1 hc2 H7 HB7
  generalize w7.drew = w8 at *
  go_wp2_with fail
  refine (H8.out.yuPost HB8.out y0 y1 y2 false false).mono ?_
  rintro e w9 ⟨rfl, G9, h9, hS9⟩
  have hM9 : ((M.shade y1).yu y1 y2 false) = (M.shade y1).shade y1 := rfl
  rw [hM9] at h9
  have hyl : ∀ y, y = y0 ∨ y = y1 ∨ y = y2 → y ∈ K.l := fun y hy => by rw [Hl.out]; simpa using hy
  have hb1 := HTr.out.bd y1 (hyl y1 (.inr (.inl rfl)))
  have hmm : ∀ q, hasR ((M.shade y1).shade y1).mr q = decide (q = y1) := fun q => by
    have hb2 : 1 ≤ y1 ∧ y1 < (M.shade y1).n := by rw [(M.shade_same y1).2.1]; exact hb1
    rw [Bool.eq_iff_iff, Mk.shade_mr hb2, Mk.shade_mr hb1, Hq1.out]
    simp [hasR]
  have H9 := Lib.hid h9
  have Hmm := Lib.hid hmm
  have Hd := Lib.hid (And.intro d1 (And.intro d2 d3))
  have hrow9 := h9.lw.row
  rw [Hkv.out, Hl.out] at hrow9
  obtain ⟨hc0, hc1, hc2⟩ := hrow9.at3
  generalize (M.shade y1).shade y1 = M9 at *
  clear h9 hS9 hrow9 H8 HB8 hM9 hyl hb1 hmm d1 d2 d3
  go_wp2_with fail
  refine (yuasa_rescans b w9).mono ?_
  rintro e w10 ⟨rfl, rfl⟩
  go_wp2_with fail
  refine (H9.out.marked y1).mono ?_
  rw [Hmm.out, show decide (y1 = y1) = true by simp]
  rintro e w11 ⟨rfl, G11, h11, hS11⟩
  have H11 := Lib.hid h11
  have hrow11 := h11.lw.row
  rw [Hkv.out, Hl.out] at hrow11
  obtain ⟨hc0, hc1, hc2⟩ := hrow11.at3
  clear h11 hS11 hrow11
  go_wp2_with fail
  refine (H11.out.marked y0).mono ?_
  rw [Hmm.out, show decide (y0 = y1) = false by simpa using Hd.out.1]
  rintro e w12 ⟨rfl, G12, h12, hS12⟩
  have H12 := Lib.hid h12
  have hrow12 := h12.lw.row
  rw [Hkv.out, Hl.out] at hrow12
  obtain ⟨hc0, hc1, hc2⟩ := hrow12.at3
  clear h12 hS12 hrow12
  go_wp2_with fail
  refine (H12.out.marked y2).mono ?_
  rw [Hmm.out, show decide (y2 = y1) = false by simpa using fun e => Hd.out.2.2 e.symm]
  rintro e w13 ⟨rfl, G13, h13, hS13⟩
  have hfin := h13.lw.st
  rw [Hkw.out.1, Hkw.out.2] at hfin
  have Hfin := Lib.hid hfin
  clear h13 hS13 hfin
  go_wp2
  go_ret
  exact ⟨rfl, G13, Hfin.out⟩
end Go.Hw
