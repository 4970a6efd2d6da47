/- Package mark: Drained, refill. -/
import Derived.Test.YtfcnjhgfaibmnaaE2
namespace Go.Hw
open Go.RowKit Go.Proofs
attribute [local go_sem] Oper.semAt_some

def Mk.drained (M : Mk) : Bool := (els M.n M.mr).all fun r => M.sc r

def drI (b1 b2 b3 m : Nat) (M : Mk) (w0 : World) (G0 : Gh) (pre : List Nat) (W : World) (G : Gh) : Prop :=
  St (fun _ => False) w0.heap.size w0 G0 W G ∧ Raw W G b1 #[.pointer (some ⟨m, 0, none⟩)] 33 ∧ Raw W G b2 #[.bool false] 4 ∧
    Raw W G b3 #[.pointer (some ⟨m, 0, none⟩)] 33 ∧ MkAt W G m M ∧ ∀ r ∈ pre, M.sc r = true
def drX (b2 : Nat) (M : Mk) (w0 : World) (G0 : Gh) (c : Code) (pre : List Nat) (W : World) (G : Gh) : Prop :=
  c = .ret ∧ St (fun _ => False) w0.heap.size w0 G0 W G ∧ Raw W G b2 #[.bool false] 4 ∧ (∃ r ∈ pre, M.sc r = false) ∧ w0.heap.size + 3 ≤ W.heap.size

theorem drI.step {b1 b2 b3 m : Nat} {M : Mk} {w0 : World} {G0 : Gh} {pre : List Nat} {W W' : World} {G G' : Gh} {B : Nat} (h : drI b1 b2 b3 m M w0 G0 pre W G) (k : St (fun _ => False) B W G W' G') (hB : w0.heap.size ≤ B) : drI b1 b2 b3 m M w0 G0 pre W' G' :=
  ⟨h.1.trans k (.inl hB), h.2.1.step k, h.2.2.1.step k, h.2.2.2.1.step k, h.2.2.2.2.1.step0 h.1.inv k, h.2.2.2.2.2⟩

set_option maxRecDepth 100000 in
set_option maxHeartbeats 1000000 in
theorem mark_drained (m : Nat) (M : Mk) (w : World) (G : Gh) (hI : Inv w G) (hM : MkAt w G m M) :
    Calls Try.prog 16 #[.pointer (some ⟨m, 0, none⟩)] w (qPost (.bool M.drained) w G) := by
  have HM := Lib.hid hM
  clear hM
  refine (callsIn_wide (n := 0)).1 ?_
  refine callsIn_of_wp_marks Try.func16 rfl trivial ?_ rfl
  simp only [Try.ntmps16, List.size_toArray, List.length_cons, List.length_nil, Nat.reduceAdd, Nat.reduceSub, Array.replicate_succ, Array.replicate_zero, List.push_toArray, List.append_toArray, List.nil_append, List.cons_append]
  gi_wp2_with fail
  refine ⟨trivial, rfl, ?_⟩
  refine (callsIn_wide.2 (mark_all m _)).mono ?_
  rintro e w1 ⟨rfl, rfl⟩
  gi_wp2
  have hr1 : Raw (((w.alloc (.cells #[.pointer (some ⟨m, 0, none⟩)] 33)).alloc (.cells #[.bool false] 4)).alloc (.cells #[.pointer (some ⟨m, 0, none⟩)] 33)) G w.heap.size _ _ := ((Raw.new hI _ _).alloc _).alloc _
  have hr2 := ((Raw.new (hI.alloc (.cells #[.pointer (some ⟨m, 0, none⟩)] 33)) #[.bool false] 4).alloc (.cells #[.pointer (some ⟨m, 0, none⟩)] 33))
  have hr3 := Raw.new ((hI.alloc (.cells #[.pointer (some ⟨m, 0, none⟩)] 33)).alloc (.cells #[.bool false] 4)) #[.pointer (some ⟨m, 0, none⟩)] 33
  have hs3 : St (fun _ => False) w.heap.size w G (((w.alloc (.cells #[.pointer (some ⟨m, 0, none⟩)] 33)).alloc (.cells #[.bool false] 4)).alloc (.cells #[.pointer (some ⟨m, 0, none⟩)] 33)) G := (((St.refl hI).alloc _).alloc _).alloc _
  rw [World.size_alloc, World.size_alloc] at hr3
  rw [World.size_alloc] at hr2
  have hm3 := HM.out.step0 hI hs3
  obtain ⟨w3, hw3⟩ : ∃ w3, ((w.alloc (.cells #[.pointer (some ⟨m, 0, none⟩)] 33)).alloc (.cells #[.bool false] 4)).alloc (.cells #[.pointer (some ⟨m, 0, none⟩)] 33) = w3 := ⟨_, rfl⟩
  have hsz : w3.heap.size = w.heap.size + 3 := by rw [← hw3]; simp
  rw [hw3] at hr1 hr2 hr3 hs3 hm3 ⊢
  clear hw3
  have h0 : drI w.heap.size (w.heap.size + 1) (w.heap.size + 1 + 1) m M w G [] w3 G := ⟨hs3, hr1, hr2, hr3, hm3, fun r hr => by cases hr⟩
  clear hr1 hr2 hr3 hs3 hm3
  refine range_out (gf := 61) (lb := #[.pointer (some ⟨w.heap.size + 1 + 1, 0, none⟩)]) rfl (enters_of Try.func61 (by kernel_rfl) rfl) (mall_seq (w.heap.size + 1 + 1) m M.a M.s1 M.s2 M.g M.n M.mr) (fun _ => rfl)
    (drI w.heap.size (w.heap.size + 1) (w.heap.size + 1 + 1) m M w G) (drX (w.heap.size + 1) M w G)
    (fun x a' _ _ => a' = { tmps := #[.pointer (some ⟨m, 0, none⟩), .pointer (some ⟨w.heap.size, 0, none⟩), .pointer (some ⟨w.heap.size + 1, 0, none⟩), .int .i64 x, .pointer (some ⟨m, 0, none⟩), .func (.func 61) #[] #[.pointer (some ⟨w.heap.size + 1 + 1, 0, none⟩)], .int .i64 x, undef, undef, undef, undef], defers := [] })
    ?_ ?_ ?_ ?_ (fun _ _ _ _ _ _ h _ => h) h0 ?_ ?_ ?_ ?_
  · rintro pre W G' ⟨h1, h2, h3, h4, h5, h6⟩
    exact ⟨h1.inv, ⟨h4.heap, h5.raw.heap, M.mr, h5.e1, fun _ _ => rfl⟩, by have := h4.lt; omega⟩
  · rintro c pre W G' ⟨rfl, h1, h2, h3, h4⟩
    exact ⟨h1.inv, by omega⟩
  · intro pre W G' W' G'' h k
    exact h.step k (by omega)
  · rintro c pre W G' W' G'' ⟨rfl, h1, h2, h3, h4⟩ k
    exact ⟨rfl, h1.trans k (.inl (by omega)), h2.step k, h3, by have := k.le; omega⟩
  · intro l2 pre x W G' K hI' hK
    have hK' := hK _ W G' hI' rfl (Keep.refl _ _ _)
    clear hK
    dsimp only [encN]
    gi_wp2
    exact hK'
  · rintro l2 pre x a' W G' hl2 hgl ⟨r, hr⟩ ⟨h1, h2, h3, h4, h5, h6⟩ rfl hpre
    have hc1 : W.cell? ⟨w.heap.size, 0, none⟩ = some (.pointer (some ⟨m, 0, none⟩)) := h2.cell 0
    have hI1 := h1.inv
    have H1 := Lib.hid h1
    have H2 := Lib.hid h2
    have H3 := Lib.hid h3
    have H4 := Lib.hid h4
    have H5 := Lib.hid h5
    have H6 := Lib.hid h6
    have Hr := Lib.hid hr
    clear h1 h2 h3 h4 h5 h6 hr
    gi_wp2_with fail
    refine ⟨trivial, rfl, ?_⟩
    refine (CallsIn.inRound l2 (callsIn_wide.2 (mark_scanned m M x W G' hI1 H5.out))).mono ?_
    rintro e W1 ⟨rfl, G1, hS⟩
    have HS := Lib.hid hS
    have hd : drI w.heap.size (w.heap.size + 1) (w.heap.size + 1 + 1) m M w G pre W1 G1 := drI.step ⟨H1.out, H2.out, H3.out, H4.out, H5.out, H6.out⟩ hS H1.out.le
    have HD := Lib.hid hd
    have hc2 : W1.cell? ⟨w.heap.size + 1, 0, none⟩ = some (.bool false) := hd.2.2.1.cell 0
    have hf2 : W1.frozen? ⟨w.heap.size + 1, 0, none⟩ = false := hd.2.2.1.free 0
    clear hS hd
    rw [hasR_nat]
    cases hsc : M.sc x with
    | true =>
      have hfin : rpost w3.heap.size (drI w.heap.size (w.heap.size + 1) (w.heap.size + 1 + 1) m M w G) (drX (w.heap.size + 1) M w G) (pre ++ [x]) W G' .normal ⟨#[], []⟩ W1 :=
        ⟨G1, ⟨HD.out.1, HD.out.2.1, HD.out.2.2.1, HD.out.2.2.2.1, HD.out.2.2.2.2.1, fun r hr => by
          rcases List.mem_append.1 hr with hr | hr
          · exact H6.out r hr
          · rw [List.mem_singleton.1 hr]; exact hsc⟩, HS.out.keep _⟩
      have Hfin := Lib.hid hfin
      clear hfin hsc
      gi_wp2
      exact Hfin.out
    | false =>
      have hfin : rpost w3.heap.size (drI w.heap.size (w.heap.size + 1) (w.heap.size + 1 + 1) m M w G) (drX (w.heap.size + 1) M w G) (pre ++ [x]) W G' .ret ⟨#[], []⟩ (W1.setCell ⟨w.heap.size + 1, 0, none⟩ (.bool false)) :=
        ⟨G1, ⟨rfl, HD.out.1.setRaw (by simp) HD.out.2.2.1.raw _, HD.out.2.2.1.set 0 _, ⟨x, by simp, hsc⟩, by have := HD.out.2.2.2.1.lt; simp; omega⟩, (HS.out.keep _).setRaw HD.out.2.2.1.raw _⟩
      have Hfin := Lib.hid hfin
      clear hfin hsc
      gi_wp2
      exact Hfin.out
  · rintro D W G' hD hgd ⟨h1, h2, h3, h4, h5, h6⟩ hd
    have hc2 : W.cell? ⟨w.heap.size + 1, 0, none⟩ = some (.bool false) := h3.cell 0
    have hf2 : W.frozen? ⟨w.heap.size + 1, 0, none⟩ = false := h3.free 0
    have hfin : M.drained = true := by rw [Mk.drained, List.all_eq_true]; exact h6
    have hr4 := h3.set 0 (.bool true)
    have hs4 := h1.setRaw (a := ⟨w.heap.size + 1, 0, none⟩) (by simp) h3.raw (.bool true)
    have hs5 := hs4.trans (St.putPriv (T := fun _ => False) (B := w.heap.size) hs4.inv (.deferred none) hgd (by omega)) (.inl (Nat.le_refl _))
    have hd4 : (W.setCell ⟨w.heap.size + 1, 0, none⟩ (.bool true)).heap[D]? = some (.deferred (some [])) := (heap_setCell_ne _ _ _ (by simp; omega)).trans hd
    have hc5 : ((W.setCell ⟨w.heap.size + 1, 0, none⟩ (.bool true)).putObj D (.deferred none)).cell? ⟨w.heap.size + 1, 0, none⟩ = some (.bool true) := by
      refine (cell_same (World.putObj_heap_other (by omega)) 0).trans ?_
      exact (hr4.cell 0).trans rfl
    have Hs5 := Lib.hid hs5
    have Hfin := Lib.hid hfin
    have Hd4 := Lib.hid hd4
    have Hc5 := Lib.hid hc5
    clear h1 h2 h3 h4 h5 h6 hr4 hs4 hs5 hd4 hfin hd hc5
    gi_wp2
    refine ⟨by simp, .inl ⟨_, _, rfl, run_takeDeferred Hd4.out, ?_⟩⟩
    refine ⟨.bool true, ?_, ret_bool Hfin.out.symm, G', Hs5.out⟩
    have hc5 := Hc5.out
    simp [results, Try.results16, go_sem, hc5]
  · rintro D c pre W G' hD hgd hpre ⟨rfl, h1, h2, ⟨x, hx1, hx2⟩, h4⟩ hd
    have hfin : M.drained = false := by
      rw [Mk.drained, List.all_eq_false]
      obtain ⟨t, ht⟩ := hpre
      exact ⟨x, by rw [← ht]; exact List.mem_append_left _ hx1, by simp [hx2]⟩
    have hs5 := h1.trans (St.putPriv (T := fun _ => False) (B := w.heap.size) h1.inv (.deferred none) hgd (by omega)) (.inl (Nat.le_refl _))
    have hc5 : (W.putObj D (.deferred none)).cell? ⟨w.heap.size + 1, 0, none⟩ = some (.bool false) := by
      refine (cell_same (World.putObj_heap_other (by omega)) 0).trans ?_
      exact (h2.cell 0).trans rfl
    gi_wp2
    refine ⟨by simp, .inl ⟨_, _, rfl, run_takeDeferred hd, ?_⟩⟩
    refine ⟨.bool false, ?_, ret_bool hfin.symm, G', hs5⟩
    simp [results, Try.results16, go_sem, hc5]

/-! ### refill -/
def Mk.rstep (M : Mk) (r : Nat) : Mk := if M.isGrey r = true then M.push r else M
def Mk.refillTo (M : Mk) (l : List Nat) : Mk := l.foldl Mk.rstep { M with over := false }
def Mk.refill (M : Mk) : Mk := M.refillTo (els M.n M.mr)
def Mk.ids (M : Mk) : Nat × Nat × Nat × Nat × Nat × Nat := (M.a, M.s1, M.s2, M.g, M.n, M.room)
theorem Mk.ids_push (M : Mk) (r : Int) : (M.push r).ids = M.ids ∧ (M.push r).mr = M.mr ∧ (M.push r).sc = M.sc := ⟨rfl, rfl, rfl⟩
theorem Mk.refillTo_snoc (M : Mk) (l : List Nat) (r : Nat) : M.refillTo (l ++ [r]) = if M.isGrey r = true then (M.refillTo l).push r else M.refillTo l := by
  have h : ∀ (l : List Nat) (N : Mk), (l.foldl Mk.rstep N).isGrey = N.isGrey := by
    intro l
    induction l with
    | nil => intro N; rfl
    | cons x l ih =>
      intro N
      simp only [List.foldl_cons]
      rw [ih, Mk.rstep]
      by_cases hx : N.isGrey x = true
      · rw [if_pos hx]; rfl
      · rw [if_neg hx]
  unfold Mk.refillTo
  rw [List.foldl_append, List.foldl_cons, List.foldl_nil, Mk.rstep, h]
  rfl
theorem Mk.refillTo_same (M : Mk) (l : List Nat) : (M.refillTo l).ids = M.ids ∧ (M.refillTo l).mr = M.mr ∧ (M.refillTo l).sc = M.sc := by
  unfold Mk.refillTo
  have h : ∀ (l : List Nat) (N : Mk), (l.foldl Mk.rstep N).ids = N.ids ∧ (l.foldl Mk.rstep N).mr = N.mr ∧ (l.foldl Mk.rstep N).sc = N.sc := by
    intro l
    induction l with
    | nil => intro N; exact ⟨rfl, rfl, rfl⟩
    | cons x l ih =>
      intro N
      simp only [List.foldl_cons]
      obtain ⟨h1, h2, h3⟩ := ih (N.rstep x)
      rw [h1, h2, h3, Mk.rstep]
      by_cases hx : N.isGrey x = true
      · rw [if_pos hx]; exact ⟨rfl, rfl, rfl⟩
      · rw [if_neg hx]; exact ⟨rfl, rfl, rfl⟩
  exact h l { M with over := false }
theorem Mk.T_ids {M N : Mk} (h : N.ids = M.ids) : N.T = M.T := by
  simp only [Mk.ids, Prod.mk.injEq] at h
  obtain ⟨-, h1, h2, h3, -, -⟩ := h
  unfold Mk.T; rw [h1, h2, h3]

def rfI (b1 b3 m : Nat) (M : Mk) (w0 : World) (G0 : Gh) (pre : List Nat) (W : World) (G : Gh) : Prop :=
  St M.T w0.heap.size w0 G0 W G ∧ Raw W G b1 #[.pointer (some ⟨m, 0, none⟩)] 33 ∧ Raw W G b3 #[.pointer (some ⟨m, 0, none⟩)] 33 ∧ MkAt W G m (M.refillTo pre)
theorem rfI.step {b1 b3 m : Nat} {M : Mk} {w0 : World} {G0 : Gh} {pre : List Nat} {W W' : World} {G G' : Gh} {B : Nat} (h : rfI b1 b3 m M w0 G0 pre W G) (k : St (fun _ => False) B W G W' G') (hB : w0.heap.size ≤ B) : rfI b1 b3 m M w0 G0 pre W' G' :=
  ⟨h.1.trans (k.mono (fun _ h => h.elim) (Nat.le_refl _)) (.inl hB), h.2.1.step k, h.2.2.1.step k, h.2.2.2.step0 h.1.inv k⟩

set_option maxRecDepth 100000 in
set_option maxHeartbeats 1000000 in
theorem mark_refill (m : Nat) (M : Mk) (w : World) (G : Gh) (hI : Inv w G) (hM : MkAt w G m M) :
    Calls Try.prog 76 #[.pointer (some ⟨m, 0, none⟩)] w (mPost m M (.tuple #[]) M.refill w G) := by
  have hc1 : w.cell? ⟨m, 3, none⟩ = some (.pointer (some ⟨M.g, 0, none⟩)) := hM.raw.cell 3
  have hlm : m < w.heap.size := hM.raw.lt
  have HM := Lib.hid hM
  clear hM
  refine (callsIn_wide (n := 0)).1 ?_
  refine callsIn_of_wp_marks Try.func76 rfl trivial ?_ rfl
  simp only [Try.ntmps76, List.size_toArray, List.length_cons, List.length_nil, Nat.reduceAdd, Nat.reduceSub, Array.replicate_succ, Array.replicate_zero, List.push_toArray, List.append_toArray, List.nil_append, List.cons_append]
  gi_wp2_with fail
  refine ⟨trivial, rfl, ?_⟩
  have hsa : St (fun _ => False) w.heap.size w G (w.alloc (.cells #[.pointer (some ⟨m, 0, none⟩)] 33)) G := (St.refl hI).alloc _
  refine (callsIn_wide.2 (grey_settle M.g M.st M.room M.over _ G hsa.inv HM.out.eg)).mono ?_
  rintro e w1 ⟨rfl, G1, hg1, hS1⟩
  have hM1 := (HM.out.step0 hI hsa).ong hsa.inv hS1 hg1 HM.out.len
  have hr1 := (Raw.new hI #[.pointer (some ⟨m, 0, none⟩)] 33).step hS1
  have hcb : w1.cell? ⟨w.heap.size, 0, none⟩ = some (.pointer (some ⟨m, 0, none⟩)) := hr1.cell 0
  have hS2 : Step M.T w G w1 G1 := hsa.seq hS1 (fun _ h => h.elim) (fun _ _ _ h => .inr (.inr h))
  have hI1 := hS1.inv
  have HM1 := Lib.hid hM1
  have Hr1 := Lib.hid hr1
  have HS2 := Lib.hid hS2
  clear hS1 hg1 hM1 hr1 hS2 hsa hc1
  gi_wp2_with fail
  refine ⟨trivial, rfl, ?_⟩
  refine (callsIn_wide.2 (mark_all m _)).mono ?_
  rintro e w2 ⟨rfl, rfl⟩
  have hr3 := Raw.new hI1 #[.pointer (some ⟨m, 0, none⟩)] 33
  have h0 : rfI w.heap.size w1.heap.size m M w G [] (w1.alloc (.cells #[.pointer (some ⟨m, 0, none⟩)] 33)) G1 :=
    ⟨HS2.out.alloc _, Hr1.out.alloc _, hr3, HM1.out.step0 hI1 (((St.refl hI1).alloc _ : St (fun _ => False) w1.heap.size w1 G1 _ G1))⟩
  have hle1 : w.heap.size < w1.heap.size := Hr1.out.lt
  clear hr3
  gi_wp2
  clear hcb
  generalize hw2 : w1.alloc (.cells #[.pointer (some ⟨m, 0, none⟩)] 33) = w2 at *
  have hsz2 : w2.heap.size = w1.heap.size + 1 := by rw [← hw2]; simp
  clear hw2
  have hpm := fun l => (M.refillTo_same l)
  have Hpm := Lib.hid hpm
  clear hpm
  refine range_out (gf := 61) (lb := #[.pointer (some ⟨w1.heap.size, 0, none⟩)]) rfl (enters_of Try.func61 (by kernel_rfl) rfl) (mall_seq w1.heap.size m M.a M.s1 M.s2 M.g M.n M.mr) (fun _ => rfl)
    (rfI w.heap.size w1.heap.size m M w G) (fun _ _ _ _ => False)
    (fun x a' _ _ => a' = { tmps := #[.pointer (some ⟨m, 0, none⟩), .pointer (some ⟨w.heap.size, 0, none⟩), .int .i64 x, .pointer (some ⟨m, 0, none⟩), .pointer (some ⟨m, 0, none⟩), .pointer (some ⟨m, 3, none⟩), .pointer (some ⟨M.g, 0, none⟩), .tuple #[], .pointer (some ⟨m, 0, none⟩), .func (.func 61) #[] #[.pointer (some ⟨w1.heap.size, 0, none⟩)], .int .i64 x, undef, undef, undef, undef, undef, undef, undef, undef, undef], defers := [] })
    ?_ (fun _ _ _ _ h => h.elim) ?_ (fun _ _ _ _ _ _ h => h.elim) (fun _ _ _ _ _ _ h _ => h) h0 ?_ ?_ ?_ (fun _ _ _ _ _ _ _ _ h => h.elim)
  · rintro pre W G' ⟨h1, h2, h3, h4⟩
    obtain ⟨e1, e2, e3⟩ := Hpm.out pre
    simp only [Mk.ids, Prod.mk.injEq] at e1
    obtain ⟨i1, i2, i3, i4, i5, i6⟩ := e1
    have hr := h4.raw.heap
    have hs := h4.e1
    rw [i1, i2, i3, i4] at hr
    rw [i2, i5, e2] at hs
    exact ⟨h1.inv, ⟨h3.heap, hr, M.mr, hs, fun _ _ => rfl⟩, by have := h3.lt; omega⟩
  · intro pre W G' W' G'' h k
    exact h.step k (by omega)
  · intro l2 pre x W G' K hI' hK
    have hK' := hK _ W G' hI' rfl (Keep.refl _ _ _)
    clear hK
    dsimp only [encN]
    gi_wp2
    exact hK'
  · rintro l2 pre x a' W G' hl2 hgl ⟨r, hr⟩ ⟨h1, h2, h3, h4⟩ rfl hpre
    have hcb : W.cell? ⟨w.heap.size, 0, none⟩ = some (.pointer (some ⟨m, 0, none⟩)) := h2.cell 0
    have hI1 := h1.inv
    have H1 := Lib.hid h1
    have H2 := Lib.hid h2
    have H3 := Lib.hid h3
    have H4 := Lib.hid h4
    have Hr := Lib.hid hr
    clear h1 h2 h3 h4 hr
    have hge : (M.refillTo pre).isGrey x = M.isGrey x := by
      obtain ⟨-, e2, e3⟩ := Hpm.out pre
      unfold Mk.isGrey; rw [e2, e3]
    have hids := (Hpm.out pre).1
    have hT : (M.refillTo pre).T = M.T := Mk.T_ids hids
    have hg : (M.refillTo pre).g = M.g := by simp only [Mk.ids, Prod.mk.injEq] at hids; exact hids.2.2.2.1
    have Hge := Lib.hid hge
    have HT := Lib.hid hT
    have Hg := Lib.hid hg
    clear hge hids hT hg
    gi_wp2_with fail
    refine ⟨trivial, rfl, ?_⟩
    refine (CallsIn.inRound l2 (callsIn_wide.2 (mark_isGrey m (M.refillTo pre) x W G' hI1 H4.out))).mono ?_
    rintro e W1 ⟨rfl, G1, hS⟩
    rw [Hge.out]
    have HS := Lib.hid hS
    have hd := rfI.step ⟨H1.out, H2.out, H3.out, H4.out⟩ hS H1.out.le
    have hI2 := hS.inv
    have HD := Lib.hid hd
    have hcb2 : W1.cell? ⟨w.heap.size, 0, none⟩ = some (.pointer (some ⟨m, 0, none⟩)) := hd.2.1.cell 0
    have hcg2 : W1.cell? ⟨m, 3, none⟩ = some (.pointer (some ⟨M.g, 0, none⟩)) := by rw [← Hg.out]; exact hd.2.2.2.raw.cell 3
    clear hS hd
    cases hsc : M.isGrey x with
    | false =>
      have hfin : rpost w2.heap.size (rfI w.heap.size w1.heap.size m M w G) (fun _ _ _ _ => False) (pre ++ [x]) W G' .normal ⟨#[], []⟩ W1 := by
        refine ⟨G1, ⟨HD.out.1, HD.out.2.1, HD.out.2.2.1, ?_⟩, HS.out.keep _⟩
        rw [Mk.refillTo_snoc, hsc]; exact HD.out.2.2.2
      have Hfin := Lib.hid hfin
      clear hfin hsc
      gi_wp2
      exact Hfin.out
    | true =>
      have Hsc := Lib.hid hsc
      clear hsc
      gi_wp2_with fail
      refine ⟨trivial, rfl, ?_⟩
      have hpu := mark_push m (M.refillTo pre) x W1 G1 hI2 HD.out.2.2.2
      rw [Hg.out] at hpu
      refine (CallsIn.inRound l2 (callsIn_wide.2 hpu)).mono ?_
      clear hpu
      rintro e W2 ⟨⟨v, rfl⟩, G2, hM2, hS2⟩
      have hfin : rpost w2.heap.size (rfI w.heap.size w1.heap.size m M w G) (fun _ _ _ _ => False) (pre ++ [x]) W G' .normal ⟨#[], []⟩ W2 := by
        refine ⟨G2, ⟨HD.out.1.seq hS2 (fun _ h => h) (fun _ _ _ h => .inr (.inr h)), HD.out.2.1.step hS2, HD.out.2.2.1.step hS2, ?_⟩, (HS.out.keep _).trans (hS2.keep _)⟩
        rw [Mk.refillTo_snoc, Hsc.out]; exact hM2
      have Hfin := Lib.hid hfin
      clear hfin hM2 hS2
      gi_wp2
      exact Hfin.out
  · rintro D W G' hD hgd ⟨h1, h2, h3, h4⟩ hd
    have hs5 := h1.trans ((St.putPriv (T := fun _ => False) (B := w.heap.size) h1.inv (.deferred none) hgd (by omega)).mono (T' := M.T) (fun _ h => h.elim) (Nat.le_refl _)) (.inl (Nat.le_refl _))
    have hm5 := h4.step0 h1.inv (St.putPriv (T := fun _ => False) (B := w.heap.size) h1.inv (.deferred none) hgd (by omega))
    clear h1 h2 h3 h4
    gi_wp2
    refine ⟨by simp, .inl ⟨_, _, rfl, run_takeDeferred hd, ?_⟩⟩
    exact ⟨_, results_none rfl _ _ _, rfl, G', hm5, hs5⟩
end Go.Hw
