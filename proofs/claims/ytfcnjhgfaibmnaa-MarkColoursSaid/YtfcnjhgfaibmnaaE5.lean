/- Package mark: Trace. -/
import Derived.Test.YtfcnjhgfaibmnaaE4
import Derived.Test.YtfcnjhgfaibmnaaR1
import Derived.Sort.LoopGhostIn
namespace Go.Hw
open Go.RowKit Go.Proofs
attribute [local go_sem] Oper.semAt_some

def Mk.shadeL (M : Mk) (l : List Int) : Mk := l.foldl Mk.shade M
def Mk.scan (P : Int → List Int) (M : Mk) (r : Int) : Mk := Mk.shadeL { M with sc := putS M.n M.sc r } (P r)
def Mk.trace (P : Int → List Int) : Nat → Mk → Nat × Mk
  | 0, M => (0, M)
  | k + 1, M => match M.next.1 with
    | none => (0, M.next.2)
    | some r => ((Mk.trace P k (Mk.scan P M.next.2 r)).1 + 1, (Mk.trace P k (Mk.scan P M.next.2 r)).2)
theorem Mk.trace_none {P : Int → List Int} {M : Mk} (k : Nat) (h : M.next.1 = none) : Mk.trace P (k + 1) M = (0, M.next.2) := by rw [Mk.trace, h]
theorem Mk.trace_some {P : Int → List Int} {M : Mk} (k : Nat) {r : Int} (h : M.next.1 = some r) : Mk.trace P (k + 1) M = ((Mk.trace P k (Mk.scan P M.next.2 r)).1 + 1, (Mk.trace P k (Mk.scan P M.next.2 r)).2) := by rw [Mk.trace, h]

theorem Mk.ids_shade (M : Mk) (r : Int) : (M.shade r).ids = M.ids := by unfold Mk.shade; split <;> rfl
theorem Mk.ids_shadeL (l : List Int) : ∀ M : Mk, (M.shadeL l).ids = M.ids := by
  induction l with
  | nil => intro M; rfl
  | cons x l ih => intro M; exact (ih (M.shade x)).trans (M.ids_shade x)
theorem Mk.ids_scan (P : Int → List Int) (M : Mk) (r : Int) : (Mk.scan P M r).ids = M.ids := Mk.ids_shadeL _ _
theorem Mk.ids_pop (M : Mk) : M.pop.2.ids = M.ids ∧ M.pop.2.mr = M.mr ∧ M.pop.2.sc = M.sc := by unfold Mk.pop; split <;> exact ⟨rfl, rfl, rfl⟩
theorem Mk.ids_next (M : Mk) : M.next.2.ids = M.ids ∧ M.next.2.mr = M.mr ∧ M.next.2.sc = M.sc := by
  unfold Mk.next
  split
  · obtain ⟨h1, h2, h3⟩ := Mk.ids_pop (Mk.refill { M with st := [] })
    obtain ⟨e1, e2, e3⟩ := Mk.refillTo_same { M with st := [] } (els M.n M.mr)
    exact ⟨h1.trans e1, h2.trans e2, h3.trans e3⟩
  · exact M.ids_pop
theorem popR_grey {gr : Int → Bool} : ∀ {l : List Int} {r : Int} {t : List Int}, popR gr l = some (r, t) → gr r = true
  | [], _, _, h => by cases h
  | x :: l, r, t, h => by
    unfold popR at h
    split at h
    · cases h; assumption
    · exact popR_grey h
theorem Mk.pop_isGrey {M : Mk} {r : Int} (h : M.pop.1 = some r) : M.isGrey r = true := by
  unfold Mk.pop at h
  split at h
  · rename_i h1
    cases h
    exact popR_grey h1
  · cases h
theorem Mk.next_isGrey {M : Mk} {r : Int} (h : M.next.1 = some r) : M.isGrey r = true := by
  unfold Mk.next at h
  split at h
  · have := Mk.pop_isGrey h
    obtain ⟨e1, e2, e3⟩ := Mk.refillTo_same { M with st := [] } (els M.n M.mr)
    unfold Mk.isGrey at this ⊢
    rw [show (Mk.refill { M with st := [] }).mr = M.mr from e2, show (Mk.refill { M with st := [] }).sc = M.sc from e3] at this
    exact this
  · exact Mk.pop_isGrey h

def trPost (m : Nat) (M : Mk) (A : Ar) (S : Nat → Bool) (k : Nat) (w : World) (G : Gh) (e : Ending) (w' : World) : Prop :=
  mPost m M (.int .i64 (Mk.trace (pts A S) k M).1) (Mk.trace (pts A S) k M).2 w G e w'

theorem MkAt.arena {w w' : World} {G G' : Gh} {m : Nat} {M : Mk} {A : Ar} {S : Nat → Bool} {B : Nat} (h : MkAt w G m M) (hI : Inv w G) (hA : ArAt w G M.a A S) (d1 : M.s1 ≠ A.sp) (d2 : M.s2 ≠ A.sp) (k : St M.T B w G w' G') : ArAt w' G' M.a A S := by
  refine ⟨(k.ent _ (lay_lt hI (by rw [hA.ar]; rfl)) (by rw [hA.ar]; rfl) ?_).trans hA.ar, (k.ent _ (lay_lt hI (by rw [hA.st]; rfl)) (by rw [hA.st]; rfl) ?_).trans hA.st⟩
  · rintro (e | e | e)
    · have h1 := h.e1; rw [← e, hA.ar] at h1; cases h1
    · have h1 := h.e2; rw [← e, hA.ar] at h1; cases h1
    · have h1 := h.eg; rw [← e, hA.ar] at h1; cases h1
  · rintro (e | e | e)
    · exact d1 e.symm
    · exact d2 e.symm
    · have h1 := h.eg; rw [← e, hA.st] at h1; cases h1

structure TrB (m : Nat) (M : Mk) (A : Ar) (S : Nat → Bool) (w0 : World) (G0 : Gh) (N : Mk) (W : World) (G : Gh) : Prop where
  st : St M.T w0.heap.size w0 G0 W G
  raw : Raw W G w0.heap.size #[.pointer (some ⟨m, 0, none⟩)] 33
  mkr : MkAt W G m N
  ar : ArAt W G N.a A S
  ids : N.ids = M.ids

theorem TrB.step0 {m : Nat} {M N : Mk} {A : Ar} {S : Nat → Bool} {w0 W W' : World} {G0 G G' : Gh} {B : Nat} (h : TrB m M A S w0 G0 N W G) (k : St (fun _ => False) B W G W' G') (hB : w0.heap.size ≤ B) : TrB m M A S w0 G0 N W' G' :=
  ⟨h.st.trans (k.mono (fun _ h => h.elim) (Nat.le_refl _)) (.inl hB), h.raw.step k, h.mkr.step0 h.st.inv k, h.ar.step0 h.st.inv k, h.ids⟩
theorem TrB.on {m : Nat} {M N N' : Mk} {A : Ar} {S : Nat → Bool} {w0 W W' : World} {G0 G G' : Gh} (h : TrB m M A S w0 G0 N W G) (d1 : M.s1 ≠ A.sp) (d2 : M.s2 ≠ A.sp) (k : Step N.T W G W' G') (hM : MkAt W' G' m N') (hi : N'.ids = N.ids) : TrB m M A S w0 G0 N' W' G' := by
  have hid := h.ids
  have hT := Mk.T_ids hid
  have hid2 := hi
  simp only [Mk.ids, Prod.mk.injEq] at hid hid2
  have ha : ArAt W' G' N.a A S := h.mkr.arena h.st.inv h.ar (by rw [hid.2.1]; exact d1) (by rw [hid.2.2.1]; exact d2) k
  refine ⟨?_, h.raw.step k, hM, by rw [hid2.1]; exact ha, hi.trans h.ids⟩
  rw [hT] at k
  exact h.st.trans (B' := W.heap.size) k (.inl h.st.le)

abbrev trA (m : Nat) (n k : Int) (b j : Nat) (ds : List Deferred) (x5 x6 x7 x12 x13 x14 x15 x16 x17 x18 x19 x20 x21 x22 x23 x24 x25 x26 x27 x28 x29 x30 x31 x32 x33 x38 : Value) : Act :=
  { tmps := #[.pointer (some ⟨m, 0, none⟩), .int .i64 n, .pointer (some ⟨b, 0, none⟩), undef, .int .i64 0, x5, x6, x7, undef, .int .i64 n, .int .i64 k, .int .i64 j, x12, x13, x14, x15, x16, x17, x18, x19, x20, x21, x22, x23, x24, x25, x26, x27, x28, x29, x30, x31, x32, x33, undef, undef, undef, undef, x38, undef, undef], defers := ds }

abbrev trA' (m : Nat) (n : Int) (b : Nat) : Act :=
  { tmps := #[.pointer (some ⟨m, 0, none⟩), .int .i64 n, .pointer (some ⟨b, 0, none⟩), undef, .int .i64 0, undef, undef, undef, undef, .int .i64 n, .int .i64 0, .int .i64 0, undef, undef, undef, undef, undef, undef, undef, undef, undef, undef, undef, undef, undef, undef, undef, undef, undef, undef, undef, undef, undef, undef, undef, undef, undef, undef, undef, undef, undef], defers := [] }
def trI (m : Nat) (M : Mk) (A : Ar) (S : Nat → Bool) (k : Nat) (w0 : World) (G0 : Gh) (i : Nat) (a : Act) (W : World) : Prop :=
  ∃ (j : Nat) (N : Mk) (G : Gh) (ds : List Deferred), i + j = k ∧ TrB m M A S w0 G0 N W G ∧ Marks w0.heap.size W.heap.size ds W G ∧ Mk.trace (pts A S) k M = (j + (Mk.trace (pts A S) i N).1, (Mk.trace (pts A S) i N).2) ∧
  ∃ x5 x6 x7 x12 x13 x14 x15 x16 x17 x18 x19 x20 x21 x22 x23 x24 x25 x26 x27 x28 x29 x30 x31 x32 x33 x38, a = trA m k k w0.heap.size j ds x5 x6 x7 x12 x13 x14 x15 x16 x17 x18 x19 x20 x21 x22 x23 x24 x25 x26 x27 x28 x29 x30 x31 x32 x33 x38

theorem TrB.leave {m : Nat} {M N : Mk} {A : Ar} {S : Nat → Bool} {w0 W : World} {G0 G : Gh} {k : Nat} {hi : Nat} {ds : List Deferred} {tmps : Array Value} {v : Int} (hB : TrB m M A S w0 G0 N W G) (hMk : Marks w0.heap.size hi ds W G)
    (h4 : tmps.getD 4 undef = .int .i64 v) (htr : Mk.trace (pts A S) k M = (v.toNat, N)) (hv : 0 ≤ v) : bodyPostM Wd 0 Try.prog Try.f17 (trPost m M A S k w0 G0) .ret { tmps := tmps, defers := ds } W := by
  refine leave_marks hB.st.inv hMk fun W' hS _ => ⟨_, results_tmp (t := 4) rfl tmps _ _, ?_⟩
  rw [h4]
  have h := hB.step0 hS (Nat.le_refl _)
  unfold trPost
  rw [htr]
  refine ⟨by rw [show ((v.toNat : Nat) : Int) = v by omega], G, h.mkr, h.st⟩

def trR (m : Nat) (M : Mk) (A : Ar) (S : Nat → Bool) (b1 b2 : Nat) (r : Int) (w0 : World) (G0 : Gh) (ds : List Deferred) (N : Mk) (pre : List Int) (W : World) (G : Gh) : Prop :=
  TrB m M A S w0 G0 (N.shadeL pre) W G ∧ Marks w0.heap.size b1 ds W G ∧ Raw W G b1 #[.pointer (some ⟨N.a, 0, none⟩)] 28 ∧ Raw W G b2 #[.int .i64 r] 36
theorem trR.step0 {m : Nat} {M : Mk} {A : Ar} {S : Nat → Bool} {b1 b2 : Nat} {r : Int} {w0 : World} {G0 : Gh} {ds : List Deferred} {N : Mk} {pre : List Int} {W W' : World} {G G' : Gh} {B : Nat} (h : trR m M A S b1 b2 r w0 G0 ds N pre W G) (k : St (fun _ => False) B W G W' G') (hB : w0.heap.size ≤ B) (hb : b1 ≤ B) : trR m M A S b1 b2 r w0 G0 ds N pre W' G' :=
  ⟨h.1.step0 k hB, h.2.1.st k hb, h.2.2.1.step k, h.2.2.2.step k⟩
theorem grey_lt {w : World} {G : Gh} {m : Nat} {M : Mk} {r : Int} (hM : MkAt w G m M) (hI : Inv w G) (h : M.isGrey r = true) : 0 ≤ r ∧ r ≤ 1000000 := by
  have hl := hI.lay M.s1
  rw [hM.e1] at hl
  obtain ⟨h1, ws, -, -, -, h2, -⟩ := hl
  simp only [Mk.isGrey, hasR, Bool.and_eq_true, decide_eq_true_eq] at h
  have := h2 _ h.1.2
  omega
theorem word_zero {A : Ar} {S : Nat → Bool} (hW : Wf A S) (i : Int) : wordAt A S 0 i = 0 := by
  have : S 0 = false := by
    cases h : S 0 with
    | false => rfl
    | true => have := (hW.fits 0 h).1; omega
  simp [wordAt, wordOk, hasR, this]
theorem shadeL_snoc (N : Mk) (l : List Int) (x : Int) : N.shadeL (l ++ [x]) = (N.shadeL l).shade x := by simp [Mk.shadeL]

set_option maxRecDepth 100000 in
set_option maxHeartbeats 2000000 in
theorem mark_trace_pos (m : Nat) (M : Mk) (A : Ar) (S : Nat → Bool) (k : Nat) (hn : k ≤ 100000) (hW : Wf A S) (hfl : ∀ r, wordAt A S r 0 ≤ 100) (hd1 : M.s1 ≠ A.sp) (hd2 : M.s2 ≠ A.sp) (w : World) (G : Gh) (hI : Inv w G) (hM : MkAt w G m M) (hA : ArAt w G M.a A S) :
    Calls Try.prog 17 #[.pointer (some ⟨m, 0, none⟩), .int .i64 k] w (trPost m M A S k w G) := by
  have hlm : m < w.heap.size := hM.raw.lt
  have HW := Lib.hid hW
  have Hfl := Lib.hid hfl
  have Hd1 := Lib.hid hd1
  have Hd2 := Lib.hid hd2
  have hr3 := Raw.new hI #[.pointer (some ⟨m, 0, none⟩)] 33
  have hb0 : TrB m M A S w G M (w.alloc (.cells #[.pointer (some ⟨m, 0, none⟩)] 33)) G :=
    ⟨(St.refl hI).alloc _, hr3, hM.step0 hI (((St.refl hI).alloc _ : St (fun _ => False) w.heap.size w G _ G)), hA.step0 hI (((St.refl hI).alloc _ : St (fun _ => False) w.heap.size w G _ G)), rfl⟩
  have Hb0 := Lib.hid hb0
  clear hM hA hW hfl hd1 hd2 hr3 hb0
  refine (callsIn_wide (n := 0)).1 ?_
  refine callsIn_of_wp_marks Try.func17 rfl trivial ?_ rfl
  simp only [Try.ntmps17, List.size_toArray, List.length_cons, List.length_nil, Nat.reduceAdd, Nat.reduceSub, Array.replicate_succ, Array.replicate_zero, List.push_toArray, List.append_toArray, List.nil_append, List.cons_append]
  gi_wp2
  refine wpIn_loop_ghost (trI m M A S k w G) k ?_ ?_
  · refine ⟨0, M, G, [], by omega, Hb0.out, Marks.nil _ _ _ _, by simp, ?_⟩
    exact ⟨_, _, _, _, _, _, _, _, _, _, _, _, _, _, _, _, _, _, _, _, _, _, _, _, _, _, rfl⟩
  · rintro i a wr ⟨j, N, G1, ds, hij, hB, hMk, htr, x5, x6, x7, x12, x13, x14, x15, x16, x17, x18, x19, x20, x21, x22, x23, x24, x25, x26, x27, x28, x29, x30, x31, x32, x33, x38, rfl⟩
    have hcb : wr.cell? ⟨w.heap.size, 0, none⟩ = some (.pointer (some ⟨m, 0, none⟩)) := hB.raw.cell 0
    have HB := Lib.hid hB
    have HMk := Lib.hid hMk
    have Htr := Lib.hid htr
    have hI1 := hB.st.inv
    clear hB hMk htr
    cases i with
    | zero =>
      obtain rfl : j = k := by omega
      have hfin : Mk.trace (pts A S) j M = ((j : Int).toNat, N) := by rw [Htr.out, Mk.trace]; simp
      have Hfin := Lib.hid hfin
      clear hfin
      gi_wp2
      exact HB.out.leave HMk.out rfl Hfin.out (by omega)
    | succ i =>
      have hlt : j < k := by omega
      gi_wp2_with fail
      refine ⟨trivial, rfl, ?_⟩
      refine (callsIn_wide.2 (mark_next m N wr G1 hI1 HB.out.mkr)).mono ?_
      rintro e w1 ⟨rfl, G2, hM2, hS2⟩
      have hB2 := HB.out.on Hd1.out Hd2.out hS2 hM2 N.ids_next.1
      have hMk2 := HMk.out.step hS2
      have hle2 := hS2.le
      have HB2 := Lib.hid hB2
      have HMk2 := Lib.hid hMk2
      have HI1 := Lib.hid hI1
      clear hB2 hMk2 hM2 hS2 hI1 hcb
      cases hnx : N.next.1 with
      | none =>
        have hfin : Mk.trace (pts A S) k M = ((j : Int).toNat, N.next.2) := by rw [Htr.out, Mk.trace_none _ hnx]; simp
        have Hfin := Lib.hid hfin
        clear hfin hnx
        dsimp only [nextV]
        gi_wp2
        exact HB2.out.leave HMk2.out rfl Hfin.out (by omega)
      | some r =>
        have htr : Mk.trace (pts A S) k M = ((j + 1 : Nat) + (Mk.trace (pts A S) i (Mk.scan (pts A S) N.next.2 r)).1, (Mk.trace (pts A S) i (Mk.scan (pts A S) N.next.2 r)).2) := by
          rw [Htr.out, Mk.trace_some _ hnx]; simp; omega
        have Htr2 := Lib.hid htr
        clear htr Htr
        obtain ⟨hr0, hr1⟩ := grey_lt HB.out.mkr HI1.out (Mk.next_isGrey hnx)
        clear hnx HB HMk
        generalize hN2 : N.next.2 = N2 at *
        have hcb2 : w1.cell? ⟨w.heap.size, 0, none⟩ = some (.pointer (some ⟨m, 0, none⟩)) := HB2.out.raw.cell 0
        have hc2 : w1.cell? ⟨m, 2, none⟩ = some (.pointer (some ⟨N2.s2, 0, none⟩)) := HB2.out.mkr.raw.cell 2
        dsimp only [nextV]
        gi_wp2_with fail
        refine ⟨trivial, rfl, ?_⟩
        refine (callsIn_wide.2 (mark_put2 m N2 r w1 G2 HB2.out.st.inv HB2.out.mkr)).mono ?_
        rintro e w2 ⟨rfl, G3, hM3, hS3⟩
        generalize (decide (0 ≤ r ∧ r < (N2.n : Int)) && !N2.sc r.toNat) = bb at *
        have hN3 : ({ N2 with sc := putS N2.n N2.sc r } : Mk).ids = N2.ids := rfl
        have hscan : Mk.scan (pts A S) N2 r = Mk.shadeL { N2 with sc := putS N2.n N2.sc r } (pts A S r) := rfl
        have hB3 := HB2.out.on Hd1.out Hd2.out hS3 hM3 hN3
        rw [hscan] at Htr2
        generalize hNe : ({ N2 with sc := putS N2.n N2.sc r } : Mk) = N3 at *
        have hMk3 := (HMk2.out.step hS3).wide (Nat.le_refl _) (Nat.le_trans hle2 hS3.le)
        have HB3 := Lib.hid hB3
        have HMk3 := Lib.hid hMk3
        have hle3 := hB3.st.le
        clear hNe hB3 hMk3 hM3 hS3 hN3 hscan hcb2 hc2 HMk2 HB2
        have hcb3 : w2.cell? ⟨w.heap.size, 0, none⟩ = some (.pointer (some ⟨m, 0, none⟩)) := HB3.out.raw.cell 0
        have hc3 : w2.cell? ⟨m, 0, none⟩ = some (.pointer (some ⟨N3.a, 0, none⟩)) := HB3.out.mkr.raw.cell 0
        gi_wp2_with fail
        refine ⟨trivial, rfl, ?_⟩
        refine (callsIn_wide.2 (cell_points N3.a r w2)).mono ?_
        rintro e w3 ⟨rfl, hw3⟩
        have h0 : trR m M A S w2.heap.size (w2.heap.size + 1) r w G ds N3 [] w3 G3 := by
          have hI3 := HB3.out.st.inv
          have hst : St (fun _ => False) w2.heap.size w2 G3 w3 G3 := by rw [hw3]; exact ((St.refl hI3).alloc _).alloc _
          refine ⟨HB3.out.step0 hst (by omega), HMk3.out.st hst (Nat.le_refl _), ?_, ?_⟩
          · rw [hw3]; exact (Raw.new hI3 _ _).alloc _
          · have h := Raw.new (hI3.alloc (.cells #[.pointer (some ⟨N3.a, 0, none⟩)] 28)) #[.int .i64 r] 36
            rw [World.size_alloc] at h; rw [hw3]; exact h
        have hsz3 : w3.heap.size = w2.heap.size + 2 := by rw [hw3]; simp
        have H0 := Lib.hid h0
        clear hw3 h0 hcb3 hc3
        gi_wp2
        refine range_out (gf := 68) (lb := #[.pointer (some ⟨w2.heap.size, 0, none⟩), .pointer (some ⟨w2.heap.size + 1, 0, none⟩)]) rfl (enters_of Try.func68 (by kernel_rfl) rfl) (pts_seq w2.heap.size (w2.heap.size + 1) N3.a A S r (by omega) HW.out (Hfl.out r) (fun e => by rw [e]; exact word_zero HW.out 0)) (fun _ => rfl)
          (trR m M A S w2.heap.size (w2.heap.size + 1) r w G ds N3) (fun _ _ _ _ => False)
          (fun x a' _ _ => a' = { tmps := #[.pointer (some ⟨m, 0, none⟩), .int .i64 k, .pointer (some ⟨w.heap.size, 0, none⟩), undef, .int .i64 0, .int .i64 j, .int .i64 r, .bool true, .int .i64 x, .int .i64 k, .int .i64 k, .int .i64 j, .bool true, .int .i64 j, .tuple #[.int .i64 r, .bool true], .pointer (some ⟨m, 0, none⟩), .tuple #[.int .i64 r, .bool true], .int .i64 r, .bool true, .bool true, .bool false, x21,
            .pointer (some ⟨m, 0, none⟩), .pointer (some ⟨m, 0, none⟩), .pointer (some ⟨m, 2, none⟩), .pointer (some ⟨N2.s2, 0, none⟩), .int .i64 r, .bool bb, .pointer (some ⟨m, 0, none⟩), .pointer (some ⟨m, 0, none⟩), .pointer (some ⟨m, 0, none⟩), .pointer (some ⟨N3.a, 0, none⟩), .int .i64 r,
            .func (.func 68) #[] #[.pointer (some ⟨w2.heap.size, 0, none⟩), .pointer (some ⟨w2.heap.size + 1, 0, none⟩)], .int .i64 x, undef, undef, undef, x38, undef, undef], defers := [] })
          ?_ (fun _ _ _ _ h => h.elim) ?_ (fun _ _ _ _ _ _ h => h.elim) (fun _ _ _ _ _ _ h _ => h) H0.out ?_ ?_ ?_ (fun _ _ _ _ _ _ _ _ h => h.elim)
        · rintro pre W G' ⟨h1, h2, h3, h4⟩
          have hids := Mk.ids_shadeL pre N3
          simp only [Mk.ids, Prod.mk.injEq] at hids
          have har := h1.ar
          rw [hids.1] at har
          have h5 := h3.lt
          have h6 := h4.lt
          exact ⟨h1.st.inv, ⟨h3.heap, h4.heap, har⟩, by omega⟩
        · intro pre W G' W' G'' h k
          exact h.step0 k (by omega) (by omega)
        · intro l2 pre x W G' K hI' hK
          have hK' := hK _ W G' hI' rfl (Keep.refl _ _ _)
          clear hK
          dsimp only [encI]
          gi_wp2
          exact hK'
        · rintro l2 pre x a' W G' hl2 hgl ⟨q, hq⟩ hR rfl hpre
          have hcb : W.cell? ⟨w.heap.size, 0, none⟩ = some (.pointer (some ⟨m, 0, none⟩)) := hR.1.raw.cell 0
          have HR := Lib.hid hR
          have Hq := Lib.hid hq
          clear hR hq hpre
          gi_wp2_with fail
          refine ⟨trivial, rfl, ?_⟩
          refine (CallsIn.inRound l2 (callsIn_wide.2 (mark_shade m (N3.shadeL pre) x W G' HR.out.1.st.inv HR.out.1.mkr))).mono ?_
          rintro e W1 ⟨rfl, G4, hM4, hS4⟩
          have hB4 := HR.out.1.on Hd1.out Hd2.out hS4 hM4 (Mk.ids_shade _ _)
          have hfin : rpost w3.heap.size (trR m M A S w2.heap.size (w2.heap.size + 1) r w G ds N3) (fun _ _ _ _ => False) (pre ++ [x]) W G' .normal ⟨#[], []⟩ W1 :=
            ⟨G4, ⟨by rw [shadeL_snoc]; exact hB4, HR.out.2.1.step hS4, HR.out.2.2.1.step hS4, HR.out.2.2.2.step hS4⟩, hS4.keep _⟩
          have Hfin := Lib.hid hfin
          clear hfin hM4 hS4 hB4 hcb
          gi_wp2
          exact Hfin.out
        · rintro D W G' hD hgd hR hd
          obtain ⟨h1, h2, h3, h4⟩ := hR
          have hMk4 : Marks w.heap.size W.heap.size ({ target := .collected D, args := #[] } :: ds) W G' :=
            h2.cons (by omega) (by omega) (Array.getElem?_eq_some_iff.1 hd).1 hgd hd
          have hrel : ∃ n', n' < i + 1 ∧ n' + (j + 1) = k := ⟨i, by omega, by omega⟩
          have H1 := Lib.hid h1
          have HMk4 := Lib.hid hMk4
          clear h1 h2 h3 h4 hMk4 hd hgd hrel
          gi_wp2
          refine ⟨i, Nat.lt_succ_self _, j + 1, N3.shadeL (pts A S r), G', _, by omega, H1.out, HMk4.out, Htr2.out, ?_⟩
          exact ⟨_, _, _, _, _, _, _, _, _, _, _, _, _, _, _, _, _, _, _, _, _, _, _, _, _, _, rfl⟩

set_option maxRecDepth 100000 in
set_option maxHeartbeats 1000000 in
theorem mark_trace_neg (m : Nat) (M : Mk) (A : Ar) (S : Nat → Bool) (n : Int) (hn : n < 0) (hn0 : -100000 ≤ n) (w : World) (G : Gh) (hI : Inv w G) (hM : MkAt w G m M) :
    Calls Try.prog 17 #[.pointer (some ⟨m, 0, none⟩), .int .i64 n] w (trPost m M A S 0 w G) := by
  have hfin : trPost m M A S 0 w G (.returned (.int .i64 0)) (w.alloc (.cells #[.pointer (some ⟨m, 0, none⟩)] 33)) := by
    have hst : Step M.T w G (w.alloc (.cells #[.pointer (some ⟨m, 0, none⟩)] 33)) G := (St.refl hI).alloc _
    exact ⟨rfl, G, ⟨hM.raw.alloc _, hM.e1, hM.e2, hM.eg, hM.ne, hM.r1, hM.r2, hM.len⟩, hst⟩
  have Hfin := Lib.hid hfin
  clear hfin hM
  refine (callsIn_wide (n := 0)).1 ?_
  refine callsIn_of_wp_marks Try.func17 rfl trivial ?_ rfl
  simp only [Try.ntmps17, List.size_toArray, List.length_cons, List.length_nil, Nat.reduceAdd, Nat.reduceSub, Array.replicate_succ, Array.replicate_zero, List.push_toArray, List.append_toArray, List.nil_append, List.cons_append]
  gi_wp2
  refine wpIn_loop_ghost (fun _ a W => a = trA' m n w.heap.size ∧ W = w.alloc (.cells #[.pointer (some ⟨m, 0, none⟩)] 33)) 0 ⟨rfl, rfl⟩ ?_
  rintro i a wr ⟨rfl, rfl⟩
  gi_wp2
  exact ⟨_, results_tmp (t := 4) rfl _ _ _, Hfin.out⟩
theorem mark_trace (m : Nat) (M : Mk) (A : Ar) (S : Nat → Bool) (n : Int) (hn : n ≤ 100000) (hn0 : -100000 ≤ n) (hW : Wf A S) (hfl : ∀ r, wordAt A S r 0 ≤ 100) (hd1 : M.s1 ≠ A.sp) (hd2 : M.s2 ≠ A.sp) (w : World) (G : Gh) (hI : Inv w G) (hM : MkAt w G m M) (hA : ArAt w G M.a A S) :
    Calls Try.prog 17 #[.pointer (some ⟨m, 0, none⟩), .int .i64 n] w (trPost m M A S n.toNat w G) := by
  by_cases h : n < 0
  · rw [show n.toNat = 0 by omega]; exact mark_trace_neg m M A S n h hn0 w G hI hM
  · have := mark_trace_pos m M A S n.toNat (by omega) hW hfl hd1 hd2 w G hI hM hA
    rwa [show ((n.toNat : Nat) : Int) = n by omega] at this
end Go.Hw
