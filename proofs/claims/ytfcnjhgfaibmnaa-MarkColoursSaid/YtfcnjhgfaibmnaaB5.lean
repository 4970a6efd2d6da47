/- MarkColours: the body. -/
import Derived.Test.YtfcnjhgfaibmnaaB3
import Derived.Test.YtfcnjhgfaibmnaaB4
import Derived.Test.YtfcnjhgfaibmnaaR6
namespace Go.Hw
open Go.RowKit Go.Proofs Go.ChangeShapes
attribute [local go_sem] Oper.semAt_some

theorem run_equalIn_same {P : Program} (w : World) (d : Nat) (t e : TypeId) (i : TypeInfo) (a : Nat) (h : P.underlying t = some (.pointer e)) (hi : P.info? e = some i) (hs : i.size ≠ 0) : (Op.equalIn (d + 1) t (.pointer (some ⟨a, 0, none⟩)) (.pointer (some ⟨a, 0, none⟩))).run P w = .ok true w := by
  simp [Op.equalIn, run_underlying h, sizeOf, typeInfo, hi, hs, sameAddr]
theorem run_neq_same {P : Program} (w : World) (t e : TypeId) (i : TypeInfo) (a : Nat) (h : P.underlying t = some (.pointer e)) (hi : P.info? e = some i) (hs : i.size ≠ 0) : (binOp .neq t (.pointer (some ⟨a, 0, none⟩)) (.pointer (some ⟨a, 0, none⟩))).run P w = .ok (.bool false) w := by
  have h1 : (Op.equal t (.pointer (some ⟨a, 0, none⟩)) (.pointer (some ⟨a, 0, none⟩))).run P w = .ok true w := run_equalIn_same w 9999 t e i a h hi hs
  simp only [binOp]
  simp [h1]
theorem info_arena : (Try.prog.info? 97).map (fun i => i.size) = some 4 := by kernel_rfl
theorem neq_arena (a : Nat) (w : World) : (binOp .neq 28 (.pointer (some ⟨a, 0, none⟩)) (.pointer (some ⟨a, 0, none⟩))).run Try.prog w = .ok (.bool false) w := by
  obtain ⟨i, hi, hs⟩ := Option.map_eq_some_iff.1 info_arena
  exact run_neq_same w _ 97 i a Try.underlying28 hi (by rw [hs]; decide)

/-- What lies between the deeds: the marker's colours are f, the map's g. -/
structure ClAt (K : LK) (m rc cb bw : Nat) (v3 : Value) (nw : Nat) (fw : Nat → Nat → Int) (k : Nat) (M : Mk) (f g : Int → Int) (W : World) (G : Gh) : Prop where
  lm : LM K m M W G
  col : ColAt M K.l f
  mp : ∃ n ks, n ≤ k ∧ IMapAt W G bw n g ks
  rr : Raw W G rc #[.bool false] 4
  rb : Raw W G cb #[.map (some bw)] 38
  dd : IntRows .u8 2 W G v3 nw fw
  gx : GrpAt W G K.bm K.base K.n K.tab (fun g => g = bw)
  lo : K.w0.heap.size ≤ bw
  lt : m < bw ∧ K.bm < bw ∧ rc < bw ∧ cb = bw + 1
  rl : ∀ g, K.v.ownBlock = some g → g < bw
  dl : ∀ i, i < nw → ∀ a l c, v3 = .slice (some a) l c → a.block < bw
section
variable {K : LK} {m rc cb bw : Nat} {v3 : Value} {nw : Nat} {fw : Nat → Nat → Int} {k : Nat} {M M' : Mk} {f g : Int → Int} {W W' : World} {G G' : Gh}
theorem ClAt.step (h : ClAt K m rc cb bw v3 nw fw k M f g W G) {T : Nat → Prop} (hk : Step T W G W' G') (hl : LM K m M' W' G') {f' : Int → Int} (hc : ColAt M' K.l f') : ClAt K m rc cb bw v3 nw fw k M' f' g W' G' := by
  obtain ⟨n, ks, hn, hm⟩ := h.mp
  exact ⟨hl, hc, ⟨n, ks, hn, hm.step hk⟩, h.rr.step hk, h.rb.step hk, h.dd.step hk, h.gx.step hk, h.lo, h.lt, h.rl, h.dl⟩
theorem ClAt.step0 (h : ClAt K m rc cb bw v3 nw fw k M f g W G) (hk : Step (fun _ => False) W G W' G') : ClAt K m rc cb bw v3 nw fw k M f g W' G' :=
  h.step hk (h.lm.step0 hk) h.col
theorem ClAt.look (h : ClAt K m rc cb bw v3 nw fw k M f g W G) {r : Int} (hr : -9223372036854775808 ≤ r ∧ r ≤ 9223372036854775807) : (Instr.lookup 38 (.map (some bw)) (.int .i64 r) false).run Try.prog W = .ok (.int .i64 (g r)) W := by
  obtain ⟨n, ks, hn, hm⟩ := h.mp
  exact hm.look hr
theorem ClAt.later (h : ClAt K m rc cb bw v3 nw fw k M f g W G) {k' : Nat} (hk : k ≤ k') : ClAt K m rc cb bw v3 nw fw k' M f g W G := by
  obtain ⟨n, ks, hn, hm⟩ := h.mp
  exact ⟨h.lm, h.col, ⟨n, ks, by omega, hm⟩, h.rr, h.rb, h.dd, h.gx, h.lo, h.lt, h.rl, h.dl⟩
/-- The store into the map. -/
theorem ClAt.put (h : ClAt K m rc cb bw v3 nw fw k M f g W G) (hk : k ≤ 1000) {r v : Int} (hr : -9223372036854775808 ≤ r ∧ r ≤ 9223372036854775807) (hv : 0 ≤ v ∧ v ≤ 2) :
    ∃ W', (Instr.mapUpdate 38 (.map (some bw)) (.int .i64 r) (.int .i64 v)).run Try.prog W = .ok () W' ∧ ClAt K m rc cb bw v3 nw fw (k + 1) M f (updF g r v) W' G := by
  obtain ⟨n, ks, hn, hm⟩ := h.mp
  obtain ⟨W', hrun, hm', hg⟩ := hm.put (by omega) hr (v := v) (by omega)
  obtain ⟨l1, l2, l3, l4⟩ := h.lt
  have hS : Step (fun _ => False) K.w0 K.G0 W' G := h.lm.lw.st.mapPut h.lo hm.raw hg
  have hraw : ∀ {b : Nat} {c : Array Value} {t : TypeId}, Raw W G b c t → b ≠ bw → Raw W' G b c t := fun hr hne => hr.grown hg (fun e => hne (by cases e; rfl))
  have hgx := h.gx.kept hg (fun e => by cases e; omega) (fun g e => by cases e; rfl)
  have hM := h.lm.mi
  refine ⟨W', hrun, ⟨⟨⟨hS, ⟨h.lm.lw.ar.ar, h.lm.lw.ar.st⟩, h.lm.lw.row.kept hg (fun g e e2 => by have := h.rl g e; cases e2; omega), hgx.also (fun g hg => hg.elim)⟩, ⟨hraw hM.mk'.raw (by omega), hM.mk'.e1, hM.mk'.e2, hM.mk'.eg, hM.mk'.ne, hM.mk'.r1, hM.mk'.r2, hM.mk'.len⟩, hM.ea, hM.en, hM.ab, hM.d1, hM.d2⟩,
    h.col, ⟨n + 1, _, by omega, hm'⟩, hraw h.rr (by omega), hraw h.rb (by omega), ?_, hgx, h.lo, h.lt, h.rl, h.dl⟩⟩
  obtain ⟨p, cap, h1, h2, h3⟩ := h.dd
  refine ⟨p, cap, h1, h2, fun i hi => ?_⟩
  obtain ⟨a, e1, e2, e3, e4⟩ := h3 i hi
  have hlt := h.dl i hi a nw cap (by rw [h1, e1])
  have hb : W'.heap[a.block]? = W.heap[a.block]? := hg.block a.block e3 (fun e => by cases e; omega)
  exact ⟨a, e1, e2, Nat.lt_of_lt_of_le e3 hg.size, fun j hj => ⟨(World.cell?_of_block (by rw [add_block]; exact hb)).trans (e4 j hj).1, (e4 j hj).2⟩⟩
end

abbrev clX (u : Nat → Value) (m cb b : Nat) (x : Int) : Act := { tmps := #[u 0, u 1, u 2, u 3, u 4, u 5, u 6, u 7, .pointer (some ⟨m, 0, none⟩), .pointer (some ⟨cb, 0, none⟩), u 10, u 11, u 12, u 13, u 14, u 15, u 16, u 17, .pointer (some ⟨b, 0, none⟩), .pointer (some ⟨b + 1, 0, none⟩), .int .i64 x, u 21, u 22, u 23, u 24, u 25, u 26, u 27, u 28, u 29, u 30, u 31, u 32, u 33, u 34, u 35, u 36, u 37, u 38, u 39, u 40, u 41, u 42, u 43, u 44, u 45, u 46, u 47, u 48, u 49, u 50, u 51, u 52, u 53, u 54, u 55, u 56, u 57, u 58, u 59, u 60, u 61, u 62, u 63, u 64, u 65, u 66, u 67, u 68, u 69, u 70, u 71, u 72, u 73, u 74, u 75, u 76, u 77, u 78, u 79, u 80, u 81, u 82, u 83, u 84, u 85, u 86, u 87, u 88, u 89, u 90, u 91, u 92, u 93, u 94, u 95, u 96, u 97, u 98, u 99, u 100, u 101, u 102, u 103, u 104, u 105, u 106, u 107, u 108, u 109, u 110, u 111, u 112, u 113, u 114, u 115, u 116, u 117, u 118, u 119, u 120, u 121, u 122, u 123, u 124, u 125, u 126, u 127, u 128, u 129, u 130, u 131, u 132, u 133, u 134, u 135, u 136, u 137, u 138, u 139, u 140, u 141, u 142, u 143, u 144, u 145, u 146, u 147, u 148, u 149, u 150, u 151, u 152, u 153, u 154, u 155, u 156, u 157, u 158, u 159, u 160, u 161, u 162, u 163, u 164, u 165, u 166, u 167, u 168, u 169, u 170, u 171, u 172, u 173, u 174, u 175, u 176, u 177, u 178, u 179, u 180, u 181, u 182, u 183, u 184, u 185, u 186, u 187, u 188, u 189, u 190, u 191, u 192, u 193, u 194, u 195, u 196], defers := [] }
/-- In the range over all: the numbers counted, and the last one. -/
def lastOf (pre : List Nat) : Nat := pre.getLast?.getD 0
structure AlAt (w0 : World) (G0 : Gh) (m : Nat) (M : Mk) (f : Int → Int) (rc cb bw b : Nat) (pre : List Nat) (W : World) (G : Gh) : Prop where
  st : Step (fun _ => False) w0 G0 W G
  mk' : MkAt W G m M
  mp : ∃ n ks, IMapAt W G bw n f ks
  rr : Raw W G rc #[.bool false] 4
  rb : Raw W G cb #[.map (some bw)] 38
  rk : Raw W G b #[.int .i64 pre.length] 3
  rl : Raw W G (b + 1) #[.int .i64 (lastOf pre)] 36
  rx : Raw W G (b + 1 + 1) #[.pointer (some ⟨m, 0, none⟩)] 33
  lo : w0.heap.size ≤ rc ∧ w0.heap.size ≤ b
  lt : m < b ∧ rc < b ∧ cb < b ∧ bw < b
section
variable {w0 W W' : World} {G0 G G' : Gh} {m : Nat} {M : Mk} {f : Int → Int} {rc cb bw b : Nat} {pre : List Nat}
theorem AlAt.step0 (h : AlAt w0 G0 m M f rc cb bw b pre W G) {B : Nat} (k : St (fun _ => False) B W G W' G') (hB : w0.heap.size ≤ B) : AlAt w0 G0 m M f rc cb bw b pre W' G' := by
  obtain ⟨n, ks, hm⟩ := h.mp
  exact ⟨h.st.trans k (.inl hB), h.mk'.step0 h.st.inv k, ⟨n, ks, hm.step k⟩, h.rr.step k, h.rb.step k, h.rk.step k, h.rl.step k, h.rx.step k, h.lo, h.lt⟩
theorem grown_set (W : World) (b : Nat) (v : Value) : W.grownBy (W.setCell ⟨b, 0, none⟩ v) (some b) := ⟨rfl, rfl, rfl, by simp, fun i _ hi => heap_setCell_ne W _ v (fun e => hi (by rw [e]))⟩
theorem AlAt.put (h : AlAt w0 G0 m M f rc cb bw b pre W G) (x : Nat) :
    AlAt w0 G0 m M f rc cb bw b (pre ++ [x]) ((W.setCell ⟨b + 1, 0, none⟩ (.int .i64 x)).setCell ⟨b, 0, none⟩ (.int .i64 ((pre.length : Int) + 1))) G := by
  obtain ⟨n, ks, hm⟩ := h.mp
  obtain ⟨l1, l2, l3, l4⟩ := h.lt
  obtain ⟨o1, o2⟩ := h.lo
  have hs1 := h.st.setRaw (a := ⟨b + 1, 0, none⟩) (by show w0.heap.size ≤ b + 1; omega) h.rl.raw (.int .i64 x)
  have hs2 := hs1.setRaw (a := ⟨b, 0, none⟩) o2 h.rk.raw (.int .i64 ((pre.length : Int) + 1))
  have ho : ∀ {c : Nat} {cs : Array Value} {t : TypeId}, Raw W G c cs t → c ≠ b → c ≠ b + 1 → Raw ((W.setCell ⟨b + 1, 0, none⟩ (.int .i64 x)).setCell ⟨b, 0, none⟩ (.int .i64 ((pre.length : Int) + 1))) G c cs t := fun hr h1 h2 => (hr.other (a := ⟨b + 1, 0, none⟩) h2 _).other (a := ⟨b, 0, none⟩) h1 _
  have e1 : lastOf (pre ++ [x]) = x := by simp [lastOf]
  refine ⟨hs2, ⟨ho h.mk'.raw (by omega) (by omega), h.mk'.e1, h.mk'.e2, h.mk'.eg, h.mk'.ne, h.mk'.r1, h.mk'.r2, h.mk'.len⟩, ⟨n, ks, (hm.kept (grown_set W (b + 1) _) (fun e => by cases e; omega)).kept (grown_set _ b _) (fun e => by cases e; omega)⟩,
    ho h.rr (by omega) (by omega), ho h.rb (by omega) (by omega), ?_, ?_, ho h.rx (by omega) (by omega), h.lo, h.lt⟩
  · have := (h.rk.other (a := ⟨b + 1, 0, none⟩) (by show b ≠ b + 1; omega) (.int .i64 x)).set 0 (.int .i64 ((pre.length : Int) + 1))
    rw [List.length_append]
    simpa using this
  · have := (h.rl.set 0 (.int .i64 x)).other (a := ⟨b, 0, none⟩) (by show b + 1 ≠ b; omega) (.int .i64 ((pre.length : Int) + 1))
    rw [e1]
    simpa using this
end
theorem last_lt {n : Nat} {S : Nat → Bool} {pre : List Nat} {x : Nat} (h : pre ++ [x] <+: els n S) (h0 : 0 < x) : lastOf pre < x := by
  rcases list_snoc pre with rfl | ⟨t, z, rfl⟩
  · exact h0
  · have hp : (els n S).Pairwise (· < ·) := List.pairwise_lt_range.filter _
    have := hp.sublist h.sublist
    rw [List.pairwise_append] at this
    have := this.2.2 z (by simp) x (by simp)
    simpa [lastOf] using this
theorem prefix_mem {α : Type} {pre l : List α} {x : α} (h : pre ++ [x] <+: l) : x ∈ l := h.subset (by simp)

set_option maxRecDepth 100000 in
set_option maxHeartbeats 20000000 in
theorem colours_any (v1 v2 v3 : Value) (fs : List Int) (es : List (Int × Int × Int)) (nw : Nat) (fw : Nat → Nat → Int) (w : World) (G : Gh) (hI : Inv w G) (h1 : U8s w G v1 fs) (h2 : U16s3 w G v2 es) (h3 : IntRows .u8 2 w G v3 nw fw) :
    Calls Try.prog 7 #[.agg #[v1, v2], v3] w (quiet (.bool true) w G) := by
  obtain ⟨p, cap, hv1, hl1, hp⟩ := id h1
  obtain ⟨q, cap2, hv2, hl2, hq⟩ := id h2
  obtain ⟨p3, cap3, hv3, hl3, hp3⟩ := id h3
  subst hv1 hv2 hv3
  have hmm := @run_makeMap Try.prog
  have hS0 : Step (fun _ => False) w G (w.alloc (.cells #[.slice p fs.length cap, .slice q es.length cap2] 25)) G := (St.refl hI).alloc _
  have hr0 := Raw.new hI #[.slice p fs.length cap, .slice q es.length cap2] 25
  have hS1 := hS0.alloc (.cells #[.bool false] 4)
  have hr1 := Raw.new hS0.inv #[.bool false] 4
  have hr0' := hr0.alloc (.cells #[.bool false] 4)
  rw [World.size_alloc] at hr1
  have H1 := Lib.hid h1
  have H2 := Lib.hid h2
  have H3 := Lib.hid h3
  have HS0 := Lib.hid hS1
  have HR0 := Lib.hid hr0'
  have HB0 := Lib.hid hr1
  clear h1 h2 h3 hp hq hp3 hI hS0 hr0 hS1 hr1 hr0'
  refine (callsIn_wide (n := 0)).1 ?_
  refine callsIn_of_wp_marks Try.func7 rfl trivial ?_ rfl
  simp only [Try.ntmps7, List.size_toArray, List.length_cons, List.length_nil, Nat.reduceAdd, Nat.reduceSub, Array.replicate_succ, Array.replicate_zero, List.push_toArray, List.append_toArray, List.nil_append, List.cons_append]
  gi_wp2_with fail
  refine ⟨trivial, rfl, ?_⟩
  refine (callsIn_wide.2 (law11_fit _ G HS0.out.inv)).mono ?_
  rintro e w1 ⟨rfl, G1, hS1⟩
  have hc0 : w1.cell? ⟨w.heap.size, 0, none⟩ = some (.slice p fs.length cap) := (HR0.out.step hS1).cell 0
  have hc1 : w1.cell? ⟨w.heap.size, 1, none⟩ = some (.slice q es.length cap2) := (HR0.out.step hS1).cell 1
  have HS1 := Lib.hid (HS0.out.seqT hS1)
  have HR1 := Lib.hid (HR0.out.step hS1)
  have HB1 := Lib.hid (HB0.out.step hS1)
  clear hS1
  gi_wp2_with fail
  refine ⟨trivial, rfl, ?_⟩
  refine (callsIn_wide.2 (graph_small _ _ fs es w1 G1 HS1.out.inv (H1.out.step HS1.out) (H2.out.step HS1.out))).mono ?_
  rintro e w2 ⟨rfl, G2, hS2⟩
  have hc0 : w2.cell? ⟨w.heap.size, 0, none⟩ = some (.slice p fs.length cap) := (HR1.out.step hS2).cell 0
  have hc1 : w2.cell? ⟨w.heap.size, 1, none⟩ = some (.slice q es.length cap2) := (HR1.out.step hS2).cell 1
  have HS2 := Lib.hid (HS1.out.seqT hS2)
  have HB2 := Lib.hid (HB1.out.step hS2)
  have hf4 : w2.frozen? ⟨w.heap.size + 1, 0, none⟩ = false := HB2.out.free 0
  have hb4 : w2.cell? ⟨w.heap.size + 1, 0, none⟩ = some (.bool false) := HB2.out.cell 0
  have htrue : quiet (.bool true) w G (.returned (.bool true)) (w2.setCell ⟨w.heap.size + 1, 0, none⟩ (.bool true)) ∧ (w2.setCell ⟨w.heap.size + 1, 0, none⟩ (.bool true)).cell? ⟨w.heap.size + 1, 0, none⟩ = some (.bool true) :=
    ⟨⟨rfl, G2, HS2.out.setRaw (by simp) HB2.out.raw _⟩, (HB2.out.set 0 (.bool true)).cell 0⟩
  have Htrue := Lib.hid htrue
  clear hS2 HS1 HR1 HS0 HR0 HB0 HB1 htrue
  by_cases hsm : fs.length ≤ 40 ∧ es.length ≤ 120
  · have e1 : (decide (fs.length ≤ 40) && decide (es.length ≤ 120)) = true := by simp [hsm.1, hsm.2]
    rw [e1]
    clear e1
    obtain ⟨hs1, hs2⟩ := hsm
    by_cases hx3 : nw ≤ 100
    · clear Htrue
      gi_wp2_with fail
      refine ⟨trivial, rfl, ?_⟩
      refine (callsIn_wide.2 (law_made _ _ fs es hs1 hs2 HS2.out (H1.out.step HS2.out) (H2.out.step HS2.out))).mono ?_
      rintro e w3 ⟨K, G3, pl, capl, rfl, hKw, hKG, hK3, hKv, ⟨ok, -⟩, hS3, -⟩
      have HK := Lib.hid hK3
      have Ok := Lib.hid ok
      have Hkw := Lib.hid (And.intro hKw hKG)
      have Hkv := Lib.hid hKv
      have hl40 : K.l.length ≤ 40 := ok.le
      have H3a := Lib.hid (H3.out.step (HS2.out.seqT hS3))
      have HB3 := Lib.hid (HB2.out.step hS3)
      clear hK3 ok hKw hKG hKv hS3 H3 H1 H2 HB2 HS2 hf4 hb4
      gi_wp2_with fail
      refine ⟨trivial, rfl, ?_⟩
      refine (callsIn_wide.2 (Ok.out.new HK.out 64 (by omega))).mono ?_
      rintro e w4 ⟨m, M, G4, rfl, hM4, q1, q2, q3, q4, q5, q6, hS4, q7⟩
      have H4 := Lib.hid hM4
      have HTr := Lib.hid (q6 (fun _ => True))
      have Hcol := Lib.hid (ColAt.start (q6 (fun _ => True)).bd q1 q2)
      have Hpc := Lib.hid (show pcn M.mr M.n = 0 by rw [q1]; exact pcn_none _)
      have H3b := Lib.hid (H3a.out.step hS4)
      have HB4 := Lib.hid (HB3.out.step hS4)
      have hz1 : M.can 0 = false := by simp [Mk.can]
      have hz2 : M.isBlack 0 = false := by simp [Mk.isBlack]
      have hz3 : hasR M.mr 0 = false := by simp [hasR, q1]
      have Hz := Lib.hid (And.intro hz1 (And.intro hz2 hz3))
      have Hz1 := Lib.hid (show M.shade 0 = M from Mk.shade_zero M)
      have Hz2 := Lib.hid (show M.regrey 0 = M by unfold Mk.regrey; rw [if_neg (by simp [hz2])])
      have Hz3 := Lib.hid (show M.black 0 = M by unfold Mk.black; rw [if_pos rfl])
      clear hM4 q1 q2 q3 q4 q5 q6 q7 hS4 H3a HK HB3 hz1 hz2 hz3
      gi_wp2_with fail
      refine ⟨trivial, rfl, ?_⟩
      refine (callsIn_wide.2 (H4.out.shade 0)).mono ?_
      rw [Hz.out.1, Hz1.out]
      rintro e w5 ⟨rfl, G5, h5, hS5⟩
      have H5 := Lib.hid h5
      have H3c := Lib.hid (H3b.out.step hS5)
      have HB5 := Lib.hid (HB4.out.step hS5)
      clear h5 hS5 H4 H3b HB4
      gi_wp2_with fail
      refine ⟨trivial, rfl, ?_⟩
      refine (callsIn_wide.2 (H5.out.own (Mk.ids_regrey _ _) (mark_regrey m M 0 w5 G5 H5.out.inv H5.out.mi.mk'))).mono ?_
      rw [Hz.out.2.1, Hz2.out]
      rintro e w6 ⟨rfl, G6, h6, hS6⟩
      have H6 := Lib.hid h6
      have H3d := Lib.hid (H3c.out.step hS6)
      have HB6 := Lib.hid (HB5.out.step hS6)
      clear h6 hS6 H5 H3c HB5
      gi_wp2_with fail
      refine ⟨trivial, rfl, ?_⟩
      refine (callsIn_wide.2 (H6.out.marked 0)).mono ?_
      rw [Hz.out.2.2]
      rintro e w7 ⟨rfl, G7, h7, hS7⟩
      have H7 := Lib.hid h7
      have H3e := Lib.hid (H3d.out.step hS7)
      have HB7 := Lib.hid (HB6.out.step hS7)
      clear h7 hS7 H6 H3d HB6
      gi_wp2_with fail
      refine ⟨trivial, rfl, ?_⟩
      refine (callsIn_wide.2 (H7.out.count)).mono ?_
      rw [Hpc.out]
      rintro e w8 ⟨rfl, G8, h8, hS8⟩
      have H8 := Lib.hid h8
      have H3f := Lib.hid (H3e.out.step hS8)
      have HB8 := Lib.hid (HB7.out.step hS8)
      clear h8 hS8 H7 H3e HB7
      gi_wp2_with fail
      refine ⟨trivial, rfl, ?_⟩
      refine (callsIn_wide.2 (mark_arena m M w8 G8 H8.out.mi.mk')).mono ?_
      rw [H8.out.mi.ea]
      rintro e w9 ⟨rfl, rfl⟩
      have hna := neq_arena K.a w9
      gi_wp2_with fail
      refine ⟨trivial, rfl, ?_⟩
      refine (callsIn_wide.2 (H8.out.own (Mk.ids_black _ _) (mark_blacken m M 0 _ G8 H8.out.inv H8.out.mi.mk'))).mono ?_
      rw [Hz3.out]
      rintro e w10 ⟨rfl, G10, h10, hS10⟩
      have H10 := Lib.hid h10
      have H3g := Lib.hid (H3f.out.step hS10)
      have HB10 := Lib.hid (HB8.out.step hS10)
      clear h10 hS10 H8 H3f HB8
      have hsz : w.heap.size + 1 < w10.heap.size := HB10.out.lt
      have hw0 : K.w0.heap.size ≤ w10.heap.size := by rw [Hkw.out.1]; omega
      have hI10 := H10.out.inv
      have hs11 : Step (fun _ => False) w10 G10 ((w10.alloc (.map #[] 0)).alloc (.cells #[.map (some w10.heap.size)] 38)) G10 := ((St.refl hI10).alloc _).alloc _
      have hrb := Raw.new (hI10.alloc (.map #[] 0)) #[.map (some w10.heap.size)] 38
      rw [World.size_alloc] at hrb
      have hmp : IMapAt ((w10.alloc (.map #[] 0)).alloc (.cells #[.map (some w10.heap.size)] 38)) G10 w10.heap.size 0 (fun _ => 0) [] :=
        (IMapAt.new hI10).step (B := w10.heap.size + 1) (T := fun _ => False) ((St.refl (hI10.alloc _)).alloc _)
      have hcl : ClAt K m (w.heap.size + 1) (w10.heap.size + 1) w10.heap.size (.slice p3 nw cap3) nw fw 0 M (fun _ => 0) (fun _ => 0) ((w10.alloc (.map #[] 0)).alloc (.cells #[.map (some w10.heap.size)] 38)) G10 :=
        ⟨H10.out.step0 hs11, Hcol.out, ⟨0, [], Nat.le_refl _, hmp⟩, HB10.out.step hs11, hrb, H3g.out.step hs11, (H10.out.lw.gr.also (Y := fun g => g = w10.heap.size) (fun g hg => .inr (by rw [hg]; exact Nat.le_refl _))).step hs11, hw0, ⟨H10.out.mi.mk'.raw.lt, H10.out.lw.gr.lt, HB10.out.lt, rfl⟩,
          fun g hg => (H10.out.lw.row.row.lt g hg).2, fun i hi a l c e => by
            obtain ⟨p9, c9, he9, -, hq9⟩ := H3g.out
            obtain ⟨a9, e9, -, k9, -⟩ := hq9 i hi
            rw [e9] at he9
            cases e
            cases he9
            exact k9⟩
      have Hcl := Lib.hid hcl
      clear hs11 hrb hmp hcl hI10 hna
      gi_wp2
      clear H10 H3g HB10 Hcol Hpc Hz Hz1 Hz2 Hz3
      generalize ((w10.alloc (.map #[] 0)).alloc (.cells #[.map (some w10.heap.size)] 38)) = w11 at *
      generalize w10.heap.size = bw at *
      gi_loopw [65] (fun i W => ∃ (k : Nat) (M' : Mk) (f : Int → Int) (G' : Gh), k ≤ nw ∧ i = .int .i64 k ∧ ClAt K m (w.heap.size + 1) (bw + 1) bw (.slice p3 nw cap3) nw fw k M' f f W G') (fun i _ => nw - (intOf i).toNat)
      case atStart => exact ⟨0, M, fun _ => 0, G10, Nat.zero_le _, rfl, Hcl.out⟩
      case round =>
        obtain ⟨k, M', f, G7, hk, rfl, h7⟩ := hrel
        have H7 := Lib.hid h7
        clear h7 Hcl hmm
        by_cases hgo : k < nw ∧ 0 < K.l.length
        · obtain ⟨hlt, hlp⟩ := hgo
          obtain ⟨_, _, he, -, hq3⟩ := H7.out.dd
          cases he
          obtain ⟨ad, rfl, hq1, hq2, hq4⟩ := hq3 k hlt
          obtain ⟨hce1, hwf1⟩ := hq4 0 (by omega)
          obtain ⟨hce2, hwf2⟩ := hq4 1 (by omega)
          rw [add_off ad (k * 2) 0] at hce2
          rw [Nat.add_zero] at hce1
          have hb1 := wf_u8 hwf1
          have hb2 := wf_u8 hwf2
          clear hq1 hq2 hq3 hq4 hwf1 hwf2
          generalize fw k 0 = x1 at *
          generalize fw k 1 = x2 at *
          have hrow := H7.out.lm.lw.row
          rw [Hkv.out] at hrow
          obtain ⟨i1, hi1, hi1l⟩ := mod_idx (x := x1) hlp
          obtain ⟨g6, rfl, hrc1, hrin, -⟩ := hrow.item hi1l
          clear hrow
          generalize K.l.getD i1 0 = r at *
          have hS8 : Step (fun _ => False) wr G7 (wr.alloc (.cells #[.int .u8 x1, .int .u8 x2] 26)) G7 := (St.refl H7.out.lm.inv).alloc _
          have hrk : ∀ i v, wr.cell? ⟨g6, i, none⟩ = some v → (wr.alloc (.cells #[.int .u8 x1, .int .u8 x2] 26)).cell? ⟨g6, i, none⟩ = some v := fun i v hv => (World.cell?_alloc_past _ _ _ (World.block_lt_of_cell? wr _ hv)).trans hv
          replace hrc1 := hrk _ _ hrc1
          have H8 := Lib.hid (H7.out.step0 hS8)
          have Hrin := Lib.hid hrin
          clear hS8 hrk hrin
          have hcb8 : (wr.alloc (.cells #[.int .u8 x1, .int .u8 x2] 26)).cell? ⟨bw + 1, 0, none⟩ = some (.map (some bw)) := H8.out.rb.cell 0
          obtain ⟨y, hy⟩ : ∃ y, bits BinOp.and IntKind.u8 x2 3 = y := ⟨_, rfl⟩
          have hrb := Ok.out.bd Hrin.out
          have Hrb := Lib.hid hrb
          have Hrg := Lib.hid (H8.out.col.rg r)
          clear hrb
          by_cases hy0 : y = 0
          · subst hy0
            gi_wp2
            refine region_col (sm := 8) (sr := 12) (sb := 9) (d := 95) (fn := 14) (k := 0) (r := r) (f := f r) (m := m) (cb := bw + 1) (bw := bw) (v := decide (f r = 0))
              (J0 := fun W => ∃ G', ClAt K m (w.heap.size + 1) (bw + 1) bw (.slice (some ad) nw cap3) nw fw k M' f f W G') (J1 := fun W => ∃ G', ClAt K m (w.heap.size + 1) (bw + 1) bw (.slice (some ad) nw cap3) nw fw k (M'.shade r) (updF f r (if f r = 0 then 1 else f r)) f W G')
              ⟨⟨_, rfl, rfl, rfl, rfl⟩, ⟨_, rfl, rfl, rfl, rfl⟩, ⟨_, _, rfl, rfl, rfl, rfl⟩, ⟨_, rfl, rfl, rfl, rfl⟩, ⟨_, rfl, rfl, rfl, rfl⟩, ⟨_, rfl, rfl, rfl, rfl⟩, ⟨_, rfl, rfl, rfl, rfl⟩, ⟨_, rfl, rfl, rfl, rfl⟩⟩ rfl (by kernel_rfl) (show (95 + 7 : Nat) < 197 from by decide) (by decide) (by decide) (by decide) rfl rfl rfl
              (enters_of Try.func14 (by kernel_rfl) rfl) ?_ ?_ ⟨G7, H8.out.step0 ((St.refl H8.out.lm.inv).drew)⟩ ?_
            · rintro W (⟨G', h⟩ | ⟨G', h⟩)
              · exact ⟨h.rb.cell 0, h.look Hrb.out⟩
              · exact ⟨h.rb.cell 0, h.look Hrb.out⟩
            · rintro W ⟨G', h⟩
              refine (mark_shade m M' r W G' h.lm.inv h.lm.mi.mk').mono ?_
              rintro e W' ⟨rfl, G'', hM, hS⟩
              rw [h.col.can Hrin.out]
              exact ⟨rfl, G'', h.step hS (h.lm.on hS hM (Mk.ids_shade _ _)) (h.col.shade Hrin.out)⟩
            rcases Hrg.out with e0 | e0 | e0
            · skip
              rintro W9 ⟨G9, h9⟩
              have hcb9 : W9.cell? ⟨bw + 1, 0, none⟩ = some (.map (some bw)) := h9.rb.cell 0
              have hlook := h9.look Hrb.out
              rw [e0] at hlook h9
              simp only [reduceIte, Int.reduceEq] at h9
              obtain ⟨W10, hput, h10⟩ := h9.put (by omega) Hrb.out (v := 1) (by omega)
              have H10 := Lib.hid h10
              clear h10
              have H9 := Lib.hid h9
              clear h9 H8 hcb8 hrc1
              simp only [putsL, colVals, List.foldl_cons, List.foldl_nil, Act.put, List.setIfInBounds_toArray, List.set_cons_succ, List.set_cons_zero, Nat.reduceAdd, bne_self_eq_false]
              gi_wp2
              go_roundw
              case rel => exact ⟨k + 1, _, _, _, by omega, by go_num, H10.out⟩
              case measure => simp [intOf]; omega
            · skip
              rintro W9 ⟨G9, h9⟩
              have hcb9 : W9.cell? ⟨bw + 1, 0, none⟩ = some (.map (some bw)) := h9.rb.cell 0
              have hlook := h9.look Hrb.out
              rw [e0] at hlook h9
              simp only [reduceIte, Int.reduceEq] at h9
              obtain ⟨W10, hput, h10⟩ := h9.put (by omega) Hrb.out (v := 1) (by omega)
              have H10 := Lib.hid h10
              clear h10
              have H9 := Lib.hid h9
              clear h9 H8 hcb8 hrc1
              simp only [putsL, colVals, List.foldl_cons, List.foldl_nil, Act.put, List.setIfInBounds_toArray, List.set_cons_succ, List.set_cons_zero, Nat.reduceAdd, bne_self_eq_false]
              gi_wp2
              go_roundw
              case rel => exact ⟨k + 1, _, _, _, by omega, by go_num, H10.out⟩
              case measure => simp [intOf]; omega
            · skip
              rintro W9 ⟨G9, h9⟩
              have hcb9 : W9.cell? ⟨bw + 1, 0, none⟩ = some (.map (some bw)) := h9.rb.cell 0
              have hlook := h9.look Hrb.out
              rw [e0] at hlook h9
              simp only [reduceIte, Int.reduceEq] at h9
              obtain ⟨W10, hput, h10⟩ := h9.put (by omega) Hrb.out (v := 2) (by omega)
              have H10 := Lib.hid h10
              clear h10
              have H9 := Lib.hid h9
              clear h9 H8 hcb8 hrc1
              simp only [putsL, colVals, List.foldl_cons, List.foldl_nil, Act.put, List.setIfInBounds_toArray, List.set_cons_succ, List.set_cons_zero, Nat.reduceAdd, bne_self_eq_false]
              gi_wp2
              go_roundw
              case rel => exact ⟨k + 1, _, _, _, by omega, by go_num, H10.out⟩
              case measure => simp [intOf]; omega
          · by_cases hy1 : y = 1
            · subst hy1
              gi_wp2_with fail
              refine ⟨trivial, rfl, ?_⟩
              refine (callsIn_wide.2 (H8.out.lm.own (Mk.ids_black _ _) (mark_blacken m M' r _ G7 H8.out.lm.inv H8.out.lm.mi.mk'))).mono ?_
              rintro e W9 ⟨rfl, G9, hl9, hS9⟩
              have h9 := H8.out.step hS9 hl9 (H8.out.col.black Hrin.out)
              have hcb9 : W9.cell? ⟨bw + 1, 0, none⟩ = some (.map (some bw)) := h9.rb.cell 0
              clear hl9 hS9
              obtain ⟨W10, hput, h10⟩ := h9.put (by omega) Hrb.out (v := 2) (by omega)
              have H10 := Lib.hid h10
              clear h10
              clear h9 H8 hcb8 hrc1
              gi_wp2
              go_roundw
              case rel => exact ⟨k + 1, _, _, _, by omega, by go_num, H10.out⟩
              case measure => simp [intOf]; omega
            · by_cases hy2 : y = 2
              · subst hy2
                gi_wp2
                refine region_col (sm := 8) (sr := 12) (sb := 9) (d := 118) (fn := 34) (k := 2) (r := r) (f := f r) (m := m) (cb := bw + 1) (bw := bw) (v := decide (f r = 2))
                  (J0 := fun W => ∃ G', ClAt K m (w.heap.size + 1) (bw + 1) bw (.slice (some ad) nw cap3) nw fw k M' f f W G') (J1 := fun W => ∃ G', ClAt K m (w.heap.size + 1) (bw + 1) bw (.slice (some ad) nw cap3) nw fw k (M'.regrey r) (updF f r (if f r = 2 then 1 else f r)) f W G')
                  ⟨⟨_, rfl, rfl, rfl, rfl⟩, ⟨_, rfl, rfl, rfl, rfl⟩, ⟨_, _, rfl, rfl, rfl, rfl⟩, ⟨_, rfl, rfl, rfl, rfl⟩, ⟨_, rfl, rfl, rfl, rfl⟩, ⟨_, rfl, rfl, rfl, rfl⟩, ⟨_, rfl, rfl, rfl, rfl⟩, ⟨_, rfl, rfl, rfl, rfl⟩⟩ rfl (by kernel_rfl) (show (118 + 7 : Nat) < 197 from by decide) (by decide) (by decide) (by decide) rfl rfl rfl
                  (enters_of Try.func34 (by kernel_rfl) rfl) ?_ ?_ ⟨G7, H8.out.step0 ((St.refl H8.out.lm.inv).drew)⟩ ?_
                · rintro W (⟨G', h⟩ | ⟨G', h⟩)
                  · exact ⟨h.rb.cell 0, h.look Hrb.out⟩
                  · exact ⟨h.rb.cell 0, h.look Hrb.out⟩
                · rintro W ⟨G', h⟩
                  refine (mark_regrey m M' r W G' h.lm.inv h.lm.mi.mk').mono ?_
                  rintro e W' ⟨rfl, G'', hM, hS⟩
                  rw [h.col.isBlack Hrin.out]
                  exact ⟨rfl, G'', h.step hS (h.lm.on hS hM (Mk.ids_regrey _ _)) (h.col.regrey Hrin.out)⟩
                rcases Hrg.out with e0 | e0 | e0
                · skip
                  rintro W9 ⟨G9, h9⟩
                  have hcb9 : W9.cell? ⟨bw + 1, 0, none⟩ = some (.map (some bw)) := h9.rb.cell 0
                  have hlook := h9.look Hrb.out
                  rw [e0] at hlook h9
                  simp only [reduceIte, Int.reduceEq] at h9
                  rw [← e0, updF_same] at h9
                  have H9 := Lib.hid h9
                  clear h9 H8 hcb8 hrc1
                  simp only [putsL, colVals, List.foldl_cons, List.foldl_nil, Act.put, List.setIfInBounds_toArray, List.set_cons_succ, List.set_cons_zero, Nat.reduceAdd, bne_self_eq_false]
                  gi_wp2
                  go_roundw
                  case rel => exact ⟨k + 1, _, _, _, by omega, by go_num, (H9.out.later (Nat.le_succ _))⟩
                  case measure => simp [intOf]; omega
                · skip
                  rintro W9 ⟨G9, h9⟩
                  have hcb9 : W9.cell? ⟨bw + 1, 0, none⟩ = some (.map (some bw)) := h9.rb.cell 0
                  have hlook := h9.look Hrb.out
                  rw [e0] at hlook h9
                  simp only [reduceIte, Int.reduceEq] at h9
                  rw [← e0, updF_same] at h9
                  have H9 := Lib.hid h9
                  clear h9 H8 hcb8 hrc1
                  simp only [putsL, colVals, List.foldl_cons, List.foldl_nil, Act.put, List.setIfInBounds_toArray, List.set_cons_succ, List.set_cons_zero, Nat.reduceAdd, bne_self_eq_false]
                  gi_wp2
                  go_roundw
                  case rel => exact ⟨k + 1, _, _, _, by omega, by go_num, (H9.out.later (Nat.le_succ _))⟩
                  case measure => simp [intOf]; omega
                · skip
                  rintro W9 ⟨G9, h9⟩
                  have hcb9 : W9.cell? ⟨bw + 1, 0, none⟩ = some (.map (some bw)) := h9.rb.cell 0
                  have hlook := h9.look Hrb.out
                  rw [e0] at hlook h9
                  simp only [reduceIte, Int.reduceEq] at h9
                  obtain ⟨W10, hput, h10⟩ := h9.put (by omega) Hrb.out (v := 1) (by omega)
                  have H10 := Lib.hid h10
                  clear h10
                  have H9 := Lib.hid h9
                  clear h9 H8 hcb8 hrc1
                  simp only [putsL, colVals, List.foldl_cons, List.foldl_nil, Act.put, List.setIfInBounds_toArray, List.set_cons_succ, List.set_cons_zero, Nat.reduceAdd, bne_self_eq_false]
                  gi_wp2
                  go_roundw
                  case rel => exact ⟨k + 1, _, _, _, by omega, by go_num, H10.out⟩
                  case measure => simp [intOf]; omega
              · have hlook := H8.out.look Hrb.out
                by_cases e0 : f r = 1
                · rw [e0] at hlook
                  gi_wp2
                  go_roundw
                  case rel => exact ⟨k + 1, _, _, _, by omega, by go_num, (H8.out.later (Nat.le_succ _))⟩
                  case measure => simp [intOf]; omega
                · have hne : decide (f r = 1) = false := by simpa using e0
                  gi_wp2_with fail
                  refine ⟨trivial, rfl, ?_⟩
                  refine (callsIn_wide.2 (H8.out.lm.own (Mk.ids_forget _ _) (mark_forget m M' r _ G7 H8.out.lm.inv H8.out.lm.mi.mk'))).mono ?_
                  rintro e W9 ⟨rfl, G9, hl9, hS9⟩
                  have h9 := H8.out.step hS9 hl9 (H8.out.col.forget Hrin.out)
                  have hcb9 : W9.cell? ⟨bw + 1, 0, none⟩ = some (.map (some bw)) := h9.rb.cell 0
                  clear hl9 hS9
                  obtain ⟨W10, hput, h10⟩ := h9.put (by omega) Hrb.out (v := 0) (by omega)
                  have H10 := Lib.hid h10
                  clear h10
                  clear h9 H8 hcb8 hrc1 hlook
                  gi_wp2
                  go_roundw
                  case rel => exact ⟨k + 1, _, _, _, by omega, by go_num, H10.out⟩
                  case measure => simp [intOf]; omega
        · by_cases hlt : k < nw
          · have hl0 : K.l.length = 0 := by omega
            obtain ⟨_, _, he, -, hq3⟩ := H7.out.dd
            cases he
            obtain ⟨ad, rfl, hq1, hq2, hq4⟩ := hq3 k hlt
            obtain ⟨hce1, hwf1⟩ := hq4 0 (by omega)
            obtain ⟨hce2, hwf2⟩ := hq4 1 (by omega)
            rw [add_off ad (k * 2) 0] at hce2
            rw [Nat.add_zero] at hce1
            clear hq1 hq2 hq3 hq4 hwf1 hwf2
            generalize fw k 0 = x1 at *
            generalize fw k 1 = x2 at *
            have hS8 : Step (fun _ => False) wr G7 (wr.alloc (.cells #[.int .u8 x1, .int .u8 x2] 26)) G7 := (St.refl H7.out.lm.inv).alloc _
            have H8 := Lib.hid (H7.out.step0 hS8)
            clear hS8 H7
            gi_wp2
            have Hl0 := Lib.hid hl0
            clear hce1 hce2 hl0 hgo
            generalize wr.alloc (.cells #[.int .u8 x1, .int .u8 x2] 26) = w8 at *
            gi_loopw [13, 14, 135] (fun cv sv i W => ∃ (j : Nat) (G' : Gh), j ≤ K.l.length ∧ i = .int .i64 j ∧ cv = .int .i64 ((K.l.take j).filter fun r => decide (0 < f r)).length ∧ sv = .bool ((K.l.take j).any fun r => decide (f r = 1)) ∧ ClAt K m (w.heap.size + 1) (bw + 1) bw (.slice (some ad) nw cap3) nw fw k M' f f W G') (fun _ _ i _ => K.l.length - (intOf i).toNat)
            case atStart => exact ⟨0, G7, Nat.zero_le _, rfl, by simp, by simp, H8.out⟩
            case round =>
              obtain ⟨j, G12, hj, rfl, rfl, rfl, h12⟩ := hrel
              have H12 := Lib.hid h12
              clear h12 H8
              by_cases hjl : j < K.l.length
              · skip
                exact absurd hjl (by have := Hl0.out; omega)
              · obtain rfl : j = K.l.length := by omega
                rw [List.take_length]
                have hst := H12.out.lm.lw.st
                rw [Hkw.out.1, Hkw.out.2] at hst
                have hrcl := H12.out.rr.lt
                have hcbl := H12.out.rb.lt
                have hml := H12.out.lm.mi.mk'.raw.lt
                have hbwl : bw < wr.heap.size := by have := H12.out.lt; omega
                have hI12 := hst.inv
                have hMn : M'.n ≤ 2049 := by
                  have h1 := H12.out.lm.mi.en
                  have h2 := (H12.out.lm.lw.ar.facts hI12).2.1
                  omega
                have hs15 : St (fun _ => False) wr.heap.size wr G12 (((wr.alloc (.cells #[.int .i64 0] 3)).alloc (.cells #[.int .i64 0] 36)).alloc (.cells #[.pointer (some ⟨m, 0, none⟩)] 33)) G12 := (((St.refl hI12).alloc _).alloc _).alloc _
                have hr1 := ((Raw.new hI12 #[.int .i64 0] 3).alloc (.cells #[.int .i64 0] 36)).alloc (.cells #[.pointer (some ⟨m, 0, none⟩)] 33)
                have hr2 := (Raw.new (hI12.alloc (.cells #[.int .i64 0] 3)) #[.int .i64 0] 36).alloc (.cells #[.pointer (some ⟨m, 0, none⟩)] 33)
                have hr3 := Raw.new ((hI12.alloc (.cells #[.int .i64 0] 3)).alloc (.cells #[.int .i64 0] 36)) #[.pointer (some ⟨m, 0, none⟩)] 33
                rw [World.size_alloc] at hr2
                rw [World.size_alloc, World.size_alloc] at hr3
                obtain ⟨nm, ksm, -, hmp⟩ := H12.out.mp
                have hal : AlAt w G m M' f (w.heap.size + 1) (bw + 1) bw wr.heap.size [] (((wr.alloc (.cells #[.int .i64 0] 3)).alloc (.cells #[.int .i64 0] 36)).alloc (.cells #[.pointer (some ⟨m, 0, none⟩)] 33)) G12 :=
                  ⟨hst.seqT hs15, H12.out.lm.mi.mk'.step0 hI12 hs15, ⟨nm, ksm, hmp.step hs15⟩, H12.out.rr.step hs15, H12.out.rb.step hs15, hr1, hr2, hr3, ⟨by omega, by omega⟩, by omega⟩
                have Hal := Lib.hid hal
                have Hcol := Lib.hid H12.out.col
                clear hs15 hr1 hr2 hr3 hmp hal hst hI12
                gi_wp2_with fail
                refine ⟨trivial, rfl, ?_⟩
                refine (callsIn_wide.2 (mark_all m _)).mono ?_
                rintro e w15 ⟨rfl, rfl⟩
                gi_wp2
                clear H12
                have hsz15 : (((wr.alloc (.cells #[.int .i64 0] 3)).alloc (.cells #[.int .i64 0] 36)).alloc (.cells #[.pointer (some ⟨m, 0, none⟩)] 33)).heap.size = wr.heap.size + 3 := by simp
                generalize (((wr.alloc (.cells #[.int .i64 0] 3)).alloc (.cells #[.int .i64 0] 36)).alloc (.cells #[.pointer (some ⟨m, 0, none⟩)] 33)) = w15 at *
                generalize wr.heap.size = b at *
                refine range_out (gf := 61) (lb := #[.pointer (some ⟨b + 1 + 1, 0, none⟩)]) rfl (enters_of Try.func61 (by kernel_rfl) rfl) (mall_seq (b + 1 + 1) m M'.a M'.s1 M'.s2 M'.g M'.n M'.mr) (fun _ => rfl)
                  (AlAt w G m M' f (w.heap.size + 1) (bw + 1) bw b) (fun _ _ _ _ => False)
                  (fun x a' _ _ => a' = clX (fun i => a'.tmps.getD i undef) m (bw + 1) b x)
                  ?_ (fun _ _ _ _ h => h.elim) ?_ (fun _ _ _ _ _ _ h => h.elim) (fun _ _ _ _ _ _ h _ => h) Hal.out ?_ ?_ ?_ (fun _ _ _ _ _ _ _ _ h => h.elim)
                · intro pre W G' h
                  exact ⟨h.st.inv, ⟨h.rx.heap, h.mk'.raw.heap, M'.mr, h.mk'.e1, fun _ _ => rfl⟩, by have := h.rx.lt; omega⟩
                · intro pre W G' W' G'' h k
                  exact h.step0 k (by have := Hal.out.lo; have := Hal.out.lt; omega)
                · intro l2 pre x W G' K hI' hK
                  have hK' := fun a' => hK a' W G' hI'
                  clear hK
                  dsimp only [encN]
                  gi_wp2
                  refine hK' _ ?_ (Keep.refl _ _ _)
                  rfl
                · rintro l2 pre x a' W G' hl2 hgl2 ⟨q2, hq2⟩ hR ha' hpre
                  generalize hu : (fun i => a'.tmps.getD i undef) = u' at ha'
                  clear hu
                  subst ha'
                  have hxm := (mem_els.1 (prefix_mem hpre))
                  have hxh : hasR M'.mr (x : Int) = true := by rw [hasR_nat]; exact hxm.2
                  have hxl := Hcol.out.inl _ hxh
                  have hxb := Ok.out.bd hxl
                  have hxp := (Ok.out.ob.pos hxl).1
                  have hlast := last_lt hpre (by omega)
                  have hpl : pre.length ≤ 2049 := by
                    have h1 := hpre.length_le
                    have h2 : (els M'.n M'.mr).length ≤ M'.n := by unfold els; exact Nat.le_trans (List.length_filter_le _ _) (by simp)
                    simp at h1; omega
                  have hfx : f (x : Int) ≠ 0 := fun e => by have := Hcol.out.mrk _ hxl; rw [hxh, e] at this; simp at this
                  obtain ⟨nm, ksm, hmp⟩ := hR.mp
                  have hlook := hmp.look (x := (x : Int)) hxb
                  have hc9 : W.cell? ⟨bw + 1, 0, none⟩ = some (.map (some bw)) := hR.rb.cell 0
                  have hc18 : W.cell? ⟨b, 0, none⟩ = some (.int .i64 pre.length) := hR.rk.cell 0
                  have hc19 : W.cell? ⟨b + 1, 0, none⟩ = some (.int .i64 (lastOf pre)) := hR.rl.cell 0
                  have hf18 : W.frozen? ⟨b, 0, none⟩ = false := hR.rk.free 0
                  have hf19 : W.frozen? ⟨b + 1, 0, none⟩ = false := hR.rl.free 0
                  have hput := hR.put x
                  have hkp : Keep w15.heap.size W G' ((W.setCell ⟨b + 1, 0, none⟩ (.int .i64 x)).setCell ⟨b, 0, none⟩ (.int .i64 ((pre.length : Int) + 1))) G' := ((Keep.refl _ _ _).setRaw hR.rl.raw _).setRaw hR.rk.raw _
                  have Hput := Lib.hid hput
                  have Hkp := Lib.hid hkp
                  have hxi : ((lastOf pre : Nat) : Int) < (x : Int) := by omega
                  clear hR hq2 hxm hxh hxl hmp hput hkp hpre hlast
                  generalize f (x : Int) = fx at *
                  generalize lastOf pre = la at *
                  have hbe : (fx == 0) = false := by simpa using hfx
                  have hfin : rpost w15.heap.size (AlAt w G m M' f (w.heap.size + 1) (bw + 1) bw b) (fun _ _ _ _ => False) (pre ++ [x]) W G' .normal ⟨#[], []⟩ ((W.setCell ⟨b + 1, 0, none⟩ (.int .i64 x)).setCell ⟨b, 0, none⟩ (.int .i64 ((pre.length : Int) + 1))) := ⟨G', Hput.out, Hkp.out⟩
                  have Hfin := Lib.hid hfin
                  clear hfin
                  gi_wp2
                  all_goals first
                    | exact Hfin.out
                    | (exfalso; rename_i hz; rcases hz with hz | hz <;> first | omega | (rw [hbe] at hz; cases hz) | (simp at hz))
                · rintro D W G' hD hgd hR hd
                  have hDl := (Array.getElem?_eq_some_iff.1 hd).1
                  have hmk4 : Marks w15.heap.size W.heap.size [{ target := .collected D, args := #[] }] W G' := (Marks.nil w15.heap.size w15.heap.size W G').cons (Nat.le_refl _) hD hDl hgd hd
                  have hel : (els M'.n M'.mr).length = (K.l.filter fun r => decide (0 < f r)).length := by
                    rw [← pcn_els, pcn_marks Ok.out.ob.nd Hcol.out.inl Hcol.out.bd]
                    exact congrArg List.length (filter_congr' fun r hr => Hcol.out.mrk r hr)
                  have hpc : pcn M'.mr M'.n = (K.l.filter fun r => decide (0 < f r)).length := by rw [pcn_els, hel]
                  have hdr : M'.drained = !(K.l.any fun r => decide (f r = 1)) := by
                    rw [Bool.eq_iff_iff]
                    constructor
                    · intro h
                      have hg := Mk.grey_of_drained h (fun q hq => (Hcol.out.bd q (Hcol.out.inl q hq)).2)
                      rw [Bool.not_eq_true', List.any_eq_false]
                      intro r hr e
                      have e1 : f r = 1 := by simpa using e
                      have := hg r
                      rw [Mk.grey_iff.2 ⟨by rw [Hcol.out.mrk r hr, e1]; rfl, by rw [Hcol.out.sc r hr, e1]; rfl⟩] at this
                      cases this
                    · intro h
                      rw [Bool.not_eq_true', List.any_eq_false] at h
                      refine Mk.drained_of fun q => ?_
                      cases hg : M'.isGrey q with
                      | false => rfl
                      | true =>
                        obtain ⟨g1, g2⟩ := Mk.grey_iff.1 hg
                        have hq := Hcol.out.inl q g1
                        rw [Hcol.out.mrk q hq] at g1
                        rw [Hcol.out.sc q hq] at g2
                        have := h q hq
                        rcases Hcol.out.rg q with e | e | e <;> simp [e] at g1 g2 this
                  have hc18 : W.cell? ⟨b, 0, none⟩ = some (.int .i64 (els M'.n M'.mr).length) := hR.rk.cell 0
                  rw [hel] at hc18
                  have HR := Lib.hid hR
                  have HM4 := Lib.hid hmk4
                  have Hpc := Lib.hid hpc
                  have Hdr := Lib.hid hdr
                  clear hR hmk4 hpc hdr hel hd hgd
                  generalize (K.l.filter fun r => decide (0 < f r)).length = c at *
                  generalize (K.l.any fun r => decide (f r = 1)) = b2 at *
                  gi_wp2_with fail
                  refine ⟨trivial, rfl, ?_⟩
                  refine (callsIn_wide.2 (mark_count m M' W G' HR.out.st.inv HR.out.mk')).mono ?_
                  rw [Hpc.out]
                  rintro e W20 ⟨rfl, G20, hS20⟩
                  have h20 := HR.out.step0 hS20 (by have := HR.out.st.le; omega)
                  have hM20 := HM4.out.step hS20
                  have hc18' : W20.cell? ⟨b, 0, none⟩ = some (.int .i64 (els M'.n M'.mr).length) := h20.rk.cell 0
                  have H20 := Lib.hid h20
                  have HM20 := Lib.hid hM20
                  clear hc18 hS20 hM20 h20 HR HM4
                  rw [show (els M'.n M'.mr).length = c from by rw [← pcn_els, Hpc.out]] at hc18'
                  gi_wp2_with fail
                  refine ⟨trivial, rfl, ?_⟩
                  refine (callsIn_wide.2 (mark_drained m M' W20 G20 H20.out.st.inv H20.out.mk')).mono ?_
                  rw [Hdr.out]
                  rintro e W21 ⟨rfl, G21, hS21⟩
                  have h21 := H20.out.step0 hS21 (by have := H20.out.st.le; omega)
                  have HM21 := Lib.hid (HM20.out.step hS21)
                  have hc4 : W21.cell? ⟨w.heap.size + 1, 0, none⟩ = some (.bool false) := h21.rr.cell 0
                  have hf4 : W21.frozen? ⟨w.heap.size + 1, 0, none⟩ = false := h21.rr.free 0
                  have hs22 := h21.st.setRaw (a := ⟨w.heap.size + 1, 0, none⟩) (by show w.heap.size ≤ w.heap.size + 1; omega) h21.rr.raw (.bool true)
                  have hm22 := HM21.out.setRaw (a := ⟨w.heap.size + 1, 0, none⟩) h21.rr.raw (.bool true)
                  have hr22 := h21.rr.set 0 (.bool true)
                  have Hs22 := Lib.hid hs22
                  have Hm22 := Lib.hid hm22
                  have Hr22 := Lib.hid hr22
                  clear h21 hS21 hs22 hm22 hr22 H20 HM20
                  cases b2 with
                  | true =>
                    gi_wp2
                    refine leave_marks Hs22.out.inv Hm22.out fun W' hS hsame => ⟨.bool true, ?_, rfl, G21, Hs22.out.trans hS (.inl (by omega))⟩
                    have hc5 : W'.cell? ⟨w.heap.size + 1, 0, none⟩ = some (.bool true) := (cell_same (hsame _ (by rw [Hr22.out.raw]; intro e; cases e)) 0).trans (Hr22.out.cell 0)
                    simp [results, Try.results7, go_sem, hc5]
                  | false =>
                    gi_wp2
                    refine leave_marks Hs22.out.inv Hm22.out fun W' hS hsame => ⟨.bool true, ?_, rfl, G21, Hs22.out.trans hS (.inl (by omega))⟩
                    have hc5 : W'.cell? ⟨w.heap.size + 1, 0, none⟩ = some (.bool true) := (cell_same (hsame _ (by rw [Hr22.out.raw]; intro e; cases e)) 0).trans (Hr22.out.cell 0)
                    simp [results, Try.results7, go_sem, hc5]
          · obtain rfl : k = nw := by omega
            gi_wp2
            gi_loopw [13, 14, 135] (fun cv sv i W => ∃ (j : Nat) (G' : Gh), j ≤ K.l.length ∧ i = .int .i64 j ∧ cv = .int .i64 ((K.l.take j).filter fun r => decide (0 < f r)).length ∧ sv = .bool ((K.l.take j).any fun r => decide (f r = 1)) ∧ ClAt K m (w.heap.size + 1) (bw + 1) bw (.slice p3 k cap3) k fw k M' f f W G') (fun _ _ i _ => K.l.length - (intOf i).toNat)
            case atStart => exact ⟨0, G7, Nat.zero_le _, rfl, by simp, by simp, H7.out⟩
            case round =>
              obtain ⟨j, G12, hj, rfl, rfl, rfl, h12⟩ := hrel
              have H12 := Lib.hid h12
              clear h12 H7
              by_cases hjl : j < K.l.length
              · skip
                have hrow9 := H12.out.lm.lw.row
                rw [Hkv.out] at hrow9
                obtain ⟨gl, rfl, hrc, hrin, htk⟩ := hrow9.item hjl
                have hcnt : ((K.l.take (j + 1)).filter fun r => decide (0 < f r)).length = ((K.l.take j).filter fun r => decide (0 < f r)).length + (if 0 < f (K.l.getD j 0) then 1 else 0) := by
                  rw [htk, List.filter_append, List.length_append, List.filter_cons, List.filter_nil]
                  generalize K.l.getD j 0 = z
                  by_cases hh : 0 < f z <;> simp [hh]
                have hany : ((K.l.take (j + 1)).any fun r => decide (f r = 1)) = (((K.l.take j).any fun r => decide (f r = 1)) || decide (f (K.l.getD j 0) = 1)) := by
                  rw [htk, List.any_append]; simp
                have hfl2 : ((K.l.take j).filter fun r => decide (0 < f r)).length ≤ j := Nat.le_trans (List.length_filter_le _ _) (by simp; omega)
                have hlook := H12.out.look (Ok.out.bd hrin)
                have hmk := H12.out.col.mrk _ hrin
                have hsc := H12.out.col.sc _ hrin
                have hcbx : wr.cell? ⟨bw + 1, 0, none⟩ = some (.map (some bw)) := H12.out.rb.cell 0
                have hrg := H12.out.col.rg (K.l.getD j 0)
                clear hrow9 htk
                generalize K.l.getD j 0 = r at *
                generalize ((K.l.take j).filter fun r => decide (0 < f r)).length = c at *
                generalize ((K.l.take j).any fun r => decide (f r = 1)) = b2 at *
                have Hcnt := Lib.hid hcnt
                have Hany := Lib.hid hany
                have Hmk := Lib.hid hmk
                have Hsc := Lib.hid hsc
                have Hrg := Lib.hid hrg
                clear hcnt hany hmk hsc hrg
                rcases Hrg.out with e0 | e0 | e0
                · skip
                  rw [e0] at hlook
                  have Hc1 := Lib.hid Hcnt.out
                  have Ha1 := Lib.hid Hany.out
                  have hmk := Hmk.out
                  have hsc := Hsc.out
                  rw [e0] at hmk hsc
                  simp only [Int.reduceLT, decide_true, decide_false, Int.reduceEq] at hmk hsc
                  have Hmk1 := Lib.hid hmk
                  have Hsc1 := Lib.hid hsc
                  have E0 := Lib.hid e0
                  clear hmk hsc e0
                  gi_wp2_with fail
                  refine ⟨trivial, rfl, ?_⟩
                  refine (callsIn_wide.2 (H12.out.lm.marked r)).mono ?_
                  rw [Hmk1.out]
                  rintro e W13 ⟨rfl, G13, hl13, hS13⟩
                  have h13 := H12.out.step hS13 hl13 H12.out.col
                  have H13 := Lib.hid h13
                  clear h13 hl13 hS13
                  gi_wp2_with fail
                  refine ⟨trivial, rfl, ?_⟩
                  refine (callsIn_wide.2 (H13.out.lm.scanned r)).mono ?_
                  rw [Hsc1.out]
                  rintro e W14 ⟨rfl, G14, hl14, hS14⟩
                  have h14 := H13.out.step hS14 hl14 H13.out.col
                  have H14 := Lib.hid h14
                  clear h14 hl14 hS14 hlook hrc
                  cases b2 with
                  | true =>
                    gi_wp2
                    go_roundw
                    case rel => exact ⟨j + 1, G14, by omega, by go_num, by rw [Hc1.out, E0.out]; go_num, by rw [Ha1.out]; rfl, H14.out⟩
                    case measure => simp [intOf]; omega
                  | false =>
                    gi_wp2
                    go_roundw
                    case rel => exact ⟨j + 1, G14, by omega, by go_num, by rw [Hc1.out, E0.out]; go_num, by rw [Ha1.out, E0.out]; rfl, H14.out⟩
                    case measure => simp [intOf]; omega
                · skip
                  rw [e0] at hlook
                  have Hc1 := Lib.hid Hcnt.out
                  have Ha1 := Lib.hid Hany.out
                  have hmk := Hmk.out
                  have hsc := Hsc.out
                  rw [e0] at hmk hsc
                  simp only [Int.reduceLT, decide_true, decide_false, Int.reduceEq] at hmk hsc
                  have Hmk1 := Lib.hid hmk
                  have Hsc1 := Lib.hid hsc
                  have E0 := Lib.hid e0
                  clear hmk hsc e0
                  gi_wp2_with fail
                  refine ⟨trivial, rfl, ?_⟩
                  refine (callsIn_wide.2 (H12.out.lm.marked r)).mono ?_
                  rw [Hmk1.out]
                  rintro e W13 ⟨rfl, G13, hl13, hS13⟩
                  have h13 := H12.out.step hS13 hl13 H12.out.col
                  have H13 := Lib.hid h13
                  clear h13 hl13 hS13
                  gi_wp2_with fail
                  refine ⟨trivial, rfl, ?_⟩
                  refine (callsIn_wide.2 (H13.out.lm.scanned r)).mono ?_
                  rw [Hsc1.out]
                  rintro e W14 ⟨rfl, G14, hl14, hS14⟩
                  have h14 := H13.out.step hS14 hl14 H13.out.col
                  have H14 := Lib.hid h14
                  clear h14 hl14 hS14 hlook hrc
                  cases b2 with
                  | true =>
                    gi_wp2
                    go_roundw
                    case rel => exact ⟨j + 1, G14, by omega, by go_num, by rw [Hc1.out, E0.out]; go_num, by rw [Ha1.out]; rfl, H14.out⟩
                    case measure => simp [intOf]; omega
                  | false =>
                    gi_wp2
                    go_roundw
                    case rel => exact ⟨j + 1, G14, by omega, by go_num, by rw [Hc1.out, E0.out]; go_num, by rw [Ha1.out, E0.out]; rfl, H14.out⟩
                    case measure => simp [intOf]; omega
                · skip
                  rw [e0] at hlook
                  have Hc1 := Lib.hid Hcnt.out
                  have Ha1 := Lib.hid Hany.out
                  have hmk := Hmk.out
                  have hsc := Hsc.out
                  rw [e0] at hmk hsc
                  simp only [Int.reduceLT, decide_true, decide_false, Int.reduceEq] at hmk hsc
                  have Hmk1 := Lib.hid hmk
                  have Hsc1 := Lib.hid hsc
                  have E0 := Lib.hid e0
                  clear hmk hsc e0
                  gi_wp2_with fail
                  refine ⟨trivial, rfl, ?_⟩
                  refine (callsIn_wide.2 (H12.out.lm.marked r)).mono ?_
                  rw [Hmk1.out]
                  rintro e W13 ⟨rfl, G13, hl13, hS13⟩
                  have h13 := H12.out.step hS13 hl13 H12.out.col
                  have H13 := Lib.hid h13
                  clear h13 hl13 hS13
                  gi_wp2_with fail
                  refine ⟨trivial, rfl, ?_⟩
                  refine (callsIn_wide.2 (H13.out.lm.scanned r)).mono ?_
                  rw [Hsc1.out]
                  rintro e W14 ⟨rfl, G14, hl14, hS14⟩
                  have h14 := H13.out.step hS14 hl14 H13.out.col
                  have H14 := Lib.hid h14
                  clear h14 hl14 hS14 hlook hrc
                  cases b2 with
                  | true =>
                    gi_wp2
                    go_roundw
                    case rel => exact ⟨j + 1, G14, by omega, by go_num, by rw [Hc1.out, E0.out]; go_num, by rw [Ha1.out]; rfl, H14.out⟩
                    case measure => simp [intOf]; omega
                  | false =>
                    gi_wp2
                    go_roundw
                    case rel => exact ⟨j + 1, G14, by omega, by go_num, by rw [Hc1.out, E0.out]; go_num, by rw [Ha1.out, E0.out]; rfl, H14.out⟩
                    case measure => simp [intOf]; omega
              · obtain rfl : j = K.l.length := by omega
                rw [List.take_length]
                have hst := H12.out.lm.lw.st
                rw [Hkw.out.1, Hkw.out.2] at hst
                have hrcl := H12.out.rr.lt
                have hcbl := H12.out.rb.lt
                have hml := H12.out.lm.mi.mk'.raw.lt
                have hbwl : bw < wr.heap.size := by have := H12.out.lt; omega
                have hI12 := hst.inv
                have hMn : M'.n ≤ 2049 := by
                  have h1 := H12.out.lm.mi.en
                  have h2 := (H12.out.lm.lw.ar.facts hI12).2.1
                  omega
                have hs15 : St (fun _ => False) wr.heap.size wr G12 (((wr.alloc (.cells #[.int .i64 0] 3)).alloc (.cells #[.int .i64 0] 36)).alloc (.cells #[.pointer (some ⟨m, 0, none⟩)] 33)) G12 := (((St.refl hI12).alloc _).alloc _).alloc _
                have hr1 := ((Raw.new hI12 #[.int .i64 0] 3).alloc (.cells #[.int .i64 0] 36)).alloc (.cells #[.pointer (some ⟨m, 0, none⟩)] 33)
                have hr2 := (Raw.new (hI12.alloc (.cells #[.int .i64 0] 3)) #[.int .i64 0] 36).alloc (.cells #[.pointer (some ⟨m, 0, none⟩)] 33)
                have hr3 := Raw.new ((hI12.alloc (.cells #[.int .i64 0] 3)).alloc (.cells #[.int .i64 0] 36)) #[.pointer (some ⟨m, 0, none⟩)] 33
                rw [World.size_alloc] at hr2
                rw [World.size_alloc, World.size_alloc] at hr3
                obtain ⟨nm, ksm, -, hmp⟩ := H12.out.mp
                have hal : AlAt w G m M' f (w.heap.size + 1) (bw + 1) bw wr.heap.size [] (((wr.alloc (.cells #[.int .i64 0] 3)).alloc (.cells #[.int .i64 0] 36)).alloc (.cells #[.pointer (some ⟨m, 0, none⟩)] 33)) G12 :=
                  ⟨hst.seqT hs15, H12.out.lm.mi.mk'.step0 hI12 hs15, ⟨nm, ksm, hmp.step hs15⟩, H12.out.rr.step hs15, H12.out.rb.step hs15, hr1, hr2, hr3, ⟨by omega, by omega⟩, by omega⟩
                have Hal := Lib.hid hal
                have Hcol := Lib.hid H12.out.col
                clear hs15 hr1 hr2 hr3 hmp hal hst hI12
                gi_wp2_with fail
                refine ⟨trivial, rfl, ?_⟩
                refine (callsIn_wide.2 (mark_all m _)).mono ?_
                rintro e w15 ⟨rfl, rfl⟩
                gi_wp2
                clear H12
                have hsz15 : (((wr.alloc (.cells #[.int .i64 0] 3)).alloc (.cells #[.int .i64 0] 36)).alloc (.cells #[.pointer (some ⟨m, 0, none⟩)] 33)).heap.size = wr.heap.size + 3 := by simp
                generalize (((wr.alloc (.cells #[.int .i64 0] 3)).alloc (.cells #[.int .i64 0] 36)).alloc (.cells #[.pointer (some ⟨m, 0, none⟩)] 33)) = w15 at *
                generalize wr.heap.size = b at *
                refine range_out (gf := 61) (lb := #[.pointer (some ⟨b + 1 + 1, 0, none⟩)]) rfl (enters_of Try.func61 (by kernel_rfl) rfl) (mall_seq (b + 1 + 1) m M'.a M'.s1 M'.s2 M'.g M'.n M'.mr) (fun _ => rfl)
                  (AlAt w G m M' f (w.heap.size + 1) (bw + 1) bw b) (fun _ _ _ _ => False)
                  (fun x a' _ _ => a' = clX (fun i => a'.tmps.getD i undef) m (bw + 1) b x)
                  ?_ (fun _ _ _ _ h => h.elim) ?_ (fun _ _ _ _ _ _ h => h.elim) (fun _ _ _ _ _ _ h _ => h) Hal.out ?_ ?_ ?_ (fun _ _ _ _ _ _ _ _ h => h.elim)
                · intro pre W G' h
                  exact ⟨h.st.inv, ⟨h.rx.heap, h.mk'.raw.heap, M'.mr, h.mk'.e1, fun _ _ => rfl⟩, by have := h.rx.lt; omega⟩
                · intro pre W G' W' G'' h k
                  exact h.step0 k (by have := Hal.out.lo; have := Hal.out.lt; omega)
                · intro l2 pre x W G' K hI' hK
                  have hK' := fun a' => hK a' W G' hI'
                  clear hK
                  dsimp only [encN]
                  gi_wp2
                  refine hK' _ ?_ (Keep.refl _ _ _)
                  rfl
                · rintro l2 pre x a' W G' hl2 hgl2 ⟨q2, hq2⟩ hR ha' hpre
                  generalize hu : (fun i => a'.tmps.getD i undef) = u' at ha'
                  clear hu
                  subst ha'
                  have hxm := (mem_els.1 (prefix_mem hpre))
                  have hxh : hasR M'.mr (x : Int) = true := by rw [hasR_nat]; exact hxm.2
                  have hxl := Hcol.out.inl _ hxh
                  have hxb := Ok.out.bd hxl
                  have hxp := (Ok.out.ob.pos hxl).1
                  have hlast := last_lt hpre (by omega)
                  have hpl : pre.length ≤ 2049 := by
                    have h1 := hpre.length_le
                    have h2 : (els M'.n M'.mr).length ≤ M'.n := by unfold els; exact Nat.le_trans (List.length_filter_le _ _) (by simp)
                    simp at h1; omega
                  have hfx : f (x : Int) ≠ 0 := fun e => by have := Hcol.out.mrk _ hxl; rw [hxh, e] at this; simp at this
                  obtain ⟨nm, ksm, hmp⟩ := hR.mp
                  have hlook := hmp.look (x := (x : Int)) hxb
                  have hc9 : W.cell? ⟨bw + 1, 0, none⟩ = some (.map (some bw)) := hR.rb.cell 0
                  have hc18 : W.cell? ⟨b, 0, none⟩ = some (.int .i64 pre.length) := hR.rk.cell 0
                  have hc19 : W.cell? ⟨b + 1, 0, none⟩ = some (.int .i64 (lastOf pre)) := hR.rl.cell 0
                  have hf18 : W.frozen? ⟨b, 0, none⟩ = false := hR.rk.free 0
                  have hf19 : W.frozen? ⟨b + 1, 0, none⟩ = false := hR.rl.free 0
                  have hput := hR.put x
                  have hkp : Keep w15.heap.size W G' ((W.setCell ⟨b + 1, 0, none⟩ (.int .i64 x)).setCell ⟨b, 0, none⟩ (.int .i64 ((pre.length : Int) + 1))) G' := ((Keep.refl _ _ _).setRaw hR.rl.raw _).setRaw hR.rk.raw _
                  have Hput := Lib.hid hput
                  have Hkp := Lib.hid hkp
                  have hxi : ((lastOf pre : Nat) : Int) < (x : Int) := by omega
                  clear hR hq2 hxm hxh hxl hmp hput hkp hpre hlast
                  generalize f (x : Int) = fx at *
                  generalize lastOf pre = la at *
                  have hbe : (fx == 0) = false := by simpa using hfx
                  have hfin : rpost w15.heap.size (AlAt w G m M' f (w.heap.size + 1) (bw + 1) bw b) (fun _ _ _ _ => False) (pre ++ [x]) W G' .normal ⟨#[], []⟩ ((W.setCell ⟨b + 1, 0, none⟩ (.int .i64 x)).setCell ⟨b, 0, none⟩ (.int .i64 ((pre.length : Int) + 1))) := ⟨G', Hput.out, Hkp.out⟩
                  have Hfin := Lib.hid hfin
                  clear hfin
                  gi_wp2
                  all_goals first
                    | exact Hfin.out
                    | (exfalso; rename_i hz; rcases hz with hz | hz <;> first | omega | (rw [hbe] at hz; cases hz) | (simp at hz))
                · rintro D W G' hD hgd hR hd
                  have hDl := (Array.getElem?_eq_some_iff.1 hd).1
                  have hmk4 : Marks w15.heap.size W.heap.size [{ target := .collected D, args := #[] }] W G' := (Marks.nil w15.heap.size w15.heap.size W G').cons (Nat.le_refl _) hD hDl hgd hd
                  have hel : (els M'.n M'.mr).length = (K.l.filter fun r => decide (0 < f r)).length := by
                    rw [← pcn_els, pcn_marks Ok.out.ob.nd Hcol.out.inl Hcol.out.bd]
                    exact congrArg List.length (filter_congr' fun r hr => Hcol.out.mrk r hr)
                  have hpc : pcn M'.mr M'.n = (K.l.filter fun r => decide (0 < f r)).length := by rw [pcn_els, hel]
                  have hdr : M'.drained = !(K.l.any fun r => decide (f r = 1)) := by
                    rw [Bool.eq_iff_iff]
                    constructor
                    · intro h
                      have hg := Mk.grey_of_drained h (fun q hq => (Hcol.out.bd q (Hcol.out.inl q hq)).2)
                      rw [Bool.not_eq_true', List.any_eq_false]
                      intro r hr e
                      have e1 : f r = 1 := by simpa using e
                      have := hg r
                      rw [Mk.grey_iff.2 ⟨by rw [Hcol.out.mrk r hr, e1]; rfl, by rw [Hcol.out.sc r hr, e1]; rfl⟩] at this
                      cases this
                    · intro h
                      rw [Bool.not_eq_true', List.any_eq_false] at h
                      refine Mk.drained_of fun q => ?_
                      cases hg : M'.isGrey q with
                      | false => rfl
                      | true =>
                        obtain ⟨g1, g2⟩ := Mk.grey_iff.1 hg
                        have hq := Hcol.out.inl q g1
                        rw [Hcol.out.mrk q hq] at g1
                        rw [Hcol.out.sc q hq] at g2
                        have := h q hq
                        rcases Hcol.out.rg q with e | e | e <;> simp [e] at g1 g2 this
                  have hc18 : W.cell? ⟨b, 0, none⟩ = some (.int .i64 (els M'.n M'.mr).length) := hR.rk.cell 0
                  rw [hel] at hc18
                  have HR := Lib.hid hR
                  have HM4 := Lib.hid hmk4
                  have Hpc := Lib.hid hpc
                  have Hdr := Lib.hid hdr
                  clear hR hmk4 hpc hdr hel hd hgd
                  generalize (K.l.filter fun r => decide (0 < f r)).length = c at *
                  generalize (K.l.any fun r => decide (f r = 1)) = b2 at *
                  gi_wp2_with fail
                  refine ⟨trivial, rfl, ?_⟩
                  refine (callsIn_wide.2 (mark_count m M' W G' HR.out.st.inv HR.out.mk')).mono ?_
                  rw [Hpc.out]
                  rintro e W20 ⟨rfl, G20, hS20⟩
                  have h20 := HR.out.step0 hS20 (by have := HR.out.st.le; omega)
                  have hM20 := HM4.out.step hS20
                  have hc18' : W20.cell? ⟨b, 0, none⟩ = some (.int .i64 (els M'.n M'.mr).length) := h20.rk.cell 0
                  have H20 := Lib.hid h20
                  have HM20 := Lib.hid hM20
                  clear hc18 hS20 hM20 h20 HR HM4
                  rw [show (els M'.n M'.mr).length = c from by rw [← pcn_els, Hpc.out]] at hc18'
                  gi_wp2_with fail
                  refine ⟨trivial, rfl, ?_⟩
                  refine (callsIn_wide.2 (mark_drained m M' W20 G20 H20.out.st.inv H20.out.mk')).mono ?_
                  rw [Hdr.out]
                  rintro e W21 ⟨rfl, G21, hS21⟩
                  have h21 := H20.out.step0 hS21 (by have := H20.out.st.le; omega)
                  have HM21 := Lib.hid (HM20.out.step hS21)
                  have hc4 : W21.cell? ⟨w.heap.size + 1, 0, none⟩ = some (.bool false) := h21.rr.cell 0
                  have hf4 : W21.frozen? ⟨w.heap.size + 1, 0, none⟩ = false := h21.rr.free 0
                  have hs22 := h21.st.setRaw (a := ⟨w.heap.size + 1, 0, none⟩) (by show w.heap.size ≤ w.heap.size + 1; omega) h21.rr.raw (.bool true)
                  have hm22 := HM21.out.setRaw (a := ⟨w.heap.size + 1, 0, none⟩) h21.rr.raw (.bool true)
                  have hr22 := h21.rr.set 0 (.bool true)
                  have Hs22 := Lib.hid hs22
                  have Hm22 := Lib.hid hm22
                  have Hr22 := Lib.hid hr22
                  clear h21 hS21 hs22 hm22 hr22 H20 HM20
                  cases b2 with
                  | true =>
                    gi_wp2
                    refine leave_marks Hs22.out.inv Hm22.out fun W' hS hsame => ⟨.bool true, ?_, rfl, G21, Hs22.out.trans hS (.inl (by omega))⟩
                    have hc5 : W'.cell? ⟨w.heap.size + 1, 0, none⟩ = some (.bool true) := (cell_same (hsame _ (by rw [Hr22.out.raw]; intro e; cases e)) 0).trans (Hr22.out.cell 0)
                    simp [results, Try.results7, go_sem, hc5]
                  | false =>
                    gi_wp2
                    refine leave_marks Hs22.out.inv Hm22.out fun W' hS hsame => ⟨.bool true, ?_, rfl, G21, Hs22.out.trans hS (.inl (by omega))⟩
                    have hc5 : W'.cell? ⟨w.heap.size + 1, 0, none⟩ = some (.bool true) := (cell_same (hsame _ (by rw [Hr22.out.raw]; intro e; cases e)) 0).trans (Hr22.out.cell 0)
                    simp [results, Try.results7, go_sem, hc5]
    · gi_wp2
      refine ⟨.bool true, ?_, Htrue.out.1⟩
      have hc5 := Htrue.out.2
      simp [results, Try.results7, go_sem, hc5]
  · have e1 : (decide (fs.length ≤ 40) && decide (es.length ≤ 120)) = false := by
      rw [Bool.and_eq_false_iff, decide_eq_false_iff_not, decide_eq_false_iff_not]; omega
    rw [e1]
    clear e1
    gi_wp2
    refine ⟨.bool true, ?_, Htrue.out.1⟩
    have hc5 := Htrue.out.2
    simp [results, Try.results7, go_sem, hc5]
end Go.Hw
