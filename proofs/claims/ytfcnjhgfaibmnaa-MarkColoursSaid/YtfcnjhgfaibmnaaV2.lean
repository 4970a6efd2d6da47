/- The laws' world with one marker, or two: contracts over it. -/
import Derived.Test.YtfcnjhgfaibmnaaV1
import Derived.Test.YtfcnjhgfaibmnaaE6
import Derived.Test.YtfcnjhgfaibmnaaL2
namespace Go.Hw
open Go.RowKit Go.Proofs Go.ChangeShapes

structure LK where
  w0 : World
  G0 : Gh
  a : Nat
  bm : Nat
  base : Nat
  n : Nat
  lb : Nat
  v : Value
  l : List Int
  A : Ar
  S : Nat → Bool
  tab : Int → List Int

abbrev LK.At (K : LK) (W : World) (G : Gh) : Prop := LwAt K.w0 K.G0 K.a K.bm K.base K.n K.lb K.v K.l K.A K.S K.tab W G
abbrev LK.P (K : LK) : Int → List Int := pts K.A K.S
structure LK.Ok (K : LK) : Prop where
  ob : Objs K.A K.S K.l
  le : K.l.length ≤ 40
  tb : ∀ x, K.tab x = if x ∈ K.l then K.P x else []
  nn : K.n ≤ 4000
theorem LK.Ok.cl {K : LK} (h : K.Ok) : ∀ r ∈ K.l, ∀ y ∈ K.P r, y ∈ K.l := fun r hr y hy => h.ob.pts hr hy
theorem LK.Ok.fl {K : LK} (h : K.Ok) (r : Int) : wordAt K.A K.S r 0 ≤ 100 := by
  by_cases hr : hasR K.S r = true
  · have := (h.ob.fl r ((h.ob.mem r).2 hr)).2; omega
  · rw [wordAt_out hr]; omega
theorem LK.Ok.bd {K : LK} (h : K.Ok) {r : Int} (hr : r ∈ K.l) : -9223372036854775808 ≤ r ∧ r ≤ 9223372036854775807 := by have := h.ob.pos hr; omega

def lawMade (n : Nat) (w : World) (G : Gh) (w2 : World) (G2 : Gh) (e : Ending) (w' : World) : Prop :=
  ∃ (K : LK) (G' : Gh) (p : Option Addr) (cap : Nat), e = .returned (.tuple #[.pointer (some ⟨K.a, 0, none⟩), .slice p K.l.length cap, .map (some K.bm)]) ∧ K.w0 = w ∧ K.G0 = G ∧ K.At w' G' ∧ K.v = .slice p K.l.length cap ∧ (K.Ok ∧ K.l.length = n) ∧ Step (fun _ => False) w2 G2 w' G' ∧ w2.heap.size ≤ K.a
theorem law_made (v1 v2 : Value) (fs : List Int) (es : List (Int × Int × Int)) (hfl : fs.length ≤ 40) (hel : es.length ≤ 120) {w w2 : World} {G G2 : Gh} (hS : Step (fun _ => False) w G w2 G2) (h1 : U8s w2 G2 v1 fs) (h2 : U16s3 w2 G2 v2 es) :
    Calls Try.prog 10 #[.agg #[v1, v2]] w2 (lawMade fs.length w G w2 G2) := by
  refine (graph_made v1 v2 fs es hfl hel w2 G2 hS.inv h1 h2).mono ?_
  rintro e w3 ⟨a, bm, base, n, lb, vl, l, A, S, tab, G3, rfl, hS3, hA3, hO3, hR3, hG3, hn3, ht3, hl3, ha3, hsp3⟩
  obtain ⟨p, cap, hv, -⟩ := hR3.val
  subst hv
  exact ⟨⟨w, G, a, bm, base, n, lb, _, l, A, S, tab⟩, G3, p, cap, rfl, rfl, rfl, ⟨hS.seqT hS3, hA3, hR3, hG3⟩, rfl, ⟨⟨hO3, by simp only; omega, ht3, by simp only; omega⟩, hl3⟩, hS3, ha3⟩

structure LM (K : LK) (m : Nat) (M : Mk) (W : World) (G : Gh) : Prop where
  lw : K.At W G
  mi : MkIn K.w0 K.a K.A m M W G
def lmPost (K : LK) (m : Nat) (M : Mk) (v : Value) (M' : Mk) (W : World) (G : Gh) (e : Ending) (W' : World) : Prop :=
  e = .returned v ∧ ∃ G', LM K m M' W' G' ∧ Step M.T W G W' G'

section
variable {K : LK} {m : Nat} {M : Mk} {W W' : World} {G G' : Gh}
theorem LM.inv (h : LM K m M W G) : Inv W G := h.lw.st.inv
theorem LM.step0 (h : LM K m M W G) (k : Step (fun _ => False) W G W' G') : LM K m M W' G' := ⟨h.lw.step0 k, h.mi.step0 h.lw.st.inv k⟩
theorem LM.on (h : LM K m M W G) {M' : Mk} (k : Step M.T W G W' G') (hM : MkAt W' G' m M') (hi : M'.ids = M.ids) : LM K m M' W' G' := by
  obtain ⟨h1, h2⟩ := h.lw.on h.mi k hM hi
  exact ⟨h1, h2⟩
theorem LM.quiet {v : Value} (h : LM K m M W G) {f : FuncId} {vs : Array Value} (hc : Calls Try.prog f vs W (qPost v W G)) : Calls Try.prog f vs W (lmPost K m M v M W G) :=
  hc.mono fun _ _ ⟨he, G', hS⟩ => ⟨he, G', h.step0 hS, hS.mono (fun _ h => h.elim) (Nat.le_refl _)⟩
theorem LM.own {v : Value} {M' : Mk} (h : LM K m M W G) {f : FuncId} {vs : Array Value} (hi : M'.ids = M.ids) (hc : Calls Try.prog f vs W (mPost m M v M' W G)) : Calls Try.prog f vs W (lmPost K m M v M' W G) :=
  hc.mono fun _ _ ⟨he, G', hM, hS⟩ => ⟨he, G', h.on hS hM hi, hS⟩
theorem LM.marked (h : LM K m M W G) (r : Int) : Calls Try.prog 13 #[.pointer (some ⟨m, 0, none⟩), .int .i64 r] W (lmPost K m M (.bool (hasR M.mr r)) M W G) := h.quiet (mark_marked m M r W G h.inv h.mi.mk')
theorem LM.scanned (h : LM K m M W G) (r : Int) : Calls Try.prog 18 #[.pointer (some ⟨m, 0, none⟩), .int .i64 r] W (lmPost K m M (.bool (hasR M.sc r)) M W G) := h.quiet (mark_scanned m M r W G h.inv h.mi.mk')
theorem LM.drained (h : LM K m M W G) : Calls Try.prog 16 #[.pointer (some ⟨m, 0, none⟩)] W (lmPost K m M (.bool M.drained) M W G) := h.quiet (mark_drained m M W G h.inv h.mi.mk')
theorem LM.count (h : LM K m M W G) : Calls Try.prog 19 #[.pointer (some ⟨m, 0, none⟩)] W (lmPost K m M (.int .i64 (pcn M.mr M.n : Nat)) M W G) := h.quiet (mark_count m M W G h.inv h.mi.mk')
theorem LM.trace (h : LM K m M W G) (ok : K.Ok) (n : Int) (hn : n ≤ 100000) (hn0 : -100000 ≤ n) : Calls Try.prog 17 #[.pointer (some ⟨m, 0, none⟩), .int .i64 n] W (lmPost K m M (.int .i64 (Mk.trace K.P n.toNat M).1) (Mk.trace K.P n.toNat M).2 W G) :=
  h.own (Mk.ids_trace _ _) (mark_trace m M K.A K.S n hn hn0 ok.ob.wf ok.fl h.mi.d1 h.mi.d2 W G h.inv h.mi.mk' (by rw [h.mi.ea]; exact h.lw.ar))
theorem LM.shade (h : LM K m M W G) (r : Int) : Calls Try.prog 14 #[.pointer (some ⟨m, 0, none⟩), .int .i64 r] W (lmPost K m M (.bool (M.can r)) (M.shade r) W G) := h.own (Mk.ids_shade _ _) (mark_shade m M r W G h.inv h.mi.mk')
end

structure LM2 (K : LK) (m o : Nat) (M O : Mk) (W : World) (G : Gh) : Prop where
  lw : K.At W G
  mi : MkIn K.w0 K.a K.A m M W G
  oi : MkIn K.w0 K.a K.A o O W G
  dj : ∀ b, M.T b → ¬ O.T b
def lm2Post (K : LK) (m o : Nat) (T : Nat → Prop) (v : Value) (M' O' : Mk) (W : World) (G : Gh) (e : Ending) (W' : World) : Prop :=
  e = .returned v ∧ ∃ G', LM2 K m o M' O' W' G' ∧ Step T W G W' G'
section
variable {K : LK} {m o : Nat} {M O : Mk} {W W' : World} {G G' : Gh}
theorem LM2.inv (h : LM2 K m o M O W G) : Inv W G := h.lw.st.inv
theorem LM2.step0 (h : LM2 K m o M O W G) (k : Step (fun _ => False) W G W' G') : LM2 K m o M O W' G' := ⟨h.lw.step0 k, h.mi.step0 h.lw.st.inv k, h.oi.step0 h.lw.st.inv k, h.dj⟩
theorem LM2.swap (h : LM2 K m o M O W G) : LM2 K o m O M W G := ⟨h.lw, h.oi, h.mi, fun b h1 h2 => h.dj b h2 h1⟩
theorem LM2.on (h : LM2 K m o M O W G) {M' : Mk} (k : Step M.T W G W' G') (hM : MkAt W' G' m M') (hi : M'.ids = M.ids) : LM2 K m o M' O W' G' := by
  obtain ⟨h1, h2⟩ := h.lw.on h.mi k hM hi
  exact ⟨h1, h2, h.oi.other h.lw.st.inv k (fun b hb hb' => h.dj b hb' hb), by rw [Mk.T_ids hi]; exact h.dj⟩
theorem LM2.quiet {v : Value} (h : LM2 K m o M O W G) {f : FuncId} {vs : Array Value} (hc : Calls Try.prog f vs W (qPost v W G)) : Calls Try.prog f vs W (lm2Post K m o (fun _ => False) v M O W G) :=
  hc.mono fun _ _ ⟨he, G', hS⟩ => ⟨he, G', h.step0 hS, hS⟩
theorem LM2.own {v : Value} {M' : Mk} (h : LM2 K m o M O W G) {f : FuncId} {vs : Array Value} (hi : M'.ids = M.ids) (hc : Calls Try.prog f vs W (mPost m M v M' W G)) : Calls Try.prog f vs W (lm2Post K m o M.T v M' O W G) :=
  hc.mono fun _ _ ⟨he, G', hM, hS⟩ => ⟨he, G', h.on hS hM hi, hS⟩
theorem lm2_swap {T : Nat → Prop} {v : Value} {M' O' : Mk} {f : FuncId} {vs : Array Value} (hc : Calls Try.prog f vs W (lm2Post K o m T v O' M' W G)) : Calls Try.prog f vs W (lm2Post K m o T v M' O' W G) :=
  hc.mono fun _ _ ⟨he, G', h, hS⟩ => ⟨he, G', h.swap, hS⟩
theorem LM2.marked (h : LM2 K m o M O W G) (r : Int) : Calls Try.prog 13 #[.pointer (some ⟨m, 0, none⟩), .int .i64 r] W (lm2Post K m o (fun _ => False) (.bool (hasR M.mr r)) M O W G) := h.quiet (mark_marked m M r W G h.inv h.mi.mk')
theorem LM2.marked' (h : LM2 K m o M O W G) (r : Int) : Calls Try.prog 13 #[.pointer (some ⟨o, 0, none⟩), .int .i64 r] W (lm2Post K m o (fun _ => False) (.bool (hasR O.mr r)) M O W G) := lm2_swap (h.swap.marked r)
theorem LM2.scanned (h : LM2 K m o M O W G) (r : Int) : Calls Try.prog 18 #[.pointer (some ⟨m, 0, none⟩), .int .i64 r] W (lm2Post K m o (fun _ => False) (.bool (hasR M.sc r)) M O W G) := h.quiet (mark_scanned m M r W G h.inv h.mi.mk')
theorem LM2.scanned' (h : LM2 K m o M O W G) (r : Int) : Calls Try.prog 18 #[.pointer (some ⟨o, 0, none⟩), .int .i64 r] W (lm2Post K m o (fun _ => False) (.bool (hasR O.sc r)) M O W G) := lm2_swap (h.swap.scanned r)
theorem LM2.drained (h : LM2 K m o M O W G) : Calls Try.prog 16 #[.pointer (some ⟨m, 0, none⟩)] W (lm2Post K m o (fun _ => False) (.bool M.drained) M O W G) := h.quiet (mark_drained m M W G h.inv h.mi.mk')
theorem LM2.count (h : LM2 K m o M O W G) : Calls Try.prog 19 #[.pointer (some ⟨m, 0, none⟩)] W (lm2Post K m o (fun _ => False) (.int .i64 (pcn M.mr M.n : Nat)) M O W G) := h.quiet (mark_count m M W G h.inv h.mi.mk')
theorem LM2.trace (h : LM2 K m o M O W G) (ok : K.Ok) (n : Int) (hn : n ≤ 100000) (hn0 : -100000 ≤ n) : Calls Try.prog 17 #[.pointer (some ⟨m, 0, none⟩), .int .i64 n] W (lm2Post K m o M.T (.int .i64 (Mk.trace K.P n.toNat M).1) (Mk.trace K.P n.toNat M).2 O W G) :=
  h.own (Mk.ids_trace _ _) (mark_trace m M K.A K.S n hn hn0 ok.ob.wf ok.fl h.mi.d1 h.mi.d2 W G h.inv h.mi.mk' (by rw [h.mi.ea]; exact h.lw.ar))
theorem LM2.trace' (h : LM2 K m o M O W G) (ok : K.Ok) (n : Int) (hn : n ≤ 100000) (hn0 : -100000 ≤ n) : Calls Try.prog 17 #[.pointer (some ⟨o, 0, none⟩), .int .i64 n] W (lm2Post K m o O.T (.int .i64 (Mk.trace K.P n.toNat O).1) M (Mk.trace K.P n.toNat O).2 W G) := lm2_swap (h.swap.trace ok n hn hn0)
theorem LM2.shade (h : LM2 K m o M O W G) (r : Int) : Calls Try.prog 14 #[.pointer (some ⟨m, 0, none⟩), .int .i64 r] W (lm2Post K m o M.T (.bool (M.can r)) (M.shade r) O W G) := h.own (Mk.ids_shade _ _) (mark_shade m M r W G h.inv h.mi.mk')
theorem LM2.shade' (h : LM2 K m o M O W G) (r : Int) : Calls Try.prog 14 #[.pointer (some ⟨o, 0, none⟩), .int .i64 r] W (lm2Post K m o O.T (.bool (O.can r)) M (O.shade r) W G) := lm2_swap (h.swap.shade r)
end

/-- A new marker over the law's arena. -/
def lnewPost (K : LK) (room : Nat) (W : World) (G : Gh) (e : Ending) (W' : World) : Prop :=
  ∃ (m : Nat) (M : Mk) (G' : Gh), e = .returned (.pointer (some ⟨m, 0, none⟩)) ∧ LM K m M W' G' ∧ M.mr = (fun _ => false) ∧ M.sc = (fun _ => false) ∧ M.st = [] ∧ M.over = false ∧ M.room = max room 1 ∧ (∀ R, Tr K.P K.P K.l R M) ∧ Step (fun _ => False) W G W' G' ∧ ∀ b, M.T b → W.heap.size ≤ b
theorem LK.Ok.newTr {K : LK} (ok : K.Ok) {M : Mk} (hn : M.n = 32 * K.A.pages.length + 1) (h1 : M.mr = fun _ => false) (h2 : M.sc = fun _ => false) (h3 : 1 ≤ M.room) (R : Int → Prop) : Tr K.P K.P K.l R M :=
  Tr.start h1 h2 h3 (fun r hr => by rw [hn]; exact ok.ob.bd hr)
theorem LK.Ok.new {K : LK} (ok : K.Ok) {W : World} {G : Gh} (h : K.At W G) (room : Nat) (hr : room ≤ 1000) : Calls Try.prog 11 #[.pointer (some ⟨K.a, 0, none⟩), .int .i64 room] W (lnewPost K room W G) := by
  refine (mark_new K.a K.A K.S room hr W G h.st.inv h.ar).mono ?_
  rintro e w' ⟨m, G', M, rfl, hm, hM, hS, q1, q2, q3, q4, q5, q6, q7, q8⟩
  exact ⟨m, M, G', rfl, ⟨h.step0 hS, h.fresh hM q1 q2 q8⟩, q3, q4, q5, q6, q7, ok.newTr q2 q3 q4 (by omega), hS, q8⟩
/-- A second one. -/
theorem LM.two {K : LK} {m o : Nat} {M O : Mk} {W W' : World} {G G' : Gh} (h : LM K m M W G) (k : Step (fun _ => False) W G W' G') (h2 : LM K o O W' G') (hb : ∀ b, O.T b → W.heap.size ≤ b) : LM2 K m o M O W' G' :=
  ⟨h2.lw, (h.step0 k).mi, h2.mi, fun b h1 h3 => by
    have k1 := h.mi.mk'.lt h.inv b h1
    have k2 := hb b h3
    omega⟩
end Go.Hw
