/- What lies while a law of layer 11 runs. -/
import Derived.Test.YtfcnjhgfaibmnaaL3
import Derived.Test.YtfcnjhgfaibmnaaL1
import Derived.Test.YtfcnjhgfaibmnaaT0
namespace Go.Hw
open Go.RowKit Go.Proofs Go.ChangeShapes

structure LwAt (w0 : World) (G0 : Gh) (a bm base n lb : Nat) (v : Value) (l : List Int) (A : Ar) (S : Nat → Bool) (tab : Int → List Int) (W : World) (G : Gh) : Prop where
  st : Step (fun _ => False) w0 G0 W G
  ar : ArAt W G a A S
  row : RowAt W G lb v l
  gr : GrpAt W G bm base n tab (fun _ => False)

/-- A marker of the law's own. -/
structure MkIn (w0 : World) (a : Nat) (A : Ar) (m : Nat) (M : Mk) (W : World) (G : Gh) : Prop where
  mk' : MkAt W G m M
  ea : M.a = a
  en : M.n = 32 * A.pages.length + 1
  ab : ∀ b, M.T b → w0.heap.size ≤ b
  d1 : M.s1 ≠ A.sp
  d2 : M.s2 ≠ A.sp

theorem LwAt.step0 {w0 W W' : World} {G0 G G' : Gh} {a bm base n lb : Nat} {v : Value} {l : List Int} {A : Ar} {S : Nat → Bool} {tab : Int → List Int} (h : LwAt w0 G0 a bm base n lb v l A S tab W G) (k : Step (fun _ => False) W G W' G') : LwAt w0 G0 a bm base n lb v l A S tab W' G' :=
  ⟨h.st.seqT k, h.ar.step0 h.st.inv k, h.row.step k, h.gr.step k⟩
theorem MkIn.step0 {w0 W W' : World} {G G' : Gh} {a m : Nat} {A : Ar} {M : Mk} (h : MkIn w0 a A m M W G) (hI : Inv W G) (k : Step (fun _ => False) W G W' G') : MkIn w0 a A m M W' G' :=
  ⟨h.mk'.step0 hI k, h.ea, h.en, h.ab, h.d1, h.d2⟩
/-- A call on the marker: the law's world, and the marker. -/
theorem LwAt.on {w0 W W' : World} {G0 G G' : Gh} {a bm base n lb m : Nat} {v : Value} {l : List Int} {A : Ar} {S : Nat → Bool} {tab : Int → List Int} {M M' : Mk} (h : LwAt w0 G0 a bm base n lb v l A S tab W G) (hM : MkIn w0 a A m M W G) (k : Step M.T W G W' G') (hM' : MkAt W' G' m M') (hi : M'.ids = M.ids) :
    LwAt w0 G0 a bm base n lb v l A S tab W' G' ∧ MkIn w0 a A m M' W' G' := by
  have hT := Mk.T_ids hi
  simp only [Mk.ids, Prod.mk.injEq] at hi
  refine ⟨⟨h.st.new k hM.ab, ?_, h.row.step k, h.gr.step k⟩, hM', hi.1.trans hM.ea, hi.2.2.2.2.1.trans hM.en, by rw [hT]; exact hM.ab, by rw [hi.2.1]; exact hM.d1, by rw [hi.2.2.1]; exact hM.d2⟩
  have := hM.mk'.arena h.st.inv (by rw [hM.ea]; exact h.ar) hM.d1 hM.d2 k
  rwa [hM.ea] at this
/-- .. and another marker. -/
theorem MkIn.other {w0 W W' : World} {G G' : Gh} {a m : Nat} {A : Ar} {M N : Mk} (h : MkIn w0 a A m M W G) (hI : Inv W G) (k : Step N.T W G W' G') (hd : ∀ b, M.T b → ¬ N.T b) : MkIn w0 a A m M W' G' :=
  ⟨h.mk'.frame hI k hd, h.ea, h.en, h.ab, h.d1, h.d2⟩
theorem MkAt.lt {w : World} {G : Gh} {m : Nat} {M : Mk} (h : MkAt w G m M) (hI : Inv w G) : ∀ b, M.T b → b < w.heap.size := by
  rintro b (rfl | rfl | rfl)
  · exact lay_lt hI (by rw [h.e1]; rfl)
  · exact lay_lt hI (by rw [h.e2]; rfl)
  · exact lay_lt hI (by rw [h.eg]; rfl)
/-- A new marker. -/
theorem LwAt.fresh {w0 W W' : World} {G0 G G' : Gh} {a bm base n lb m : Nat} {v : Value} {l : List Int} {A : Ar} {S : Nat → Bool} {tab : Int → List Int} {M : Mk} (h : LwAt w0 G0 a bm base n lb v l A S tab W G)
    (hM : MkAt W' G' m M) (ha : M.a = a) (hn : M.n = 32 * A.pages.length + 1) (hT : ∀ b, M.T b → W.heap.size ≤ b) : MkIn w0 a A m M W' G' := by
  have hsp : A.sp < W.heap.size := lay_lt h.st.inv (by rw [h.ar.st]; rfl)
  exact ⟨hM, ha, hn, fun b hb => Nat.le_trans h.st.le (hT b hb), by have := hT _ (.inl rfl); omega, by have := hT _ (.inr (.inl rfl)); omega⟩
theorem Mk.ids_trace {P : Int → List Int} : ∀ (k : Nat) (M : Mk), (Mk.trace P k M).2.ids = M.ids
  | 0, M => rfl
  | k + 1, M => by
    cases hn : M.next.1 with
    | none => rw [Mk.trace_none k hn]; exact M.ids_next.1
    | some r => rw [Mk.trace_some k hn]; exact (Mk.ids_trace k _).trans ((Mk.ids_scan _ _ _).trans M.ids_next.1)
theorem Tr.start {P : Int → List Int} {l : List Int} {R : Int → Prop} {M : Mk} (h1 : M.mr = fun _ => false) (h2 : M.sc = fun _ => false) (h3 : 1 ≤ M.room) (hb : ∀ r ∈ l, 1 ≤ r ∧ r < M.n) : Tr P P l R M := by
  have e1 : ∀ q, hasR M.mr q = false := fun q => by simp [hasR, h1]
  have e2 : ∀ q, hasR M.sc q = false := fun q => by simp [hasR, h2]
  exact ⟨.inr fun r hr => (by rw [Mk.grey_iff, e1] at hr; cases hr.1), h3, fun r hr => (by rw [e2] at hr; cases hr), fun r hr => (by rw [e1] at hr; cases hr), hb, fun r hr => (by rw [e2] at hr; cases hr), fun r hr => (by rw [e1] at hr; cases hr)⟩

/-- The law's world and two markers. -/
structure L2At (w0 : World) (G0 : Gh) (a bm base n lb : Nat) (v : Value) (l : List Int) (A : Ar) (S : Nat → Bool) (tab : Int → List Int) (m o : Nat) (M O : Mk) (W : World) (G : Gh) : Prop where
  lw : LwAt w0 G0 a bm base n lb v l A S tab W G
  mi : MkIn w0 a A m M W G
  oi : MkIn w0 a A o O W G
  dj : ∀ b, M.T b → ¬ O.T b
theorem L2At.step0 {w0 W W' : World} {G0 G G' : Gh} {a bm base n lb m o : Nat} {v : Value} {l : List Int} {A : Ar} {S : Nat → Bool} {tab : Int → List Int} {M O : Mk} (h : L2At w0 G0 a bm base n lb v l A S tab m o M O W G) (k : Step (fun _ => False) W G W' G') : L2At w0 G0 a bm base n lb v l A S tab m o M O W' G' :=
  ⟨h.lw.step0 k, h.mi.step0 h.lw.st.inv k, h.oi.step0 h.lw.st.inv k, h.dj⟩
theorem L2At.onM {w0 W W' : World} {G0 G G' : Gh} {a bm base n lb m o : Nat} {v : Value} {l : List Int} {A : Ar} {S : Nat → Bool} {tab : Int → List Int} {M O M' : Mk} (h : L2At w0 G0 a bm base n lb v l A S tab m o M O W G) (k : Step M.T W G W' G') (hM : MkAt W' G' m M') (hi : M'.ids = M.ids) : L2At w0 G0 a bm base n lb v l A S tab m o M' O W' G' := by
  obtain ⟨h1, h2⟩ := h.lw.on h.mi k hM hi
  exact ⟨h1, h2, h.oi.other h.lw.st.inv k (fun b hb hb' => h.dj b hb' hb), by rw [Mk.T_ids hi]; exact h.dj⟩
theorem L2At.onO {w0 W W' : World} {G0 G G' : Gh} {a bm base n lb m o : Nat} {v : Value} {l : List Int} {A : Ar} {S : Nat → Bool} {tab : Int → List Int} {M O O' : Mk} (h : L2At w0 G0 a bm base n lb v l A S tab m o M O W G) (k : Step O.T W G W' G') (hO : MkAt W' G' o O') (hi : O'.ids = O.ids) : L2At w0 G0 a bm base n lb v l A S tab m o M O' W' G' := by
  obtain ⟨h1, h2⟩ := h.lw.on h.oi k hO hi
  exact ⟨h1, h.mi.other h.lw.st.inv k h.dj, h2, by rw [Mk.T_ids hi]; exact h.dj⟩
/-- .. and one. -/
structure L1At (w0 : World) (G0 : Gh) (a bm base n lb : Nat) (v : Value) (l : List Int) (A : Ar) (S : Nat → Bool) (tab : Int → List Int) (m : Nat) (M : Mk) (W : World) (G : Gh) : Prop where
  lw : LwAt w0 G0 a bm base n lb v l A S tab W G
  mi : MkIn w0 a A m M W G
theorem L1At.step0 {w0 W W' : World} {G0 G G' : Gh} {a bm base n lb m : Nat} {v : Value} {l : List Int} {A : Ar} {S : Nat → Bool} {tab : Int → List Int} {M : Mk} (h : L1At w0 G0 a bm base n lb v l A S tab m M W G) (k : Step (fun _ => False) W G W' G') : L1At w0 G0 a bm base n lb v l A S tab m M W' G' :=
  ⟨h.lw.step0 k, h.mi.step0 h.lw.st.inv k⟩
theorem L1At.on {w0 W W' : World} {G0 G G' : Gh} {a bm base n lb m : Nat} {v : Value} {l : List Int} {A : Ar} {S : Nat → Bool} {tab : Int → List Int} {M M' : Mk} (h : L1At w0 G0 a bm base n lb v l A S tab m M W G) (k : Step M.T W G W' G') (hM : MkAt W' G' m M') (hi : M'.ids = M.ids) : L1At w0 G0 a bm base n lb v l A S tab m M' W' G' := by
  obtain ⟨h1, h2⟩ := h.lw.on h.mi k hM hi
  exact ⟨h1, h2⟩
/-- A row's item. -/
theorem RowAt.item {w : World} {G : Gh} {base : Nat} {p : Option Addr} {n cap : Nat} {l : List Int} (h : RowAt w G base (.slice p n cap) l) {k : Nat} (hk : k < l.length) :
    ∃ g, p = some ⟨g, 0, none⟩ ∧ w.cell? ⟨g, k, none⟩ = some (.int .i64 (l.getD k 0)) ∧ l.getD k 0 ∈ l ∧ l.take (k + 1) = l.take k ++ [l.getD k 0] := by
  obtain ⟨p7, c7, he7, hrv⟩ := h.val
  cases he7
  obtain ⟨g, rfl, hc⟩ := hrv k hk
  exact ⟨g, rfl, hc, by rw [List.getD_eq_getElem?_getD, List.getElem?_eq_getElem hk]; exact List.getElem_mem _, by rw [List.take_succ_eq_append_getElem hk, List.getD_eq_getElem?_getD, List.getElem?_eq_getElem hk, Option.getD_some]⟩
set_option maxRecDepth 100000 in
theorem GrpAt.look {w : World} {G : Gh} {b base n : Nat} {tab : Int → List Int} {X : Nat → Prop} (h : GrpAt w G b base n tab X) (hn : n < 1000000) {x : Int} (hx : -9223372036854775808 ≤ x ∧ x ≤ 9223372036854775807) :
    ∃ v, (Instr.lookup 30 (.map (some b)) (.int .i64 x) false).run Try.prog w = .ok v w ∧ RowAt w G base v (tab x) := by
  obtain ⟨hr, D, hD, ho, ht, hs⟩ := h
  obtain ⟨v, zs, hrun, hat, hoi, hzl, -⟩ := ho.at ref_law Try.underlying30 (zero_refs w) (show n < maxLen by unfold maxLen; omega) (key_ref hx)
  have hz : zs = tab x := by
    rw [ht] at hat
    unfold dat at hat
    rcases hoi.datum (H := Unit) with ⟨h1, h2⟩ | h1
    · rw [h1] at hat
      split at hat
      · rw [h2]; symm; assumption
      · cases hat
    · rw [h1] at hat
      split at hat
      · cases hat
      · injection hat with e1
        exact (lits_inj e1).symm
  subst hz
  refine ⟨v, hrun, hoi.1, fun g hg => ?_⟩
  obtain ⟨es, clock, hb, F, _⟩ := ho
  rcases Maps.fit_look false ref_law Try.underlying30 (zero_refs w) hb F (key_ref hx) with ⟨hrun', _, _⟩ | ⟨e0, y, hm0, _, hrun', _, _, _⟩
  · rw [hrun] at hrun'
    obtain rfl : v = .slice none 0 0 := by simpa using hrun'
    cases hg
  · rw [hrun] at hrun'
    obtain rfl : v = e0.val := by simpa using hrun'
    exact Classical.byContradiction fun e => hs es clock hb e0 hm0 g hg (.inl e)
end Go.Hw
