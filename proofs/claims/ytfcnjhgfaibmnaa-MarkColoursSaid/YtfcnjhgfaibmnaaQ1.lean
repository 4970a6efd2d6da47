/- From a law's body to its row: what comes in, opened; what is left, shut. -/
import Derived.Test.YtfcnjhgfaibmnaaL1
import Derived.ProofKit
import Derived.Carry
import Derived.Deep.Slices
import Derived.Lib.SmallJoins
namespace Go.Hw
open Go.RowKit Go.Proofs Go.ChangeShapes Go.WideShapes Go.Deep

abbrev GR : Gh := fun _ => .raw
theorem inv_raw (w : World) : Inv w GR := ⟨fun _ => trivial, fun _ _ => rfl⟩
theorem Step.below {w w' : World} {G' : Gh} (h : Step (fun _ => False) w GR w' G') : Below w.heap.size w w' :=
  ⟨h.os, h.tape, h.output, h.le, fun k hk => (h.raw k hk rfl).2⟩

section
variable {H : Type} {enc : TypeId × Value → H} {P : Program} {w : World}

theorem trodAll_below (hl : laidOutB P = true) {W' : World} (hb : Below w.heap.size w W') : ∀ {ts : List TypeId} {vs : List Value} {ds : List (DataW H)} {ps : List MemPlace}, (∀ t ∈ ts, P.readableRec t = true ∧ t < P.types.size) →
    DataW.TrodAll enc P w 0 (fun _ => true) true ts vs ds ps → (∀ x ∈ ps, x.block < w.heap.size) → DataW.TrodAll enc P W' 0 (fun b => decide (b < w.heap.size)) true ts vs ds ps
  | [], vs, ds, ps, _, h, _ => by
    obtain ⟨rfl, rfl, rfl⟩ := trodAll_nil h
    exact rfl
  | t :: ts, vs, ds, ps, hr, h, hp => by
    obtain ⟨v, vs1, d, ds1, a, b, rfl, rfl, rfl, h1, h2⟩ := trodAll_cons h
    obtain ⟨r1, r2⟩ := hr t (List.mem_cons_self ..)
    exact ⟨a, b, Below.trod hl r1 r2 h1 hb (fun x hx => hp x (List.mem_append_left _ hx)), trodAll_below hl hb (fun u hu => hr u (List.mem_cons_of_mem _ hu)) h2 (fun x hx => hp x (List.mem_append_right _ hx)), rfl⟩

/-- What a law leaves: true, and all as it was. -/
theorem law_post {f : Func} {s : ChangeSpec} {W W' : World} {args : Array Value} {ds gs : List (DataW H)} {before : List MemPlace} {B : TypeId} {G' : Gh} (hl : laidOutB P = true) (hW : DataW.Whole enc P f.params.toList s.vars false W args.toList ds gs before)
    (hr : f.resultTypes = #[B]) (hB : P.underlying B = some .bool) (hv : s.vars = []) (hp : f.params.toList.all (fun t => P.readableRec t && decide (t < P.types.size)) = true)
    (hs : ∀ ds : List (DataW H), ds.length = f.params.size → s.fn H ds = { results := [.lit (.bool true)], args := ds }) (hk : Step (fun _ => False) W GR W' G') :
    s.post enc P f false true false false W args (.bool true) W' := by
  have hW' := hW
  obtain ⟨p, q, hA, hV, rfl, hz, -⟩ := hW
  have hlt : ∀ x ∈ p ++ q, x.block < W.heap.size := fun x hx => by simpa using hW'.lt x hx
  rw [hv] at hV
  obtain ⟨rfl, rfl⟩ := trodVars_none hV
  have hlen : ds.length = f.params.size := by
    have : ∀ {ts : List TypeId} {vs : List Value} {ds : List (DataW H)} {ps : List MemPlace}, DataW.TrodAll enc P W 0 (fun _ => true) true ts vs ds ps → ds.length = ts.length := by
      intro ts
      induction ts with
      | nil => intro vs ds ps h; obtain ⟨rfl, rfl, rfl⟩ := trodAll_nil h; rfl
      | cons t ts ih =>
        intro vs ds ps h
        obtain ⟨v, vs1, d, ds1, a, b, rfl, rfl, rfl, h1, h2⟩ := trodAll_cons h
        simp [ih h2]
    rw [this hA]; simp
  have hsf := hs (ds ++ []) (by simpa using hlen)
  rw [List.append_nil] at hsf
  have hpr : ∀ t ∈ f.params.toList, P.readableRec t = true ∧ t < P.types.size := fun t ht => by
    have := List.all_eq_true.1 hp t ht
    simpa using this
  have hA' := trodAll_below hl hk.below hpr hA (fun x hx => hlt x (List.mem_append_left _ hx))
  refine ⟨ds, [], p ++ [], [], p, [], hW', ?_, ?_, ?_, ?_, fun h => (by cases h)⟩
  · rw [List.append_nil, hsf, hr]
    exact trodAll_mk1 (shut_bool hB true)
  · rw [List.append_nil, hsf]
    exact hA'
  · rw [List.append_nil, hsf, hv]
    exact rfl
  · exact hk.below.frame _
end

section
variable {H : Type} {enc : TypeId × Value → H} {P : Program} {w : World} {sp : Nat → Bool} {held : Bool}

theorem cell_lt {w : World} {a : Addr} {v : Value} (h : w.cell? a = some v) : a.block < w.heap.size := World.block_lt_of_cell? w a h
theorem wf_u8 {x : Int} (h : (Lit.int .u8 x).wf = true) : 0 ≤ x ∧ x ≤ 255 := by simp [Lit.wf, IntKind.min, IntKind.max, IntKind.signed, IntKind.bits] at h; omega
theorem wf_u16 {x : Int} (h : (Lit.int .u16 x).wf = true) : 0 ≤ x ∧ x ≤ 65535 := by simp [Lit.wf, IntKind.min, IntKind.max, IntKind.signed, IntKind.bits] at h; omega

theorem open_u8s {t e : TypeId} {n : Nat} {v : Value} {y : DataW H × List MemPlace} (ht : P.underlying t = some (.slice e)) (he : P.underlying e = some (.int .u8)) (hc : P.cellsOf e = 1) (h : DataW.trod enc P w 0 sp held n t [v] = some y) : ∃ xs, U8s w GR v xs := by
  rcases open_ints ht he hc h with ⟨hcs, -⟩ | ⟨a, len, cap, zs, hcs, -, hlc, hm, hzl, -, hel, hwf⟩
  · simp only [List.cons.injEq, and_true] at hcs
    subst hcs
    exact ⟨[], none, 0, rfl, by simp, fun i hi => by simp at hi⟩
  · simp only [List.cons.injEq, and_true] at hcs
    subst hcs
    have hlz : len ≤ zs.length := by rw [hzl]; split <;> omega
    have e1 : (zs.take len).length = len := by simp; omega
    refine ⟨zs.take len, some a, cap, by rw [e1], by rw [e1]; have : cap ≤ 9223372036854775807 := hm; omega, fun i hi => ?_⟩
    rw [e1] at hi
    have hi' : i < zs.length := by omega
    have h1 := hel i hi'
    have h2 := wf_u8 (hwf (zs.getD i 0) (by rw [List.getD_eq_getElem?_getD, List.getElem?_eq_getElem hi']; exact List.getElem_mem _))
    have e2 : (zs.take len).getD i 0 = zs.getD i 0 := by simp [List.getD, List.getElem?_take, hi]
    have h3 := cell_lt h1
    rw [add_block] at h3
    rw [e2]
    exact ⟨a, rfl, rfl, h3, h1, h2⟩

/-- A slice of arrays of numbers lies. -/
def IntRows (q : IntKind) (k : Nat) (w : World) (G : Gh) (v : Value) (n : Nat) (f : Nat → Nat → Int) : Prop :=
  ∃ p cap, v = .slice p n cap ∧ n ≤ 9223372036854775807 ∧ ∀ i, i < n → ∃ a : Addr, p = some a ∧ G a.block = .raw ∧ a.block < w.heap.size ∧ ∀ j, j < k → w.cell? (a.add (i * k + j)) = some (.int q (f i j)) ∧ (Lit.int q (f i j)).wf = true
theorem IntRows.step {q : IntKind} {k : Nat} {T : Nat → Prop} {B : Nat} {w w' : World} {G G' : Gh} {v : Value} {n : Nat} {f : Nat → Nat → Int} (h : IntRows q k w G v n f) (hk : St T B w G w' G') : IntRows q k w' G' v n f := by
  obtain ⟨p, cap, h1, h2, h3⟩ := h
  refine ⟨p, cap, h1, h2, fun i hi => ?_⟩
  obtain ⟨a, e1, e2, e3, e4⟩ := h3 i hi
  exact ⟨a, e1, (hk.raw _ e3 e2).1, Nat.lt_of_lt_of_le e3 hk.le, fun j hj => ⟨(cell_raw hk (by rwa [add_block]) (by rwa [add_block])).trans (e4 j hj).1, (e4 j hj).2⟩⟩

theorem open_array_ints {e c : TypeId} {q : IntKind} {k n : Nat} {cs : List Value} {y : DataW H × List MemPlace} (he : P.underlying e = some (.array k c)) (hc : P.underlying c = some (.int q)) (h1 : P.cellsOf c = 1) (hk : P.cellsOf e = k) (h : DataW.trod enc P w 0 sp held n e cs = some y) :
    cs.length = k ∧ ∀ j, j < k → ∃ x : Int, cs[j]? = some (.int q x) ∧ (Lit.int q x).wf = true := by
  obtain ⟨xs, m, -, -, hl, hlen, hx⟩ := DataW.trod_array he h
  rw [hk] at hl
  refine ⟨hl, fun j hj => ?_⟩
  have hz := hx j hj
  rw [List.getElem?_eq_getElem (by omega), h1, Nat.mul_one] at hz
  have e2 : (cs.drop j).take 1 = [cs[j]'(by omega)] := by
    rw [List.drop_eq_getElem_cons (by omega)]; rfl
  rw [e2] at hz
  obtain ⟨x, hx, -, hw⟩ := DataW.trod_int hc hz
  simp only [List.cons.injEq, and_true] at hx
  exact ⟨x, by rw [List.getElem?_eq_getElem (by omega), hx], hw⟩
theorem open_int_rows {t e c : TypeId} {q : IntKind} {k n : Nat} {v : Value} {y : DataW H × List MemPlace} (hk0 : 0 < k) (ht : P.underlying t = some (.slice e)) (he : P.underlying e = some (.array k c)) (hc : P.underlying c = some (.int q)) (h1 : P.cellsOf c = 1) (hk : P.cellsOf e = k)
    (h : DataW.trod enc P w 0 sp held n t [v] = some y) : ∃ n f, IntRows q k w GR v n f := by
  rcases open_slice ht h with ⟨hcs, -⟩ | ⟨a, len, cap, m, n, D, Pl, hcs, -, hl, hm, hmm, -, hx⟩
  · simp only [List.cons.injEq, and_true] at hcs
    subst hcs
    exact ⟨0, fun _ _ => 0, none, 0, rfl, by simp, fun i hi => by simp at hi⟩
  · simp only [List.cons.injEq, and_true] at hcs
    subst hcs
    have hlm : len ≤ m := by rw [hmm]; split <;> omega
    have hz : ∀ i, i < len → ∀ j, j < k → ∃ x : Int, w.cell? (a.add (i * k + j)) = some (.int q x) ∧ (Lit.int q x).wf = true := fun i hi j hj => by
      obtain ⟨cs', hcs, htr⟩ := hx i (by omega)
      obtain ⟨hl', hj'⟩ := open_array_ints he hc h1 hk htr
      obtain ⟨x, e1, e2⟩ := hj' j hj
      rw [hk] at hcs
      have := (World.cells?_some hcs).2.2 j hj
      rw [add_add, e1] at this
      exact ⟨x, this, e2⟩
    refine ⟨len, fun i j => if h : i < len ∧ j < k then (hz i h.1 j h.2).choose else 0, some a, cap, rfl, (by have : cap ≤ 9223372036854775807 := hm; omega), fun i hi => ?_⟩
    have h0 := (hz i hi 0 hk0).choose_spec.1
    have hb := cell_lt h0
    rw [add_block] at hb
    refine ⟨a, rfl, rfl, hb, fun j hj => ?_⟩
    have := (hz i hi j hj).choose_spec
    dsimp only
    rw [dif_pos ⟨hi, hj⟩]
    exact this
theorem IntRows.u16s3 {v : Value} {n : Nat} {f : Nat → Nat → Int} {G : Gh} (h : IntRows .u16 3 w G v n f) : ∃ es, U16s3 w G v es := by
  obtain ⟨p, cap, rfl, h2, h3⟩ := h
  have e1 : ((List.range n).map fun i => (f i 0, f i 1, f i 2)).length = n := by simp
  refine ⟨(List.range n).map fun i => (f i 0, f i 1, f i 2), p, cap, by rw [e1], by rw [e1]; exact h2, fun i hi => ?_⟩
  rw [e1] at hi
  obtain ⟨a, k1, k2, k3, k4⟩ := h3 i hi
  have e2 : ((List.range n).map fun i => (f i 0, f i 1, f i 2)).getD i (0, 0, 0) = (f i 0, f i 1, f i 2) := by simp [List.getD, List.getElem?_map, List.getElem?_range hi]
  rw [e2]
  exact ⟨a, k1, k2, k3, ⟨by simpa using (k4 0 (by omega)).1, (k4 1 (by omega)).1, (k4 2 (by omega)).1⟩, wf_u16 (k4 0 (by omega)).2, wf_u16 (k4 1 (by omega)).2, wf_u16 (k4 2 (by omega)).2⟩
end

section
variable {H : Type} {enc : TypeId × Value → H} {w : World} {sp : Nat → Bool} {held : Bool}
set_option maxRecDepth 100000 in
theorem open_graph {r : Reach} {b0 : Nat} {v : Value} {d : DataW H} {p : List MemPlace} (hv : Value.okWide Try.prog w r b0 25 v) (h : DataW.Trod enc Try.prog w 0 sp held 25 v d p) :
    ∃ v1 v2 fs es, v = .agg #[v1, v2] ∧ U8s w GR v1 fs ∧ U16s3 w GR v2 es := by
  obtain ⟨v1, v2, y1, y2, n, rfl, -, -, h1, h2⟩ := Go.Joins.open_agg2 Try.underlying25 (by kernel_rfl) (by kernel_rfl) hv h
  obtain ⟨fs, hfs⟩ := open_u8s Try.underlying22 Try.underlying5 (by kernel_rfl) h1
  obtain ⟨n2, f, hf⟩ := open_int_rows (by omega) Try.underlying23 Try.underlying70 Try.underlying69 (by kernel_rfl) (by kernel_rfl) h2
  obtain ⟨es, hes⟩ := hf.u16s3
  exact ⟨v1, v2, fs, es, rfl, hfs, hes⟩
set_option maxRecDepth 100000 in
theorem open_bytes {r : Reach} {b0 : Nat} {v : Value} {d : DataW H} {p : List MemPlace} (hv : Value.okWide Try.prog w r b0 22 v) (h : DataW.Trod enc Try.prog w 0 sp held 22 v d p) : ∃ xs, U8s w GR v xs := by
  obtain ⟨p, n, cap, rfl⟩ := okWide_slice Try.underlying22 hv
  obtain ⟨k, hk⟩ := h
  exact open_u8s Try.underlying22 Try.underlying5 (by kernel_rfl) hk
set_option maxRecDepth 100000 in
theorem okWide_arr0 {r : Reach} {b0 k : Nat} {t e : TypeId} {v : Value} (ht : Try.prog.underlying t = some (.array k e)) (h : Value.okWide Try.prog w r b0 t v) : ∃ cs, v = .agg cs ∧ cs.size = Try.prog.cellsOf t := by
  simp only [Value.okWide, ht] at h
  obtain ⟨cs, h1, h2, _⟩ := h
  exact ⟨cs, h1, h2⟩
set_option maxRecDepth 100000 in
theorem open_u8x2 {r : Reach} {b0 : Nat} {v : Value} {d : DataW H} {p : List MemPlace} (hv : Value.okWide Try.prog w r b0 26 v) (h : DataW.Trod enc Try.prog w 0 sp held 26 v d p) : ∃ x y : Int, v = .agg #[.int .u8 x, .int .u8 y] ∧ (0 ≤ x ∧ x ≤ 255) ∧ (0 ≤ y ∧ y ≤ 255) := by
  obtain ⟨cs, rfl, hsz⟩ := okWide_arr0 Try.underlying26 hv
  obtain ⟨c0, c1, rfl⟩ := Go.Joins.array2 (hsz.trans (by kernel_rfl))
  obtain ⟨n, hn⟩ := h
  obtain ⟨-, h2⟩ := open_array_ints (k := 2) Try.underlying26 Try.underlying5 (by kernel_rfl) (by kernel_rfl) hn
  obtain ⟨x, hx, wx⟩ := h2 0 (by omega)
  obtain ⟨y, hy, wy⟩ := h2 1 (by omega)
  simp only [Value.cells] at hx hy
  simp at hx hy
  subst hx hy
  exact ⟨x, y, rfl, wf_u8 wx, wf_u8 wy⟩
set_option maxRecDepth 100000 in
theorem open_u8x2s {r : Reach} {b0 : Nat} {v : Value} {d : DataW H} {p : List MemPlace} (hv : Value.okWide Try.prog w r b0 55 v) (h : DataW.Trod enc Try.prog w 0 sp held 55 v d p) : ∃ n f, IntRows .u8 2 w GR v n f := by
  obtain ⟨p, n, cap, rfl⟩ := okWide_slice Try.underlying55 hv
  obtain ⟨k, hk⟩ := h
  exact open_int_rows (by omega) Try.underlying55 Try.underlying26 Try.underlying5 (by kernel_rfl) (by kernel_rfl) hk
theorem laidOut : laidOutB Try.prog = true := by kernel_rfl
end
end Go.Hw
