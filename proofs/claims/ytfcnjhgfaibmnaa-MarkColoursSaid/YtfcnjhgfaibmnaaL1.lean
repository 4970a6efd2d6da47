/- Law 11: Graph.Small, some. -/
import Derived.Test.YtfcnjhgfaibmnaaF1
import Derived.Test.YtfcnjhgfaibmnaaG2
import Derived.Test.YtfcnjhgfaibmnaaM4
import Derived.Sort.QuietIn
import Derived.Test.YtfcnjhgfaibmnaaR1
import Derived.Sort.LoopGhostIn
namespace Go.Hw
open Go.RowKit Go.Proofs Go.ChangeShapes
attribute [local go_sem] Oper.semAt_some

/-- A slice of bytes lies. -/
def U8s (w : World) (G : Gh) (v : Value) (xs : List Int) : Prop :=
  ∃ p cap, v = .slice p xs.length cap ∧ xs.length ≤ 9223372036854775807 ∧ ∀ i, i < xs.length → ∃ a : Addr, p = some a ∧ G a.block = .raw ∧ a.block < w.heap.size ∧ w.cell? (a.add i) = some (.int .u8 (xs.getD i 0)) ∧ 0 ≤ xs.getD i 0 ∧ xs.getD i 0 ≤ 255
def U16s3 (w : World) (G : Gh) (v : Value) (xs : List (Int × Int × Int)) : Prop :=
  ∃ p cap, v = .slice p xs.length cap ∧ xs.length ≤ 9223372036854775807 ∧ ∀ i, i < xs.length → ∃ a : Addr, p = some a ∧ G a.block = .raw ∧ a.block < w.heap.size ∧
    (w.cell? (a.add (i * 3)) = some (.int .u16 (xs.getD i (0, 0, 0)).1) ∧ w.cell? (a.add (i * 3 + 1)) = some (.int .u16 (xs.getD i (0, 0, 0)).2.1) ∧ w.cell? (a.add (i * 3 + 2)) = some (.int .u16 (xs.getD i (0, 0, 0)).2.2)) ∧
    (0 ≤ (xs.getD i (0, 0, 0)).1 ∧ (xs.getD i (0, 0, 0)).1 ≤ 65535) ∧ (0 ≤ (xs.getD i (0, 0, 0)).2.1 ∧ (xs.getD i (0, 0, 0)).2.1 ≤ 65535) ∧ (0 ≤ (xs.getD i (0, 0, 0)).2.2 ∧ (xs.getD i (0, 0, 0)).2.2 ≤ 65535)

theorem cell_raw {T : Nat → Prop} {B : Nat} {w w' : World} {G G' : Gh} (k : St T B w G w' G') {a : Addr} (hr : G a.block = .raw) (hl : a.block < w.heap.size) : w'.cell? a = w.cell? a :=
  World.cell?_of_block (k.raw a.block hl hr).2
theorem add_block (a : Addr) (i : Nat) : (a.add i).block = a.block := by unfold Addr.add; split <;> rfl
theorem add_off (a : Addr) (i j : Nat) : a.add (i + (j + 1)) = ⟨(a.add i).block, (a.add i).off + (j + 1), none⟩ := by
  unfold Addr.add
  rw [if_neg (by omega)]
  split
  · subst_vars; simp
  · simp; omega
theorem U8s.step {T : Nat → Prop} {B : Nat} {w w' : World} {G G' : Gh} {v : Value} {xs : List Int} (h : U8s w G v xs) (k : St T B w G w' G') : U8s w' G' v xs := by
  obtain ⟨p, cap, h1, h2, h3⟩ := h
  refine ⟨p, cap, h1, h2, fun i hi => ?_⟩
  obtain ⟨a, e1, e2, e3, e4, e5⟩ := h3 i hi
  exact ⟨a, e1, (k.raw _ e3 e2).1, Nat.lt_of_lt_of_le e3 k.le, (cell_raw k (by rwa [add_block]) (by rwa [add_block])).trans e4, e5⟩
theorem U16s3.step {T : Nat → Prop} {B : Nat} {w w' : World} {G G' : Gh} {v : Value} {xs : List (Int × Int × Int)} (h : U16s3 w G v xs) (k : St T B w G w' G') : U16s3 w' G' v xs := by
  obtain ⟨p, cap, h1, h2, h3⟩ := h
  refine ⟨p, cap, h1, h2, fun i hi => ?_⟩
  obtain ⟨a, e1, e2, e3, ⟨e4, e5, e6⟩, e7⟩ := h3 i hi
  have hc : ∀ j, w'.cell? (a.add j) = w.cell? (a.add j) := fun j => cell_raw k (by rwa [add_block]) (by rwa [add_block])
  exact ⟨a, e1, (k.raw _ e3 e2).1, Nat.lt_of_lt_of_le e3 k.le, ⟨(hc _).trans e4, (hc _).trans e5, (hc _).trans e6⟩, e7⟩

set_option maxRecDepth 100000 in
theorem graph_small (v1 v2 : Value) (fs : List Int) (es : List (Int × Int × Int)) (w : World) (G : Gh) (hI : Inv w G) (h1 : U8s w G v1 fs) (h2 : U16s3 w G v2 es) :
    Calls Try.prog 9 #[.agg #[v1, v2]] w (quiet (.bool (decide (fs.length ≤ 40) && decide (es.length ≤ 120))) w G) := by
  obtain ⟨p, cap, rfl, hl1, -⟩ := h1
  obtain ⟨q, cap2, rfl, hl2, -⟩ := h2
  have hS : Step (fun _ => False) w G (w.alloc (.cells #[.slice p fs.length cap, .slice q es.length cap2] 25)) G := (St.refl hI).alloc _
  have HS := Lib.hid hS
  clear hS hI
  generalize fs.length = n1 at *
  generalize es.length = n2 at *
  by_cases hn1 : n1 ≤ 40
  · have e1 : decide (n1 ≤ 40) = true := by simpa using hn1
    rw [e1]
    clear e1
    go_enter Try.func9, Try.ntmps9
    go_wp2
    go_ret
    exact ⟨ret_bool (by simp; omega), G, HS.out⟩
  · have e1 : decide (n1 ≤ 40) = false := by simpa using hn1
    rw [e1]
    clear e1
    go_enter Try.func9, Try.ntmps9
    go_wp2
    go_ret
    exact ⟨ret_bool rfl, G, HS.out⟩

/-- A list of objects that the law made. -/
structure RowAt (w : World) (G : Gh) (base : Nat) (v : Value) (l : List Int) : Prop where
  row : w.ownsRow base 36 1 v l.length (l.map (Value.int .i64))
  raw : ∀ g, v.ownBlock = some g → G g = .raw
theorem RowAt.nil (w : World) (G : Gh) (base : Nat) : RowAt w G base (.slice none 0 0) [] := ⟨⟨rfl, .inl ⟨rfl, rfl⟩⟩, fun g h => by cases h⟩
theorem RowAt.step {T : Nat → Prop} {B : Nat} {w w' : World} {G G' : Gh} {base : Nat} {v : Value} {l : List Int} (h : RowAt w G base v l) (k : St T B w G w' G') : RowAt w' G' base v l :=
  ⟨ownsRow_congr h.row fun g hg => (k.raw g (h.row.lt g hg).2 (h.raw g hg)).2, fun g hg => (k.raw g (h.row.lt g hg).2 (h.raw g hg)).1⟩
theorem RowAt.val {w : World} {G : Gh} {base : Nat} {v : Value} {l : List Int} (h : RowAt w G base v l) : ∃ p cap, v = .slice p l.length cap ∧ ∀ i, i < l.length → ∃ g, p = some ⟨g, 0, none⟩ ∧ w.cell? ⟨g, i, none⟩ = some (.int .i64 (l.getD i 0)) := by
  obtain ⟨h1, h2⟩ := h.row
  rcases h2 with ⟨rfl, h0⟩ | ⟨g, cap, cur, rfl, -, hg, hn, -, hc, ht⟩
  · exact ⟨none, 0, by rw [h0], fun i hi => by omega⟩
  · refine ⟨_, cap, rfl, fun i hi => ⟨g, rfl, ?_⟩⟩
    rw [cell_of hg]
    have e : (l.map (Value.int .i64))[i]? = some (.int .i64 (l.getD i 0)) := by
      simp [List.getD, List.getElem?_eq_getElem hi]
    rw [← ht, List.getElem?_take, if_pos (by omega)] at e
    simpa using e

structure MdAt (w0 : World) (G0 : Gh) (gb bm b7 a : Nat) (gv1 gv2 v : Value) (l : List Int) (A : Ar) (S : Nat → Bool) (W : World) (G : Gh) : Prop where
  st : St (fun _ => False) w0.heap.size w0 G0 W G
  rg : Raw W G gb #[gv1, gv2] 25
  r7 : Raw W G b7 #[.map (some bm)] 30
  mr : G bm = .raw
  mh : W.heap[bm]? = some (.map #[] 0)
  ar : ArAt W G a A S
  row : RowAt W G (b7 + 1) v l
  na : w0.heap.size ≤ a
  ns : w0.heap.size ≤ A.sp
  og : gb < b7
  om : bm < b7
  o7 : w0.heap.size ≤ b7

theorem MdAt.step {w0 W W' : World} {G0 G G' : Gh} {gb bm b7 a : Nat} {gv1 gv2 v : Value} {l : List Int} {A A' : Ar} {S S' : Nat → Bool} {T : Nat → Prop} (h : MdAt w0 G0 gb bm b7 a gv1 gv2 v l A S W G) (k : Step T W G W' G') (hT : ∀ x, T x → w0.heap.size ≤ x)
    (har : ArAt W' G' a A' S') (hsp : A'.sp = A.sp) : MdAt w0 G0 gb bm b7 a gv1 gv2 v l A' S' W' G' := by
  have hml := (Array.getElem?_eq_some_iff.1 h.mh).1
  exact ⟨h.st.new k hT, h.rg.step k, h.r7.step k, (k.raw bm hml h.mr).1, (k.raw bm hml h.mr).2.trans h.mh, har, h.row.step k, h.na, by rw [hsp]; exact h.ns, h.og, h.om, h.o7⟩
theorem MdAt.step0 {w0 W W' : World} {G0 G G' : Gh} {gb bm b7 a : Nat} {gv1 gv2 v : Value} {l : List Int} {A : Ar} {S : Nat → Bool} (h : MdAt w0 G0 gb bm b7 a gv1 gv2 v l A S W G) (k : Step (fun _ => False) W G W' G') : MdAt w0 G0 gb bm b7 a gv1 gv2 v l A S W' G' :=
  h.step k (fun _ h => h.elim) (h.ar.step0 h.st.inv k) rfl
theorem MdAt.push {w0 W w1 : World} {G0 G : Gh} {gb bm b7 a : Nat} {gv1 gv2 v v' : Value} {l : List Int} {x : Int} {A : Ar} {S : Nat → Bool} {o : Obj} (h : MdAt w0 G0 gb bm b7 a gv1 gv2 v l A S W G)
    (hrow : w1.ownsRow (b7 + 1) 36 1 v' (l.length + 1) (l.map (Value.int .i64) ++ [.int .i64 x])) (hg : (W.alloc o).grownBy w1 v.ownBlock) (hb : v'.ownBlock = v.ownBlock ∨ v'.ownBlock = some (W.heap.size + 1)) :
    MdAt w0 G0 gb bm b7 a gv1 gv2 v' (l ++ [x]) A S w1 G := by
  have hrl : ∀ g, v.ownBlock = some g → b7 + 1 ≤ g := fun g hv => (h.row.row.lt g hv).1
  have o1 := h.og
  have o2 := h.om
  have o3 := h.o7
  have hk : Step (fun _ => False) w0 G0 w1 G := (h.st.alloc o).grown hg fun g hv => ⟨by have := hrl g hv; omega, h.row.raw g hv⟩
  have hne : ∀ b, b ≤ b7 → some b ≠ v.ownBlock := fun b hb' e => by have := hrl b e.symm; omega
  have hml := (Array.getElem?_eq_some_iff.1 h.mh).1
  refine ⟨hk, (h.rg.alloc o).grown hg (hne _ (by omega)), (h.r7.alloc o).grown hg (hne _ (by omega)), h.mr, (hg.block bm (by simp; omega) (hne _ (by omega))).trans ((heap_alloc_lt _ _ hml).trans h.mh), ⟨h.ar.ar, h.ar.st⟩, ⟨?_, ?_⟩, h.na, h.ns, h.og, h.om, h.o7⟩
  · rw [List.length_append, List.map_append]; exact hrow
  · intro g hv
    rcases hb with hb | hb
    · exact h.row.raw g (hb ▸ hv)
    · rw [hv] at hb; cases hb; exact h.st.inv.new _ (by simp)

/-- The frame ahead of a round over the objects. -/
abbrev mdA (u : Nat → Value) (a b7 : Nat) (v : Value) (n j : Nat) (ds : List Deferred) : Act := { tmps := #[u 0, u 1, u 2, u 3, u 4, .pointer (some ⟨a, 0, none⟩), v, .pointer (some ⟨b7, 0, none⟩), u 8, u 9, u 10, u 11, u 12, u 13, u 14, u 15, u 16, u 17, u 18, u 19, u 20, u 21, u 22, u 23, u 24, u 25, u 26, u 27, u 28, u 29, u 30, u 31, u 32, u 33, u 34, u 35, u 36, u 37, u 38, u 39, u 40, u 41, u 42, u 43, u 44, u 45, u 46, u 47, u 48, u 49, u 50, u 51, u 52, u 53, u 54, u 55, u 56, u 57, u 58, u 59, u 60, u 61, u 62, u 63, u 64, u 65, u 66, u 67, u 68, u 69, u 70, u 71, u 72, u 73, u 74, u 75, u 76, u 77, u 78, u 79, u 80, u 81, u 82, u 83, u 84, u 85, u 86, u 87, u 88, u 89, u 90, u 91, u 92, v, .int .i64 n, .int .i64 j, u 96, u 97, u 98, u 99, u 100, u 101, u 102, u 103, u 104, u 105, u 106, u 107, u 108, u 109, u 110, u 111, u 112, u 113, u 114], defers := ds }
/-- .. and in a round over what one points to. -/
abbrev mdB (u : Nat → Value) (a b7 : Nat) (v : Value) (n j c : Nat) (y : Int) : Act := { tmps := #[u 0, u 1, u 2, u 3, u 4, .pointer (some ⟨a, 0, none⟩), v, .pointer (some ⟨b7, 0, none⟩), u 8, u 9, u 10, u 11, u 12, u 13, u 14, u 15, u 16, u 17, .pointer (some ⟨c, 0, none⟩), .int .i64 y, u 20, u 21, u 22, u 23, u 24, u 25, u 26, u 27, u 28, u 29, u 30, u 31, u 32, u 33, u 34, u 35, u 36, u 37, u 38, u 39, u 40, u 41, u 42, u 43, u 44, u 45, u 46, u 47, u 48, u 49, u 50, u 51, u 52, u 53, u 54, u 55, u 56, u 57, u 58, u 59, u 60, u 61, u 62, u 63, u 64, u 65, u 66, u 67, u 68, u 69, u 70, u 71, u 72, u 73, u 74, u 75, u 76, u 77, u 78, u 79, u 80, u 81, u 82, u 83, u 84, u 85, u 86, u 87, u 88, u 89, u 90, u 91, u 92, v, .int .i64 n, .int .i64 j, u 96, u 97, u 98, u 99, u 100, u 101, .int .i64 y, u 103, u 104, u 105, u 106, u 107, u 108, u 109, u 110, u 111, u 112, u 113, u 114], defers := [] }

structure Md3 (w0 : World) (G0 : Gh) (b7 bm a lb : Nat) (v : Value) (l : List Int) (A : Ar) (S : Nat → Bool) (W : World) (G : Gh) : Prop where
  st : St (fun _ => False) w0.heap.size w0 G0 W G
  r7 : Raw W G b7 #[.map (some bm)] 30
  ar : ArAt W G a A S
  row : RowAt W G lb v l
theorem Md3.step0 {w0 W W' : World} {G0 G G' : Gh} {b7 bm a lb : Nat} {v : Value} {l : List Int} {A : Ar} {S : Nat → Bool} {B : Nat} (h : Md3 w0 G0 b7 bm a lb v l A S W G) (k : St (fun _ => False) B W G W' G') (hB : w0.heap.size ≤ B) : Md3 w0 G0 b7 bm a lb v l A S W' G' :=
  ⟨h.st.trans k (.inl hB), h.r7.step k, h.ar.step0 h.st.inv k, h.row.step k⟩

def mdI3 (w0 : World) (G0 : Gh) (b7 bm a lb base : Nat) (v : Value) (l : List Int) (A : Ar) (S : Nat → Bool) (i : Nat) (f : Act) (W : World) : Prop :=
  ∃ (j n : Nat) (G : Gh) (ds : List Deferred) (tab : Int → List Int), i + j = l.length ∧ Md3 w0 G0 b7 bm a lb v l A S W G ∧ Marks w0.heap.size W.heap.size ds W G ∧ base ≤ W.heap.size ∧ GrpAt W G bm base n tab (fun _ => False) ∧ n ≤ 100 * j ∧
    (∀ x, tab x = if x ∈ l.take j then pts A S x else []) ∧ f = mdA (fun i => f.tmps.getD i undef) a b7 v l.length j ds

def madePost (k : Nat) (w : World) (G : Gh) (e : Ending) (w' : World) : Prop :=
  ∃ (a b base n lb : Nat) (v : Value) (l : List Int) (A : Ar) (S : Nat → Bool) (tab : Int → List Int) (G' : Gh), e = .returned (.tuple #[.pointer (some ⟨a, 0, none⟩), v, .map (some b)]) ∧ Step (fun _ => False) w G w' G' ∧
    ArAt w' G' a A S ∧ Objs A S l ∧ RowAt w' G' lb v l ∧ GrpAt w' G' b base n tab (fun _ => False) ∧ n ≤ 100 * l.length ∧ (∀ x, tab x = if x ∈ l then pts A S x else []) ∧ l.length = k ∧ w.heap.size ≤ a ∧ w.heap.size ≤ A.sp

theorem made_leave {w0 W : World} {G0 G : Gh} {b7 bm a lb base n hi : Nat} {v : Value} {l : List Int} {A : Ar} {S : Nat → Bool} {ds : List Deferred} {tmps : Array Value} {tab : Int → List Int} {k : Nat} (h : Md3 w0 G0 b7 bm a lb v l A S W G) (hO : Objs A S l)
    (hMk : Marks w0.heap.size hi ds W G) (hg : GrpAt W G bm base n tab (fun _ => False)) (hn : n ≤ 100 * l.length) (ht : ∀ x, tab x = if x ∈ l then pts A S x else []) (hl : l.length = k) (ha : w0.heap.size ≤ a) (hs : w0.heap.size ≤ A.sp)
    (h2 : tmps.getD 2 undef = .pointer (some ⟨a, 0, none⟩)) (h3 : tmps.getD 3 undef = v) (h4 : tmps.getD 4 undef = .map (some bm)) :
    bodyPostM Wd 0 Try.prog Try.f10 (madePost k w0 G0) .ret { tmps := tmps, defers := ds } W := by
  refine leave_marks h.st.inv hMk fun W' hS _ => ⟨_, results_tmp3 (t := 2) (u := 3) (v := 4) rfl tmps _ _, ?_⟩
  rw [h2, h3, h4]
  have h' := h.step0 hS (Nat.le_refl _)
  exact ⟨a, bm, base, n, lb, v, l, A, S, tab, G, rfl, h'.st, h'.ar, hO, h'.row, hg.step hS, hn, ht, hl, ha, hs⟩

theorem ref_law : Maps.Keyed Try.prog 36 := Maps.int_keyed Try.underlying36
theorem zero_refs (w : World) : (zeroValue 29).run Try.prog w = .ok (.slice none 0 0) w := by kernel_rfl
theorem key_ref {x : Int} (h : -9223372036854775808 ≤ x ∧ x ≤ 9223372036854775807) : keyOf Try.prog 36 (.int .i64 x) = some (kL x) := by
  have hw : (Lit.int .i64 x).wf = true := by simp [Lit.wf, IntKind.min, IntKind.max, IntKind.signed, IntKind.bits]; omega
  exact Maps.keyOf_int_mk Try.underlying36 hw
def updT (tab : Int → List Int) (x : Int) (pre : List Int) : Int → List Int := fun y => if y = x then pre else tab y
structure MdR (w0 : World) (G0 : Gh) (b7 bm a lb base c n : Nat) (v : Value) (l : List Int) (A : Ar) (S : Nat → Bool) (x : Int) (tab : Int → List Int) (ds : List Deferred) (pre : List Int) (W : World) (G : Gh) : Prop where
  md : Md3 w0 G0 b7 bm a lb v l A S W G
  mks : Marks w0.heap.size c ds W G
  rc : Raw W G c #[.int .i64 x] 36
  r1 : Raw W G (c + 1) #[.pointer (some ⟨a, 0, none⟩)] 28
  r2 : Raw W G (c + 1 + 1) #[.int .i64 x] 36
  gr : GrpAt W G bm base (n + pre.length) (updT tab x pre) (fun g => c ≤ g ∧ g ≤ c + 2)
theorem MdR.step0 {w0 W W' : World} {G0 G G' : Gh} {b7 bm a lb base c n : Nat} {v : Value} {l : List Int} {A : Ar} {S : Nat → Bool} {x : Int} {tab : Int → List Int} {ds : List Deferred} {pre : List Int} {B : Nat} (h : MdR w0 G0 b7 bm a lb base c n v l A S x tab ds pre W G) (k : St (fun _ => False) B W G W' G') (hB : w0.heap.size ≤ B) (hc : c ≤ B) :
    MdR w0 G0 b7 bm a lb base c n v l A S x tab ds pre W' G' :=
  ⟨h.md.step0 k hB, h.mks.st k hc, h.rc.step k, h.r1.step k, h.r2.step k, h.gr.step k⟩
theorem lits_inj {a b : List Int} (h : lits (H := Unit) .i64 a = lits .i64 b) : a = b := by
  induction a generalizing b with
  | nil => cases b with
    | nil => rfl
    | cons x b => simp [lits] at h
  | cons x a ih => cases b with
    | nil => simp [lits] at h
    | cons y b =>
      simp [lits] at h
      obtain ⟨h1, h2⟩ := h
      rw [h1, ih (by simpa [lits] using h2)]
theorem MdAt.md3 {w0 W : World} {G0 G : Gh} {gb bm b7 a : Nat} {gv1 gv2 v : Value} {l : List Int} {A : Ar} {S : Nat → Bool} (h : MdAt w0 G0 gb bm b7 a gv1 gv2 v l A S W G) : Md3 w0 G0 b7 bm a (b7 + 1) v l A S W G := ⟨h.st, h.r7, h.ar, h.row⟩
theorem MdAt.grp {w0 W : World} {G0 G : Gh} {gb bm b7 a : Nat} {gv1 gv2 v : Value} {l : List Int} {A : Ar} {S : Nat → Bool} (h : MdAt w0 G0 gb bm b7 a gv1 gv2 v l A S W G) : GrpAt W G bm (bm + 1) 0 (fun _ => []) (fun _ => False) := by
  refine ⟨h.mr, .map [], ⟨[], rfl⟩, ⟨#[], 0, h.mh, ⟨by simp, MapKept.stamped_empty 0, by simp⟩, Nat.le_refl _, rfl, Nat.lt_succ_self _, by simp, by simp⟩, fun x => rfl, fun es' clock hb x hx => ?_⟩
  rw [h.mh] at hb; cases hb; simp at hx
theorem MdAt.leave {w0 W : World} {G0 G : Gh} {gb bm b7 a k nq : Nat} {gv1 gv2 v : Value} {A : Ar} {S : Nat → Bool} {tmps : Array Value} (h : MdAt w0 G0 gb bm b7 a gv1 gv2 v [] A S W G) (hO : Objs A S []) (hk : ([] : List Int).length = k)
    (h2 : tmps.getD 2 undef = .pointer (some ⟨a, 0, none⟩)) (h3 : tmps.getD 3 undef = v) (h4 : tmps.getD 4 undef = .map (some bm)) :
    bodyPostM Wd 0 Try.prog Try.f10 (madePost k w0 G0) .ret { tmps := tmps, defers := [] } (W.drewN nq) := by
  have hS : Step (fun _ => False) W G (W.drewN nq) G := (St.refl h.st.inv).drewN nq
  have h' := h.step0 hS
  exact made_leave (hi := 0) h'.md3 hO (Marks.nil _ _ _ _) h'.grp (by simp) (fun x => by simp) hk h.na h.ns h2 h3 h4
theorem MdR.put {w0 W w : World} {G0 G : Gh} {b7 bm a lb base c n : Nat} {v : Value} {l : List Int} {A : Ar} {S : Nat → Bool} {x y : Int} {tab : Int → List Int} {ds : List Deferred} {pre : List Int} {D : DataW Unit} (h : MdR w0 G0 b7 bm a lb base c n v l A S x tab ds pre W G)
    (hD : Maps.IsMap D) (hDt : ∀ z, D.atKey (kL z) .nil = dat (updT tab x pre z)) (hf : FinAt Try.prog 36 W.drew base bm (n + pre.length) D (fun g => G g ≠ .raw ∨ (c ≤ g ∧ g ≤ c + 2)) x y w)
    (hb7 : b7 < base) (hbm : bm < b7) (hlb : bm < lb) (hl : ∀ g, v.ownBlock = some g → g < base) (h0 : w0.heap.size ≤ bm) (hc : base ≤ c) (hgb : G bm = .raw) :
    MdR w0 G0 b7 bm a lb base c n v l A S x tab ds (pre ++ [y]) w G ∧ Keep w0.heap.size W G w G := by
  obtain ⟨u, u', zs, w1, hat, hu, hg1, hg2, hgrp, hsh, hoi, hdt⟩ := hf
  have hur : ∀ g, u.ownBlock = some g → G g = .raw ∧ base ≤ g ∧ ¬ (c ≤ g ∧ g ≤ c + 2) := fun g hg => by
    obtain ⟨k1, k2⟩ := hu g hg
    exact ⟨Classical.byContradiction fun e => k1 (.inl e), k2, fun e => k1 (.inr e)⟩
  have hg1' : W.grownBy w1 u.ownBlock := ⟨hg1.os, hg1.tape, hg1.output, hg1.size, hg1.block⟩
  have hst1 := h.md.st.grown hg1' fun g hg => ⟨by have := (hur g hg).2.1; omega, (hur g hg).1⟩
  have hst2 := hst1.grown hg2 fun g hg => by cases hg; exact ⟨h0, hgb⟩
  have hne : ∀ b, b < base ∨ (c ≤ b ∧ b ≤ c + 2) → some b ≠ u.ownBlock := fun b hb e => by
    have := hur b e.symm
    rcases hb with hb | hb
    · omega
    · exact this.2.2 hb
  have hraw : ∀ {b : Nat} {cs : Array Value} {t : TypeId}, Raw W G b cs t → (b < base ∨ (c ≤ b ∧ b ≤ c + 2)) → b ≠ bm → Raw w G b cs t := fun hr hb hbb => (hr.grown hg1' (hne _ hb)).grown hg2 (fun e => hbb (by cases e; rfl))
  have hk : Keep w0.heap.size W G w G := ⟨Nat.le_trans hg1'.size hg2.size, fun b _ hb hp => ⟨hp, by
    have e1 : some b ≠ u.ownBlock := fun e => by rw [(hur b e.symm).1] at hp; cases hp
    have e2 : some b ≠ some bm := fun e => by cases e; rw [hgb] at hp; cases hp
    exact (hg2.block b (Nat.lt_of_lt_of_le hb hg1'.size) e2).trans (hg1'.block b hb e1)⟩⟩
  have hzs : zs = pre := by
    have e := hat.symm.trans (hDt x)
    unfold updT at e
    rw [if_pos rfl] at e
    unfold dat at e
    by_cases hp : pre = []
    · rw [if_pos hp] at e
      rcases hdt with ⟨-, k⟩ | k
      · rw [k, hp]
      · rw [k] at e; cases e
    · rw [if_neg hp] at e
      rcases hdt with ⟨k, -⟩ | k
      · rw [k] at e; cases e
      · rw [k] at e
        injection e with e1 e2
        exact lits_inj e1
  subst hzs
  refine ⟨⟨⟨hst2, hraw h.md.r7 (.inl hb7) (by omega), ⟨h.md.ar.ar, h.md.ar.st⟩, ⟨ownsRow_congr h.md.row.row fun g hg => ?_, h.md.row.raw⟩⟩, h.mks.keep hk (Nat.le_refl _), hraw h.rc (.inr ⟨Nat.le_refl _, by omega⟩) (by omega), hraw h.r1 (.inr ⟨by omega, by omega⟩) (by omega), hraw h.r2 (.inr ⟨by omega, by omega⟩) (by omega), hgb, D.put (kL x) (rowDatum .i64 u' (zs ++ [y])), hD.put _ _, ?_, ?_, hsh⟩, hk⟩
  · have hgl := h.md.row.row.lt g hg
    have e1 : some g ≠ some bm := fun e => by cases e; omega
    exact (hg2.block g (Nat.lt_of_lt_of_le hgl.2 hg1'.size) e1).trans (hg1'.block g hgl.2 (hne g (.inl (hl g hg))))
  · rw [List.length_append]; exact hgrp
  · intro z
    have hpos := hoi.datum_pos (H := Unit) (by simp)
    by_cases hz : z = x
    · subst hz
      rw [Maps.atKey_put_same hD (show WideAt.IsKeyLit (kL z) from trivial), hpos]
      unfold updT dat
      rw [if_pos rfl, if_neg (by simp)]
    · rw [Maps.atKey_put_other (by intro e; injection e with e1 e2; exact hz e2), hDt]
      unfold updT
      rw [if_neg hz, if_neg hz]
theorem pts_len (A : Ar) (S : Nat → Bool) (r : Int) : (pts A S r).length ≤ (wordAt A S r 0).toNat := by
  unfold pts ptsTo
  exact Nat.le_trans (List.length_filter_le _ _) (by simp)
theorem take_notin {l : List Int} (h : l.Nodup) {j : Nat} (hj : j < l.length) : l.getD j 0 ∉ l.take j := by
  rw [List.getD_eq_getElem?_getD, List.getElem?_eq_getElem hj, Option.getD_some]
  intro hm
  obtain ⟨i, hi, he⟩ := List.mem_take_iff_getElem.1 hm
  have := (List.getElem_inj h).1 he
  omega

end Go.Hw
