/- Arena: Room, Take. -/
import Derived.Test.YtfcnjhgfaibmnaaA3
import Derived.Laws.CopyRow
import Derived.Deep.RegionWith
namespace Go.Hw
open Go.RowKit Go.Proofs

def roomPost (A : Ar) (S : Nat → Bool) (c : Int) (w : World) (G : Gh) (e : Ending) (w' : World) : Prop :=
  e = .returned (.bool (roomOf A S c)) ∧ ∃ G', Step (fun _ => False) w G w' G'

theorem gapV_eq (A : Ar) (S : Nat → Bool) (c : Int) : ∃ p i : Nat, gapV A S c = .tuple #[.int .i64 p, .int .i64 i, .bool (gapOf A S c).isSome] ∧ (∀ x, gapOf A S c = some x → x = (p, i)) ∧ (gapOf A S c = none → p = 0 ∧ i = 0) := by
  unfold gapV
  cases h : gapOf A S c with
  | none => exact ⟨0, 0, rfl, (fun x hx => by cases hx), fun _ => ⟨rfl, rfl⟩⟩
  | some x => obtain ⟨p, i⟩ := x; exact ⟨p, i, rfl, (fun x hx => by cases hx; rfl), (fun h => by cases h)⟩

theorem arena_room (a : Nat) (A : Ar) (S : Nat → Bool) (c : Int) (w : World) (G : Gh) (hI : Inv w G) (hA : ArAt w G a A S) :
    Calls Try.prog 90 #[.pointer (some ⟨a, 0, none⟩), .int .i64 c] w (roomPost A S c w G) := by
  have HA := Lib.hid hA
  clear hA
  by_cases h0 : cellsOf c = 0
  · have hfin : roomOf A S c = false := by simp [roomOf, h0]
    have h0' : (cellsOf c == 0) = true := by simpa using h0
    have Hf := Lib.hid hfin
    clear hfin h0
    go_enter Try.func90, Try.ntmps90
    go_wp2_with fail
    refine (size_cells c _).mono ?_
    rintro e w1 ⟨rfl, rfl⟩
    go_wp2
    go_ret
    exact ⟨ret_bool Hf.out.symm, G, St.refl hI⟩
  · have hfin : roomOf A S c = ((gapOf A S c).isSome || decide (A.free > 0)) := by simp [roomOf, h0]
    have h0' : (cellsOf c == 0) = false := by simpa using h0
    obtain ⟨p, i, hgv, -, -⟩ := gapV_eq A S c
    have Hf := Lib.hid hfin
    have Hg := Lib.hid hgv
    clear hfin h0 hgv
    go_enter Try.func90, Try.ntmps90
    go_wp2_with fail
    refine (size_cells c _).mono ?_
    rintro e w1 ⟨rfl, rfl⟩
    go_wp2_with fail
    refine (arena_gap a A S c _ G hI HA.out).mono ?_
    rintro e w2 ⟨rfl, G2, hS2⟩
    rw [Hg.out]
    obtain ⟨pb, wb, hin⟩ := (HA.out.step0 hI hS2).inn hS2.inv
    have hc : w2.cell? ⟨a, 3, none⟩ = some (.int .i64 A.free) := cell_of hin.head 3
    have HS := Lib.hid hS2
    clear hS2 hin
    cases hs : (gapOf A S c).isSome with
    | true =>
      have Hs := Lib.hid hs
      clear hs
      go_wp2
      go_ret
      exact ⟨ret_bool (by rw [Hf.out, Hs.out]; rfl), G2, HS.out⟩
    | false =>
      have Hs := Lib.hid hs
      clear hs
      generalize A.free = f at *
      go_wp2
      go_ret
      exact ⟨ret_bool (by rw [Hf.out, Hs.out]; simp), G2, HS.out⟩

theorem run_clear_ints {P : Program} (w : World) (g o n cap : Nat) (cur : Array Value) (T E rt t : TypeId) (hu : P.underlying T = some (.slice E)) (hz : ∀ w, (zeroValue E).run P w = .ok (.int .i64 0) w) (hn : 0 < n)
    (hg : w.heap[g]? = some (.cells cur t (0, 0))) (hl : o + n ≤ cur.size) :
    (Builtin.clear_ #[T] rt #[.slice (some ⟨g, o, none⟩) n cap]).run P w = .ok (.tuple #[]) (w.setRow g (cur.toList.take o ++ List.replicate n (Value.int .i64 0) ++ cur.toList.drop (o + n)).toArray) := by
  obtain ⟨m, rfl⟩ : ∃ m, n = m + 1 := ⟨n - 1, by omega⟩
  have hzc : (Builtin.zeroCells #[Value.int .i64 0] (m + 1)).toList = List.replicate (m + 1) (Value.int .i64 0) := by
    apply List.ext_getElem
    · simp [Builtin.zeroCells]
    · intro i h1 h2; simp [Builtin.zeroCells, Nat.mod_one]
  have hst := run_storeCells_at P g o t (List.replicate (m + 1) (Value.int .i64 0)) 0 cur w hg (by simpa using hl) (by simp [Value.oneCell'])
  simp only [Nat.add_zero, List.length_replicate] at hst
  simp [Builtin.clear_, run_underlying hu, hz, Result.andThen, Value.cells, hzc, hst]

theorem heap_setRow {w : World} {g : Nat} {cur : Array Value} {t : TypeId} (h : w.heap[g]? = some (.cells cur t (0, 0))) (c : Array Value) : (w.setRow g c).heap[g]? = some (.cells c t (0, 0)) :=
  setRow_heap w g cur c t _ h
theorem heap_setRow_ne (w : World) {g b : Nat} (c : Array Value) (h : b ≠ g) : (w.setRow g c).heap[b]? = w.heap[b]? := setRow_other w g b c h

/-- The heap's part of an arena. -/
structure ArH (w : World) (a : Nat) (A : Ar) : Prop where
  head : w.heap[a]? = some (.cells #[.slice (some ⟨A.pb, 0, none⟩) A.pages.length A.pages.length, .slice (some ⟨A.wb, 0, none⟩) A.words.length A.words.length, .pointer (some ⟨A.sp, 0, none⟩), .int .i64 A.free] 97 (0, 0))
  prow : w.heap[A.pb]? = some (.cells (pageCells A.pages).toArray 99 (0, 0))
  wrow : w.heap[A.wb]? = some (.cells (A.words.map (Value.int .i64)).toArray 3 (0, 0))
  pa : A.pb ≠ a
  wa : A.wb ≠ a
  pw : A.pb ≠ A.wb
theorem ArIn.arH {w : World} {G : Gh} {a : Nat} {A : Ar} {S : Nat → Bool} {pb wb : Nat} (h : ArIn w G a A pb wb) (hA : ArAt w G a A S) : ArH w a A := by
  obtain rfl := h.epb
  obtain rfl := h.ewb
  exact ⟨h.head, h.prow, h.wrow, (fun e => by have := h.op; rw [e, hA.ar] at this; cases this), (fun e => by have := h.ow; rw [e, hA.ar] at this; cases this), h.ne⟩
theorem ArH.drew {w : World} {a : Nat} {A : Ar} (h : ArH w a A) (n : Nat) : ArH (w.drewN n) a A := ⟨h.head, h.prow, h.wrow, h.pa, h.wa, h.pw⟩

theorem pageCells_set (l : List (Int × Int)) (p : Nat) (x : Int × Int) (h : p < l.length) :
    pageCells (l.set p x) = ((pageCells l).set (p * 2) (.int .i64 x.1)).set (p * 2 + 1) (.int .i64 x.2) := by
  induction l generalizing p with
  | nil => simp at h
  | cons y l ih =>
    cases p with
    | zero => simp [pageCells]
    | succ p =>
      have := ih p (by simpa using h)
      simp only [pageCells, List.set_cons_succ, List.flatMap_cons] at *
      rw [this, show (p + 1) * 2 = p * 2 + 1 + 1 from by omega]
      simp

theorem ArH.page {w : World} {a : Nat} {A : Ar} (h : ArH w a A) (p : Nat) (c t : Int) (hp : p < A.pages.length) :
    ArH ((w.setCell ⟨A.pb, p * 2, none⟩ (.int .i64 c)).setCell ⟨A.pb, p * 2 + 1, none⟩ (.int .i64 t)) a { A with pages := A.pages.set p (c, t) } := by
  refine ⟨?_, ?_, ?_, h.pa, h.wa, h.pw⟩
  · rw [heap_setCell_ne _ _ _ (fun e => h.pa e.symm), heap_setCell_ne _ _ _ (fun e => h.pa e.symm), h.head]; simp
  · rw [heap_setCell (heap_setCell h.prow (p * 2) _) (p * 2 + 1) _, pageCells_set _ _ _ hp]; simp
  · rw [heap_setCell_ne _ _ _ (fun e => h.pw e.symm), heap_setCell_ne _ _ _ (fun e => h.pw e.symm), h.wrow]
theorem ArH.cnt {w : World} {a : Nat} {A : Ar} (h : ArH w a A) (p : Nat) (t : Int) (hp : p < A.pages.length) :
    ArH (w.setCell ⟨A.pb, p * 2 + 1, none⟩ (.int .i64 t)) a { A with pages := A.pages.set p ((A.pages.getD p (0, 0)).1, t) } := by
  refine ⟨?_, ?_, ?_, h.pa, h.wa, h.pw⟩
  · rw [heap_setCell_ne _ _ _ (fun e => h.pa e.symm), h.head]; simp
  · rw [heap_setCell h.prow (p * 2 + 1) _, pageCells_set _ _ _ hp]
    have : (pageCells A.pages).set (p * 2) (.int .i64 (A.pages.getD p (0, 0)).1) = pageCells A.pages := by
      apply List.ext_getElem?
      intro j
      rw [List.getElem?_set]
      by_cases hj : p * 2 = j
      · subst hj
        have hl := pageCells_length A.pages
        rw [if_pos rfl, if_pos (by omega), Nat.mul_comm, (pageCells_get A.pages p hp).1]
      · rw [if_neg hj]
    simp only [this]
    simp
  · rw [heap_setCell_ne _ _ _ (fun e => h.pw e.symm), h.wrow]
theorem ArH.freed {w : World} {a : Nat} {A : Ar} (h : ArH w a A) (f : Int) : ArH (w.setCell ⟨a, 3, none⟩ (.int .i64 f)) a { A with free := f } := by
  refine ⟨?_, ?_, ?_, h.pa, h.wa, h.pw⟩
  · rw [heap_setCell h.head 3 _]; simp
  · rw [heap_setCell_ne _ _ _ h.pa, h.prow]
  · rw [heap_setCell_ne _ _ _ h.wa, h.wrow]
theorem ArH.clear {w : World} {a : Nat} {A : Ar} (h : ArH w a A) (o n : Nat) (hl : o + n ≤ A.words.length) :
    ArH (w.setRow A.wb ((A.words.map (Value.int .i64)).toArray.toList.take o ++ List.replicate n (Value.int .i64 0) ++ (A.words.map (Value.int .i64)).toArray.toList.drop (o + n)).toArray) a { A with words := clearAt A.words o n } := by
  refine ⟨?_, ?_, ?_, h.pa, h.wa, h.pw⟩
  · rw [heap_setRow_ne _ _ (fun e => h.wa e.symm), h.head]; simp [clearAt_length _ _ _ hl]
  · rw [heap_setRow_ne _ _ h.pw, h.prow]
  · rw [heap_setRow h.wrow]; simp [clearAt, List.map_take, List.map_drop]

/-- The stores into an arena's own blocks are one step. -/
theorem ArH.commit {w w' : World} {G : Gh} {a : Nat} {A A' : Ar} {S : Nat → Bool} (hI : Inv w G) (hA : ArAt w G a A S) (h : ArH w' a A')
    (hsp : A'.sp = A.sp) (hpb : A'.pb = A.pb) (hwb : A'.wb = A.wb) (hpl : A'.pages.length = A.pages.length) (hwl : A'.words.length = A.words.length)
    (hle : w.heap.size ≤ w'.heap.size) (hos : w'.os = w.os) (ht : w'.tape = w.tape) (hu : w'.output = w.output)
    (hsame : ∀ c, c < w.heap.size → c ≠ a → c ≠ A.pb → c ≠ A.wb → w'.heap[c]? = w.heap[c]?) :
    ∃ G', ArAt w' G' a A' S ∧ Step (fun c => c = a) w G w' G' := by
  obtain ⟨pb, wb, hin⟩ := hA.inn hI
  have hH := hin.arH hA
  have hsa : A.sp ≠ a := fun e => by have := hA.st; rw [e, hA.ar] at this; cases this
  have op : G A.pb = .owned a := by rw [← hin.epb]; exact hin.op
  have ow : G A.wb = .owned a := by rw [← hin.ewb]; exact hin.ow
  have hL : LayArena w' (fun c => if c = a then .arena A' else if (fun _ => false) c = true then .owned a else G c) a A' := by
    refine ⟨by rw [hpl]; exact hin.n0, by rw [hpl]; exact hin.n1, by rw [hwl, hpl]; exact hin.wl, A'.pb, A'.wb, h.pw, ?_, ?_, h.head, h.prow, h.wrow, rfl, rfl⟩
    · have : A'.pb ≠ a := h.pa
      simp [this]; rw [hpb]; exact op
    · have : A'.wb ≠ a := h.wa
      simp [this]; rw [hwb]; exact ow
  refine ⟨_, ⟨by simp, ?_⟩, St.one (b := a) (e := .arena A') hI (by rw [hA.ar]; rfl) (fun _ => false) hle hos ht hu (fun c hc => by simp at hc) (fun c h1 h2 h3 => hsame c h1 h2 (fun e => h3 (by rw [e]; exact op)) (fun e => h3 (by rw [e]; exact ow))) hL⟩
  rw [hsp, hpl]
  simp [hsa, hA.st]
end Go.Hw
