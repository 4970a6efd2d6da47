/- Arena words: word, Word, Set. -/
import Derived.Test.YtfcnjhgfaibmnaaA1
namespace Go.Hw
open Go.RowKit Go.Proofs

structure ArIn (w : World) (G : Gh) (a : Nat) (A : Ar) (pb wb : Nat) : Prop where
  epb : pb = A.pb
  ewb : wb = A.wb
  n0 : 0 < A.pages.length
  n1 : A.pages.length ≤ 64
  wl : A.words.length = 32 * A.pages.length
  ne : pb ≠ wb
  op : G pb = .owned a
  ow : G wb = .owned a
  head : w.heap[a]? = some (.cells #[.slice (some ⟨pb, 0, none⟩) A.pages.length A.pages.length, .slice (some ⟨wb, 0, none⟩) A.words.length A.words.length, .pointer (some ⟨A.sp, 0, none⟩), .int .i64 A.free] 97 (0, 0))
  prow : w.heap[pb]? = some (.cells (pageCells A.pages).toArray 99 (0, 0))
  wrow : w.heap[wb]? = some (.cells (A.words.map (Value.int .i64)).toArray 3 (0, 0))
theorem ArIn.lay {w : World} {G : Gh} {a : Nat} {A : Ar} {pb wb : Nat} (h : ArIn w G a A pb wb) : LayArena w G a A := ⟨h.n0, h.n1, h.wl, pb, wb, h.ne, h.op, h.ow, h.head, h.prow, h.wrow, h.epb, h.ewb⟩
theorem ArAt.inn {w : World} {G : Gh} {a : Nat} {A : Ar} {S : Nat → Bool} (h : ArAt w G a A S) (hI : Inv w G) : ∃ pb wb, ArIn w G a A pb wb := by
  obtain ⟨h0, h1, h2, pb, wb, h3, h4, h5, h6, h7, h8, h9, h10⟩ := h.facts hI
  exact ⟨pb, wb, h9, h10, h0, h1, h2, h3, h4, h5, h6, h7, h8⟩
theorem ArAt.step0 {w w' : World} {G G' : Gh} {a : Nat} {A : Ar} {S : Nat → Bool} {B : Nat} (h : ArAt w G a A S) (hI : Inv w G) (hS : St (fun _ => False) B w G w' G') : ArAt w' G' a A S :=
  ⟨(hS.ent a (lay_lt hI (by rw [h.ar]; rfl)) (by rw [h.ar]; rfl) (fun h => h)).trans h.ar, (hS.ent A.sp (lay_lt hI (by rw [h.st]; rfl)) (by rw [h.st]; rfl) (fun h => h)).trans h.st⟩

/-- What is asked of an arena so that its taken cells lie in its words. -/
def Fits (A : Ar) (S : Nat → Bool) : Prop := ∀ r : Nat, S r = true → 1 ≤ r ∧ (r : Int) - 1 + wordsOf (clsAt A (pageAt A r)) ≤ 32 * A.pages.length

theorem word_lt {A : Ar} {S : Nat → Bool} {r i : Int} (hF : Fits A S) (hw : A.words.length = 32 * A.pages.length) (hk : wordOk A S r i = true) : (r - 1 + i).toNat < A.words.length := by
  unfold wordOk hasR at hk
  simp only [Bool.and_eq_true, decide_eq_true_eq] at hk
  obtain ⟨⟨⟨h0, h1⟩, h2⟩, h3⟩ := hk
  have hf := hF r.toNat h1
  rw [show ((r.toNat : Nat) : Int) = r from by omega] at hf
  omega

def wordYes (a : Nat) (A : Ar) (S : Nat → Bool) (j : Nat) (w : World) (G : Gh) (e : Ending) (w' : World) : Prop :=
  ∃ pb wb G', e = .returned (.pointer (some ⟨wb, j, none⟩)) ∧ ArIn w' G' a A pb wb ∧ ArAt w' G' a A S ∧ Step (fun _ => False) w G w' G'
def wordNo (w : World) (G : Gh) (e : Ending) (w' : World) : Prop :=
  e = .returned (.pointer none) ∧ ∃ G', Step (fun _ => False) w G w' G'

set_option maxHeartbeats 400000 in
theorem arena_word_no (a : Nat) (A : Ar) (S : Nat → Bool) (r i : Int) (w : World) (G : Gh) (hI : Inv w G) (hA : ArAt w G a A S) (hr : r ≤ 4611686018427387904) (hk : wordOk A S r i = false) :
    Calls Try.prog 92 #[.pointer (some ⟨a, 0, none⟩), .int .i64 r, .int .i64 i] w (wordNo w G) := by
  have HA := Lib.hid hA
  clear hA
  unfold wordOk at hk
  by_cases h1 : hasR S r = true
  · have h1' : (decide (0 ≤ r) && S r.toNat) = true := h1
    rw [h1, Bool.true_and] at hk
    have H1 := Lib.hid h1'
    clear h1 h1'
    by_cases h2 : i < 0
    · have H2 := Lib.hid hk
      clear hk
      go_enter Try.func92, Try.ntmps92
      go_wp2_with fail
      refine (arena_has a A S r w G hI HA.out).mono ?_
      rintro e w1 ⟨rfl, G1, hS1⟩
      rw [H1.out]
      go_wp2
      go_ret
      exact ⟨rfl, G1, hS1⟩
    · have h2' : 0 ≤ i := by omega
      rw [decide_eq_true h2', Bool.true_and] at hk
      have h3 : wordsOf (clsAt A (pageAt A r)) ≤ i := by simpa using hk
      clear hk
      go_enter Try.func92, Try.ntmps92
      go_wp2_with fail
      refine (arena_has a A S r w G hI HA.out).mono ?_
      rintro e w1 ⟨rfl, G1, hS1⟩
      have HS := Lib.hid hS1
      have hI1 := hS1.inv
      have HA1 := Lib.hid (HA.out.step0 hI hS1)
      clear hS1
      rw [H1.out]
      go_wp2_with fail
      refine (arena_page a A S r w1 G1 hI1 HA1.out hr).mono ?_
      rintro e w2 ⟨rfl, rfl⟩
      go_wp2_with fail
      refine (arena_class a A S _ w2 G1 hI1 HA1.out).mono ?_
      rintro e w3 ⟨rfl, rfl⟩
      go_wp2_with fail
      refine (size_words _ w3).mono ?_
      rintro e w4 ⟨rfl, rfl⟩
      go_wp2
      go_ret
      exact ⟨rfl, G1, HS.out⟩
  · have h1s : hasR S r = false := by simpa using h1
    have h1' : (decide (0 ≤ r) && S r.toNat) = false := h1s
    have H1 := Lib.hid h1'
    clear h1 h1' hk h1s
    go_enter Try.func92, Try.ntmps92
    go_wp2_with fail
    refine (arena_has a A S r w G hI HA.out).mono ?_
    rintro e w1 ⟨rfl, G1, hS1⟩
    rw [H1.out]
    go_wp2
    go_ret
    exact ⟨rfl, G1, hS1⟩

set_option maxHeartbeats 400000 in
theorem arena_word_yes (a : Nat) (A : Ar) (S : Nat → Bool) (r i : Int) (w : World) (G : Gh) (hI : Inv w G) (hA : ArAt w G a A S) (hF : Fits A S) (hr : r ≤ 4611686018427387904) (hk : wordOk A S r i = true) :
    Calls Try.prog 92 #[.pointer (some ⟨a, 0, none⟩), .int .i64 r, .int .i64 i] w (wordYes a A S (r - 1 + i).toNat w G) := by
  have HA := Lib.hid hA
  clear hA
  unfold wordOk at hk
  simp only [Bool.and_eq_true, decide_eq_true_eq] at hk
  obtain ⟨⟨h1, h2⟩, h3⟩ := hk
  have h1' : (decide (0 ≤ r) && S r.toNat) = true := h1
  have h1s := h1'
  simp only [Bool.and_eq_true, decide_eq_true_eq] at h1s
  have hf := hF r.toNat h1s.2
  rw [show ((r.toNat : Nat) : Int) = r from by omega] at hf
  obtain ⟨f1, f2⟩ := hf
  obtain ⟨pb0, wb0, hin0⟩ := HA.out.inn hI
  have hn1 := hin0.n1
  have hwl := hin0.wl
  have f3 : 1 ≤ r := by omega
  have f4 : (r - 1 + i).toNat < A.words.length := by omega
  have f5 : r - 1 + i < 2048 := by omega
  have f6 : r - 1 + i < (A.words.length : Int) := by omega
  have H1 := Lib.hid h1'
  have HF := Lib.hid hF
  clear h1 h1' h1s hF f1 hin0
  go_enter Try.func92, Try.ntmps92
  go_wp2_with fail
  refine (arena_has a A S r w G hI HA.out).mono ?_
  rintro e w1 ⟨rfl, G1, hS1⟩
  have HS := Lib.hid hS1
  have hI1 := hS1.inv
  have HA1 := Lib.hid (HA.out.step0 hI hS1)
  clear hS1
  rw [H1.out]
  go_wp2_with fail
  refine (arena_page a A S r w1 G1 hI1 HA1.out hr).mono ?_
  rintro e w2 ⟨rfl, rfl⟩
  go_wp2_with fail
  refine (arena_class a A S _ w2 G1 hI1 HA1.out).mono ?_
  rintro e w3 ⟨rfl, rfl⟩
  go_wp2_with fail
  refine (size_words _ w3).mono ?_
  rintro e w4 ⟨rfl, rfl⟩
  obtain ⟨pb, wb, hin⟩ := HA1.out.inn hI1
  have hc : w4.cell? ⟨a, 1, none⟩ = some (.slice (some ⟨wb, 0, none⟩) A.words.length A.words.length) := cell_of hin.head 1
  have HI := Lib.hid hin
  clear hin
  go_wp2
  go_ret
  exact ⟨pb, wb, G1, rfl, HI.out, HA1.out, HS.out⟩

def WordPost (A : Ar) (S : Nat → Bool) (r i : Int) (w : World) (G : Gh) (e : Ending) (w' : World) : Prop :=
  e = .returned (.int .i64 (wordAt A S r i)) ∧ ∃ G', Step (fun _ => False) w G w' G'

theorem arena_Word (a : Nat) (A : Ar) (S : Nat → Bool) (r i : Int) (w : World) (G : Gh) (hI : Inv w G) (hA : ArAt w G a A S) (hF : Fits A S) (hr : r ≤ 4611686018427387904) :
    Calls Try.prog 67 #[.pointer (some ⟨a, 0, none⟩), .int .i64 r, .int .i64 i] w (WordPost A S r i w G) := by
  have HA := Lib.hid hA
  have HF := Lib.hid hF
  clear hA hF
  by_cases hk : wordOk A S r i = true
  · have hfin : wordAt A S r i = A.words.getD (r - 1 + i).toNat 0 := by rw [wordAt, if_pos hk]
    have Hf := Lib.hid hfin
    have Hk := Lib.hid hk
    clear hk hfin
    go_enter Try.func67, Try.ntmps67
    go_wp2_with fail
    refine (arena_word_yes a A S r i w G hI HA.out HF.out hr Hk.out).mono ?_
    rintro e w1 ⟨pb, wb, G1, rfl, hin, hA1, hS⟩
    have hlt := word_lt HF.out hin.wl Hk.out
    generalize (r - 1 + i).toNat = j at *
    have hc : w1.cell? ⟨wb, j, none⟩ = some (.int .i64 (A.words.getD j 0)) := (cell_of hin.wrow j).trans (by simp [List.getD, hlt])
    have HS := Lib.hid hS
    clear hin hS hA1 hlt
    generalize A.words.getD j 0 = v at *
    go_wp2
    go_ret
    exact ⟨ret_int Hf.out.symm, G1, HS.out⟩
  · have hfin : wordAt A S r i = 0 := by rw [wordAt, if_neg hk]
    have Hf := Lib.hid hfin
    have Hk := Lib.hid (show wordOk A S r i = false by simpa using hk)
    clear hk hfin
    go_enter Try.func67, Try.ntmps67
    go_wp2_with fail
    refine (arena_word_no a A S r i w G hI HA.out hr Hk.out).mono ?_
    rintro e w1 ⟨rfl, G1, hS⟩
    go_wp2
    go_ret
    exact ⟨ret_int Hf.out.symm, G1, hS⟩

def SetPost (a : Nat) (A : Ar) (S : Nat → Bool) (r i x : Int) (w : World) (G : Gh) (e : Ending) (w' : World) : Prop :=
  e = .returned (.bool (wordOk A S r i)) ∧ ∃ G', ArAt w' G' a (setWord A S r i x) S ∧ Step (fun c => c = a) w G w' G'

theorem arena_Set (a : Nat) (A : Ar) (S : Nat → Bool) (r i x : Int) (w : World) (G : Gh) (hI : Inv w G) (hA : ArAt w G a A S) (hF : Fits A S) (hr : r ≤ 4611686018427387904) :
    Calls Try.prog 65 #[.pointer (some ⟨a, 0, none⟩), .int .i64 r, .int .i64 i, .int .i64 x] w (SetPost a A S r i x w G) := by
  have HA := Lib.hid hA
  have HF := Lib.hid hF
  clear hA hF
  by_cases hk : wordOk A S r i = true
  · have Hk := Lib.hid hk
    clear hk
    go_enter Try.func65, Try.ntmps65
    go_wp2_with fail
    refine (arena_word_yes a A S r i w G hI HA.out HF.out hr Hk.out).mono ?_
    rintro e w1 ⟨pb, wb, G1, rfl, hin, hA1, hS⟩
    have hset : setWord A S r i x = { A with words := A.words.set (r - 1 + i).toNat x } := by rw [setWord, if_pos Hk.out]
    have hlt := word_lt HF.out hin.wl Hk.out
    generalize (r - 1 + i).toNat = j at *
    have hc : w1.cell? ⟨wb, j, none⟩ = some (.int .i64 (A.words.getD j 0)) := (cell_of hin.wrow j).trans (by simp [List.getD, hlt])
    have hf : w1.frozen? ⟨wb, j, none⟩ = false := free_of hin.wrow j
    have hwa : wb ≠ a := fun h => by have := hin.ow; rw [h, hA1.ar] at this; cases this
    have hin2 : ArIn (w1.setCell ⟨wb, j, none⟩ (.int .i64 x)) (fun c => if c = a then .arena (setWord A S r i x) else if (fun _ => false) c = true then .owned a else G1 c) a (setWord A S r i x) pb wb := by
      have hpa : pb ≠ a := fun h => by have := hin.op; rw [h, hA1.ar] at this; cases this
      rw [hset]
      exact ⟨hin.epb, hin.ewb, hin.n0, hin.n1, by simpa using hin.wl, hin.ne, by simp [hpa, hin.op], by simp [hwa, hin.ow],
        by rw [heap_setCell_ne _ _ _ (fun h => hwa h.symm), hin.head]; simp, by rw [heap_setCell_ne _ _ _ hin.ne, hin.prow], by rw [heap_setCell hin.wrow]; simp [List.map_set]⟩
    have hS2 := St.one (b := a) (w' := w1.setCell ⟨wb, j, none⟩ (.int .i64 x)) (e := .arena (setWord A S r i x)) hS.inv (by rw [hA1.ar]; rfl) (fun _ => false) (by simp) rfl rfl rfl (fun c hc => by simp at hc)
      (fun c _ h2 h3 => heap_setCell_ne w1 ⟨wb, j, none⟩ (.int .i64 x) (fun h => h3 (by rw [h]; exact hin.ow))) hin2.lay
    have hsp : A.sp ≠ a := fun h => by have := hA1.st; rw [h, hA1.ar] at this; cases this
    have hA2 : ArAt (w1.setCell ⟨wb, j, none⟩ (.int .i64 x)) (fun c => if c = a then .arena (setWord A S r i x) else if (fun _ => false) c = true then .owned a else G1 c) a (setWord A S r i x) S := by
      constructor
      · simp
      · rw [hset]; simp [hsp, hA1.st]
    have HA2 := Lib.hid hA2
    have HS := Lib.hid (hS.seq0 hS2)
    clear hin hS hA1 hin2 hS2 hset hA2
    go_wp2
    go_ret
    exact ⟨ret_bool Hk.out.symm, _, HA2.out, HS.out⟩
  · have hset : setWord A S r i x = A := by rw [setWord, if_neg hk]
    have Hk := Lib.hid (show wordOk A S r i = false by simpa using hk)
    have Hset := Lib.hid hset
    clear hk hset
    go_enter Try.func65, Try.ntmps65
    go_wp2_with fail
    refine (arena_word_no a A S r i w G hI HA.out hr Hk.out).mono ?_
    rintro e w1 ⟨rfl, G1, hS⟩
    have HA1 := Lib.hid (HA.out.step0 hI hS)
    go_wp2
    go_ret
    exact ⟨ret_bool Hk.out.symm, G1, by rw [Hset.out]; exact HA1.out, hS.mono (fun _ h => h.elim) (Nat.le_refl _)⟩
end Go.Hw
