/- Package size, and what an arena only tells. -/
import Derived.Test.YtfcnjhgfaibmnaaS5
import Derived.Test.YtfcnjhgfaibmnaaM1
namespace Go.Hw
open Go.RowKit Go.Proofs

theorem size_words (c : Int) (w : World) :
    Calls Try.prog 89 #[.int .i64 c] w fun e w' => e = .returned (.int .i64 (wordsOf c)) ∧ w' = w := by
  by_cases h0 : c < 0
  · go_enter Try.func89, Try.ntmps89
    go_wp2
    go_ret
    exact ⟨by simp [wordsOf, h0], rfl⟩
  · by_cases h3 : c ≥ 3
    · have h0' : 0 ≤ c := by omega
      go_enter Try.func89, Try.ntmps89
      go_wp2
      go_ret
      exact ⟨by simp [wordsOf, h3], rfl⟩
    · obtain rfl | rfl | rfl : c = 0 ∨ c = 1 ∨ c = 2 := by omega
      all_goals
        clear h0 h3
        go_enter Try.func89, Try.ntmps89
        go_wp2
        go_ret
        exact ⟨rfl, rfl⟩

theorem size_cells (c : Int) (w : World) :
    Calls Try.prog 83 #[.int .i64 c] w fun e w' => e = .returned (.int .i64 (cellsOf c)) ∧ w' = w := by
  have hw := size_words c w
  rcases words_cases c with ⟨h1, h2, -⟩ | ⟨-, h1, h2⟩ | ⟨-, h1, h2⟩ | ⟨-, h1, h2⟩
  all_goals
    rw [h1] at hw
    rw [h2]
    clear h1 h2
    have Hw := Lib.hid hw
    clear hw
    go_enter Try.func83, Try.ntmps83
    go_wp2_with fail
    refine Hw.out.mono ?_
    rintro e w' ⟨rfl, rfl⟩
    go_wp2
    go_ret
    exact ⟨rfl, rfl⟩

theorem ret2_ib {k : IntKind} {a b : Int} {p q : Bool} (h : a = b) (h' : p = q) : Ending.returned (.tuple #[.int k a, .bool p]) = Ending.returned (.tuple #[.int k b, .bool q]) := by rw [h, h']

def classPost (f : Int) (w : World) (e : Ending) (w' : World) : Prop :=
  e = .returned (.tuple #[.int .i64 (if 0 ≤ f ∧ f ≤ 6 then classOf f else 0), .bool (decide (0 ≤ f ∧ f ≤ 6))]) ∧ w' = w

set_option maxHeartbeats 1000000 in
theorem size_class (f : Int) (w : World) :
    Calls Try.prog 63 #[.int .i64 f] w (classPost f w) := by
  by_cases h0 : f < 0
  · go_enter Try.func63, Try.ntmps63
    go_wp2
    go_ret2
    exact ⟨by rw [if_neg (by omega), decide_eq_false (by omega)]; rfl, rfl⟩
  · by_cases h7 : f > 6
    · have h0' : 0 ≤ f := by omega
      go_enter Try.func63, Try.ntmps63
      go_wp2
      go_ret2
      exact ⟨by rw [if_neg (by omega), decide_eq_false (by omega)]; rfl, rfl⟩
    · have hb := class_bd f
      have h0' : 0 ≤ f := by omega
      have h6 : f ≤ 6 := by omega
      go_enter Try.func63, Try.ntmps63
      go_wp2
      go_loop [4] (fun t => ∃ c : Int, 0 ≤ c ∧ c ≤ classOf f ∧ t = .int .i64 c) (fun t => (classOf f - intOf t).toNat)
      case atStart => exact ⟨0, by omega, by omega, rfl⟩
      case round =>
        obtain ⟨c, hc0, hc1, rfl⟩ := hrel
        have hw := Lib.hid (size_words c w)
        have bw := words_bd c
        by_cases hlt : c < classOf f
        · have hcl := class_lt f c h6 hc0 hlt
          go_wp2_with fail
          refine hw.out.mono ?_
          rintro e w' ⟨rfl, rfl⟩
          go_wp2
          go_round
          case rel => exact ⟨c + 1, by omega, by omega, rfl⟩
          case measure => simp [intOf]; omega
        · obtain rfl : c = classOf f := by omega
          have hcl := class_ok f h6
          go_wp2_with fail
          refine hw.out.mono ?_
          rintro e w' ⟨rfl, rfl⟩
          go_wp2
          go_ret2
          exact ⟨ret2_ib (if_pos ⟨h0', h6⟩).symm (decide_eq_true ⟨h0', h6⟩).symm, rfl⟩

def offPost (c i : Int) (w : World) (e : Ending) (w' : World) : Prop :=
  e = .returned (.tuple #[.int .i64 (if i < 0 ∨ i ≥ cellsOf c then 0 else i * wordsOf c), .bool (decide (0 ≤ i ∧ i < cellsOf c))]) ∧ w' = w

theorem size_offset (c i : Int) (w : World) :
    Calls Try.prog 98 #[.int .i64 c, .int .i64 i] w (offPost c i w) := by
  have hc := size_cells c w
  have hw := size_words c w
  have bw := words_bd c
  have bc := cells_bd c
  have Hc := Lib.hid hc
  have Hw := Lib.hid hw
  clear hc hw
  by_cases h0 : i < 0
  · go_enter Try.func98, Try.ntmps98
    go_wp2
    go_ret2
    exact ⟨by rw [if_pos (.inl h0), decide_eq_false (by omega)]; rfl, rfl⟩
  · have h0' : 0 ≤ i := by omega
    by_cases h1 : i ≥ cellsOf c
    · have h1' : cellsOf c ≤ i := h1
      go_enter Try.func98, Try.ntmps98
      go_wp2_with fail
      refine Hc.out.mono ?_
      rintro e w' ⟨rfl, rfl⟩
      go_wp2
      go_ret2
      exact ⟨by rw [if_pos (.inr h1), decide_eq_false (by omega)]; rfl, rfl⟩
    · have h1' : i < cellsOf c := by omega
      have hm : IntKind.i64.wrap (i * wordsOf c) = i * wordsOf c := by
        rw [IntKind.wrap_i64]
        rcases words_cases c with ⟨h1, h2, -⟩ | ⟨-, h1, h2⟩ | ⟨-, h1, h2⟩ | ⟨-, h1, h2⟩ <;> rw [h1] <;> omega
      go_enter Try.func98, Try.ntmps98
      go_wp2_with fail
      refine Hc.out.mono ?_
      rintro e w' ⟨rfl, rfl⟩
      go_wp2_with fail
      refine Hw.out.mono ?_
      rintro e w' ⟨rfl, rfl⟩
      go_wp2
      go_ret2
      exact ⟨ret2_ib (if_neg (by omega)).symm (decide_eq_true ⟨h0', h1'⟩).symm, rfl⟩

theorem arena_ref (p c i : Int) (hp : 0 ≤ p ∧ p ≤ 64) (w : World) :
    Calls Try.prog 84 #[.int .i64 p, .int .i64 c, .int .i64 i] w fun e w' => e = .returned (.int .i64 (refOf p c i)) ∧ w' = w := by
  have ho := Lib.hid (size_offset c i w)
  have hb : 0 ≤ (if i < 0 ∨ i ≥ cellsOf c then 0 else i * wordsOf c) ∧ (if i < 0 ∨ i ≥ cellsOf c then 0 else i * wordsOf c) ≤ 128 := by
    split
    · omega
    · rcases words_cases c with ⟨h1, h2, -⟩ | ⟨-, h1, h2⟩ | ⟨-, h1, h2⟩ | ⟨-, h1, h2⟩ <;> rw [h1] <;> omega
  have hR : refOf p c i = p * 32 + (if i < 0 ∨ i ≥ cellsOf c then 0 else i * wordsOf c) + 1 := rfl
  have HR := Lib.hid hR
  unfold offPost at ho
  clear hR
  generalize (if i < 0 ∨ i ≥ cellsOf c then 0 else i * wordsOf c) = o at *
  generalize decide (0 ≤ i ∧ i < cellsOf c) = d at *
  obtain ⟨hb1, hb2⟩ := hb
  obtain ⟨hp1, hp2⟩ := hp
  go_enter Try.func84, Try.ntmps84
  go_wp2_with fail
  refine ho.out.mono ?_
  rintro e w' ⟨rfl, rfl⟩
  go_wp2
  go_ret
  exact ⟨ret_int HR.out.symm, rfl⟩

/-! ### arenas -/
/-- An arena and its set. -/
structure ArAt (w : World) (G : Gh) (a : Nat) (A : Ar) (S : Nat → Bool) : Prop where
  ar : G a = .arena A
  st : G A.sp = .set (32 * A.pages.length + 1) S

theorem ArAt.facts {w : World} {G : Gh} {a : Nat} {A : Ar} {S : Nat → Bool} (h : ArAt w G a A S) (hI : Inv w G) : LayArena w G a A := by
  have := hI.lay a
  rwa [h.ar] at this

theorem arena_size (a : Nat) (A : Ar) (S : Nat → Bool) (w : World) (G : Gh) (hI : Inv w G) (hA : ArAt w G a A S) :
    Calls Try.prog 44 #[.pointer (some ⟨a, 0, none⟩)] w fun e w' => e = .returned (.int .i64 ((32 * A.pages.length + 1 : Nat) : Int)) ∧ w' = w := by
  obtain ⟨h0, h1, h2, pb, wb, -, -, -, hh, -, -⟩ := hA.facts hI
  have hc : w.cell? ⟨a, 0, none⟩ = some (.slice (some ⟨pb, 0, none⟩) A.pages.length A.pages.length) := cell_of hh 0
  clear hh hA
  go_enter Try.func44, Try.ntmps44
  go_wp2
  go_ret
  exact ⟨ret_int (by omega), rfl⟩

theorem arena_pages (a : Nat) (A : Ar) (S : Nat → Bool) (w : World) (G : Gh) (hI : Inv w G) (hA : ArAt w G a A S) :
    Calls Try.prog 79 #[.pointer (some ⟨a, 0, none⟩)] w fun e w' => e = .returned (.int .i64 A.pages.length) ∧ w' = w := by
  obtain ⟨h0, h1, h2, pb, wb, -, -, -, hh, -, -⟩ := hA.facts hI
  have hc : w.cell? ⟨a, 0, none⟩ = some (.slice (some ⟨pb, 0, none⟩) A.pages.length A.pages.length) := cell_of hh 0
  clear hh hA
  go_enter Try.func79, Try.ntmps79
  go_wp2
  go_ret
  exact ⟨rfl, rfl⟩

def pagePost (A : Ar) (r : Int) (w : World) (e : Ending) (w' : World) : Prop := e = .returned (.int .i64 (pageAt A r)) ∧ w' = w
theorem arena_page (a : Nat) (A : Ar) (S : Nat → Bool) (r : Int) (w : World) (G : Gh) (hI : Inv w G) (hA : ArAt w G a A S) (hr : r ≤ 4611686018427387904) :
    Calls Try.prog 25 #[.pointer (some ⟨a, 0, none⟩), .int .i64 r] w (pagePost A r w) := by
  have hs := Lib.hid (arena_size a A S w G hI hA)
  obtain ⟨h0, h1, h2, -⟩ := hA.facts hI
  clear hA
  by_cases h : r < 1
  · clear hr
    go_enter Try.func25, Try.ntmps25
    go_wp2
    go_ret
    exact ⟨ret_int (by unfold pageAt; rw [if_pos (.inl h)]), rfl⟩
  · have h' : 1 ≤ r := by omega
    by_cases hb : r ≥ 32 * A.pages.length + 1
    · have hb' : ((32 * A.pages.length + 1 : Nat) : Int) ≤ r := by omega
      generalize hn : 32 * A.pages.length + 1 = n at *
      clear hn
      go_enter Try.func25, Try.ntmps25
      go_wp2_with fail
      refine hs.out.mono ?_
      rintro e w' ⟨rfl, rfl⟩
      go_wp2
      go_ret
      exact ⟨ret_int (by unfold pageAt; rw [if_pos (by omega)]), rfl⟩
    · have hb' : r < ((32 * A.pages.length + 1 : Nat) : Int) := by omega
      have hfin : (r - 1) / 32 = pageAt A r := by unfold pageAt; rw [if_neg (by omega)]
      have Hf := Lib.hid hfin
      clear hfin hb
      generalize 32 * A.pages.length + 1 = n at *
      go_enter Try.func25, Try.ntmps25
      go_wp2_with fail
      refine hs.out.mono ?_
      rintro e w' ⟨rfl, rfl⟩
      go_wp2
      go_ret
      exact ⟨ret_int Hf.out, rfl⟩

theorem pageCells_length (l : List (Int × Int)) : (pageCells l).length = 2 * l.length := by
  induction l with
  | nil => rfl
  | cons x l ih => simp [pageCells] at *; omega
theorem pageCells_get (l : List (Int × Int)) (p : Nat) (h : p < l.length) : (pageCells l)[2 * p]? = some (.int .i64 (l.getD p (0, 0)).1) ∧ (pageCells l)[2 * p + 1]? = some (.int .i64 (l.getD p (0, 0)).2) := by
  induction l generalizing p with
  | nil => simp at h
  | cons x l ih =>
    cases p with
    | zero => simp [pageCells]
    | succ p =>
      have := ih p (by simpa using h)
      simp only [pageCells, List.flatMap_cons] at *
      constructor
      · rw [List.getElem?_append_right (by simp; omega)]
        simpa [Nat.mul_add] using this.1
      · rw [List.getElem?_append_right (by simp; omega)]
        rw [show 2 * (p + 1) + 1 - [Value.int IntKind.i64 x.1, Value.int IntKind.i64 x.2].length = 2 * p + 1 from by simp; omega]
        simpa using this.2

def clsPost (A : Ar) (p : Int) (w : World) (e : Ending) (w' : World) : Prop := e = .returned (.int .i64 (clsAt A p)) ∧ w' = w
theorem arena_class (a : Nat) (A : Ar) (S : Nat → Bool) (p : Int) (w : World) (G : Gh) (hI : Inv w G) (hA : ArAt w G a A S) :
    Calls Try.prog 82 #[.pointer (some ⟨a, 0, none⟩), .int .i64 p] w (clsPost A p w) := by
  obtain ⟨h0, h1, h2, pb, wb, -, -, -, hh, hpb, -⟩ := hA.facts hI
  have hc : w.cell? ⟨a, 0, none⟩ = some (.slice (some ⟨pb, 0, none⟩) A.pages.length A.pages.length) := cell_of hh 0
  clear hh hA
  by_cases h : p < 0
  · clear hpb
    go_enter Try.func82, Try.ntmps82
    go_wp2
    go_ret
    exact ⟨ret_int (by unfold clsAt; rw [if_pos (.inl h)]), rfl⟩
  · have h' : 0 ≤ p := by omega
    by_cases hb : p ≥ A.pages.length
    · have hb' : (A.pages.length : Int) ≤ p := hb
      clear hpb
      go_enter Try.func82, Try.ntmps82
      go_wp2
      go_ret
      exact ⟨ret_int (by unfold clsAt; rw [if_pos (.inr hb)]), rfl⟩
    · obtain ⟨j, rfl⟩ : ∃ j : Nat, p = j := ⟨p.toNat, by omega⟩
      have hj : j < A.pages.length := by omega
      have hcl : w.cell? ⟨pb, j * 2, none⟩ = some (.int .i64 (A.pages.getD j (0, 0)).1) := (cell_of hpb (j * 2)).trans (by rw [Nat.mul_comm]; simpa using (pageCells_get A.pages j hj).1)
      have hfin : (A.pages.getD j (0, 0)).1 = clsAt A j := by unfold clsAt; rw [if_neg (by omega), Int.toNat_natCast]
      have hdec : decide (A.pages.length ≤ j) = false := by simp; omega
      have Hf := Lib.hid hfin
      clear hfin hb hpb
      generalize (A.pages.getD j (0, 0)).1 = x at *
      go_enter Try.func82, Try.ntmps82
      go_wp2
      go_ret
      exact ⟨ret_int Hf.out, rfl⟩

theorem arena_has (a : Nat) (A : Ar) (S : Nat → Bool) (r : Int) (w : World) (G : Gh) (hI : Inv w G) (hA : ArAt w G a A S) :
    Calls Try.prog 85 #[.pointer (some ⟨a, 0, none⟩), .int .i64 r] w (HasPost S r w G) := by
  obtain ⟨h0, h1, h2, pb, wb, -, -, -, hh, -, -⟩ := hA.facts hI
  have hc : w.cell? ⟨a, 2, none⟩ = some (.pointer (some ⟨A.sp, 0, none⟩)) := cell_of hh 2
  have hs := Lib.hid hA.st
  clear hh hA
  go_enter Try.func85, Try.ntmps85
  go_wp2_with fail
  refine (has_any A.sp _ r S w G hI hs.out).mono ?_
  rintro e w' ⟨rfl, G', hS⟩
  go_wp2
  go_ret
  exact ⟨rfl, G', hS⟩
end Go.Hw
