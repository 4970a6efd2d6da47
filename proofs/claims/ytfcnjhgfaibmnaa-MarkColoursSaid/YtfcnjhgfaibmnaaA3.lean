/- Arena: gap, Room. -/
import Derived.Test.YtfcnjhgfaibmnaaA2
import Derived.Deep.LoopGhost
namespace Go.Hw
open Go.RowKit Go.Proofs

theorem St.drewN {T : Nat → Prop} {B : Nat} {w w' : World} {G G' : Gh} (h : St T B w G w' G') (n : Nat) : St T B w G (w'.drewN n) G' :=
  ⟨h.inv.other (Nat.le_refl _) fun _ _ _ => rfl, h.le, h.os, h.tape, h.output, h.raw, h.priv, h.ent, h.own⟩

def gapV (A : Ar) (S : Nat → Bool) (c : Int) : Value := match gapOf A S c with
  | some (p, i) => .tuple #[.int .i64 p, .int .i64 i, .bool true]
  | none => .tuple #[.int .i64 0, .int .i64 0, .bool false]
def gapPost (A : Ar) (S : Nat → Bool) (c : Int) (w : World) (G : Gh) (e : Ending) (w' : World) : Prop :=
  e = .returned (gapV A S c) ∧ ∃ G', Step (fun _ => False) w G w' G'

def gapRel (A : Ar) (S : Nat → Bool) (c : Int) (w0 : World) (G0 : Gh) (g : Nat) (i : Value) (w : World) : Prop :=
  ∃ (k : Nat) (G : Gh), k + g = A.pages.length ∧ i = .int .i64 k ∧ (∀ p, p < k → gapPage A S c p = none) ∧ Step (fun _ => False) w0 G0 w G
def gapRel2 (A : Ar) (S : Nat → Bool) (c : Int) (k : Nat) (w0 : World) (G0 : Gh) (g : Nat) (v : Value) (w : World) : Prop :=
  ∃ (i : Nat) (G : Gh), (i : Int) + g = cellsOf c ∧ v = .int .i64 i ∧ (∀ j, j < i → hasR S (refOf k c j) = true) ∧ Step (fun _ => False) w0 G0 w G

theorem gapOf_none {A : Ar} {S : Nat → Bool} {c : Int} (h : ∀ p, p < A.pages.length → gapPage A S c p = none) : gapOf A S c = none := by
  unfold gapOf
  rw [List.findSome?_eq_none_iff]
  intro p hp
  exact h p (by simpa using hp)
theorem gapCell_none {S : Nat → Bool} {p c : Int} {n : Nat} (hn : (n : Int) = cellsOf c) (h : ∀ j : Nat, j < n → hasR S (refOf p c j) = true) : gapCell S p c = none := by
  unfold gapCell
  rw [List.find?_eq_none]
  intro j hj
  have := h j (by have := List.mem_range.1 hj; omega)
  simp [this]
theorem find_range {f : Nat → Bool} {n i : Nat} (hi : i < n) (hf : f i = true) (h : ∀ j, j < i → f j = false) : (List.range n).find? f = some i := by
  rw [List.find?_eq_some_iff_getElem]
  refine ⟨hf, i, by simpa using hi, by simp, fun j hj => ?_⟩
  simp [h j hj]
theorem gapCell_some {S : Nat → Bool} {p c : Int} {i : Nat} (hi : (i : Int) < cellsOf c) (hf : hasR S (refOf p c i) = false) (h : ∀ j : Nat, j < i → hasR S (refOf p c j) = true) : gapCell S p c = some i :=
  find_range (by omega) (by simp [hf]) (fun j hj => by simp [h j hj])
theorem findSome_range {α : Type} {f : Nat → Option α} {n i : Nat} {x : α} (hi : i < n) (hf : f i = some x) (h : ∀ j, j < i → f j = none) : (List.range n).findSome? f = some x := by
  have hs : List.range n = List.range i ++ (i :: (List.range (n - i - 1)).map (i + 1 + ·)) := by
    obtain ⟨d, rfl⟩ : ∃ d, n = i + (1 + d) := ⟨n - i - 1, by omega⟩
    rw [List.range_add, List.range_add]
    simp
    intro a ha; omega
  rw [hs, List.findSome?_append, List.findSome?_cons, hf]
  have : (List.range i).findSome? f = none := by
    rw [List.findSome?_eq_none_iff]; intro j hj; exact h j (by simpa using hj)
  simp [this]
theorem gapOf_some {A : Ar} {S : Nat → Bool} {c : Int} {k : Nat} {x : Nat × Nat} (hk : k < A.pages.length) (hf : gapPage A S c k = some x) (h : ∀ p, p < k → gapPage A S c p = none) : gapOf A S c = some x :=
  findSome_range hk hf h

set_option maxRecDepth 100000 in
set_option maxHeartbeats 1000000 in
theorem arena_gap (a : Nat) (A : Ar) (S : Nat → Bool) (c : Int) (w : World) (G : Gh) (hI : Inv w G) (hA : ArAt w G a A S) :
    Calls Try.prog 91 #[.pointer (some ⟨a, 0, none⟩), .int .i64 c] w (gapPost A S c w G) := by
  obtain ⟨pb, wb, hin⟩ := hA.inn hI
  have hc : w.cell? ⟨a, 0, none⟩ = some (.slice (some ⟨pb, 0, none⟩) A.pages.length A.pages.length) := cell_of hin.head 0
  have n1 := hin.n1
  have hpb := Lib.hid hin.epb
  have HA := Lib.hid hA
  clear hA hin
  have bc := cells_bd c
  go_enter Try.func91, Try.ntmps91
  go_wp2
  go_step3
  go_wp2
  go_step3
  go_wp2
  go_loopg [15] A.pages.length (fun g s15 wr => gapRel A S c w G g s15 wr)
  case atStart => exact ⟨0, G, by omega, rfl, fun p hp => by omega, St.refl hI⟩
  case round =>
    obtain ⟨k, G1, hk, rfl, hnone, hS1⟩ := hrel
    have hI1 := hS1.inv
    have HA1 := Lib.hid (HA.out.step0 hI hS1)
    have HS1 := Lib.hid hS1
    have Hnone := Lib.hid hnone
    clear hS1 hnone hc
    by_cases hlt : k < A.pages.length
    · obtain ⟨pb1, wb1, hin1⟩ := HA1.out.inn hI1
      obtain rfl : pb1 = pb := hin1.epb.trans hpb.out.symm
      have hc1 : wr.cell? ⟨pb1, k * 2, none⟩ = some (.int .i64 (A.pages.getD k (0, 0)).1) := (cell_of hin1.prow (k * 2)).trans (by rw [Nat.mul_comm]; simpa using (pageCells_get A.pages k hlt).1)
      have hc2 : wr.cell? ⟨pb1, k * 2 + 1, none⟩ = some (.int .i64 (A.pages.getD k (0, 0)).2) := (cell_of hin1.prow (k * 2 + 1)).trans (by rw [Nat.mul_comm]; simpa using (pageCells_get A.pages k hlt).2)
      have hpg : gapPage A S c k = if (A.pages.getD k (0, 0)).1 ≠ c ∨ (A.pages.getD k (0, 0)).2 = cellsOf c then none else (gapCell S k c).map fun i => (k, i) := rfl
      have Hpg := Lib.hid hpg
      clear hpg hin1
      generalize (A.pages.getD k (0, 0)).1 = cl at *
      generalize (A.pages.getD k (0, 0)).2 = tk at *
      by_cases h1 : cl = c
      · subst h1
        have h1' : (cl != cl) = false := by simp
        have hS2 := Lib.hid (fun n => (HS1.out.alloc (.cells #[.int .i64 cl, .int .i64 tk] 99)).drewN n)
        by_cases h2 : tk = cellsOf cl
        · have hng : gapPage A S cl k = none := by rw [Hpg.out, if_pos (.inr h2)]
          have h2' : (tk == cellsOf cl) = true := by simpa using h2
          have Hng := Lib.hid hng
          clear hng h2
          go_wp2
          go_quiet ((go_at_call 83; exact Calls.quiet_of_same (size_cells _ _)))
          go_wp2
          go_roundg (gk - 1)
          case measure => omega
          case rel => exact ⟨k + 1, G1, by omega, by go_num, fun p hp => by
            by_cases hpk : p = k
            · subst hpk; exact Hng.out
            · exact Hnone.out p (by omega), hS2.out _⟩
        · have hpg2 : gapPage A S cl k = (gapCell S k cl).map fun i => (k, i) := by rw [Hpg.out, if_neg (by simp [h2])]
          have h2' : (tk == cellsOf cl) = false := by simpa using h2
          have Hpg2 := Lib.hid hpg2
          clear hpg2 h2
          go_wp2
          go_quiet ((go_at_call 83; exact Calls.quiet_of_same (size_cells _ _)))
          go_wp2_with fail
          refine (size_cells _ _).mono ?_
          rintro e w2 ⟨rfl, rfl⟩
          have hS3 := hS2.out nq
          generalize (wr.alloc (.cells #[.int .i64 cl, .int .i64 tk] 99)).drewN nq = w2 at *
          have HS3 := Lib.hid hS3
          have hI3 := hS3.inv
          have HA3 := Lib.hid (HA.out.step0 hI hS3)
          clear hS3 hI1 HA1 hS2 HS1 hc1 hc2
          go_wp2
          obtain ⟨g1, hg1, hg2⟩ : ∃ g1, k + 1 + g1 = A.pages.length ∧ g1 < gk := ⟨gk - 1, by omega, by omega⟩
          go_loopg [33] (cellsOf cl).toNat (fun g v wr => gapRel2 A S cl k w G g v wr)
          case atStart => exact ⟨0, G1, by omega, rfl, fun j hj => by omega, HS3.out⟩
          case round =>
            obtain ⟨i, G4, hi, rfl, hhas, hS4⟩ := hrel
            have hI4 := hS4.inv
            have HA4 := Lib.hid (HA.out.step0 hI hS4)
            have HS4 := Lib.hid hS4
            have Hhas := Lib.hid hhas
            clear hS4 hhas HS3 HA3 hI3
            by_cases hil : (i : Int) < cellsOf cl
            · have hwi : (i : Int) < 16 := by omega
              go_wp2_with fail
              refine (arena_ref k cl i (by omega) _).mono ?_
              rintro e w5 ⟨rfl, rfl⟩
              go_wp2_with fail
              refine (arena_has a A S (refOf k cl i) _ G4 hI4 HA4.out).mono ?_
              rintro e w6 ⟨rfl, G6, hS6⟩
              have HS6 := Lib.hid (HS4.out.seqT hS6)
              clear hS6
              cases hh : hasR S (refOf k cl i) with
              | true =>
                have hh' : (decide (0 ≤ refOf k cl i) && S (refOf k cl i).toNat) = true := hh
                rw [hh']
                have Hh := Lib.hid hh
                clear hh hh'
                go_wp2
                go_roundg (gk - 1)
                case measure => omega
                case rel => exact ⟨i + 1, G6, by omega, by go_num, fun j hj => by
                  by_cases hj2 : j = i
                  · subst hj2; exact Hh.out
                  · exact Hhas.out j (by omega), HS6.out⟩
              | false =>
                have hh' : (decide (0 ≤ refOf k cl i) && S (refOf k cl i).toNat) = false := hh
                have hfin : gapOf A S cl = some (k, i) := gapOf_some hlt (by rw [Hpg2.out, gapCell_some hil hh Hhas.out]; rfl) Hnone.out
                rw [hh']
                have Hfin := Lib.hid hfin
                clear hh hh' hfin
                go_wp2
                try rw [Exit.noGoto_ret]
                go_ret3
                exact ⟨by rw [gapV, Hfin.out]; rfl, G6, HS6.out⟩
            · have hng : gapPage A S cl k = none := by rw [Hpg2.out, gapCell_none (n := i) (by omega) Hhas.out]; rfl
              have Hng := Lib.hid hng
              clear hng
              go_wp2
              go_roundg g1
              case measure => omega
              case rel => exact ⟨k + 1, G4, by omega, by go_num, fun p hp => by
                by_cases hpk : p = k
                · subst hpk; exact Hng.out
                · exact Hnone.out p (by omega), HS4.out⟩
      · have h1' : (cl != c) = true := by simpa using h1
        have hng : gapPage A S c k = none := by rw [Hpg.out, if_pos (.inl h1)]
        have Hng := Lib.hid hng
        clear hng h1
        have hS2 := Lib.hid (fun n => (HS1.out.alloc (.cells #[.int .i64 cl, .int .i64 tk] 99)).drewN n)
        go_wp2
        go_quiet (fail)
        go_wp2
        go_roundg (gk - 1)
        case measure => omega
        case rel => exact ⟨k + 1, G1, by omega, by go_num, fun p hp => by
          by_cases hpk : p = k
          · subst hpk; exact Hng.out
          · exact Hnone.out p (by omega), hS2.out _⟩
    · obtain rfl : k = A.pages.length := by omega
      have hfin : gapOf A S c = none := gapOf_none Hnone.out
      go_wp2
      try rw [Exit.noGoto_ret]
      go_ret3
      exact ⟨by rw [gapV, hfin]; rfl, G1, HS1.out⟩
end Go.Hw
