/- Arena: Take. -/
import Derived.Test.YtfcnjhgfaibmnaaA4
namespace Go.Hw
open Go.RowKit Go.Proofs

theorem zero_int (w : World) : (zeroValue 3).run Try.prog w = .ok (.int .i64 0) w := by kernel_rfl

theorem ref_bd {p : Nat} {np : Nat} {c i : Int} (hp : p < np) (hi : 0 ≤ i ∧ i < cellsOf c) : 1 ≤ refOf p c i ∧ refOf p c i - 1 + wordsOf c ≤ 32 * np ∧ 0 ≤ refOf p c i - 1 ∧ 0 < wordsOf c := by
  unfold refOf
  rw [if_neg (by omega)]
  rcases words_cases c with ⟨h1, h2, -⟩ | ⟨-, h1, h2⟩ | ⟨-, h1, h2⟩ | ⟨-, h1, h2⟩ <;> rw [h1] <;> omega

theorem gapOf_spec {A : Ar} {S : Nat → Bool} {c : Int} {p i : Nat} (h : gapOf A S c = some (p, i)) : p < A.pages.length ∧ (i : Int) < cellsOf c ∧ (A.pages.getD p (0, 0)).1 = c ∧ hasR S (refOf p c i) = false := by
  unfold gapOf at h
  obtain ⟨q, hq, hg⟩ := List.exists_of_findSome?_eq_some h
  unfold gapPage at hg
  split at hg
  · cases hg
  · rename_i hn
    cases hgc : gapCell S q c with
    | none => rw [hgc] at hg; cases hg
    | some j =>
      rw [hgc] at hg
      simp only [Option.map_some, Option.some.injEq, Prod.mk.injEq] at hg
      obtain ⟨rfl, rfl⟩ := hg
      have hf := List.find?_some hgc
      have hm := List.mem_of_find?_eq_some hgc
      have := cells_bd c
      refine ⟨by simpa using hq, by have := List.mem_range.1 hm; omega, Classical.byContradiction fun h => hn (.inl h), by simpa using hf⟩

theorem firstFree_spec {A : Ar} (h : ∃ p, p < A.pages.length ∧ (A.pages.getD p (0, 0)).1 < 0) : firstFree A < A.pages.length ∧ (A.pages.getD (firstFree A) (0, 0)).1 < 0 ∧ ∀ q, q < firstFree A → 0 ≤ (A.pages.getD q (0, 0)).1 := by
  unfold firstFree
  obtain ⟨p, hp, hc⟩ := h
  cases hf : (List.range A.pages.length).find? fun p => decide ((A.pages.getD p (0, 0)).1 < 0) with
  | none =>
    rw [List.find?_eq_none] at hf
    exact absurd hc (by simpa using hf p (by simpa using hp))
  | some q =>
    rw [List.find?_eq_some_iff_getElem] at hf
    obtain ⟨h1, j, hj, rfl, h3⟩ := hf
    simp only [Option.getD_some, List.getElem_range] at *
    refine ⟨by simpa using hj, by simpa using h1, fun q hq => by simpa using h3 q hq⟩

def takePost (a : Nat) (A : Ar) (S : Nat → Bool) (c : Int) (w : World) (G : Gh) (e : Ending) (w' : World) : Prop :=
  match takeOf A S c with
  | none => e = .returned (.tuple #[.int .i64 0, .bool false]) ∧ ∃ G', Step (fun _ => False) w G w' G'
  | some (r, A') => e = .returned (.tuple #[.int .i64 r, .bool true]) ∧ ∃ G', ArAt w' G' a A' (addTo S r) ∧ Step (fun x => x = a ∨ x = A.sp) w G w' G'

set_option maxRecDepth 100000 in
set_option maxHeartbeats 2000000 in
theorem arena_take (a : Nat) (A : Ar) (S : Nat → Bool) (c : Int) (w : World) (G : Gh) (hI : Inv w G) (hA : ArAt w G a A S)
    (hcnt : ∀ p, 0 ≤ (A.pages.getD p (0, 0)).2 ∧ (A.pages.getD p (0, 0)).2 ≤ 16) (hfb : -100 ≤ A.free ∧ A.free ≤ 100)
    (hfr : A.free > 0 → ∃ p, p < A.pages.length ∧ (A.pages.getD p (0, 0)).1 < 0) :
    Calls Try.prog 64 #[.pointer (some ⟨a, 0, none⟩), .int .i64 c] w (takePost a A S c w G) := by
  have HA := Lib.hid hA
  clear hA
  have hn64 := (HA.out.facts hI).2.1
  cases hroom : roomOf A S c with
  | false =>
    have hfin : takeOf A S c = none := by rw [takeOf, if_neg (by rw [hroom]; simp)]
    have Hf := Lib.hid hfin
    have Hr := Lib.hid hroom
    clear hfin hroom hcnt hfr
    go_enter Try.func64, Try.ntmps64
    go_wp2_with fail
    refine (arena_room a A S c _ G hI HA.out).mono ?_
    rintro e w1 ⟨rfl, G1, hS1⟩
    rw [Hr.out]
    go_wp2
    go_ret2
    rw [takePost, Hf.out]
    exact ⟨rfl, G1, hS1⟩
  | true =>
    have hcell : cellsOf c ≠ 0 := by intro h; simp [roomOf, h] at hroom
    obtain ⟨p, i, hgv, hsome, hnone⟩ := gapV_eq A S c
    have hroom2 : (gapOf A S c).isSome = false → A.free > 0 := fun h => by simpa [roomOf, hcell, h] using hroom
    have hfin : takeOf A S c = match gapOf A S c with
      | some (p, i) => some (refOf p c i, takeCell A p c i)
      | none => some (refOf (firstFree A) c 0, takeCell (openPage A (firstFree A) c) (firstFree A) c 0) := by rw [takeOf, if_pos hroom]; rfl
    have Hf := Lib.hid hfin
    have Hr := Lib.hid hroom
    have Hgv := Lib.hid hgv
    have Hcnt := Lib.hid hcnt
    have Hfr := Lib.hid hfr
    have Hr2 := Lib.hid hroom2
    have Hsome := Lib.hid hsome
    have Hnone := Lib.hid hnone
    clear hfin hroom hgv hcnt hfr hsome hnone hroom2 hcell
    go_enter Try.func64, Try.ntmps64
    go_wp2_with fail
    refine (arena_room a A S c _ G hI HA.out).mono ?_
    rintro e w1 ⟨rfl, G1, hS1⟩
    rw [Hr.out]
    have hI1 := hS1.inv
    have HA1 := Lib.hid (HA.out.step0 hI hS1)
    have HS1 := Lib.hid hS1
    clear hS1
    go_wp2_with fail
    refine (arena_gap a A S c _ G1 hI1 HA1.out).mono ?_
    rintro e w2 ⟨rfl, G2, hS2⟩
    rw [Hgv.out]
    have hI2 := hS2.inv
    have HS2 := Lib.hid ((HS1.out.seqT hS2).mono (T' := fun x => x = a ∨ x = A.sp) (fun _ h => h.elim) (Nat.le_refl _))
    have HA2 := Lib.hid (HA1.out.step0 hI1 hS2)
    clear hS2 HS1 HA1 hI1
    cases hg : (gapOf A S c).isSome with
    | true =>
      obtain ⟨x, hx⟩ := Option.isSome_iff_exists.1 hg
      obtain rfl := Hsome.out x hx
      obtain ⟨hp, hi, hpc, -⟩ := gapOf_spec hx
      have hcl : 0 ≤ (i : Int) ∧ (i : Int) < cellsOf c := ⟨by omega, hi⟩
      have Hx := Lib.hid hx
      obtain ⟨hk1, hk2⟩ := Hcnt.out p
      clear hx hg hpc hi

      have hcell1 := hcl.1
      have hrb : 1 ≤ refOf p c i ∧ refOf p c i - 1 + wordsOf c ≤ 32 * A.pages.length ∧ 0 ≤ refOf p c i - 1 ∧ 0 < wordsOf c := ref_bd (by omega) hcl
      obtain ⟨hr1, hr2, hr3, hr4⟩ := hrb
      have hwl := (HA2.out.facts hI2).2.2.1
      have hn64 := (HA2.out.facts hI2).2.1
      have hr5 : (refOf p c i - 1).toNat + (wordsOf c).toNat ≤ A.words.length := by omega
      go_wp2_with fail
      refine (arena_ref p c i (by omega) _).mono ?_
      rintro e w5 ⟨rfl, rfl⟩
      obtain ⟨pb2, wb2, hin2⟩ := HA2.out.inn hI2
      have hc2 : w5.cell? ⟨a, 2, none⟩ = some (.pointer (some ⟨A.sp, 0, none⟩)) := cell_of hin2.head 2
      clear hin2
      go_wp2_with fail
      refine (put_any A.sp _ (refOf p c i) S _ G2 hI2 HA2.out.st).mono ?_
      rintro e w6 ⟨rfl, G6, hg6, hS6⟩
      have hset : (fun k : Nat => if (k : Int) = refOf p c i ∧ k < 32 * A.pages.length + 1 then true else S k) = addTo S (refOf p c i) := by
        funext k; unfold addTo; by_cases hk : (k : Int) = refOf p c i
        · rw [if_pos ⟨hk, by omega⟩, if_pos hk]
        · rw [if_neg (fun h => hk h.1), if_neg hk]
      rw [hset] at hg6
      have hspa : A.sp ≠ a := fun e => by have h1 := HA2.out.st; rw [e, HA2.out.ar] at h1; cases h1
      have hA6 : ArAt w6 G6 a A (addTo S (refOf p c i)) := ⟨(hS6.ent a (lay_lt hI2 (by rw [HA2.out.ar]; rfl)) (by rw [HA2.out.ar]; rfl) (fun e => hspa e.symm)).trans HA2.out.ar, hg6⟩
      have HS6 := Lib.hid (HS2.out.seq hS6 (T := fun x => x = a ∨ x = A.sp) (fun _ h => h) (fun x _ _ h => .inr h))
      obtain ⟨pb6, wb6, hin6⟩ := hA6.inn hS6.inv
      have hH6 := hin6.arH hA6
      have hI6 := hS6.inv
      have hcp0 : w6.cell? ⟨a, 0, none⟩ = some (.slice (some ⟨A.pb, 0, none⟩) A.pages.length A.pages.length) := cell_of hH6.head 0
      have hcw0 : w6.cell? ⟨a, 1, none⟩ = some (.slice (some ⟨A.wb, 0, none⟩) A.words.length A.words.length) := cell_of hH6.head 1
      have hct : w6.cell? ⟨A.pb, p * 2 + 1, none⟩ = some (.int .i64 (A.pages.getD p (0, 0)).2) := (cell_of hH6.prow (p * 2 + 1)).trans (by rw [Nat.mul_comm]; simpa using (pageCells_get A.pages p hp).2)
      have hft : w6.frozen? ⟨A.pb, p * 2 + 1, none⟩ = false := free_of hH6.prow _
      have hH7 := hH6.cnt p ((A.pages.getD p (0, 0)).2 + 1) hp
      have hcw1 : (w6.setCell ⟨A.pb, p * 2 + 1, none⟩ (.int .i64 ((A.pages.getD p (0, 0)).2 + 1))).cell? ⟨a, 1, none⟩ = some (.slice (some ⟨A.wb, 0, none⟩) A.words.length A.words.length) := cell_of hH7.head 1
      have hH8 := hH7.clear (refOf p c i - 1).toNat (wordsOf c).toNat hr5
      obtain ⟨G8, hA8, hS8⟩ := hH8.commit hI6 hA6 rfl rfl rfl (by simp) (by simpa using clearAt_length _ _ _ hr5) (by simp [World.setRow]) rfl rfl rfl (fun x _ h1 h2 h3 => by rw [heap_setRow_ne _ _ h3, heap_setCell_ne _ _ _ h2])
      have HS8 := Lib.hid (HS6.out.seq hS8 (T := fun x => x = a ∨ x = A.sp) (fun _ h => h) (fun x _ _ h => .inl h))
      have HA8 := Lib.hid hA8
      have hcl8 := fun cap => run_clear_ints (P := Try.prog) (w6.setCell ⟨A.pb, p * 2 + 1, none⟩ (.int .i64 ((A.pages.getD p (0, 0)).2 + 1))).drew A.wb (refOf p c i - 1).toNat (wordsOf c).toNat cap _ 95 3 0 _ Try.underlying95 zero_int (by omega) hH7.wrow (by simpa using hr5)
      have HS9a := Lib.hid HS8.out.drew
      obtain ⟨W9, hW9⟩ : ∃ W9, (w6.setCell ⟨A.pb, p * 2 + 1, none⟩ (.int .i64 ((A.pages.getD p (0, 0)).2 + 1))).drew.setRow A.wb ((A.words.map (Value.int .i64)).toArray.toList.take (refOf p c i - 1).toNat ++ List.replicate (wordsOf c).toNat (Value.int .i64 0) ++ (A.words.map (Value.int .i64)).toArray.toList.drop ((refOf p c i - 1).toNat + (wordsOf c).toNat)).toArray = W9 := ⟨_, rfl⟩
      have hS9 : Step (fun x => x = a ∨ x = A.sp) w G W9 G8 := by rw [← hW9]; exact HS9a.out
      rw [hW9] at hcl8
      rw [show (refOf p c i - 1).toNat = (refOf p c i).toNat - 1 from by omega, show (wordsOf c).toNat = (refOf p c i - 1 + wordsOf c).toNat - ((refOf p c i).toNat - 1) from by omega] at hcl8
      have HS9 := Lib.hid hS9
      clear hW9 hS9 HS8 HS9a
      clear hS6 hS8 hA6 hA8 hH6 hH7 hH8 hin6 hg6 hset

      have bw := words_bd c
      generalize hrd : refOf p c i = r at *
      generalize hcn : (A.pages.getD p (0, 0)).2 = cnt at *
      generalize (decide (0 ≤ r ∧ r < ((32 * A.pages.length + 1 : Nat) : Int)) && !S r.toNat) = bb at *
      have Hrd := Lib.hid hrd
      have Hcn := Lib.hid hcn
      clear hrd hcn
      go_wp2
      have q1 : IntKind.i64.wrap (r - 1 + wordsOf c) = r - 1 + wordsOf c := by rw [IntKind.wrap_i64]; omega
      have q2 : IntKind.i64.wrap (r - 1) = r - 1 := by rw [IntKind.wrap_i64]; omega
      have q3 : 0 ≤ r - 1 + wordsOf c := by omega
      have q4 : r - 1 ≤ r - 1 + wordsOf c := by omega
      have q5 : r - 1 + wordsOf c ≤ (A.words.length : Int) := by omega
      go_region_with (go_at_call 89; refine (size_words c _).mono ?_; rintro e w' ⟨rfl, rfl⟩)
      all_goals go_wp2
      all_goals go_ret2
      all_goals
        obtain rfl := Hrd.out
        obtain rfl := Hcn.out
        unfold takePost
        rw [Hf.out, Hx.out]
        exact ⟨rfl, G8, ⟨HA8.out.ar, HA8.out.st⟩, HS9.out⟩
    | false =>
      have hgn : gapOf A S c = none := by cases h : gapOf A S c with
        | none => rfl
        | some x => rw [h] at hg; cases hg
      obtain ⟨hp0, hi0⟩ := Hnone.out hgn
      subst hp0 hi0
      obtain ⟨f1, f2, f3⟩ := firstFree_spec (Hfr.out (Hr2.out hg))
      have hcc : cellsOf c ≠ 0 := by intro h; have := Hr.out; simp [roomOf, h] at this
      have hcl : 0 ≤ ((0 : Nat) : Int) ∧ ((0 : Nat) : Int) < cellsOf c := by have := cells_bd c; omega
      have Hx := Lib.hid hgn
      have hff := Hr2.out hg
      generalize hffd : firstFree A = p at *
      have Hffd := Lib.hid hffd
      have F2 := Lib.hid f2
      have F3 := Lib.hid f3
      clear hgn hg hffd f2 f3 hcc
      obtain ⟨pb2, wb2, hin2⟩ := HA2.out.inn hI2
      have hH2 := hin2.arH HA2.out
      have hcp0 : w2.cell? ⟨a, 0, none⟩ = some (.slice (some ⟨A.pb, 0, none⟩) A.pages.length A.pages.length) := cell_of hH2.head 0
      have hcp : ∀ q, q < A.pages.length → w2.cell? ⟨A.pb, q * 2, none⟩ = some (.int .i64 (A.pages.getD q (0, 0)).1) := fun q hq => (cell_of hH2.prow (q * 2)).trans (by rw [Nat.mul_comm]; simpa using (pageCells_get A.pages q hq).1)
      have HH2 := Lib.hid hH2
      have Hcp := Lib.hid hcp
      clear hH2 hin2 hcp
      go_wp2
      go_outline
      go_loop [6] (fun v => ∃ q : Nat, q ≤ p ∧ v = .int .i64 q) (fun v => p - (intOf v).toNat)
      case atStart => exact ⟨0, by omega, rfl⟩
      case round =>
        obtain ⟨q, hq, rfl⟩ := hrel
        have hcq := Hcp.out q (by omega)
        by_cases hqp : q < p
        · have hge := F3.out q hqp
          generalize (A.pages.getD q (0, 0)).1 = x at *
          go_wp2
          go_round
          case rel => exact ⟨q + 1, by omega, by go_num⟩
          case measure => simp [intOf]; omega
        · obtain rfl : q = p := by omega
          have hneg := F2.out
          generalize (A.pages.getD q (0, 0)).1 = x at *
          have hH3 := (HH2.out.page q c 0 f1).freed (A.free - 1)
          obtain ⟨G4, hA4, hS4⟩ := hH3.commit (G := G2) hI2 HA2.out rfl rfl rfl (by simp) rfl (by simp) rfl rfl rfl (fun x _ h1 h2 h3 => by rw [heap_setCell_ne _ _ _ h1, heap_setCell_ne _ _ _ h2, heap_setCell_ne _ _ _ h2])
          have HA4 : Hid (ArAt _ G4 a (openPage A q c) S) := Lib.hid hA4
          have hI4 := hS4.inv
          have HS4 := Lib.hid (HS2.out.seq hS4 (T := fun x => x = a ∨ x = A.sp) (fun _ h => h) (fun x _ _ h => .inl h))
          have k1 : w2.cell? ⟨A.pb, q * 2 + 1, none⟩ = some (.int .i64 (A.pages.getD q (0, 0)).2) := (cell_of HH2.out.prow (q * 2 + 1)).trans (by rw [Nat.mul_comm]; simpa using (pageCells_get A.pages q f1).2)
          have k2 : w2.frozen? ⟨A.pb, q * 2, none⟩ = false := free_of HH2.out.prow _
          have k3 : w2.frozen? ⟨A.pb, q * 2 + 1, none⟩ = false := free_of HH2.out.prow _
          have k4 : w2.cell? ⟨a, 3, none⟩ = some (.int .i64 A.free) := cell_of HH2.out.head 3
          have k5 : w2.frozen? ⟨a, 3, none⟩ = false := free_of HH2.out.head _
          have k6 := HH2.out.page q c 0 f1
          have k7 : ((w2.setCell ⟨A.pb, q * 2, none⟩ (.int .i64 c)).setCell ⟨A.pb, q * 2 + 1, none⟩ (.int .i64 0)).cell? ⟨a, 3, none⟩ = some (.int .i64 A.free) := cell_of k6.head 3
          clear hA4 hS4 hH3 k6
          generalize hfv : A.free = fv at *
          have Hfv := Lib.hid hfv
          clear hfv
          generalize hcv : (A.pages.getD q (0, 0)).2 = cv at *
          clear hcv
          go_wp2_with fail
          generalize ((w2.setCell ⟨A.pb, q * 2, none⟩ (.int .i64 c)).setCell ⟨A.pb, q * 2 + 1, none⟩ (.int .i64 0)).setCell ⟨a, 3, none⟩ (.int .i64 (fv - 1)) = w4 at *
          generalize hAo : openPage A q c = Ao at *
          have hp : q < Ao.pages.length := by rw [← hAo]; simpa [openPage] using f1
          have hkk : (Ao.pages.getD q (0, 0)).2 = 0 := by rw [← hAo]; simp [openPage, List.getD, f1]
          have hk1 : 0 ≤ (Ao.pages.getD q (0, 0)).2 := by omega
          have hk2 : (Ao.pages.getD q (0, 0)).2 ≤ 16 := by omega
          have HAo := Lib.hid hAo
          have Hsp := Lib.hid (show Ao.sp = A.sp by rw [← hAo]; rfl)
          clear hAo hkk k1 k2 k3 k4 k5 k7
          have hcell1 := hcl.1
          have hrb : 1 ≤ refOf q c 0 ∧ refOf q c 0 - 1 + wordsOf c ≤ 32 * Ao.pages.length ∧ 0 ≤ refOf q c 0 - 1 ∧ 0 < wordsOf c := ref_bd (by omega) hcl
          obtain ⟨hr1, hr2, hr3, hr4⟩ := hrb
          have hwl := (HA4.out.facts hI4).2.2.1
          have hn64o := (HA4.out.facts hI4).2.1
          have hr5 : (refOf q c 0 - 1).toNat + (wordsOf c).toNat ≤ Ao.words.length := by omega
          refine (arena_ref q c 0 (by omega) _).mono ?_
          rintro e w5 ⟨rfl, rfl⟩
          obtain ⟨pb2, wb2, hin2⟩ := HA4.out.inn hI4
          have hc2 : w5.cell? ⟨a, 2, none⟩ = some (.pointer (some ⟨Ao.sp, 0, none⟩)) := cell_of hin2.head 2
          clear hin2
          go_wp2_with fail
          refine (put_any Ao.sp _ (refOf q c 0) S _ G4 hI4 HA4.out.st).mono ?_
          rintro e w6 ⟨rfl, G6, hg6, hS6⟩
          have hset : (fun k : Nat => if (k : Int) = refOf q c 0 ∧ k < 32 * Ao.pages.length + 1 then true else S k) = addTo S (refOf q c 0) := by
            funext k; unfold addTo; by_cases hk : (k : Int) = refOf q c 0
            · rw [if_pos ⟨hk, by omega⟩, if_pos hk]
            · rw [if_neg (fun h => hk h.1), if_neg hk]
          rw [hset] at hg6
          have hspa : Ao.sp ≠ a := fun e => by have h1 := HA4.out.st; rw [e, HA4.out.ar] at h1; cases h1
          have hA6 : ArAt w6 G6 a Ao (addTo S (refOf q c 0)) := ⟨(hS6.ent a (lay_lt hI4 (by rw [HA4.out.ar]; rfl)) (by rw [HA4.out.ar]; rfl) (fun e => hspa e.symm)).trans HA4.out.ar, hg6⟩
          have HS6 := Lib.hid (HS4.out.seq hS6 (T := fun x => x = a ∨ x = A.sp) (fun _ h => h) (fun x _ _ h => .inr (h.trans Hsp.out)))
          obtain ⟨pb6, wb6, hin6⟩ := hA6.inn hS6.inv
          have hH6 := hin6.arH hA6
          have hI6 := hS6.inv
          have hcp0 : w6.cell? ⟨a, 0, none⟩ = some (.slice (some ⟨Ao.pb, 0, none⟩) Ao.pages.length Ao.pages.length) := cell_of hH6.head 0
          have hcw0 : w6.cell? ⟨a, 1, none⟩ = some (.slice (some ⟨Ao.wb, 0, none⟩) Ao.words.length Ao.words.length) := cell_of hH6.head 1
          have hct : w6.cell? ⟨Ao.pb, q * 2 + 1, none⟩ = some (.int .i64 (Ao.pages.getD q (0, 0)).2) := (cell_of hH6.prow (q * 2 + 1)).trans (by rw [Nat.mul_comm]; simpa using (pageCells_get Ao.pages q hp).2)
          have hft : w6.frozen? ⟨Ao.pb, q * 2 + 1, none⟩ = false := free_of hH6.prow _
          have hH7 := hH6.cnt q ((Ao.pages.getD q (0, 0)).2 + 1) hp
          have hcw1 : (w6.setCell ⟨Ao.pb, q * 2 + 1, none⟩ (.int .i64 ((Ao.pages.getD q (0, 0)).2 + 1))).cell? ⟨a, 1, none⟩ = some (.slice (some ⟨Ao.wb, 0, none⟩) Ao.words.length Ao.words.length) := cell_of hH7.head 1
          have hH8 := hH7.clear (refOf q c 0 - 1).toNat (wordsOf c).toNat hr5
          obtain ⟨G8, hA8, hS8⟩ := hH8.commit hI6 hA6 rfl rfl rfl (by simp) (by simpa using clearAt_length _ _ _ hr5) (by simp [World.setRow]) rfl rfl rfl (fun x _ h1 h2 h3 => by rw [heap_setRow_ne _ _ h3, heap_setCell_ne _ _ _ h2])
          have HS8 := Lib.hid (HS6.out.seq hS8 (T := fun x => x = a ∨ x = A.sp) (fun _ h => h) (fun x _ _ h => .inl h))
          have HA8 := Lib.hid hA8
          have hcl8 := fun cap => run_clear_ints (P := Try.prog) (w6.setCell ⟨Ao.pb, q * 2 + 1, none⟩ (.int .i64 ((Ao.pages.getD q (0, 0)).2 + 1))).drew Ao.wb (refOf q c 0 - 1).toNat (wordsOf c).toNat cap _ 95 3 0 _ Try.underlying95 zero_int (by omega) hH7.wrow (by simpa using hr5)
          have HS9a := Lib.hid HS8.out.drew
          obtain ⟨W9, hW9⟩ : ∃ W9, (w6.setCell ⟨Ao.pb, q * 2 + 1, none⟩ (.int .i64 ((Ao.pages.getD q (0, 0)).2 + 1))).drew.setRow Ao.wb ((Ao.words.map (Value.int .i64)).toArray.toList.take (refOf q c 0 - 1).toNat ++ List.replicate (wordsOf c).toNat (Value.int .i64 0) ++ (Ao.words.map (Value.int .i64)).toArray.toList.drop ((refOf q c 0 - 1).toNat + (wordsOf c).toNat)).toArray = W9 := ⟨_, rfl⟩
          have hS9 : Step (fun x => x = a ∨ x = A.sp) w G W9 G8 := by rw [← hW9]; exact HS9a.out
          rw [hW9] at hcl8
          rw [show (refOf q c 0 - 1).toNat = (refOf q c 0).toNat - 1 from by omega, show (wordsOf c).toNat = (refOf q c 0 - 1 + wordsOf c).toNat - ((refOf q c 0).toNat - 1) from by omega] at hcl8
          have HS9 := Lib.hid hS9
          clear hW9 hS9 HS8 HS9a
          clear hS6 hS8 hA6 hA8 hH6 hH7 hH8 hin6 hg6 hset

          have bw := words_bd c
          generalize hrd : refOf q c 0 = r at *
          generalize hcn : (Ao.pages.getD q (0, 0)).2 = cnt at *
          generalize (decide (0 ≤ r ∧ r < ((32 * Ao.pages.length + 1 : Nat) : Int)) && !S r.toNat) = bb at *
          have Hrd := Lib.hid hrd
          have Hcn := Lib.hid hcn
          clear hrd hcn
          go_wp2
          have q1 : IntKind.i64.wrap (r - 1 + wordsOf c) = r - 1 + wordsOf c := by rw [IntKind.wrap_i64]; omega
          have q2 : IntKind.i64.wrap (r - 1) = r - 1 := by rw [IntKind.wrap_i64]; omega
          have q3 : 0 ≤ r - 1 + wordsOf c := by omega
          have q4 : r - 1 ≤ r - 1 + wordsOf c := by omega
          have q5 : r - 1 + wordsOf c ≤ (Ao.words.length : Int) := by omega
          go_region_with (go_at_call 89; refine (size_words c _).mono ?_; rintro e w' ⟨rfl, rfl⟩)
          all_goals go_wp2
          all_goals go_ret2
          all_goals
            obtain rfl := Hrd.out
            obtain rfl := Hcn.out
            obtain rfl := HAo.out
            unfold takePost
            rw [Hf.out, Hx.out]
            exact ⟨rfl, G8, ⟨HA8.out.ar, HA8.out.st⟩, HS9.out⟩
end Go.Hw
