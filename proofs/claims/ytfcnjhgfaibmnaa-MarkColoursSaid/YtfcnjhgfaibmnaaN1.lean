/- arena.New. -/
import Derived.Test.YtfcnjhgfaibmnaaS5
import Derived.Test.YtfcnjhgfaibmnaaA5
namespace Go.Hw
open Go.RowKit Go.Proofs

/-- arena.Size where the arena is no thing yet. -/
theorem arena_size_raw (a pb n : Nat) (w : World) (hn : n ≤ 64) (hc : w.cell? ⟨a, 0, none⟩ = some (.slice (some ⟨pb, 0, none⟩) n n)) :
    Calls Try.prog 44 #[.pointer (some ⟨a, 0, none⟩)] w fun e w' => e = .returned (.int .i64 ((32 * n + 1 : Nat) : Int)) ∧ w' = w := by
  go_enter Try.func44, Try.ntmps44
  go_wp2
  go_ret
  exact ⟨ret_int (by omega), rfl⟩

theorem info_page : (Try.prog.info? 99).map (fun i => (i.zero, i.size, i.bytes)) = some (some (.agg #[.int .i64 0, .int .i64 0]), 2, 16) := by kernel_rfl
theorem info_int : (Try.prog.info? 3).map (fun i => (i.zero, i.size, i.bytes)) = some (some (.int .i64 0), 1, 8) := by kernel_rfl

theorem made_one (v : Int) (k : Nat) : madeCells #[Value.int .i64 v] k = ((List.replicate k v).map (Value.int .i64)).toArray := by
  simp only [madeCells]
  apply Array.ext
  · simp
  · intro i h1 h2; simp [Nat.mod_one]
theorem made_pages (k : Nat) : madeCells #[Value.int .i64 0, Value.int .i64 0] (k * 2) = (pageCells (List.replicate k (0, 0))).toArray := by
  have hl := pageCells_length (List.replicate k (0, 0))
  simp only [madeCells]
  apply Array.ext
  · simp [hl]; omega
  · intro i h1 h2
    have hi : i < 2 * k := by simp at h1; omega
    have hg : (List.replicate k ((0 : Int), (0 : Int))).getD (i / 2) (0, 0) = (0, 0) := by
      simp only [List.getD, List.getElem?_replicate]; split <;> rfl
    obtain ⟨e1, e2⟩ := pageCells_get (List.replicate k (0, 0)) (i / 2) (by simp; omega)
    rw [hg] at e1 e2
    have h3 : i < (pageCells (List.replicate k (0, 0))).length := by simpa using h2
    have h4 : (pageCells (List.replicate k (0, 0)))[i]? = some (.int .i64 0) := by
      rcases Nat.mod_two_eq_zero_or_one i with h | h
      · rw [show 2 * (i / 2) = i by omega] at e1; exact e1
      · rw [show 2 * (i / 2) + 1 = i by omega] at e2; exact e2
    rw [List.getElem?_eq_getElem h3, Option.some.injEq] at h4
    simp only [List.getElem_toArray, h4, Array.getElem_ofFn]
    rcases Nat.mod_two_eq_zero_or_one i with h | h <;> simp [h]
theorem make_pages (n : Nat) (hn : n ≤ 64) (W : World) : (Instr.makeSlice 94 (.int .i64 n) (.int .i64 n)).run Try.prog W = .ok (.slice (some ⟨W.heap.size, 0, none⟩) n n) (W.alloc (.cells (pageCells (List.replicate n (0, 0))).toArray 99)) := by
  obtain ⟨i0, hi, hz0, hz1, hz2⟩ := info_parts info_page
  have h := run_make (P := Try.prog) W 94 99 i0 _ Try.underlying94 hi hz0 .i64 .i64 n n (by omega) (by omega) (by rw [hz2]; omega) (by omega)
  rw [h, hz1, show ((n : Int)).toNat = n by omega]
  rw [show (Value.agg #[Value.int .i64 0, Value.int .i64 0]).cells = #[Value.int .i64 0, Value.int .i64 0] from rfl, made_pages]
theorem make_words (n : Nat) (hn : n ≤ 64) (W : World) : (Instr.makeSlice 95 (.int .i64 ((n : Int) * 32)) (.int .i64 ((n : Int) * 32))).run Try.prog W = .ok (.slice (some ⟨W.heap.size, 0, none⟩) (32 * n) (32 * n)) (W.alloc (.cells ((List.replicate (32 * n) (0 : Int)).map (Value.int .i64)).toArray 3)) := by
  obtain ⟨i0, hi, hz0, hz1, hz2⟩ := info_parts info_int
  have h := run_make (P := Try.prog) W 95 3 i0 _ Try.underlying95 hi hz0 .i64 .i64 ((n : Int) * 32) ((n : Int) * 32) (by omega) (by omega) (by rw [hz2]; omega) (by omega)
  rw [h, hz1, show ((n : Int) * 32).toNat = 32 * n by omega, Nat.mul_one]
  rw [show (Value.int IntKind.i64 0).cells = #[Value.int .i64 0] from rfl, made_one]
def pagesAt (n k : Nat) : List (Int × Int) := List.replicate k (-1, 0) ++ List.replicate (n - k) (0, 0)
theorem pagesAt_len {n k : Nat} (h : k ≤ n) : (pagesAt n k).length = n := by simp [pagesAt]; omega
theorem pagesAt_succ {n k : Nat} (h : k < n) : (pageCells (pagesAt n k)).set (k * 2) (.int .i64 (-1)) = pageCells (pagesAt n (k + 1)) := by
  have e : pagesAt n (k + 1) = (pagesAt n k).set k (-1, 0) := by
    unfold pagesAt
    apply List.ext_getElem?
    intro j
    rw [List.getElem?_set]
    simp only [List.getElem?_append, List.length_replicate, List.length_append, List.getElem?_replicate]
    by_cases h1 : k = j
    · subst h1; simp; omega
    · by_cases h2 : j < k
      · have : j < k + 1 := by omega
        simp [h1, h2, this]
      · have : ¬ j < k + 1 := by omega
        simp only [h1, h2, this, if_false]
        have : j - (k + 1) < n - (k + 1) ↔ j - k < n - k := by omega
        simp only [this]
  have hl := pagesAt_len (Nat.le_of_lt h)
  have hg : (pagesAt n k).getD k (0, 0) = (0, 0) := by
    simp only [pagesAt, List.getD, List.getElem?_append, List.getElem?_replicate, List.length_replicate, Nat.lt_irrefl, if_false]; split <;> rfl
  have h2 := (pageCells_get (pagesAt n k) k (by omega)).2
  rw [hg] at h2
  rw [e, pageCells_set _ _ _ (by omega)]
  apply List.ext_getElem?
  intro j
  simp only [List.getElem?_set, List.length_set]
  by_cases hj : k * 2 + 1 = j
  · subst hj
    have : 2 * k + 1 = k * 2 + 1 := by omega
    rw [this] at h2
    have hlt := (List.getElem?_eq_some_iff.1 h2).1
    rw [if_neg (by omega), if_pos rfl, if_pos hlt, h2]
  · rw [if_neg hj]

structure NwAt (w0 : World) (G : Gh) (a pb wb n k : Nat) (W : World) : Prop where
  st : St (fun _ => False) w0.heap.size w0 G W G
  ra : Raw W G a #[.slice (some ⟨pb, 0, none⟩) n n, .slice (some ⟨wb, 0, none⟩) (32 * n) (32 * n), .pointer none, .int .i64 n] 97
  rp : Raw W G pb (pageCells (pagesAt n k)).toArray 99
  rw : Raw W G wb ((List.replicate (32 * n) (0 : Int)).map (Value.int .i64)).toArray 3
  ha : w0.heap.size ≤ a
  hp : w0.heap.size ≤ pb
  hw : w0.heap.size ≤ wb
  n1 : a ≠ pb
  n2 : a ≠ wb
  n3 : pb ≠ wb

def ANewPost (n : Nat) (w : World) (G : Gh) (e : Ending) (w' : World) : Prop :=
  ∃ (a : Nat) (A : Ar) (G' : Gh), e = .returned (.pointer (some ⟨a, 0, none⟩)) ∧ w.heap.size ≤ a ∧ a < w'.heap.size ∧ ArAt w' G' a A (fun _ => false) ∧ w.heap.size ≤ A.sp ∧
    A.pages = List.replicate n (-1, 0) ∧ A.words = List.replicate (32 * n) 0 ∧ A.free = n ∧ Step (fun _ => False) w G w' G'

set_option maxRecDepth 100000 in
theorem arena_new (n : Nat) (h0 : 0 < n) (hn : n ≤ 64) (w : World) (G : Gh) (hI : Inv w G) :
    Calls Try.prog 38 #[.int .i64 n] w (ANewPost n w G) := by
  have hmp := make_pages n hn
  have hmw := make_words n hn
  have HI := Lib.hid hI
  clear hI
  go_enter Try.func38, Try.ntmps38
  go_wp2
  rename_i K hK
  have key : ∀ (a pb wb : Nat) (W : World), NwAt w G a pb wb n 0 W → K { tmps := #[.int .i64 n, undef, .pointer none, .int .i64 n, .pointer (some ⟨a, 0, none⟩), undef, .int .i64 n, .int .i64 n, .int .i64 n, .int .i64 n, .slice (some ⟨pb, 0, none⟩) n n, .int .i64 n, .int .i64 ((n : Int) * 32), .slice (some ⟨wb, 0, none⟩) (32 * n) (32 * n), .int .i64 n,
        .agg #[.slice (some ⟨pb, 0, none⟩) n n, .slice (some ⟨wb, 0, none⟩) (32 * n) (32 * n), .pointer none, .int .i64 n], .pointer (some ⟨a, 0, none⟩), undef, undef, undef, undef, undef, undef, undef, undef, undef, undef, undef, undef, undef, undef, undef, undef, undef, undef, undef, undef, undef, undef, undef], defers := [] } W := by
    intro a pb wb W hN
    have hca : W.cell? ⟨a, 0, none⟩ = some (.slice (some ⟨pb, 0, none⟩) n n) := hN.ra.cell 0
    have HN := Lib.hid hN
    clear hN hmp hmw
    go_wp2
    go_loopw [22] (fun i W => ∃ k, k ≤ n ∧ i = .int .i64 k ∧ NwAt w G a pb wb n k W) (fun i _ => n - (intOf i).toNat)
    case atStart => exact ⟨0, Nat.zero_le _, rfl, HN.out⟩
    case round =>
      obtain ⟨k, hk, rfl, hN⟩ := hrel
      by_cases hlt : k < n
      · have hl := pagesAt_len hk
        have hpl := pageCells_length (pagesAt n k)
        have hc1 : wr.cell? ⟨a, 0, none⟩ = some (.slice (some ⟨pb, 0, none⟩) n n) := hN.ra.cell 0
        have hc2 : wr.cell? ⟨pb, k * 2, none⟩ = some (.int .i64 0) := by
          rw [hN.rp.cell]
          have h2 := (pageCells_get (pagesAt n k) k (by omega)).1
          rw [Nat.mul_comm, List.getElem?_toArray, h2]
          simp [pagesAt, List.getD, List.getElem?_append, List.getElem?_replicate]; split <;> rfl
        have hf2 : wr.frozen? ⟨pb, k * 2, none⟩ = false := hN.rp.free _
        have hnx : NwAt w G a pb wb n (k + 1) (wr.setCell ⟨pb, k * 2, none⟩ (.int .i64 (-1))) := by
          refine ⟨hN.st.setRaw hN.hp hN.rp.raw _, hN.ra.other hN.n1 _, ?_, hN.rw.other hN.n3.symm _, hN.ha, hN.hp, hN.hw, hN.n1, hN.n2, hN.n3⟩
          have h := hN.rp.set (k * 2) (.int .i64 (-1))
          rwa [List.setIfInBounds_toArray, pagesAt_succ hlt] at h
        have Hnx := Lib.hid hnx
        clear hnx hN hl hpl HN hca
        go_wp2
        go_roundw
        case rel => exact ⟨k + 1, by omega, by go_num, Hnx.out⟩
        case measure => simp [intOf]; omega
      · obtain rfl : k = n := by omega
        have hc1 : wr.cell? ⟨a, 0, none⟩ = some (.slice (some ⟨pb, 0, none⟩) k k) := hN.ra.cell 0
        have Hk := Lib.hid hN
        clear hN HN hca
        go_wp2_with fail
        refine (arena_size_raw a pb k _ hn hc1).mono ?_
        rintro e w2 ⟨rfl, rfl⟩
        go_wp2_with fail
        refine (set_new (32 * k + 1) (by omega) _ G Hk.out.st.inv).mono ?_
        rintro e w3 ⟨sp, G1, rfl, hsp1, hsp2, hsp3, hsp4, hS3⟩
        have hra := Hk.out.ra.step hS3
        have hc3 : w3.cell? ⟨a, 2, none⟩ = some (.pointer none) := hra.cell 2
        have hf3 : w3.frozen? ⟨a, 2, none⟩ = false := hra.free 2
        have hrp := Hk.out.rp.step hS3
        have hrw := Hk.out.rw.step hS3
        have hst := Hk.out.st.seq0 hS3
        have hlt3 := Hk.out.st.le
        have hfin : ANewPost k w G (.returned (.pointer (some ⟨a, 0, none⟩))) (w3.setCell ⟨a, 2, none⟩ (.pointer (some ⟨sp, 0, none⟩))) := by
          have ha := Hk.out.ha
          have hp := Hk.out.hp
          have hw := Hk.out.hw
          have n1 := Hk.out.n1
          have n2 := Hk.out.n2
          have n3 := Hk.out.n3
          have hst4 := hst.setRaw (a := ⟨a, 2, none⟩) ha hra.raw (.pointer (some ⟨sp, 0, none⟩))
          have hra4 := hra.set 2 (.pointer (some ⟨sp, 0, none⟩))
          have hrp4 := hrp.other (a := ⟨a, 2, none⟩) n1.symm (.pointer (some ⟨sp, 0, none⟩))
          have hrw4 := hrw.other (a := ⟨a, 2, none⟩) n2.symm (.pointer (some ⟨sp, 0, none⟩))
          have la := hra4.lt
          have lp := hrp4.lt
          have lw := hrw4.lt
          generalize hw4 : w3.setCell ⟨a, 2, none⟩ (.pointer (some ⟨sp, 0, none⟩)) = w4 at *
          have hne : sp ≠ a := fun e => by have := hra.raw; rw [← e, hsp3] at this; cases this
          have hnep : sp ≠ pb := fun e => by have := hrp.raw; rw [← e, hsp3] at this; cases this
          have hnew : sp ≠ wb := fun e => by have := hrw.raw; rw [← e, hsp3] at this; cases this
          have hpa : pagesAt k k = List.replicate k (-1, 0) := by simp [pagesAt]
          rw [hpa] at hrp4
          obtain ⟨A, hA⟩ : ∃ A : Ar, A = { pages := List.replicate k (-1, 0), words := List.replicate (32 * k) 0, free := k, sp := sp, pb := pb, wb := wb } := ⟨_, rfl⟩
          have hmk := hst4.make (b := a) (e := .arena A) ha la hra4.raw (fun c => decide (c = pb) || decide (c = wb)) (fun c hc => by
            simp only [Bool.or_eq_true, decide_eq_true_eq] at hc
            rcases hc with rfl | rfl
            · exact ⟨hp, lp, n1.symm, hrp4.raw⟩
            · exact ⟨hw, lw, n2.symm, hrw4.raw⟩) (by
            subst hA
            refine ⟨by simpa using h0, by simpa using hn, by simp, pb, wb, n3, ?_, ?_, ?_, hrp4.heap, hrw4.heap, rfl, rfl⟩
            · simp [n1.symm]
            · simp [n2.symm]
            · have h := hra4.heap
              simp only [List.length_replicate]
              exact h)
          refine ⟨a, A, _, rfl, ha, la, ⟨?_, ?_⟩, ?_, ?_, ?_, ?_, hmk⟩
          · simp
          · subst hA; simp [hne, hnep, hnew, hsp3]
          · subst hA; show w.heap.size ≤ sp; omega
          all_goals subst hA; rfl
        have Hfin := Lib.hid hfin
        clear hfin hra hrp hrw hst hS3 hsp3 hsp4 hc1
        go_wp2
        go_ret
        exact Hfin.out
  have hI := HI.out
  have hz : (pageCells (pagesAt n 0)).toArray = (pageCells (List.replicate n (0, 0))).toArray := by simp [pagesAt]
  have hr : ((List.replicate (32 * n) (0 : Int)).map (Value.int .i64)).toArray = Array.replicate (32 * n) (Value.int .i64 0) := by simp
  have k1 : ∀ t1 t2 t3 : TypeId, t1 = 99 → t2 = 3 → t3 = 97 → NwAt w G (w.heap.size + 1 + 1) w.heap.size (w.heap.size + 1) n 0 ((((w.alloc (.cells (pageCells (List.replicate n (0, 0))).toArray t1)).alloc (.cells (Array.replicate (32 * n) (Value.int .i64 0)) t2)).alloc
      (.cells #[.slice (some ⟨w.heap.size, 0, none⟩) n n, .slice (some ⟨w.heap.size + 1, 0, none⟩) (32 * n) (32 * n), .pointer none, .int .i64 n] t3)).drew) := by
    rintro t1 t2 t3 rfl rfl rfl
    have r1 := Raw.new hI (pageCells (List.replicate n (0, 0))).toArray 99
    have i1 := hI.alloc (.cells (pageCells (List.replicate n (0, 0))).toArray 99)
    have r2 := Raw.new i1 (Array.replicate (32 * n) (Value.int .i64 0)) 3
    have i2 := i1.alloc (.cells (Array.replicate (32 * n) (Value.int .i64 0)) 3)
    have r3 := Raw.new i2 #[.slice (some ⟨w.heap.size, 0, none⟩) n n, .slice (some ⟨w.heap.size + 1, 0, none⟩) (32 * n) (32 * n), .pointer none, .int .i64 n] 97
    simp only [World.size_alloc] at r2 r3
    exact ⟨((((St.refl hI).alloc _).alloc _).alloc _).drew, r3.drew, by rw [hz]; exact ((r1.alloc _).alloc _).drew, by rw [hr]; exact (r2.alloc _).drew, by omega, by omega, by omega, by omega, by omega, by omega⟩
  have k2 : ∀ t1 t2 t3 : TypeId, t1 = 99 → t2 = 3 → t3 = 97 → NwAt w G (w.heap.size + 1 + 1) (w.heap.size + 1) w.heap.size n 0 ((((w.alloc (.cells (Array.replicate (32 * n) (Value.int .i64 0)) t2)).alloc (.cells (pageCells (List.replicate n (0, 0))).toArray t1)).alloc
      (.cells #[.slice (some ⟨w.heap.size + 1, 0, none⟩) n n, .slice (some ⟨w.heap.size, 0, none⟩) (32 * n) (32 * n), .pointer none, .int .i64 n] t3)).drew) := by
    rintro t1 t2 t3 rfl rfl rfl
    have r1 := Raw.new hI (Array.replicate (32 * n) (Value.int .i64 0)) 3
    have i1 := hI.alloc (.cells (Array.replicate (32 * n) (Value.int .i64 0)) 3)
    have r2 := Raw.new i1 (pageCells (List.replicate n (0, 0))).toArray 99
    have i2 := i1.alloc (.cells (pageCells (List.replicate n (0, 0))).toArray 99)
    have r3 := Raw.new i2 #[.slice (some ⟨w.heap.size + 1, 0, none⟩) n n, .slice (some ⟨w.heap.size, 0, none⟩) (32 * n) (32 * n), .pointer none, .int .i64 n] 97
    simp only [World.size_alloc] at r2 r3
    exact ⟨((((St.refl hI).alloc _).alloc _).alloc _).drew, r3.drew, by rw [hz]; exact (r2.alloc _).drew, by rw [hr]; exact ((r1.alloc _).alloc _).drew, by omega, by omega, by omega, by omega, by omega, by omega⟩
  have K1 := Lib.hid k1
  have K2 := Lib.hid k2
  clear k1 k2 hz hr hI
  go_region
  all_goals (first | exact key (w.heap.size + 1 + 1) w.heap.size (w.heap.size + 1) _ (K1.out _ _ _ rfl rfl rfl) | exact key (w.heap.size + 1 + 1) (w.heap.size + 1) w.heap.size _ (K2.out _ _ _ rfl rfl rfl))
end Go.Hw
