/- bits.Set.words: laid once. -/
import Derived.Test.YtfcnjhgfaibmnaaS1
namespace Go.Hw
open Go.RowKit Go.Proofs

theorem info_u64 : (Try.prog.info? 134).map (fun i => (i.zero, i.size, i.bytes)) = some (some (.agg #[.int .u64 0]), 1, 8) := by kernel_rfl

theorem made_zero (k : Nat) : madeCells #[Value.int .u64 0] k = Array.replicate k (Value.int .u64 0) := by
  apply Array.ext
  · simp [madeCells]
  · intro i h1 h2
    simp [madeCells, Nat.mod_one]

set_option maxRecDepth 100000 in
theorem words1_any (b bx n : Nat) (x : Value) (w : World) (hn0 : n ≤ 1000000) (hbx : w.cell? ⟨bx, 0, none⟩ = some (.pointer (some ⟨b, 0, none⟩))) (hn : w.cell? ⟨b, 0, none⟩ = some (.int .i64 n))
    (hx : w.cell? ⟨b, 4, none⟩ = some x) (hf : w.frozen? ⟨b, 4, none⟩ = false) :
    Calls Try.prog 97 #[.pointer (some ⟨bx, 0, none⟩)] w fun e w' => e = .returned (.tuple #[]) ∧
      w' = ((w.setCell ⟨b, 4, none⟩ (.slice (some ⟨w.heap.size, 0, none⟩) ((n + 63) / 64) ((n + 63) / 64))).alloc (.cells (Array.replicate ((n + 63) / 64) (Value.int .u64 0)) 134)).drew := by
  obtain ⟨i0, hi, hz0, hz1, hz2⟩ := info_parts info_u64
  have hb : b < w.heap.size := World.block_lt_of_cell? w _ hx
  have hbl : bx < w.heap.size := World.block_lt_of_cell? w _ hbx
  have hmk : ∀ W : World, (Instr.makeSlice 119 (.int .i64 (((n : Int) + 63) / 64)) (.int .i64 (((n : Int) + 63) / 64))).run Try.prog W = .ok (.slice (some ⟨W.heap.size, 0, none⟩) ((n + 63) / 64) ((n + 63) / 64)) (W.alloc (.cells (Array.replicate ((n + 63) / 64) (Value.int .u64 0)) 134)) := fun W => by
    have h := run_make (P := Try.prog) W 119 134 i0 _ Try.underlying119 hi hz0 .i64 .i64 (((n : Int) + 63) / 64) (((n : Int) + 63) / 64) (by omega) (by omega) (by rw [hz2]; omega) (by omega)
    rw [h, hz1, show (((n : Int) + 63) / 64).toNat = (n + 63) / 64 from by omega, Nat.mul_one]
    rw [show (Value.agg #[Value.int .u64 0]).cells = #[Value.int .u64 0] from rfl, made_zero]
  go_enter Try.func97, Try.ntmps97
  go_region
  go_end0
  exact ⟨rfl, rfl⟩

def LaidW (b n : Nat) (w w' : World) : Prop :=
  w'.os = w.os ∧ w'.tape = w.tape ∧ w'.output = w.output ∧ w'.heap.size = w.heap.size + 1 ∧ (∀ c, c < w.heap.size → c ≠ b → w'.heap[c]? = w.heap[c]?) ∧
  w'.heap[b]? = some (.cells #[.int .i64 n, .int .u32 1, .int .i32 0, .int .u32 0, .slice (some ⟨w.heap.size, 0, none⟩) ((n + 63) / 64) ((n + 63) / 64)] 121 (0, 0)) ∧
  w'.heap[w.heap.size]? = some (.cells (Array.replicate ((n + 63) / 64) (Value.int .u64 0)) 134 (0, 0))

theorem laid_of {b n : Nat} {w : World} (hb : w.heap[b]? = some (.cells #[.int .i64 n, .int .u32 0, .int .i32 0, .int .u32 0, .slice none 0 0] 121 (0, 0))) :
    LaidW b n w (((((((w.setCell ⟨b, 2, none⟩ (.int .i32 1)).setCell ⟨b, 4, none⟩ (.slice (some ⟨w.heap.size, 0, none⟩) ((n + 63) / 64) ((n + 63) / 64))).alloc (.cells (Array.replicate ((n + 63) / 64) (Value.int .u64 0)) 134)).drew).drew.setCell ⟨b, 1, none⟩ (.int .u32 1)).setCell ⟨b, 2, none⟩ (.int .i32 0))) := by
  have hlt : b < w.heap.size := (Array.getElem?_eq_some_iff.1 hb).1
  refine ⟨rfl, rfl, rfl, by simp, fun c hc hne => ?_, ?_, ?_⟩
  · rw [heap_setCell_ne _ _ _ hne, heap_setCell_ne _ _ _ hne]
    change ((w.setCell _ _).setCell _ _ |>.alloc _).heap[c]? = _
    rw [heap_alloc_lt _ _ (by simpa using hc), heap_setCell_ne _ _ _ hne, heap_setCell_ne _ _ _ hne]
  · refine (heap_setCell (heap_setCell (b := b) (c := #[.int .i64 n, .int .u32 0, .int .i32 1, .int .u32 0, .slice (some ⟨w.heap.size, 0, none⟩) ((n + 63) / 64) ((n + 63) / 64)]) (t := 121) ?_ 1 _) 2 _).trans rfl
    change ((w.setCell _ _).setCell _ _ |>.alloc _).heap[b]? = _
    rw [heap_alloc_lt _ _ (by simpa using hlt)]
    exact (heap_setCell (heap_setCell hb 2 _) 4 _).trans rfl
  · rw [heap_setCell_ne _ _ _ (by simp; omega), heap_setCell_ne _ _ _ (by simp; omega)]
    change ((w.setCell _ _).setCell _ _ |>.alloc _).heap[_]? = _
    have := heap_alloc_new ((w.setCell ⟨b, 2, none⟩ (.int .i32 1)).setCell ⟨b, 4, none⟩ (.slice (some ⟨w.heap.size, 0, none⟩) ((n + 63) / 64) ((n + 63) / 64))) (.cells (Array.replicate ((n + 63) / 64) (Value.int .u64 0)) 134)
    simpa using this

set_option maxRecDepth 100000 in
set_option maxHeartbeats 1600000 in
theorem slow_any (b bx n : Nat) (w : World) (hn0 : n ≤ 1000000) (hne : ¬ b = bx) (hbx : w.cell? ⟨bx, 0, none⟩ = some (.pointer (some ⟨b, 0, none⟩)))
    (hb : w.heap[b]? = some (.cells #[.int .i64 n, .int .u32 0, .int .i32 0, .int .u32 0, .slice none 0 0] 121 (0, 0))) :
    Calls Try.prog 102 #[.pointer (some ⟨b, 1, none⟩), .func (.func 97) #[] #[.pointer (some ⟨bx, 0, none⟩)]] w fun e w' => e = .returned (.tuple #[]) ∧ LaidW b n w w' := by
  have hfin := laid_of hb
  have hn : w.cell? ⟨b, 0, none⟩ = some (.int .i64 n) := cell_of hb 0
  have h1 : w.cell? ⟨b, 1, none⟩ = some (.int .u32 0) := cell_of hb 1
  have h2 : w.cell? ⟨b, 2, none⟩ = some (.int .i32 0) := cell_of hb 2
  have h4 : w.cell? ⟨b, 4, none⟩ = some (.slice none 0 0) := cell_of hb 4
  have hf : ∀ o, w.frozen? ⟨b, o, none⟩ = false := free_of hb
  have hlt : b < w.heap.size := World.block_lt_of_cell? w _ h4
  have Hb := Lib.hid hb
  clear hb
  have Hfin := Lib.hid hfin
  clear hfin
  have hl := run_call_load (P := Try.prog) Try.func103 (by kernel_rfl) (by kernel_rfl) (by kernel_rfl) .u32 (by kernel_rfl) (w := w.setCell ⟨b, 2, none⟩ (.int .i32 1)) (a := ⟨b, 1, none⟩) (x := 0) ((World.cell?_setCell_other _ ⟨b, 2, none⟩ ⟨b, 1, none⟩ _ (by simp)).trans h1)
  have hbx1 : (w.setCell ⟨b, 2, none⟩ (.int .i32 1)).cell? ⟨bx, 0, none⟩ = some (.pointer (some ⟨b, 0, none⟩)) := (World.cell?_setCell_other _ ⟨b, 2, none⟩ ⟨bx, 0, none⟩ _ (by simp [hne])).trans hbx
  have hn1 : (w.setCell ⟨b, 2, none⟩ (.int .i32 1)).cell? ⟨b, 0, none⟩ = some (.int .i64 n) := (World.cell?_setCell_other _ ⟨b, 2, none⟩ ⟨b, 0, none⟩ _ (by simp)).trans hn
  have h41 : (w.setCell ⟨b, 2, none⟩ (.int .i32 1)).cell? ⟨b, 4, none⟩ = some (.slice none 0 0) := (World.cell?_setCell_other _ ⟨b, 2, none⟩ ⟨b, 4, none⟩ _ (by simp)).trans h4
  have hnot : ∀ (x : Bool) (w : World), (Op.unary .not (.bool x)).run Try.prog w = .ok (.bool (!x)) w := fun _ _ => rfl
  go_enter_defers Try.func102, Try.ntmps102
  go_wp2_with (first | (go_at_call 104; refine (lock_free ⟨b, 2, none⟩ _ (by go_simp) (by rw [hf])).mono ?_; rintro e w' ⟨rfl, rfl⟩) | (go_at_call 97; refine (words1_any b bx n _ _ hn0 hbx1 hn1 h41 (by rw [World.frozen?_setCell]; exact hf 4)).mono ?_; rintro e w' ⟨rfl, rfl⟩) | (go_at_call 101; go_in))
  refine leaves_cons (f := 106) (args := #[.pointer (some ⟨b, 1, none⟩), .bool true]) (by simp) (by simp [go_sem]) ?_
  refine (store_deferred ⟨b, 1, none⟩ (.int .u32 0) .returning _ ?_ (by simp only [World.frozen?_setCell, World.frozen?_drew]; rw [World.frozen?_alloc_past _ _ _ (by simpa using hlt)]; simp [hf])).mono ?_
  · rw [World.cell?_drew, World.cell?_alloc_past _ _ _ (by simpa using hlt)]
    exact (World.cell?_setCell_other _ ⟨b, 4, none⟩ ⟨b, 1, none⟩ _ (by simp)).trans ((World.cell?_setCell_other _ ⟨b, 2, none⟩ ⟨b, 1, none⟩ _ (by simp)).trans h1)
  rintro e u' w'' ⟨rfl, rfl, rfl⟩
  refine leaves_cons (f := 105) (args := #[.pointer (some ⟨b, 2, none⟩)]) (by simp [settle]) (by simp [go_sem]) ?_
  refine (unlock_deferred ⟨b, 2, none⟩ _ _ ?_ (by simp only [World.frozen?_setCell, World.frozen?_drew]; rw [World.frozen?_alloc_past _ _ _ (by simpa using hlt)]; simp [hf])).mono ?_
  · refine (World.cell?_setCell_other _ ⟨b, 1, none⟩ ⟨b, 2, none⟩ _ (by simp)).trans ?_
    rw [World.cell?_drew, World.cell?_drew, World.cell?_alloc_past _ _ _ (by simpa using hlt)]
    exact (World.cell?_setCell_other _ ⟨b, 4, none⟩ ⟨b, 2, none⟩ _ (by simp)).trans (World.cell?_setCell_same w _ _ h2)
  rintro e u' w'' ⟨rfl, rfl, rfl⟩
  exact ⟨_, results_none rfl _ _ _, rfl, Hfin.out⟩

set_option maxRecDepth 100000 in
set_option maxHeartbeats 1600000 in
theorem do_first (b bx n : Nat) (w : World) (hn0 : n ≤ 1000000) (hne : ¬ b = bx) (hbx : w.cell? ⟨bx, 0, none⟩ = some (.pointer (some ⟨b, 0, none⟩)))
    (hb : w.heap[b]? = some (.cells #[.int .i64 n, .int .u32 0, .int .i32 0, .int .u32 0, .slice none 0 0] 121 (0, 0))) :
    Calls Try.prog 96 #[.pointer (some ⟨b, 1, none⟩), .func (.func 97) #[] #[.pointer (some ⟨bx, 0, none⟩)]] w fun e w' => e = .returned (.tuple #[]) ∧ LaidW b n w w' := by
  have h1 : w.cell? ⟨b, 1, none⟩ = some (.int .u32 0) := cell_of hb 1
  have hl := run_call_load (P := Try.prog) Try.func103 (by kernel_rfl) (by kernel_rfl) (by kernel_rfl) .u32 (by kernel_rfl) h1
  have hnot : ∀ (x : Bool) (w : World), (Op.unary .not (.bool x)).run Try.prog w = .ok (.bool (!x)) w := fun _ _ => rfl
  have Hb := Lib.hid hb
  clear hb
  go_enter Try.func96, Try.ntmps96
  go_wp2_with (first | (go_at_call 102; refine (slow_any b bx n _ hn0 hne hbx Hb.out).mono ?_; rintro e w' ⟨rfl, hw'⟩) | (go_at_call 101; go_in))
  go_end0
  exact ⟨rfl, hw'⟩

set_option maxRecDepth 100000 in
theorem do_done (a : Addr) (fv : Value) (w : World) (h0 : w.cell? a = some (.int .u32 1)) :
    Calls Try.prog 96 #[.pointer (some a), fv] w fun e w' => e = .returned (.tuple #[]) ∧ w' = w := by
  have hl := run_call_load (P := Try.prog) Try.func103 (by kernel_rfl) (by kernel_rfl) (by kernel_rfl) .u32 (by kernel_rfl) h0
  have hnot : ∀ (x : Bool) (w : World), (Op.unary .not (.bool x)).run Try.prog w = .ok (.bool (!x)) w := fun _ _ => rfl
  go_enter Try.func96, Try.ntmps96
  go_wp2
  go_end0
  exact ⟨rfl, rfl⟩
end Go.Hw
