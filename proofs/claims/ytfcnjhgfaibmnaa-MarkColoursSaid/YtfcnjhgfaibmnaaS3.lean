/- bits.Set.words, place, Has, Put, Drop over the ghost heap. -/
import Derived.Test.YtfcnjhgfaibmnaaS2
import Derived.Deep.RegionWith
namespace Go.Hw
open Go.RowKit Go.Proofs

theorem St.still {B b : Nat} {w w' : World} {G G' : Gh} (h : St (fun c => c = b) B w G w' G') (he : G' b = G b) : St (fun _ => False) B w G w' G' :=
  ⟨h.inv, h.le, h.os, h.tape, h.output, h.raw, h.priv, fun c h1 h2 _ => by
    by_cases hc : c = b
    · rw [hc]; exact he
    · exact h.ent c h1 h2 hc, h.own⟩

/-- A set whose words lie. -/
structure LaidAt (w : World) (G : Gh) (b n : Nat) (S : Nat → Bool) (q : Nat) (ws : List Nat) : Prop where
  ghost : G b = .set n S
  small : n ≤ 1000000
  len : ws.length = (n + 63) / 64
  word : ∀ x ∈ ws, x < 18446744073709551616
  bit : ∀ i, S i = (ws.getD (i / 64) 0).testBit (i % 64)
  below : ∀ i, S i = true → i < n
  own : G q = .owned b
  head : w.heap[b]? = some (.cells #[.int .i64 n, .int .u32 1, .int .i32 0, .int .u32 0, .slice (some ⟨q, 0, none⟩) ws.length ws.length] 121 (0, 0))
  row : w.heap[q]? = some (.cells (ws.map (fun x : Nat => Value.int .u64 x)).toArray 134 (0, 0))

theorem LaidAt.laySet {w : World} {G : Gh} {b n : Nat} {S : Nat → Bool} {q : Nat} {ws : List Nat} (h : LaidAt w G b n S q ws) : LaySet w G b n S :=
  ⟨h.small, ws, h.len, h.word, h.bit, h.below, .inr ⟨q, h.own, h.head, h.row⟩⟩

theorem LaidW.step {b n : Nat} {S : Nat → Bool} {w w1 : World} {G : Gh} {ws : List Nat} (hI : Inv w G) (hG : G b = .set n S) (hn0 : n ≤ 1000000) (h1 : ws.length = (n + 63) / 64)
    (h2 : ∀ x ∈ ws, x < 18446744073709551616) (h3 : ∀ i, S i = (ws.getD (i / 64) 0).testBit (i % 64)) (h4 : ∀ i, S i = true → i < n) (h5 : ∀ x ∈ ws, x = 0) (h : LaidW b n w w1) :
    ∃ G', LaidAt w1 G' b n S w.heap.size ws ∧ Step (fun _ => False) w G w1 G' := by
  obtain ⟨ho, ht, hu, hz, hs, hb, hq⟩ := h
  have hlt : b < w.heap.size := lay_lt hI (by rw [hG]; rfl)
  have hws : (ws.map (fun x : Nat => Value.int .u64 x)).toArray = Array.replicate ((n + 63) / 64) (Value.int .u64 0) := by
    rw [← h1]
    apply Array.ext
    · simp
    · intro i hi1 hi2
      have : ws[i]'(by simpa using hi1) = 0 := h5 _ (List.getElem_mem _)
      simp [this]
  have hL : LaidAt w1 (fun c => if c = b then .set n S else if decide (c = w.heap.size) = true then .owned b else G c) b n S w.heap.size ws :=
    ⟨by simp, hn0, h1, h2, h3, h4, by have : w.heap.size ≠ b := by omega
                                      simp [this], by rw [h1]; exact hb, by rw [hws]; exact hq⟩
  refine ⟨_, hL, (St.one (e := .set n S) hI (by rw [hG]; rfl) (fun c => decide (c = w.heap.size)) (by omega) ho ht hu (fun c hc => by simp at hc; omega) (fun c h6 h7 _ => hs c h6 h7) hL.laySet).still (by simp [hG])⟩

def WordsPost (b n : Nat) (S : Nat → Bool) (w : World) (G : Gh) (e : Ending) (w' : World) : Prop :=
  ∃ q ws G', e = .returned (.slice (some ⟨q, 0, none⟩) ws.length ws.length) ∧ LaidAt w' G' b n S q ws ∧ Step (fun _ => False) w G w' G'

set_option maxRecDepth 100000 in
theorem words_any (b n : Nat) (S : Nat → Bool) (w : World) (G : Gh) (hI : Inv w G) (hG : G b = .set n S) :
    Calls Try.prog 77 #[.pointer (some ⟨b, 0, none⟩)] w (WordsPost b n S w G) := by
  have hlt : b < w.heap.size := lay_lt hI (by rw [hG]; rfl)
  have hL := hI.lay b
  rw [hG] at hL
  obtain ⟨hn0, ws, h1, h2, h3, h4, h5⟩ := hL
  have hmf : ∀ (fn : Fn) (first cap : Array Value) (w : World), (Instr.makeFunc fn first cap).run Try.prog w = .ok (.func fn first cap) w := fun _ _ _ _ => rfl
  have Hh3 := Lib.hid h3
  have Hh4 := Lib.hid h4
  have Hh2 := Lib.hid h2
  have Hh1 := Lib.hid h1
  have HG := Lib.hid hG
  clear h1 h2 h3 h4 hG
  rcases h5 with ⟨h5, h6⟩ | ⟨q, h5, h6, h7⟩
  · have h5' := (heap_alloc_lt w (.cells #[.pointer (some ⟨b, 0, none⟩)] 73) hlt).trans h5
    have H5 := Lib.hid h5'
    have H6 := Lib.hid h6
    clear h5' h5 h6
    have hbx : (w.alloc (.cells #[.pointer (some ⟨b, 0, none⟩)] 73)).cell? ⟨w.heap.size, 0, none⟩ = some (.pointer (some ⟨b, 0, none⟩)) := by simp
    go_enter Try.func77, Try.ntmps77
    go_wp2_with fail
    refine (do_first b _ n _ hn0 (by omega) hbx H5.out).mono ?_
    rintro e w1 ⟨rfl, hL⟩
    have hL' := hL
    obtain ⟨_, _, _, hz, hs, hb, _⟩ := hL'
    have hc1 : w1.cell? ⟨b, 4, none⟩ = some (.slice (some ⟨(w.alloc (.cells #[.pointer (some ⟨b, 0, none⟩)] 73)).heap.size, 0, none⟩) ((n + 63) / 64) ((n + 63) / 64)) := cell_of hb 4
    have hc2 := (cell_same (hs w.heap.size (by simp) (by omega)) 0).trans hbx
    have HL := Lib.hid hL
    clear hL hb hs hz
    go_wp2
    go_ret
    obtain ⟨G', hA, hS⟩ := LaidW.step (S := S) (hI.alloc _) HG.out hn0 Hh1.out Hh2.out Hh3.out Hh4.out H6.out HL.out
    exact ⟨_, ws, G', by simp [Hh1.out], hA, ((St.refl hI).alloc _).seqT hS⟩
  · have h6' := (heap_alloc_lt w (.cells #[.pointer (some ⟨b, 0, none⟩)] 73) hlt).trans h6
    have hc1 : (w.alloc (.cells #[.pointer (some ⟨b, 0, none⟩)] 73)).cell? ⟨b, 1, none⟩ = some (.int .u32 1) := cell_of h6' 1
    have hc4 : (w.alloc (.cells #[.pointer (some ⟨b, 0, none⟩)] 73)).cell? ⟨b, 4, none⟩ = some (.slice (some ⟨q, 0, none⟩) ws.length ws.length) := cell_of h6' 4
    have hA : LaidAt (w.alloc (.cells #[.pointer (some ⟨b, 0, none⟩)] 73)) G b n S q ws := ⟨HG.out, hn0, Hh1.out, Hh2.out, Hh3.out, Hh4.out, h5, h6', (heap_alloc_lt w _ (own_lt hI h5)).trans h7⟩
    have HA := Lib.hid hA
    clear hA h6 h6' h7 h5
    go_enter Try.func77, Try.ntmps77
    go_wp2_with fail
    refine (do_done ⟨b, 1, none⟩ _ _ hc1).mono ?_
    rintro e w1 ⟨rfl, rfl⟩
    go_wp2
    go_ret
    exact ⟨q, ws, G, rfl, HA.out, (St.refl hI).alloc _⟩

def pw (k : Nat) : Nat := 2 ^ k
theorem pow_lt64 (k : Nat) (h : k < 64) : pw k < 18446744073709551616 := by
  unfold pw
  have : 2 ^ k < 2 ^ 64 := Nat.pow_lt_pow_right (by omega) h
  simpa using this
theorem pow_wrap (k : Nat) (h : k < 64) : IntKind.u64.wrap ((2 : Int) ^ k) = ((pw k : Nat) : Int) := by
  have h1 := pow_lt64 k h
  have h2 : ((pw k : Nat) : Int) = (2 : Int) ^ k := by simp [pw]
  rw [IntKind.wrap_u64, ← h2]
  clear h2
  generalize pw k = m at *
  omega

theorem ret_bool {a b : Bool} (h : a = b) : Ending.returned (.bool a) = Ending.returned (.bool b) := by rw [h]
theorem ret_int {k : IntKind} {a b : Int} (h : a = b) : Ending.returned (.int k a) = Ending.returned (.int k b) := by rw [h]

def PlacePost (b n : Nat) (S : Nat → Bool) (i : Nat) (w : World) (G : Gh) (e : Ending) (w' : World) : Prop :=
  ∃ q ws G', e = .returned (.tuple #[.pointer (some ⟨q, i / 64, none⟩), .int .u64 (pw (i % 64)), .bool true]) ∧ LaidAt w' G' b n S q ws ∧ Step (fun _ => False) w G w' G'

set_option maxRecDepth 100000 in
theorem place_out (b n : Nat) (i : Int) (S : Nat → Bool) (w : World) (G : Gh) (hI : Inv w G) (hG : G b = .set n S) (hi : i < 0 ∨ n ≤ i) :
    Calls Try.prog 70 #[.pointer (some ⟨b, 0, none⟩), .int .i64 i] w fun e w' => e = .returned (.tuple #[.pointer none, .int .u64 0, .bool false]) ∧ w' = w := by
  have hL := hI.lay b
  rw [hG] at hL
  obtain ⟨hn0, ws, -, -, -, -, h5⟩ := hL
  have hn : w.cell? ⟨b, 0, none⟩ = some (.int .i64 n) := by
    rcases h5 with ⟨h5, -⟩ | ⟨q, -, h5, -⟩
    · exact cell_of h5 0
    · exact cell_of h5 0
  clear h5 hG
  by_cases h0 : i < 0
  · clear hi
    go_enter Try.func70, Try.ntmps70
    go_wp2
    go_ret3
    exact ⟨rfl, rfl⟩
  · have h1 : (n : Int) ≤ i := by omega
    have h0' : 0 ≤ i := by omega
    clear hi h0
    go_enter Try.func70, Try.ntmps70
    go_wp2
    go_ret3
    exact ⟨rfl, rfl⟩

set_option maxRecDepth 100000 in
theorem place_in (b n i : Nat) (S : Nat → Bool) (w : World) (G : Gh) (hI : Inv w G) (hG : G b = .set n S) (hi : i < n) :
    Calls Try.prog 70 #[.pointer (some ⟨b, 0, none⟩), .int .i64 i] w (PlacePost b n S i w G) := by
  have hL := hI.lay b
  rw [hG] at hL
  obtain ⟨hn0, ws, -, -, -, -, h5⟩ := hL
  have hn : w.cell? ⟨b, 0, none⟩ = some (.int .i64 n) := by
    rcases h5 with ⟨h5, -⟩ | ⟨q, -, h5, -⟩
    · exact cell_of h5 0
    · exact cell_of h5 0
  clear h5
  have HG := Lib.hid hG
  clear hG
  have hi' : (i : Int) < (n : Int) := by omega
  have hlt : decide ((n : Int) ≤ (i : Int)) = false := by simp; omega
  go_enter Try.func70, Try.ntmps70
  go_wp2
  have hw1 : IntKind.i64.wrap ((i : Int) / 64) = ((i / 64 : Nat) : Int) := by rw [IntKind.wrap_i64]; omega
  have hw2 : (i : Int).tmod 64 = ((i % 64 : Nat) : Int) := by rw [Int.tmod_eq_emod_of_nonneg (by omega)]; omega
  go_region_with (go_at_call 77; (refine (words_any b n S _ G hI.drew HG.out).mono ?_; rintro e w1 ⟨q, ws1, G1, rfl, hA, hS⟩; have hlen1 : i / 64 < ws1.length := (by rw [hA.len]; omega); have HA := Lib.hid hA; have HS := Lib.hid hS; clear hA hS))
  all_goals (go_wp2; go_ret3)
  all_goals exact ⟨q, ws1, G1, by simp [Act.put, pow_wrap (i % 64) (by omega)], HA.out, ((St.refl hI).drew).seqT HS.out⟩

end Go.Hw
