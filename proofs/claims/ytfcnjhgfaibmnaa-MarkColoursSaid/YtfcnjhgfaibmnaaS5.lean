/- bits.New, Reset, Count. -/
import Derived.Test.YtfcnjhgfaibmnaaS4
namespace Go.Hw
open Go.RowKit Go.Proofs

def NewPost (n : Nat) (w : World) (G : Gh) (e : Ending) (w' : World) : Prop :=
  ∃ b G', e = .returned (.pointer (some ⟨b, 0, none⟩)) ∧ w.heap.size ≤ b ∧ b < w'.heap.size ∧ G' b = .set n (fun _ => false) ∧ (∀ c, c ≠ b → G' c = G c) ∧ Step (fun _ => False) w G w' G'

theorem laySet_new {w : World} {G : Gh} {b n : Nat} (hn : n ≤ 1000000) (h : w.heap[b]? = some (.cells #[.int .i64 n, .int .u32 0, .int .i32 0, .int .u32 0, .slice none 0 0] 121 (0, 0))) :
    LaySet w G b n (fun _ => false) := by
  refine ⟨hn, List.replicate ((n + 63) / 64) 0, by simp, fun x hx => ?_, fun i => ?_, fun i hi => by simp at hi, .inl ⟨h, fun x hx => (List.mem_replicate.1 hx).2⟩⟩
  · rw [(List.mem_replicate.1 hx).2]; omega
  · simp [List.getD, List.getElem?_replicate]; split <;> simp

set_option maxRecDepth 100000 in
theorem set_new (n : Nat) (hn : n ≤ 1000000) (w : World) (G : Gh) (hI : Inv w G) :
    Calls Try.prog 43 #[.int .i64 n] w (NewPost n w G) := by
  have hS : Step (fun _ => False) w G (w.alloc (.cells #[.int .i64 n, .int .u32 0, .int .i32 0, .int .u32 0, .slice none 0 0] 121)) (fun c => if c = w.heap.size then .set n (fun _ => false) else if (fun _ => false) c = true then .owned w.heap.size else G c) :=
    ((St.refl hI).alloc _).make (Nat.le_refl _) (by simp) (hI.new _ (Nat.le_refl _)) (fun _ => false) (fun c hc => by simp at hc) (laySet_new hn (heap_alloc_new w _))
  have HS := Lib.hid hS
  clear hS
  go_enter Try.func43, Try.ntmps43
  go_wp2
  go_ret
  exact ⟨w.heap.size, _, rfl, Nat.le_refl _, by simp, by simp, fun c hc => by simp [hc], HS.out⟩

def ResetPost (b n : Nat) (w : World) (G : Gh) (e : Ending) (w' : World) : Prop :=
  e = .returned (.tuple #[]) ∧ ∃ G', G' b = .set n (fun _ => false) ∧ Step (fun c => c = b) w G w' G'

def resetAt (ws : List Nat) (k : Nat) : List Nat := List.replicate k 0 ++ ws.drop k
theorem resetAt_succ (ws : List Nat) (k : Nat) (h : k < ws.length) : resetAt ws (k + 1) = (resetAt ws k).set k 0 := by
  unfold resetAt
  apply List.ext_getElem?
  intro j
  rw [List.getElem?_set]
  simp only [List.getElem?_append, List.length_replicate, List.length_append, List.length_drop, List.getElem?_replicate, List.getElem?_drop]
  by_cases h1 : k = j
  · subst h1; simp [h]; omega
  · by_cases h2 : j < k
    · have : j < k + 1 := by omega
      simp [h1, h2, this]
    · have : ¬ j < k + 1 := by omega
      simp only [h1, h2, this, if_false]
      congr 1; omega

def resetRel (b n q : Nat) (ws : List Nat) (w0 : World) (G0 : Gh) (i : Value) (w : World) : Prop :=
  ∃ (k : Nat) (S : Nat → Bool) (G : Gh), k ≤ ws.length ∧ i = .int .i64 k ∧ LaidAt w G b n S q (resetAt ws k) ∧ Step (fun c => c = b) w0 G0 w G

set_option maxRecDepth 100000 in
theorem set_reset (b n : Nat) (S : Nat → Bool) (w : World) (G : Gh) (hI : Inv w G) (hG : G b = .set n S) :
    Calls Try.prog 58 #[.pointer (some ⟨b, 0, none⟩)] w (ResetPost b n w G) := by
  go_enter Try.func58, Try.ntmps58
  go_wp2_with fail
  refine (words_any b n S w G hI hG).mono ?_
  rintro e w1 ⟨q, ws, G1, rfl, hA, hS⟩
  have hn := hA.small
  have hl : ws.length ≤ 1000000 := by rw [hA.len]; omega
  have HA := Lib.hid hA
  have HS := Lib.hid hS
  clear hA hS
  go_wp2
  go_loopw [8] (resetRel b n q ws w G) (fun i _ => ws.length - (intOf i).toNat)
  case atStart => exact ⟨0, S, G1, Nat.zero_le _, rfl, by simpa [resetAt] using HA.out, HS.out.mono (fun _ h => h.elim) (Nat.le_refl _)⟩
  case round =>
    obtain ⟨k, S2, G2, hk, rfl, hA2, hS2⟩ := hrel
    by_cases hlt : k < ws.length
    · have hlen : (resetAt ws k).length = ws.length := by simp [resetAt]; omega
      obtain ⟨hc, hf⟩ := hA2.cell k (by omega)
      obtain ⟨G3, hA3, hS3⟩ := hA2.store hS2.inv (S' := fun j => ((resetAt ws (k + 1)).getD (j / 64) 0).testBit (j % 64)) k 0 (by omega) (fun j => by rw [← resetAt_succ ws k hlt]) (fun j hj => by
        refine hA2.below j ?_
        rw [hA2.bit]
        simp only [resetAt_succ ws k hlt, List.getD, List.getElem?_set] at hj
        by_cases h : k = j / 64
        · simp [h, hlen] at hj; split at hj <;> simp at hj
        · simpa [h] using hj)
      rw [← resetAt_succ ws k hlt] at hA3
      have HA3 := Lib.hid hA3
      have HS3 := Lib.hid (hS2.seqT hS3)
      clear hA2 hS2 hA3 hS3 hlen
      go_wp2_with fail
      refine (u64_store q k _ 0 _ hc hf).mono ?_
      rintro e w3 ⟨rfl, rfl⟩
      go_wp2
      go_roundw
      case rel => exact ⟨k + 1, _, G3, by omega, by go_num, HA3.out, HS3.out⟩
      case measure => simp [intOf]; omega
    · obtain rfl : k = ws.length := by omega
      have HA2 := Lib.hid hA2
      have HS2 := Lib.hid hS2
      clear hA2 hS2
      go_wp2
      go_end0
      refine ⟨rfl, G2, ?_, HS2.out⟩
      have h := HA2.out
      rw [h.ghost]
      congr 1
      funext j
      rw [h.bit]
      simp [resetAt, List.getD, List.getElem?_replicate]
      split <;> simp
end Go.Hw
