/- How many bits a word has: plain numbers. -/
import Derived.Test.YtfcnjhgfaibmnaaB0
namespace Go.Hw

def pcn (f : Nat → Bool) : Nat → Nat
  | 0 => 0
  | k + 1 => pcn f k + (if f k = true then 1 else 0)
theorem pcn_congr {f g : Nat → Bool} : ∀ {k : Nat}, (∀ i, i < k → f i = g i) → pcn f k = pcn g k
  | 0, _ => rfl
  | k + 1, h => by rw [pcn, pcn, pcn_congr (k := k) (fun i hi => h i (by omega)), h k (by omega)]
theorem pcn_add (f : Nat → Bool) (a : Nat) : ∀ k, pcn f (a + k) = pcn f a + pcn (fun i => f (a + i)) k
  | 0 => rfl
  | k + 1 => by rw [← Nat.add_assoc, pcn, pcn_add f a k, pcn, Nat.add_assoc]
theorem pcn_le (f : Nat → Bool) : ∀ k, pcn f k ≤ k
  | 0 => Nat.le_refl _
  | k + 1 => by have := pcn_le f k; rw [pcn]; split <;> omega
theorem pcn_zero {f : Nat → Bool} : ∀ {k : Nat}, (∀ i, i < k → f i = false) → pcn f k = 0
  | 0, _ => rfl
  | k + 1, h => by rw [pcn, pcn_zero (k := k) (fun i hi => h i (by omega)), h k (by omega)]; rfl

def val : List Nat → Nat
  | [] => 0
  | b :: l => b + 256 * val l
def lanes (c : Nat) : Nat → Nat
  | 0 => 0
  | k + 1 => c + 256 * lanes c k
def bytes : Nat → Nat → List Nat
  | 0, _ => []
  | k + 1, x => x % 256 :: bytes k (x / 256)
theorem bytes_len : ∀ k x, (bytes k x).length = k
  | 0, _ => rfl
  | k + 1, x => by rw [bytes, List.length_cons, bytes_len k]
theorem bytes_lt : ∀ k x, ∀ b ∈ bytes k x, b < 256
  | 0, _, b, h => by cases h
  | k + 1, x, b, h => by
    rcases List.mem_cons.1 h with rfl | h
    · omega
    · exact bytes_lt k _ b h
theorem val_bytes : ∀ k x, x < 256 ^ k → val (bytes k x) = x
  | 0, x, h => by simp at h; simp [bytes, val, h]
  | k + 1, x, h => by
    rw [bytes, val, val_bytes k (x / 256) (by rw [Nat.pow_succ] at h; omega)]; omega
theorem val_lt : ∀ l : List Nat, (∀ b ∈ l, b < 256) → val l < 256 ^ l.length
  | [], _ => by simp [val]
  | b :: l, h => by
    have h1 := val_lt l (fun c hc => h c (List.mem_cons_of_mem _ hc))
    have h2 := h b (List.mem_cons_self ..)
    rw [val, List.length_cons, Nat.pow_succ]; omega

theorem and_lane {a b c d : Nat} (ha : a < 256) (hc : c < 256) : (a + 256 * b) &&& (c + 256 * d) = (a &&& c) + 256 * (b &&& d) := by
  have h1 : ((a + 256 * b) &&& (c + 256 * d)) % 2 ^ 8 = (a &&& c) := by
    rw [Nat.and_mod_two_pow]; congr 1 <;> omega
  have h2 : ((a + 256 * b) &&& (c + 256 * d)) / 2 ^ 8 = (b &&& d) := by
    rw [Nat.and_div_two_pow]; congr 1 <;> omega
  omega

def g1 (b : Nat) : Nat := ((b / 2) &&& 85) + (b &&& 85)
def g2 (b : Nat) : Nat := ((b / 4) &&& 51) + (b &&& 51)
def g3 (b : Nat) : Nat := (b / 16 + b) &&& 15
theorem g1_all : ∀ n : Fin 256, g1 n.val < 256 ∧ g2 (g1 n.val) < 256 ∧ g2 (g1 n.val) % 16 ≤ 4 ∧ g2 (g1 n.val) / 16 ≤ 4 ∧ g3 (g2 (g1 n.val)) = pcn n.val.testBit 8 := by decide +kernel
theorem top1 : ∀ n : Fin 128, (n.val + 128) &&& 85 = n.val &&& 85 := by decide +kernel
theorem top2 : ∀ n : Fin 64, ∀ j : Fin 4, (n.val + 64 * j.val) &&& 51 = n.val &&& 51 := by decide +kernel

theorem step1 : ∀ l : List Nat, (∀ b ∈ l, b < 256) → ((val l / 2) &&& lanes 85 l.length) + (val l &&& lanes 85 l.length) = val (l.map g1)
  | [], _ => rfl
  | b :: l, h => by
    have ih := step1 l (fun c hc => h c (List.mem_cons_of_mem _ hc))
    have hb := h b (List.mem_cons_self ..)
    rw [List.map_cons, val, val, List.length_cons, lanes, ← ih, and_lane hb (by omega)]
    have e : (b + 256 * val l) / 2 = (b / 2 + 128 * (val l % 2)) + 256 * (val l / 2) := by omega
    rw [e, and_lane (by omega) (by omega)]
    have e2 : (b / 2 + 128 * (val l % 2)) &&& 85 = (b / 2) &&& 85 := by
      rcases Nat.mod_two_eq_zero_or_one (val l) with h | h
      · rw [h]; rfl
      · rw [h]; exact top1 ⟨b / 2, by omega⟩
    rw [e2, g1]; omega
theorem step2 : ∀ l : List Nat, (∀ b ∈ l, b < 256) → ((val l / 4) &&& lanes 51 l.length) + (val l &&& lanes 51 l.length) = val (l.map g2)
  | [], _ => rfl
  | b :: l, h => by
    have ih := step2 l (fun c hc => h c (List.mem_cons_of_mem _ hc))
    have hb := h b (List.mem_cons_self ..)
    rw [List.map_cons, val, val, List.length_cons, lanes, ← ih, and_lane hb (by omega)]
    have e : (b + 256 * val l) / 4 = (b / 4 + 64 * (val l % 4)) + 256 * (val l / 4) := by omega
    rw [e, and_lane (by omega) (by omega)]
    have e2 : (b / 4 + 64 * (val l % 4)) &&& 51 = (b / 4) &&& 51 := top2 ⟨b / 4, by omega⟩ ⟨val l % 4, by omega⟩
    rw [e2, g2]; omega
theorem step3 : ∀ l : List Nat, (∀ b ∈ l, b % 16 ≤ 4 ∧ b / 16 ≤ 4) → ((val l / 16 + val l) &&& lanes 15 l.length) = val (l.map g3)
  | [], _ => rfl
  | b :: l, h => by
    have ih := step3 l (fun c hc => h c (List.mem_cons_of_mem _ hc))
    have hb := h b (List.mem_cons_self ..)
    have hv : val l % 16 ≤ 4 := by
      cases l with
      | nil => simp [val]
      | cons c l => have := h c (by simp); rw [val]; omega
    rw [List.map_cons, val, val, List.length_cons, lanes, ← ih]
    have e : (b + 256 * val l) / 16 + (b + 256 * val l) = (b / 16 + b + 16 * (val l % 16)) + 256 * (val l / 16 + val l) := by omega
    rw [e, and_lane (by omega) (by omega)]
    congr 1
    rw [g3]
    have e2 : ∀ n : Nat, n &&& 15 = n % 16 := fun n => Nat.and_two_pow_sub_one_eq_mod n 4
    rw [e2, e2]; omega

theorem pcn_bytes : ∀ k x, pcn x.testBit (8 * k) = ((bytes k x).map fun b => pcn b.testBit 8).sum
  | 0, x => rfl
  | k + 1, x => by
    rw [show 8 * (k + 1) = 8 + 8 * k by omega, pcn_add, bytes, List.map_cons, List.sum_cons, ← pcn_bytes k (x / 256)]
    congr 1
    · refine pcn_congr fun i hi => ?_
      rw [show (256 : Nat) = 2 ^ 8 from rfl, Nat.testBit_mod_two_pow]; simp [hi]
    · refine pcn_congr fun i hi => ?_
      rw [show (256 : Nat) = 2 ^ 8 from rfl, Nat.testBit_div_two_pow, Nat.add_comm]

def pop (x : Nat) : Nat := pcn x.testBit 64

theorem div_lane {a m b : Nat} (h : a < m) : (a + m * b) / m = b := by
  rw [Nat.add_mul_div_left _ _ (by omega), Nat.div_eq_of_lt h, Nat.zero_add]

/-- The word is folded. -/
theorem fold_bytes {p0 p1 p2 p3 p4 p5 p6 p7 : Nat} (h0 : p0 ≤ 8) (h1 : p1 ≤ 8) (h2 : p2 ≤ 8) (h3 : p3 ≤ 8) (h4 : p4 ≤ 8) (h5 : p5 ≤ 8) (h6 : p6 ≤ 8) (h7 : p7 ≤ 8) {u v t s : Nat} (hu : u = val [p0, p1, p2, p3, p4, p5, p6, p7])
    (hv : v = u + u / 256) (ht : t = v + v / 65536) (hs : s = t + t / 4294967296) : v < 18446744073709551616 ∧ t < 18446744073709551616 ∧ s < 9223372036854775808 ∧ s % 128 = p0 + p1 + p2 + p3 + p4 + p5 + p6 + p7 := by
  simp only [val] at hu
  have e1 : u / 256 = p1 + 256 * (p2 + 256 * (p3 + 256 * (p4 + 256 * (p5 + 256 * (p6 + 256 * (p7 + 256 * 0)))))) := by
    rw [hu]; exact div_lane (by omega)
  rw [e1, hu] at hv
  clear e1 hu
  have hv' : v = (p0 + p1 + 256 * (p1 + p2)) + 65536 * ((p2 + p3) + 256 * (p3 + p4) + 65536 * ((p4 + p5) + 256 * (p5 + p6) + 65536 * ((p6 + p7) + 256 * p7))) := by omega
  have e2 : v / 65536 = (p2 + p3) + 256 * (p3 + p4) + 65536 * ((p4 + p5) + 256 * (p5 + p6) + 65536 * ((p6 + p7) + 256 * p7)) := by
    rw [hv']; exact div_lane (by omega)
  rw [e2] at ht
  have hvl : v < 18446744073709551616 := by omega
  rw [hv'] at ht
  clear e2 hv hv'
  have ht' : t = ((p0 + p1 + p2 + p3) + 256 * (p1 + p2 + p3 + p4) + 65536 * ((p2 + p3 + p4 + p5) + 256 * (p3 + p4 + p5 + p6))) + 4294967296 * ((p4 + p5 + p6 + p7) + 256 * (p5 + p6 + p7) + 65536 * ((p6 + p7) + 256 * p7)) := by omega
  have e3 : t / 4294967296 = (p4 + p5 + p6 + p7) + 256 * (p5 + p6 + p7) + 65536 * ((p6 + p7) + 256 * p7) := by
    rw [ht']; exact div_lane (by omega)
  rw [e3] at hs
  have htl : t < 18446744073709551616 := by omega
  rw [ht'] at hs
  clear e3 ht ht'
  have hs' : s = (p0 + p1 + p2 + p3 + p4 + p5 + p6 + p7) + 128 * (2 * (p1 + p2 + p3 + p4 + p5 + p6 + p7) + 512 * (p2 + p3 + p4 + p5 + p6 + p7) + 131072 * (p3 + p4 + p5 + p6 + p7) + 33554432 * ((p4 + p5 + p6 + p7) + 256 * (p5 + p6 + p7) + 65536 * ((p6 + p7) + 256 * p7))) := by omega
  refine ⟨hvl, htl, by omega, ?_⟩
  rw [hs', Nat.add_mul_mod_self_left, Nat.mod_eq_of_lt (by omega)]

theorem len_eight {l : List Nat} (h : l.length = 8) : ∃ a0 a1 a2 a3 a4 a5 a6 a7, l = [a0, a1, a2, a3, a4, a5, a6, a7] := by
  match l, h with
  | [a0, a1, a2, a3, a4, a5, a6, a7], _ => exact ⟨_, _, _, _, _, _, _, _, rfl⟩
theorem pop_word {x y z u v t s : Nat} (hx : x < 18446744073709551616) (hy : y = ((x / 2) &&& 6148914691236517205) + (x &&& 6148914691236517205)) (hz : z = ((y / 4) &&& 3689348814741910323) + (y &&& 3689348814741910323))
    (hu : u = ((z / 16 + z) &&& 1085102592571150095)) (hv : v = u + u / 256) (ht : t = v + v / 65536) (hs : s = t + t / 4294967296) :
    y < 18446744073709551616 ∧ z < 18446744073709551616 ∧ z / 16 + z < 18446744073709551616 ∧ v < 18446744073709551616 ∧ t < 18446744073709551616 ∧ s < 9223372036854775808 ∧ s % 128 = pop x := by
  have hl := bytes_len 8 x
  have hb := bytes_lt 8 x
  have hx' : x = val (bytes 8 x) := (val_bytes 8 x (by omega)).symm
  have hp : pop x = ((bytes 8 x).map fun b => pcn b.testBit 8).sum := pcn_bytes 8 x
  generalize bytes 8 x = l at *
  have h1 : y = val (l.map g1) := by
    rw [hy, ← step1 l hb, hl, ← hx']; rfl
  have hb1 : ∀ b ∈ l.map g1, b < 256 := by
    intro b hm
    obtain ⟨c, hc, rfl⟩ := List.mem_map.1 hm
    exact (g1_all ⟨c, hb c hc⟩).1
  have h2 : z = val ((l.map g1).map g2) := by
    rw [hz, ← step2 _ hb1, List.length_map, hl, ← h1]; rfl
  have hb2 : ∀ b ∈ (l.map g1).map g2, b < 256 ∧ b % 16 ≤ 4 ∧ b / 16 ≤ 4 := by
    intro b hm
    obtain ⟨d, hd, rfl⟩ := List.mem_map.1 hm
    obtain ⟨c, hc, rfl⟩ := List.mem_map.1 hd
    exact ⟨(g1_all ⟨c, hb c hc⟩).2.1, (g1_all ⟨c, hb c hc⟩).2.2.1, (g1_all ⟨c, hb c hc⟩).2.2.2.1⟩
  have h3 : u = val (((l.map g1).map g2).map g3) := by
    rw [hu, ← step3 _ (fun b hm => (hb2 b hm).2), List.length_map, List.length_map, hl, ← h2]; rfl
  have h3' : u = val (l.map fun b => pcn b.testBit 8) := by
    rw [h3, List.map_map, List.map_map]
    congr 1
    refine List.map_congr_left fun c hc => ?_
    exact (g1_all ⟨c, hb c hc⟩).2.2.2.2
  have y1 := val_lt _ hb1
  have z1 := val_lt _ (fun b hm => (hb2 b hm).1)
  rw [← h1, List.length_map, hl] at y1
  rw [← h2, List.length_map, List.length_map, hl] at z1
  rw [show (256 : Nat) ^ 8 = 18446744073709551616 from rfl] at y1 z1
  have z2 : z / 16 + z < 18446744073709551616 := by
    clear h3 h3' h1 hy hu hz
    have hb3 : ∀ b ∈ (l.map g1).map g2, b ≤ 68 := fun b hm => by have := hb2 b hm; omega
    have hl3 : ((l.map g1).map g2).length = 8 := by simp [hl]
    generalize (l.map g1).map g2 = k at *
    match k, hl3 with
    | [a0, a1, a2, a3, a4, a5, a6, a7], _ =>
      have := hb3 a7 (by simp)
      have := hb3 a6 (by simp)
      have := hb3 a5 (by simp)
      have := hb3 a4 (by simp)
      have := hb3 a3 (by simp)
      have := hb3 a2 (by simp)
      have := hb3 a1 (by simp)
      have := hb3 a0 (by simp)
      simp only [val] at h2
      omega
  have hc : ∀ b, pcn (Nat.testBit b) 8 ≤ 8 := fun b => pcn_le _ _
  clear h1 h2 h3 hb1 hb2 hy hz hu
  obtain ⟨a0, a1, a2, a3, a4, a5, a6, a7, rfl⟩ := len_eight hl
  simp only [List.map_cons, List.map_nil] at h3'
  obtain ⟨r1, r2, r3, r4⟩ := fold_bytes (hc a0) (hc a1) (hc a2) (hc a3) (hc a4) (hc a5) (hc a6) (hc a7) h3' hv ht hs
  refine ⟨y1, z1, z2, r1, r2, r3, ?_⟩
  rw [r4, hp]; simp only [List.map_cons, List.map_nil, List.sum_cons, List.sum_nil, Nat.add_zero, Nat.add_assoc]
end Go.Hw
