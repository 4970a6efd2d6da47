/- math/bits.OnesCount64; bits.Count. -/
import Derived.Test.YtfcnjhgfaibmnaaS4
import Derived.Test.YtfcnjhgfaibmnaaP0
namespace Go.Hw
open Go.RowKit Go.Proofs

theorem wrap_nat {x : Nat} (h : x < 18446744073709551616) : IntKind.u64.wrap (x : Int) = x := by
  have e : (2 : Int) ^ IntKind.u64.bits = 18446744073709551616 := rfl
  simp only [IntKind.wrap, IntKind.signed, Bool.false_and, Bool.false_eq_true, if_false, e]
  omega
set_option maxHeartbeats 1000000 in
theorem ones64 (x : Nat) (hx : x < 18446744073709551616) (w : World) :
    Calls Try.prog 78 #[.int .u64 x] w fun e w' => e = .returned (.int .i64 (pop x : Nat)) ∧ w' = w := by
  obtain ⟨y, hy⟩ : ∃ y, y = ((x / 2) &&& 6148914691236517205) + (x &&& 6148914691236517205) := ⟨_, rfl⟩
  obtain ⟨z, hz⟩ : ∃ z, z = ((y / 4) &&& 3689348814741910323) + (y &&& 3689348814741910323) := ⟨_, rfl⟩
  obtain ⟨u, hu⟩ : ∃ u, u = ((z / 16 + z) &&& 1085102592571150095) := ⟨_, rfl⟩
  obtain ⟨v, hv⟩ : ∃ v, v = u + u / 256 := ⟨_, rfl⟩
  obtain ⟨t, ht⟩ : ∃ t, t = v + v / 65536 := ⟨_, rfl⟩
  obtain ⟨s, hs⟩ : ∃ s, s = t + t / 4294967296 := ⟨_, rfl⟩
  obtain ⟨y1, z1, zz, v1, t1, s1, hp⟩ := pop_word hx hy hz hu hv ht hs
  have e1 : IntKind.u64.wrap (bits BinOp.and IntKind.u64 ((x : Int) / 2) 6148914691236517205 + bits BinOp.and IntKind.u64 (x : Int) 6148914691236517205) = (y : Int) := by
    rw [show ((x : Int) / 2) = ((x / 2 : Nat) : Int) by omega, show (6148914691236517205 : Int) = ((6148914691236517205 : Nat) : Int) from rfl, bits_and_u64_nat _ _ (by omega) (by omega), bits_and_u64_nat _ _ hx (by omega), hy]
    rw [← Int.natCast_add, wrap_nat (by omega)]
  have e2 : IntKind.u64.wrap (bits BinOp.and IntKind.u64 ((y : Int) / 4) 3689348814741910323 + bits BinOp.and IntKind.u64 (y : Int) 3689348814741910323) = (z : Int) := by
    rw [show ((y : Int) / 4) = ((y / 4 : Nat) : Int) by omega, show (3689348814741910323 : Int) = ((3689348814741910323 : Nat) : Int) from rfl, bits_and_u64_nat _ _ (by omega) (by omega), bits_and_u64_nat _ _ y1 (by omega), hz]
    rw [← Int.natCast_add, wrap_nat (by omega)]
  have e3 : bits BinOp.and IntKind.u64 (IntKind.u64.wrap ((z : Int) / 16 + z)) 1085102592571150095 = (u : Int) := by
    rw [show ((z : Int) / 16 + z) = ((z / 16 + z : Nat) : Int) by omega, wrap_nat zz, show (1085102592571150095 : Int) = ((1085102592571150095 : Nat) : Int) from rfl, bits_and_u64_nat _ _ zz (by omega), hu]
  have e4 : IntKind.u64.wrap ((u : Int) + (u : Int) / 256) = (v : Int) := by rw [show ((u : Int) + (u : Int) / 256) = (v : Int) by omega, wrap_nat v1]
  have e5 : IntKind.u64.wrap ((v : Int) + (v : Int) / 65536) = (t : Int) := by rw [show ((v : Int) + (v : Int) / 65536) = (t : Int) by omega, wrap_nat t1]
  have e6 : IntKind.u64.wrap ((t : Int) + (t : Int) / 4294967296) = (s : Int) := by rw [show ((t : Int) + (t : Int) / 4294967296) = (s : Int) by omega, wrap_nat (by omega)]
  have E1 := Lib.hid e1
  have E2 := Lib.hid e2
  have E3 := Lib.hid e3
  have E4 := Lib.hid e4
  have E5 := Lib.hid e5
  have E6 := Lib.hid e6
  have Hp := Lib.hid hp
  clear e1 e2 e3 e4 e5 e6 hy hz hu hv ht hs hp
  go_enter Try.func78, Try.ntmps78
  go_wp2
  go_ret
  simp only [E1.out, E2.out, E3.out, E4.out, E5.out, E6.out]
  refine ⟨ret_int ?_, trivial⟩
  have hw : wrap64 (s : Int) = (s : Int) := by unfold wrap64; omega
  have h := bits_mask .i64 63 (by decide) (fun n h0 h1 => by rw [show (2 : Int) ^ 63 = 9223372036854775808 from by decide] at h1; rw [IntKind.wrap_i64]; omega) 7 (by decide) (s : Int) (by omega) (by rw [show (2 : Int) ^ 63 = 9223372036854775808 from by decide]; omega)
  rw [show ((2 : Int) ^ 7 - 1) = 127 by decide, show ((2 : Int) ^ 7) = 128 by decide] at h
  rw [hw, h, ← Hp.out]; omega

def cntRel (b n q : Nat) (S : Nat → Bool) (ws : List Nat) (w0 : World) (G0 : Gh) (k c : Nat) (w : World) : Prop :=
  k ≤ ws.length ∧ c = pcn S (64 * k) ∧ w = w0

theorem pop_set {S : Nat → Bool} {ws : List Nat} (h : ∀ i, S i = (ws.getD (i / 64) 0).testBit (i % 64)) (k : Nat) : pcn S (64 * (k + 1)) = pcn S (64 * k) + pop (ws.getD k 0) := by
  rw [show 64 * (k + 1) = 64 * k + 64 by omega, pcn_add]
  congr 1
  refine pcn_congr fun i hi => ?_
  rw [h, show (64 * k + i) / 64 = k by omega, show (64 * k + i) % 64 = i by omega]

def CountPost (n : Nat) (S : Nat → Bool) (w : World) (G : Gh) (e : Ending) (w' : World) : Prop :=
  e = .returned (.int .i64 (pcn S n : Nat)) ∧ ∃ G', Step (fun _ => False) w G w' G'

set_option maxRecDepth 100000 in
theorem set_count (b n : Nat) (S : Nat → Bool) (w : World) (G : Gh) (hI : Inv w G) (hG : G b = .set n S) :
    Calls Try.prog 50 #[.pointer (some ⟨b, 0, none⟩)] w (CountPost n S w G) := by
  go_enter Try.func50, Try.ntmps50
  go_wp2_with fail
  refine (words_any b n S w G hI hG).mono ?_
  rintro e w1 ⟨q, ws, G1, rfl, hA, hS⟩
  have hn := hA.small
  have hl : ws.length ≤ 1000000 := by rw [hA.len]; omega
  have hln := hA.len
  have HA := Lib.hid hA
  have HS := Lib.hid hS
  clear hA hS
  have Hln := Lib.hid hln
  clear hln
  go_wp2
  go_loopw [3, 10] (fun s i w => ∃ k c : Nat, k ≤ ws.length ∧ c = pcn S (64 * k) ∧ s = .int .i64 c ∧ i = .int .i64 k ∧ w = w1) (fun _ i _ => ws.length - (intOf i).toNat)
  case atStart => exact ⟨0, 0, Nat.zero_le _, rfl, rfl, rfl, rfl⟩
  case round =>
    obtain ⟨k, c, hk, hc, rfl, rfl, rfl⟩ := hrel
    have hcl : c ≤ 64 * k := by rw [hc]; exact pcn_le _ _
    have Hc := Lib.hid hc
    clear hc
    by_cases hlt : k < ws.length
    · obtain ⟨hce, hf⟩ := HA.out.cell k hlt
      have hx : ws.getD k 0 < 18446744073709551616 := by
        refine HA.out.word _ ?_
        rw [List.getD_eq_getElem?_getD, List.getElem?_eq_getElem hlt]; exact List.getElem_mem _
      have hnx : (c + pop (ws.getD k 0)) = pcn S (64 * (k + 1)) := by rw [pop_set HA.out.bit, Hc.out]
      have hpl : pop (ws.getD k 0) ≤ 64 := pcn_le _ _
      have Hnx := Lib.hid hnx
      clear hnx
      generalize ws.getD k 0 = x at *
      go_wp2_with fail
      refine (u64_load ⟨q, k, none⟩ x _ hce rfl).mono ?_
      rintro e w3 ⟨rfl, rfl⟩
      go_wp2_with fail
      refine (ones64 x hx _).mono ?_
      rintro e w3 ⟨rfl, rfl⟩
      generalize pop x = pc at *
      go_wp2
      go_roundw
      case rel => exact ⟨k + 1, c + pc, by omega, Hnx.out, by go_num, by go_num, trivial⟩
      case measure => simp [intOf]; omega
    · obtain rfl : k = ws.length := by omega
      have hfin : (c : Int) = (pcn S n : Nat) := by
        rw [Hc.out]
        have e : 64 * ws.length = n + (64 * ws.length - n) := by have := Hln.out; omega
        rw [e, pcn_add, pcn_zero (f := fun i => S (n + i)) (fun i _ => by
          cases h : S (n + i) with
          | false => rfl
          | true => have := HA.out.below _ h; omega)]; rfl
      have Hfin := Lib.hid hfin
      clear hfin
      go_wp2
      go_ret
      exact ⟨ret_int Hfin.out, G1, HS.out⟩
end Go.Hw
