/- cell.Points; arena.Cells. -/
import Derived.Test.YtfcnjhgfaibmnaaC1
namespace Go.Hw
open Go.RowKit Go.Proofs
attribute [local go_sem] Oper.semAt_some

def encI (x : Int) : Array Value := #[.int .i64 x]
def ptsTo (A : Ar) (S : Nat → Bool) (r : Int) (k : Nat) : List Int := ((List.range k).map fun i : Nat => wordAt A S r (2 + i)).filter fun x => x != 0
def pts (A : Ar) (S : Nat → Bool) (r : Int) : List Int := ptsTo A S r (wordAt A S r 0).toNat
theorem ptsTo_succ (A : Ar) (S : Nat → Bool) (r : Int) (k : Nat) : ptsTo A S r (k + 1) = ptsTo A S r k ++ (if wordAt A S r (2 + k) = 0 then [] else [wordAt A S r (2 + k)]) := by
  simp only [ptsTo, List.range_succ, List.map_append, List.filter_append, List.map_cons, List.map_nil, List.filter_cons, List.filter_nil]
  by_cases h : wordAt A S r (2 + k) = 0 <;> simp [h]
theorem ptsTo_prefix (A : Ar) (S : Nat → Bool) (r : Int) (k n : Nat) (h : k ≤ n) : ptsTo A S r k <+: ptsTo A S r n := by
  obtain ⟨d, rfl⟩ := Nat.exists_eq_add_of_le h
  unfold ptsTo
  rw [List.range_add, List.map_append, List.filter_append]
  exact List.prefix_append _ _

theorem cell_points (a : Nat) (r : Int) (w : World) :
    Calls Try.prog 42 #[.pointer (some ⟨a, 0, none⟩), .int .i64 r] w fun e w' => e = .returned (.func (.func 68) #[] #[.pointer (some ⟨w.heap.size, 0, none⟩), .pointer (some ⟨w.heap.size + 1, 0, none⟩)]) ∧
      w' = (w.alloc (.cells #[.pointer (some ⟨a, 0, none⟩)] 28)).alloc (.cells #[.int .i64 r] 36) := by
  have hmf : ∀ (fn : Fn) (first cap : Array Value) (w : World), (Instr.makeFunc fn first cap).run Try.prog w = .ok (.func fn first cap) w := fun _ _ _ _ => rfl
  go_enter Try.func42, Try.ntmps42
  go_wp2
  go_ret
  exact ⟨rfl, rfl⟩

def PtsR (b1 b2 a : Nat) (A : Ar) (S : Nat → Bool) (r : Int) (_ : List Int) (W : World) (G : Gh) : Prop :=
  W.heap[b1]? = some (.cells #[.pointer (some ⟨a, 0, none⟩)] 28 (0, 0)) ∧ W.heap[b2]? = some (.cells #[.int .i64 r] 36 (0, 0)) ∧ ArAt W G a A S

set_option maxRecDepth 100000 in
set_option maxHeartbeats 1000000 in
theorem pts_seq (b1 b2 a : Nat) (A : Ar) (S : Nat → Bool) (r : Int) (hr : r ≤ 4611686018427387904) (hW : Wf A S) (hfl : wordAt A S r 0 ≤ 100) (hr0 : r = 0 → wordAt A S r 0 = 0) :
    SeqG Try.prog 68 #[.pointer (some ⟨b1, 0, none⟩), .pointer (some ⟨b2, 0, none⟩)] encI (pts A S r) (PtsR b1 b2 a A S r) := by
  intro l m J Jx W0 G0 hJ hJx hJq hJxq hY h0
  obtain ⟨hinv, ⟨hb1, hb2, hA⟩, -⟩ := hJ _ _ _ h0
  have hc1 : W0.cell? ⟨b1, 0, none⟩ = some (.pointer (some ⟨a, 0, none⟩)) := cell_of hb1 0
  have hc2 : W0.cell? ⟨b2, 0, none⟩ = some (.int .i64 r) := cell_of hb2 0
  have HA := Lib.hid hA
  have HW := Lib.hid hW
  have Hr0 := Lib.hid hr0
  clear hb1 hb2 hA hW hr0
  refine callsIn_of_wp Try.func68 rfl trivial ?_ rfl
  simp only [Try.ntmps68, List.size_toArray, List.length_cons, List.length_nil, Nat.reduceAdd, Nat.reduceSub, Array.replicate_succ, Array.replicate_zero, List.push_toArray, List.append_toArray, List.nil_append, List.cons_append]
  gi_wp2_with fail
  refine ⟨trivial, fun h => by simp [Wd, Fence.wide] at h, ?_⟩
  refine (callsIn_wide.2 (cell_fields a A S r hr _ G0 hinv HA.out HW.out)).mono ?_
  rintro e w1 ⟨rfl, G1, hst⟩
  have hJ1 := hJq _ _ _ _ _ h0 hst
  clear hst hc1 hc2 h0 hinv
  gi_wp2
  gi_loopw [10] (fun p wr => ∃ (k : Nat) (G : Gh), k ≤ (wordAt A S r 0).toNat ∧ p = .int .i64 k ∧ J (ptsTo A S r k) wr G) (fun p _ => (wordAt A S r 0).toNat - (intOf p).toNat)
  case atStart => exact ⟨0, G1, Nat.zero_le _, rfl, hJ1⟩
  case round =>
    obtain ⟨k, G, hk, rfl, hJk⟩ := hrel
    obtain ⟨hinv, ⟨hb1, hb2, hA⟩, hsz⟩ := hJ _ _ _ hJk
    have hc1 : wr.cell? ⟨b1, 0, none⟩ = some (.pointer (some ⟨a, 0, none⟩)) := cell_of hb1 0
    have hc2 : wr.cell? ⟨b2, 0, none⟩ = some (.int .i64 r) := cell_of hb2 0
    have HA1 := Lib.hid hA
    clear hb1 hb2 hA
    by_cases hlt : k < (wordAt A S r 0).toNat
    · have hk1 : (k : Int) < wordAt A S r 0 := by omega
      have hr1 : r ≠ 0 := fun e => by have := Hr0.out e; omega
      have hchk : chk A S r k = 0 := by rw [chk, if_neg hr1, if_neg (by omega)]
      have Hchk := Lib.hid hchk
      clear hchk hr1
      gi_wp2_with fail
      refine ⟨trivial, fun h => by simp [Wd, Fence.wide] at h, ?_⟩
      refine (callsIn_wide.2 (cell_field a A S r k hr (by omega) wr G hinv HA1.out HW.out)).mono ?_
      rintro e w2 ⟨rfl, G2, hst⟩
      rw [Hchk.out, if_pos rfl]
      have hJ2 := hJq _ _ _ _ _ hJk (hst.mono (fun _ h => h) hsz)
      clear hst hc1 hc2 hJk hinv
      by_cases hv : wordAt A S r (2 + k) = 0
      · have hJe : ptsTo A S r (k + 1) = ptsTo A S r k := by rw [ptsTo_succ, if_pos hv, List.append_nil]
        rw [← hJe] at hJ2
        rw [hv]
        clear hJe hv
        gi_wp2
        refine ⟨fun _ h => (by cases h), ?_⟩
        gi_wp2
        go_roundw
        case rel => exact ⟨k + 1, G2, by omega, by go_num, hJ2⟩
        case measure => simp [intOf]; omega
      · have hJe : ptsTo A S r (k + 1) = ptsTo A S r k ++ [wordAt A S r (2 + k)] := by rw [ptsTo_succ, if_neg hv]
        have hpre : ptsTo A S r k ++ [wordAt A S r (2 + k)] <+: pts A S r := by
          rw [← hJe]; exact ptsTo_prefix _ _ _ _ _ (by omega)
        obtain ⟨fn, tmps, assign, body, hy, hR⟩ := hY _ _ w2 G2 hJ2 hpre
        dsimp only [encI] at hy
        have hv' : (wordAt A S r (2 + k) != 0) = true := by simpa using hv
        have HJe := Lib.hid hJe
        have Hp := Lib.hid hpre
        clear hJe hpre hv
        generalize wordAt A S r (2 + k) = v at *
        gi_wp2_with fail
        refine ⟨fun h => by simp [Wd, Fence.wide] at h, ?_⟩
        refine (roundIn_n rfl hR).mono ?_
        rintro e W3 (⟨rfl, G3, hJ3, hk3⟩ | ⟨rfl, G3, hJ3, hk3⟩)
        · rw [← HJe.out] at hJ3
          gi_wp2
          go_roundw
          case rel => exact ⟨k + 1, G3, by omega, by go_num, hJ3⟩
          case measure => simp [intOf]; omega
        · gi_wp2
          refine bodyPost_ret (results_none rfl _ _ _) rfl ?_
          exact ⟨⟨_, rfl⟩, .inr ⟨_, G3, Hp.out, hJ3⟩⟩
    · have he : k = (wordAt A S r 0).toNat := by omega
      have hfin : J (pts A S r) wr G := by unfold pts; rw [← he]; exact hJk
      have Hfin := Lib.hid hfin
      clear hfin hJk he hc1 hc2
      have hge : wordAt A S r 0 ≤ (k : Int) := by omega
      gi_wp2
      go_end0
      exact ⟨⟨_, rfl⟩, .inl ⟨G, Hfin.out⟩⟩
end Go.Hw
