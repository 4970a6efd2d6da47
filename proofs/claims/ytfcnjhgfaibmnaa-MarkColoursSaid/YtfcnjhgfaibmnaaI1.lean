/- bits.All. -/
import Derived.Test.YtfcnjhgfaibmnaaS5
import Derived.Test.YtfcnjhgfaibmnaaR0
namespace Go.Hw
open Go.RowKit Go.Proofs
attribute [local go_sem] Oper.semAt_some

/-- The elements of a set, rising. -/
def els (n : Nat) (S : Nat → Bool) : List Nat := (List.range n).filter S
theorem els_succ (k : Nat) (S : Nat → Bool) : els (k + 1) S = els k S ++ (if S k = true then [k] else []) := by
  simp [els, List.range_succ, List.filter_append]
  split <;> simp_all
theorem mem_els {n : Nat} {S : Nat → Bool} {k : Nat} : k ∈ els n S ↔ k < n ∧ S k = true := by simp [els]
theorem els_prefix (k n : Nat) (S : Nat → Bool) (h : k ≤ n) : els k S <+: els n S := by
  obtain ⟨d, rfl⟩ := Nat.exists_eq_add_of_le h
  rw [els, els, List.range_add, List.filter_append]
  exact List.prefix_append _ _

def encN (x : Nat) : Array Value := #[.int .i64 x]

/-- What All's closure reads: the box that holds the set; the set, as far as it is still to be gone through. -/
def AllR (bx s n : Nat) (S : Nat → Bool) (pre : List Nat) (W : World) (G : Gh) : Prop :=
  W.heap[bx]? = some (.cells #[.pointer (some ⟨s, 0, none⟩)] 73 (0, 0)) ∧ ∃ S', G s = .set n S' ∧ ∀ k, (∀ p ∈ pre, p < k) → S' k = S k

set_option maxRecDepth 100000 in
set_option maxHeartbeats 1000000 in
theorem all_seq (bx s n : Nat) (S : Nat → Bool) : SeqG Try.prog 88 #[.pointer (some ⟨bx, 0, none⟩)] encN (els n S) (AllR bx s n S) := by
  intro l m J Jx W0 G0 hJ hJx hJq hJxq hY h0
  obtain ⟨hinv, ⟨hbx, S0, hs0, -⟩, -⟩ := hJ _ _ _ h0
  have hL := hinv.lay s
  rw [hs0] at hL
  have hn0 : n ≤ 1000000 := hL.1
  have hcs : W0.cell? ⟨s, 0, none⟩ = some (.int .i64 n) := by
    obtain ⟨_, ws, -, -, -, -, h5⟩ := hL
    rcases h5 with ⟨h5, -⟩ | ⟨q, -, h5, -⟩
    · exact cell_of h5 0
    · exact cell_of h5 0
  have hcb : W0.cell? ⟨bx, 0, none⟩ = some (.pointer (some ⟨s, 0, none⟩)) := cell_of hbx 0
  clear hbx hs0 hL hinv
  refine callsIn_of_wp Try.func88 rfl trivial ?_ rfl
  simp only [Try.ntmps88, List.size_toArray, List.length_cons, List.length_nil, Nat.reduceAdd, Nat.reduceSub, Array.replicate_succ, Array.replicate_zero, List.push_toArray, List.append_toArray, List.nil_append, List.cons_append]
  gi_wp2
  clear hcs hcb
  gi_loopw [8] (fun p wr => ∃ (k : Nat) (G : Gh), k ≤ n ∧ p = .int .i64 k ∧ J (els k S) wr G) (fun p _ => n - (intOf p).toNat)
  case atStart => exact ⟨0, G0, Nat.zero_le _, rfl, h0⟩
  case round =>
    obtain ⟨k, G, hk, rfl, hJk⟩ := hrel
    obtain ⟨hinv, ⟨hbx, S1, hs1, hSS⟩, hsz⟩ := hJ _ _ _ hJk
    have hcb1 : wr.cell? ⟨bx, 0, none⟩ = some (.pointer (some ⟨s, 0, none⟩)) := cell_of hbx 0
    have hSk : S1 k = S k := hSS k (fun p hp => (mem_els.1 hp).1)
    clear hbx hSS
    by_cases hlt : k < n
    · have hk0 : (0 : Int) ≤ k := by omega
      have hback : (k : Int) < (n : Int) := by omega
      have hS1 := Lib.hid hs1
      clear hs1
      gi_wp2_with fail
      refine ⟨trivial, fun h => by simp [Wd, Fence.wide] at h, ?_⟩
      refine (callsIn_wide.2 (has_any s n k S1 wr G hinv hS1.out)).mono ?_
      rintro e w1 ⟨rfl, G1, hst⟩
      rw [show (decide (0 ≤ (k : Int)) && S1 (k : Int).toNat) = S k from by simp [hSk]]
      have hst' : St (fun _ => False) W0.heap.size wr G w1 G1 := hst.mono (fun _ h => h) hsz
      have hJ1 := hJq _ _ _ _ _ hJk hst'
      by_cases hb : S k = true
      · have hpre : els k S ++ [k] <+: els n S := by
          have := els_prefix (k + 1) n S (by omega)
          rwa [els_succ, if_pos hb] at this
        have hJe : els (k + 1) S = els k S ++ [k] := by rw [els_succ, if_pos hb]
        obtain ⟨fn, tmps, assign, body, hy, hR⟩ := hY (els k S) k w1 G1 hJ1 hpre
        dsimp only [encN] at hy
        rw [hb]
        have hSe := Lib.hid hJe
        have Hp := Lib.hid hpre
        clear hJe hpre hb hSk
        gi_wp2_with fail
        refine ⟨fun h => by simp [Wd, Fence.wide] at h, ?_⟩
        refine (roundIn_n rfl hR).mono ?_
        rintro e W3 (⟨rfl, G3, hJ3, hk3⟩ | ⟨rfl, G3, hJ3, hk3⟩)
        · rw [← hSe.out] at hJ3
          gi_wp2
          go_roundw
          case rel => exact ⟨k + 1, G3, by omega, by go_num, hJ3⟩
          case measure => simp [intOf]; omega
        · gi_wp2
          refine bodyPost_ret (results_none rfl _ _ _) rfl ?_
          exact ⟨⟨_, rfl⟩, .inr ⟨_, G3, Hp.out, hJ3⟩⟩
      · have hb' : S k = false := by simpa using hb
        have hSe : els (k + 1) S = els k S := by rw [els_succ, if_neg hb, List.append_nil]
        rw [hb']
        rw [← hSe] at hJ1
        clear hb hb' hSk hSe
        gi_wp2
        refine ⟨fun _ h => (by cases h), ?_⟩
        gi_wp2
        go_roundw
        case rel => exact ⟨k + 1, G1, by omega, by go_num, hJ1⟩
        case measure => simp [intOf]; omega
    · obtain rfl : k = n := by omega
      gi_wp2
      go_end0
      exact ⟨⟨_, rfl⟩, .inl ⟨G, hJk⟩⟩

theorem set_all (s : Nat) (w : World) :
    Calls Try.prog 62 #[.pointer (some ⟨s, 0, none⟩)] w fun e w' => e = .returned (.func (.func 88) #[] #[.pointer (some ⟨w.heap.size, 0, none⟩)]) ∧ w' = w.alloc (.cells #[.pointer (some ⟨s, 0, none⟩)] 73) := by
  have hmf : ∀ (fn : Fn) (first cap : Array Value) (w : World), (Instr.makeFunc fn first cap).run Try.prog w = .ok (.func fn first cap) w := fun _ _ _ _ => rfl
  go_enter Try.func62, Try.ntmps62
  go_wp2
  go_ret
  exact ⟨rfl, rfl⟩

theorem St.frameP {T : Nat → Prop} {B : Nat} {w w' : World} {G G' : Gh} (h : St T B w G w' G') {b : Nat} {c : Array Value} {t : TypeId} (hb : b < B) (hp : G b = .priv) (hh : w.heap[b]? = some (.cells c t (0, 0))) :
    G' b = .priv ∧ w'.heap[b]? = some (.cells c t (0, 0)) := by
  have := h.priv b (Array.getElem?_eq_some_iff.1 hh).1 hb hp
  exact ⟨this.1, this.2.trans hh⟩
theorem Keep.frameP {B : Nat} {w w' : World} {G G' : Gh} (h : Keep B w G w' G') {b : Nat} {c : Array Value} {t : TypeId} (hb : B ≤ b) (hp : G b = .priv) (hh : w.heap[b]? = some (.cells c t (0, 0))) :
    G' b = .priv ∧ w'.heap[b]? = some (.cells c t (0, 0)) := by
  have := h.2 b hb (Array.getElem?_eq_some_iff.1 hh).1 hp
  exact ⟨this.1, this.2.trans hh⟩

/-- What mark.All's closure reads. -/
def MAllR (bx m a s s2 g n : Nat) (S : Nat → Bool) (pre : List Nat) (W : World) (G : Gh) : Prop :=
  W.heap[bx]? = some (.cells #[.pointer (some ⟨m, 0, none⟩)] 33 (0, 0)) ∧
  W.heap[m]? = some (.cells #[.pointer (some ⟨a, 0, none⟩), .pointer (some ⟨s, 0, none⟩), .pointer (some ⟨s2, 0, none⟩), .pointer (some ⟨g, 0, none⟩)] 78 (0, 0)) ∧
  ∃ S', G s = .set n S' ∧ ∀ k, (∀ p ∈ pre, p < k) → S' k = S k

set_option maxRecDepth 100000 in
set_option maxHeartbeats 1000000 in
theorem mall_seq (bx m a s s2 g n : Nat) (S : Nat → Bool) : SeqG Try.prog 61 #[.pointer (some ⟨bx, 0, none⟩)] encN (els n S) (MAllR bx m a s s2 g n S) := by
  intro l k J Jx W0 G0 hJ hJx hJq hJxq hY h0
  obtain ⟨hinv, ⟨hbx, hm, S0, hs0, -⟩, -⟩ := hJ _ _ _ h0
  have hcb : W0.cell? ⟨bx, 0, none⟩ = some (.pointer (some ⟨m, 0, none⟩)) := cell_of hbx 0
  have hcm : W0.cell? ⟨m, 1, none⟩ = some (.pointer (some ⟨s, 0, none⟩)) := cell_of hm 1
  have hlb : bx < W0.heap.size := (Array.getElem?_eq_some_iff.1 hbx).1
  have hlm : m < W0.heap.size := (Array.getElem?_eq_some_iff.1 hm).1
  clear hbx hm
  refine callsIn_of_wp_marks Try.func61 rfl trivial ?_ rfl
  simp only [Try.ntmps61, List.size_toArray, List.length_cons, List.length_nil, Nat.reduceAdd, Nat.reduceSub, Array.replicate_succ, Array.replicate_zero, List.push_toArray, List.append_toArray, List.nil_append, List.cons_append]
  gi_wp2_with fail
  refine ⟨trivial, fun h => by simp [Wd, Fence.wide] at h, ?_⟩
  refine (callsIn_wide.2 (set_all s _)).mono ?_
  rintro e w1 ⟨rfl, rfl⟩
  gi_wp2
  have hq1 : St (fun _ => False) W0.heap.size W0 G0 (W0.alloc (.cells #[.func (.yield l) #[] #[]] 37)) (privAt G0 W0.heap.size) := St.layPriv hinv _
  have hJ1 := hJq _ _ _ _ _ h0 hq1
  have hq2 := St.layPriv (T := fun _ => False) (B := W0.heap.size) hq1.inv (.cells #[.pointer (some ⟨s, 0, none⟩)] 73)
  have hJ2 := hJq _ _ _ _ _ hJ1 hq2
  rw [World.size_alloc] at hJ2
  obtain ⟨w2, hw2⟩ : ∃ w2, (W0.alloc (.cells #[.func (.yield l) #[] #[]] 37)).alloc (.cells #[.pointer (some ⟨s, 0, none⟩)] 73) = w2 := ⟨_, rfl⟩
  have hsz2 : w2.heap.size = W0.heap.size + 2 := by rw [← hw2]; simp
  have hb1 : w2.heap[W0.heap.size]? = some (.cells #[.func (.yield l) #[] #[]] 37 (0, 0)) := by
    rw [← hw2]; exact (heap_alloc_lt _ _ (by simp)).trans (heap_alloc_new _ _)
  have hb2 : w2.heap[W0.heap.size + 1]? = some (.cells #[.pointer (some ⟨s, 0, none⟩)] 73 (0, 0)) := by
    rw [← hw2]; have := heap_alloc_new (W0.alloc (.cells #[.func (.yield l) #[] #[]] 37)) (.cells #[.pointer (some ⟨s, 0, none⟩)] 73); rwa [World.size_alloc] at this
  rw [hw2] at hJ2 ⊢
  obtain ⟨G2, hG2⟩ : ∃ G2, privAt (privAt G0 W0.heap.size) (W0.heap.size + 1) = G2 := ⟨_, rfl⟩
  have hg1 : G2 W0.heap.size = .priv := by rw [← hG2, privAt_ne _ (by omega), privAt_self]
  have hg2 : G2 (W0.heap.size + 1) = .priv := by rw [← hG2, privAt_self]
  rw [hG2] at hJ2
  clear hq1 hq2 hJ1 hG2 hw2 hcb hcm hlb hlm h0 hinv hs0
  refine range_out (gf := 88) (lb := #[.pointer (some ⟨W0.heap.size + 1, 0, none⟩)]) rfl (enters_of Try.func88 (by kernel_rfl) rfl) (all_seq (W0.heap.size + 1) s n S) (fun _ => rfl)
    (fun pre W G => J pre W G ∧ G W0.heap.size = .priv ∧ W.heap[W0.heap.size]? = some (.cells #[.func (.yield l) #[] #[]] 37 (0, 0)) ∧ G (W0.heap.size + 1) = .priv ∧ W.heap[W0.heap.size + 1]? = some (.cells #[.pointer (some ⟨s, 0, none⟩)] 73 (0, 0)) ∧ W0.heap.size + 2 ≤ W.heap.size)
    (fun c pre W G => c = .ret ∧ Jx pre W G ∧ W0.heap.size + 2 ≤ W.heap.size)
    (fun x a' _ _ => a' = { tmps := #[.func (.yield l) #[] #[], .pointer (some ⟨bx, 0, none⟩), .pointer (some ⟨W0.heap.size, 0, none⟩), .int .i64 x, .pointer (some ⟨m, 0, none⟩), .pointer (some ⟨m, 0, none⟩), .pointer (some ⟨m, 1, none⟩), .pointer (some ⟨s, 0, none⟩), .func (.func 88) #[] #[.pointer (some ⟨W0.heap.size + 1, 0, none⟩)], .int .i64 x, undef, undef, undef, undef], defers := [] })
    ?_ ?_ ?_ ?_ (fun _ _ _ _ _ _ h _ => h) ⟨hJ2, hg1, hb1, hg2, hb2, by omega⟩ ?_ ?_ ?_ ?_
  · rintro pre W G ⟨h1, h2, h3, h4, h5, h6⟩
    obtain ⟨e1, ⟨-, -, e2⟩, e3⟩ := hJ _ _ _ h1
    exact ⟨e1, ⟨h5, e2⟩, by omega⟩
  · rintro c pre W G ⟨rfl, h1, h2⟩
    exact ⟨(hJx _ _ _ h1).1, by omega⟩
  · rintro pre W G W' G' ⟨h1, h2, h3, h4, h5, h6⟩ hs
    have f1 := hs.frameP (by omega) h2 h3
    have f2 := hs.frameP (by omega) h4 h5
    exact ⟨hJq _ _ _ _ _ h1 (hs.mono (fun _ h => h) (by omega)), f1.1, f1.2, f2.1, f2.2, by have := hs.le; omega⟩
  · rintro c pre W G W' G' ⟨rfl, h1, h2⟩ hs
    exact ⟨rfl, hJxq _ _ _ _ _ h1 (hs.mono (fun _ h => h) (by omega)), by have := hs.le; omega⟩
  · intro l2 pre x W G K hI hK
    have hK' := hK _ W G hI rfl (Keep.refl _ _ _)
    clear hK
    dsimp only [encN]
    gi_wp2
    exact hK'
  · rintro l2 pre x a' W G hl2 hgl ⟨r, hr⟩ ⟨h1, h2, h3, h4, h5, h6⟩ rfl hpre
    obtain ⟨fn, tmps, assign, body, hy, hR⟩ := hY pre x W G h1 hpre
    dsimp only [encN] at hy
    have hcy : W.cell? ⟨W0.heap.size, 0, none⟩ = some (.func (.yield l) #[] #[]) := cell_of h3 0
    have H3 := Lib.hid h3
    have H5 := Lib.hid h5
    have H2 := Lib.hid h2
    have H4 := Lib.hid h4
    have Hr := Lib.hid hr
    clear h3 h5 h2 h4 hr
    gi_wp2_with fail
    refine ⟨fun h => by simp [Wd, Fence.wide] at h, ?_⟩
    refine (RoundIn.mono (F := Wd.inRound l2) (roundIn_n (F := Wd) rfl hR) ?_)
    rintro e W3 (⟨rfl, G3, hJ3, hk3⟩ | ⟨rfl, G3, hJ3, hk3⟩)
    · have f1 := hk3.frameP (Nat.le_refl _) H2.out H3.out
      have f2 := hk3.frameP (by omega) H4.out H5.out
      have hle := hk3.1
      have hfin : rpost w2.heap.size (fun pre W G => J pre W G ∧ G W0.heap.size = .priv ∧ W.heap[W0.heap.size]? = some (.cells #[.func (.yield l) #[] #[]] 37 (0, 0)) ∧ G (W0.heap.size + 1) = .priv ∧ W.heap[W0.heap.size + 1]? = some (.cells #[.pointer (some ⟨s, 0, none⟩)] 73 (0, 0)) ∧ W0.heap.size + 2 ≤ W.heap.size)
          (fun c pre W G => c = .ret ∧ Jx pre W G ∧ W0.heap.size + 2 ≤ W.heap.size) (pre ++ [x]) W G .normal ⟨#[], []⟩ W3 :=
        ⟨G3, ⟨hJ3, f1.1, f1.2, f2.1, f2.2, by omega⟩, hk3.mono (by omega)⟩
      have Hfin := Lib.hid hfin
      clear hfin f1 f2 hk3 hJ3
      gi_wp2
      exact Hfin.out
    · have hle := hk3.1
      have hfin : rpost w2.heap.size (fun pre W G => J pre W G ∧ G W0.heap.size = .priv ∧ W.heap[W0.heap.size]? = some (.cells #[.func (.yield l) #[] #[]] 37 (0, 0)) ∧ G (W0.heap.size + 1) = .priv ∧ W.heap[W0.heap.size + 1]? = some (.cells #[.pointer (some ⟨s, 0, none⟩)] 73 (0, 0)) ∧ W0.heap.size + 2 ≤ W.heap.size)
          (fun c pre W G => c = .ret ∧ Jx pre W G ∧ W0.heap.size + 2 ≤ W.heap.size) (pre ++ [x]) W G .ret ⟨#[], []⟩ W3 :=
        ⟨G3, ⟨rfl, hJ3, by omega⟩, hk3.mono (by omega)⟩
      have Hfin := Lib.hid hfin
      clear hfin hk3 hJ3
      gi_wp2
      exact Hfin.out
  · rintro D W G hD hgd ⟨h1, h2, h3, h4, h5, h6⟩ hd
    have hJd := hJq _ _ _ _ _ h1 (St.putPriv (T := fun _ => False) (B := W0.heap.size) (hJ _ _ _ h1).1 (.deferred none) hgd (by omega))
    clear h2 h3 h4 h5
    gi_wp2
    refine ⟨by simp, .inl ⟨_, _, rfl, run_takeDeferred hd, ?_⟩⟩
    exact ⟨_, results_none rfl _ _ _, ⟨_, rfl⟩, .inl ⟨G, hJd⟩⟩
  · rintro D c pre W G hD hgd hpre ⟨rfl, h1, h2⟩ hd
    have hJd := hJxq _ _ _ _ _ h1 (St.putPriv (T := fun _ => False) (B := W0.heap.size) (hJx _ _ _ h1).1 (.deferred none) hgd (by omega))
    gi_wp2
    refine ⟨by simp, .inl ⟨_, _, rfl, run_takeDeferred hd, ?_⟩⟩
    exact ⟨_, results_none rfl _ _ _, ⟨_, rfl⟩, .inr ⟨pre, G, hpre, hJd⟩⟩
end Go.Hw
