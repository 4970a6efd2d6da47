/- Counting marks; what a table leads to: plain. -/
import Derived.Test.YtfcnjhgfaibmnaaV2
namespace Go.Hw

theorem Mk.next_dry {M : Mk} (h : ∀ q, M.isGrey q = false) : M.next.1 = none := by
  cases hn : M.next.1 with
  | none => rfl
  | some r => have := Mk.next_isGrey hn; rw [h r] at this; cases this
theorem Mk.trace_dry (P : Int → List Int) {M : Mk} (h : ∀ q, M.isGrey q = false) (k : Nat) : (Mk.trace P k M).1 = 0 := by
  cases k with
  | zero => rfl
  | succ k => rw [Mk.trace_none k (Mk.next_dry h)]
theorem Traced.add {P : Int → List Int} {l : List Int} {R : Int → Prop} {M M' : Mk} {k j : Nat} (h : Traced P l R M k j M') (hn : l.Nodup) : (l.filter fun r => hasR M'.sc r).length = (l.filter fun r => hasR M.sc r).length + j := by
  obtain ⟨new, h1, h2, h3, h4⟩ := h.cnt
  have hl : ∀ q, hasR M'.sc q = true → q ∈ l := fun q hq => h.tr.inl q (h.tr.scm q hq)
  have hnd : ((l.filter fun r => hasR M.sc r) ++ new).Nodup := by
    rw [List.nodup_append]
    exact ⟨hn.filter _, h2, fun a ha b hb e => by subst e; have := h3 a hb; rw [(List.mem_filter.1 ha).2] at this; cases this⟩
  rw [← h1, ← List.length_append]
  refine Nat.le_antisymm (nodup_len (hn.filter _) fun x hx => ?_) (nodup_len hnd fun x hx => ?_)
  · obtain ⟨m1, m2⟩ := List.mem_filter.1 hx
    rcases (h4 x).1 m2 with m | m
    · exact List.mem_append_right _ m
    · exact List.mem_append_left _ (List.mem_filter.2 ⟨m1, m⟩)
  · have : hasR M'.sc x = true := by
      rcases List.mem_append.1 hx with m | m
      · exact (h4 x).2 (.inr (List.mem_filter.1 m).2)
      · exact (h4 x).2 (.inl m)
    exact List.mem_filter.2 ⟨hl x this, this⟩
theorem Traced.pos {P : Int → List Int} {l : List Int} {R : Int → Prop} {M M' : Mk} {k j : Nat} (h : Traced P l R M k j M') (hk : 0 < k) (hd : M.drained = false) : j ≠ 0 := by
  rintro rfl
  have hdry := h.dry hk
  obtain ⟨new, h1, h2, h3, h4⟩ := h.cnt
  obtain rfl := List.length_eq_zero_iff.1 h1
  have : M.drained = true := Mk.drained_of fun q => by
    cases hg : M.isGrey q with
    | false => rfl
    | true =>
      obtain ⟨g1, g2⟩ := Mk.grey_iff.1 hg
      have e2 : hasR M'.sc q = false := by
        cases he : hasR M'.sc q with
        | false => rfl
        | true =>
          rcases (h4 q).1 he with m | m
          · cases m
          · rw [g2] at m; cases m
      have := hdry q
      rw [Mk.grey_iff.2 ⟨h.mono q g1, e2⟩] at this; cases this
  rw [hd] at this; cases this
theorem pcn_els (f : Nat → Bool) : ∀ n, pcn f n = (els n f).length
  | 0 => rfl
  | n + 1 => by rw [els_succ, List.length_append, ← pcn_els f n, pcn]; split <;> simp
theorem els_nodup (n : Nat) (f : Nat → Bool) : (els n f).Nodup := List.nodup_range.filter _
theorem nodup_map_nat {l : List Nat} (h : l.Nodup) : (l.map fun n : Nat => (n : Int)).Nodup := by
  rw [List.nodup_iff_pairwise_ne, List.pairwise_map]
  exact (List.nodup_iff_pairwise_ne.1 h).imp fun h e => h (by omega)
/-- How many are marked. -/
theorem pcn_marks {f : Nat → Bool} {n : Nat} {l : List Int} (hn : l.Nodup) (hi : ∀ q, hasR f q = true → q ∈ l) (hb : ∀ r ∈ l, 1 ≤ r ∧ r < n) : pcn f n = (l.filter fun r => hasR f r).length := by
  rw [pcn_els, ← List.length_map (fun n : Nat => (n : Int))]
  refine Nat.le_antisymm (nodup_len (nodup_map_nat (els_nodup n f)) fun x hx => ?_) (nodup_len (hn.filter _) fun x hx => ?_)
  · obtain ⟨k, hk, rfl⟩ := List.mem_map.1 hx
    have h1 : hasR f (k : Int) = true := by rw [hasR_nat]; exact (mem_els.1 hk).2
    exact List.mem_filter.2 ⟨hi _ h1, h1⟩
  · obtain ⟨h1, h2⟩ := List.mem_filter.1 hx
    have h3 := hb x h1
    refine List.mem_map.2 ⟨x.toNat, mem_els.2 ⟨by omega, ?_⟩, by omega⟩
    simp only [hasR, Bool.and_eq_true, decide_eq_true_eq] at h2
    exact h2.2
theorem filter_congr' {l : List Int} {f g : Int → Bool} (h : ∀ r ∈ l, f r = g r) : l.filter f = l.filter g := List.filter_congr h
theorem reached_congr {P Q : Int → List Int} {l : List Int} {R : Int → Prop} (hR : ∀ r, R r → r ∈ l) (hP : ∀ r ∈ l, ∀ y ∈ P r, y ∈ l) (he : ∀ r ∈ l, P r = Q r) {x : Int} (h : Reached P R x) : x ∈ l ∧ Reached Q R x := by
  induction h with
  | root h1 => exact ⟨hR _ h1, .root h1⟩
  | step _ hy ih => exact ⟨hP _ ih.1 _ hy, .step ih.2 (by rw [← he _ ih.1]; exact hy)⟩
theorem LK.Ok.tab_eq {K : LK} (ok : K.Ok) : ∀ r ∈ K.l, K.tab r = K.P r := fun r hr => by rw [ok.tb, if_pos hr]
theorem LK.Ok.reached {K : LK} (ok : K.Ok) {R : Int → Prop} (hR : ∀ r, R r → r ∈ K.l) (x : Int) : Reached K.tab R x ↔ Reached K.P R x :=
  ⟨fun h => (reached_congr hR (fun r hr y hy => ok.cl r hr y (by rw [← ok.tab_eq r hr]; exact hy)) ok.tab_eq h).2, fun h => (reached_congr hR ok.cl (fun r hr => (ok.tab_eq r hr).symm) h).2⟩
theorem LK.Ok.plen {K : LK} (ok : K.Ok) (r : Int) : (K.P r).length ≤ 100 := Nat.le_trans (pts_len _ _ _) (by have := ok.fl r; omega)
/-- A set of keys that are just those marked. -/
theorem keys_len {f : Nat → Bool} {ks l : List Int} (hk : ks.Nodup) (hn : l.Nodup) (h : ∀ x, x ∈ ks ↔ hasR f x = true) (hi : ∀ q, hasR f q = true → q ∈ l) : ks.length = (l.filter fun r => hasR f r).length :=
  Nat.le_antisymm (nodup_len hk fun x hx => List.mem_filter.2 ⟨hi x ((h x).1 hx), (h x).1 hx⟩) (nodup_len (hn.filter _) fun x hx => (h x).2 (List.mem_filter.1 hx).2)
/-- Where nothing is grey what is scanned is what is marked. -/
theorem Tr.sc_eq {C P : Int → List Int} {l : List Int} {R : Int → Prop} {M : Mk} (h : Tr C P l R M) (hd : ∀ q, M.isGrey q = false) (q : Int) : hasR M.sc q = hasR M.mr q := by
  rw [Bool.eq_iff_iff]
  refine ⟨h.scm q, fun hq => ?_⟩
  cases hs : hasR M.sc q with
  | true => rfl
  | false => have := hd q; rw [Mk.grey_iff.2 ⟨hq, hs⟩] at this; cases this
theorem Tr.drained_iff {C P : Int → List Int} {l : List Int} {R : Int → Prop} {M : Mk} (h : Tr C P l R M) : M.drained = true ↔ ∀ q, M.isGrey q = false :=
  ⟨fun hd => Mk.grey_of_drained hd (fun q hq => (h.bd q (h.inl q hq)).2), Mk.drained_of⟩
end Go.Hw
