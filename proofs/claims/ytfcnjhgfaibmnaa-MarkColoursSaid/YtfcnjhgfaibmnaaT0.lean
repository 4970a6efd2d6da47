/- What a trace marks: plain. -/
import Derived.Test.YtfcnjhgfaibmnaaE5
namespace Go.Hw

inductive Reached (P : Int → List Int) (R : Int → Prop) : Int → Prop
  | root {r : Int} : R r → Reached P R r
  | step {r y : Int} : Reached P R r → y ∈ P r → Reached P R y

theorem hasR_put {n : Nat} {S : Nat → Bool} {r q : Int} (hr : 0 ≤ r ∧ r < n) : hasR (putS n S r) q = true ↔ q = r ∨ hasR S q = true := by
  simp only [hasR, putS, Bool.and_eq_true, decide_eq_true_eq]
  constructor
  · rintro ⟨h1, h2⟩
    split at h2
    · left; omega
    · exact .inr ⟨h1, h2⟩
  · rintro (rfl | ⟨h1, h2⟩)
    · exact ⟨hr.1, by rw [if_pos ⟨by omega, by omega⟩]⟩
    · exact ⟨h1, by split; rfl; exact h2⟩

structure Tr (C P : Int → List Int) (l : List Int) (R : Int → Prop) (M : Mk) : Prop where
  full : M.over = true ∨ ∀ r, M.isGrey r = true → r ∈ M.st
  room : 1 ≤ M.room
  scm : ∀ r, hasR M.sc r = true → hasR M.mr r = true
  inl : ∀ r, hasR M.mr r = true → r ∈ l
  bd : ∀ r ∈ l, 1 ≤ r ∧ r < M.n
  cl : ∀ r, hasR M.sc r = true → ∀ y ∈ C r, hasR M.mr y = true
  rc : ∀ r, hasR M.mr r = true → Reached P R r

theorem Mk.can_iff {M : Mk} {r : Int} (h : 1 ≤ r ∧ r < M.n) : M.can r = !hasR M.mr r := by
  have h0 : r ≠ 0 := by omega
  have h1 : 0 ≤ r ∧ r < M.n := by omega
  simp [Mk.can, hasR, h0, h1]
theorem Mk.grey_iff {M : Mk} {r : Int} : M.isGrey r = true ↔ hasR M.mr r = true ∧ hasR M.sc r = false := by simp [Mk.isGrey]

/-- What shading does to the marks. -/
theorem Mk.shade_mr {M : Mk} {r q : Int} (h : 1 ≤ r ∧ r < M.n) : hasR (M.shade r).mr q = true ↔ q = r ∨ hasR M.mr q = true := by
  unfold Mk.shade
  rw [Mk.can_iff h]
  cases hm : hasR M.mr r with
  | true =>
    simp only [Bool.not_true, Bool.false_eq_true, if_false]
    exact ⟨.inr, fun e => by rcases e with rfl | e; exact hm; exact e⟩
  | false =>
    simp only [Bool.not_false, if_true]
    exact hasR_put (by omega)
theorem Mk.shade_same (M : Mk) (r : Int) : (M.shade r).sc = M.sc ∧ (M.shade r).n = M.n ∧ (M.shade r).room = M.room := by
  unfold Mk.shade; split <;> exact ⟨rfl, rfl, rfl⟩

theorem Tr.shade {C P : Int → List Int} {l : List Int} {R : Int → Prop} {M : Mk} (h : Tr C P l R M) {r : Int} (hr : r ∈ l) (hre : Reached P R r) : Tr C P l R (M.shade r) := by
  have hb := h.bd r hr
  obtain ⟨e1, e2, e3⟩ := M.shade_same r
  refine ⟨?_, by rw [e3]; exact h.room, fun q hq => (Mk.shade_mr hb).2 (.inr (h.scm q (by rw [← e1]; exact hq))), fun q hq => ?_, fun q hq => by rw [e2]; exact h.bd q hq, fun q hq y hy => (Mk.shade_mr hb).2 (.inr (h.cl q (by rw [← e1]; exact hq) y hy)), fun q hq => ?_⟩
  · by_cases hm : M.can r = true
    · have hgr : ∀ q, (M.shade r).isGrey q = true → q = r ∨ M.isGrey q = true := fun q hq => by
        rw [Mk.grey_iff] at hq
        rcases (Mk.shade_mr hb).1 hq.1 with e | e
        · exact .inl e
        · exact .inr (Mk.grey_iff.2 ⟨e, by rw [← e1]; exact hq.2⟩)
      unfold Mk.shade at hgr ⊢
      rw [if_pos hm] at hgr ⊢
      unfold Mk.push at hgr ⊢
      simp only at hgr ⊢
      by_cases hl : M.st.length < M.room
      · simp only [hl, if_true] at hgr ⊢
        rcases h.full with hf | hf
        · exact .inl hf
        · refine .inr fun q hq => ?_
          rcases hgr q hq with rfl | e
          · simp
          · exact List.mem_append_left _ (hf q e)
      · left; simp only [hl, if_false]
    · unfold Mk.shade; rw [if_neg hm]; exact h.full
  · rcases (Mk.shade_mr hb).1 hq with rfl | e
    · exact hr
    · exact h.inl q e
  · rcases (Mk.shade_mr hb).1 hq with rfl | e
    · exact hre
    · exact h.rc q e

theorem Tr.shadeL {C P : Int → List Int} {l : List Int} {R : Int → Prop} : ∀ (ys : List Int) {M : Mk}, Tr C P l R M → (∀ y ∈ ys, y ∈ l ∧ Reached P R y) → Tr C P l R (M.shadeL ys) ∧ (∀ q, hasR (M.shadeL ys).mr q = true ↔ q ∈ ys ∨ hasR M.mr q = true) ∧ (M.shadeL ys).sc = M.sc
  | [], M, h, _ => ⟨h, fun q => by simp [Mk.shadeL], rfl⟩
  | y :: ys, M, h, hy => by
    obtain ⟨h1, h2⟩ := hy y (List.mem_cons_self ..)
    obtain ⟨k1, k2, k3⟩ := Tr.shadeL ys (h.shade h1 h2) (fun z hz => hy z (List.mem_cons_of_mem _ hz))
    refine ⟨k1, fun q => ?_, k3.trans (M.shade_same y).1⟩
    have e : M.shadeL (y :: ys) = (M.shade y).shadeL ys := rfl
    rw [e, k2 q, Mk.shade_mr (h.bd y h1), List.mem_cons]
    constructor
    · rintro (a | a | a)
      · exact .inl (.inr a)
      · exact .inl (.inl a)
      · exact .inr a
    · rintro ((a | a) | a)
      · exact .inr (.inl a)
      · exact .inl a
      · exact .inr (.inr a)

def Mk.fullX (M : Mk) (r : Int) : Prop := M.over = true ∨ ∀ q, M.isGrey q = true → q = r ∨ q ∈ M.st
theorem popR_some {gr : Int → Bool} : ∀ {l : List Int} {r : Int} {t : List Int}, popR gr l = some (r, t) → ∀ q ∈ l, gr q = true → q = r ∨ q ∈ t
  | [], _, _, h, _, hq, _ => by cases hq
  | x :: l, r, t, h, q, hq, hg => by
    unfold popR at h
    split at h
    · cases h
      exact List.mem_cons.1 hq
    · rename_i hx
      rcases List.mem_cons.1 hq with rfl | hq
      · exact absurd hg hx
      · exact popR_some h q hq hg
theorem popR_none {gr : Int → Bool} : ∀ {l : List Int}, popR gr l = none → ∀ q ∈ l, gr q = false
  | [], _, _, hq => by cases hq
  | x :: l, h, q, hq => by
    unfold popR at h
    split at h
    · cases h
    · rename_i hx
      rcases List.mem_cons.1 hq with rfl | hq
      · simpa using hx
      · exact popR_none h q hq
theorem Mk.pop_spec {M : Mk} (hf : M.over = true ∨ ∀ r, M.isGrey r = true → r ∈ M.st) : (∀ r, M.pop.1 = some r → M.pop.2.fullX r) ∧ (M.pop.1 = none → M.over = true ∨ ∀ q, M.isGrey q = false) ∧ M.pop.2.over = M.over := by
  unfold Mk.pop
  cases hp : popR M.isGrey M.st.reverse with
  | none =>
    refine ⟨fun r e => (by cases e), fun _ => ?_, rfl⟩
    rcases hf with hf | hf
    · exact .inl hf
    · refine .inr fun q => ?_
      cases hq : M.isGrey q with
      | false => rfl
      | true => have := popR_none hp q (List.mem_reverse.2 (hf q hq)); rw [hq] at this; cases this
  | some x =>
    obtain ⟨r, t⟩ := x
    refine ⟨fun r' e => ?_, fun e => (by cases e), rfl⟩
    cases e
    rcases hf with hf | hf
    · exact .inl hf
    · refine .inr fun q hq => ?_
      rcases popR_some hp q (List.mem_reverse.2 (hf q hq)) hq with e | e
      · exact .inl e
      · exact .inr (List.mem_reverse.2 e)
theorem Mk.refillTo_full (M : Mk) (h0 : M.st = []) : ∀ l : List Nat, (M.refillTo l).over = true ∨ ∀ q : Nat, q ∈ l → M.isGrey q = true → (q : Int) ∈ (M.refillTo l).st := by
  refine snoc_ind (.inr fun q hq => by cases hq) ?_
  intro l x ih
  rw [Mk.refillTo_snoc]
  by_cases hx : M.isGrey x = true
  · rw [if_pos hx]
    unfold Mk.push
    simp only
    by_cases hl : (M.refillTo l).st.length < (M.refillTo l).room
    · simp only [hl, if_true]
      rcases ih with ih | ih
      · exact .inl ih
      · refine .inr fun q hq hg => ?_
        rcases List.mem_append.1 hq with hq | hq
        · exact List.mem_append_left _ (ih q hq hg)
        · rw [List.mem_singleton.1 hq]; simp
    · left; simp only [hl, if_false]
  · rw [if_neg hx]
    rcases ih with ih | ih
    · exact .inl ih
    · refine .inr fun q hq hg => ?_
      rcases List.mem_append.1 hq with hq | hq
      · exact ih q hq hg
      · rw [List.mem_singleton.1 hq] at hg; exact absurd hg hx
theorem Mk.next_spec {M : Mk} (hf : M.over = true ∨ ∀ r, M.isGrey r = true → r ∈ M.st) (h1 : 1 ≤ M.room) (hb : ∀ q, hasR M.mr q = true → q < M.n) :
    (∀ r, M.next.1 = some r → M.next.2.fullX r) ∧ (M.next.1 = none → ∀ q, M.isGrey q = false) := by
  obtain ⟨p1, p2, p3⟩ := M.pop_spec hf
  unfold Mk.next
  by_cases hc : M.pop.1 = none ∧ M.over = true
  · rw [if_pos hc]
    have hgood := Mk.refillTo_good { M with st := [] } rfl h1 (els M.n M.mr)
    have hfull := Mk.refillTo_full { M with st := [] } rfl (els M.n M.mr)
    obtain ⟨e1, e2, e3⟩ := Mk.refillTo_same { M with st := [] } (els M.n M.mr)
    have hN : (Mk.refill { M with st := [] }) = Mk.refillTo { M with st := [] } (els M.n M.mr) := rfl
    rw [hN]
    generalize Mk.refillTo { M with st := [] } (els M.n M.mr) = N at *
    have hgr : ∀ q, N.isGrey q = M.isGrey q := fun q => by unfold Mk.isGrey; rw [e2, e3]
    have hfN : N.over = true ∨ ∀ r, N.isGrey r = true → r ∈ N.st := by
      rcases hfull with h | h
      · exact .inl h
      · refine .inr fun r hr => ?_
        rw [hgr] at hr
        have hm := (Mk.grey_iff.1 hr).1
        have h0 : 0 ≤ r := by simp only [hasR, Bool.and_eq_true, decide_eq_true_eq] at hm; exact hm.1
        have h2 := hb r hm
        have h3 : r.toNat ∈ els M.n M.mr := (mem_els).2 ⟨by omega, by simp only [hasR, Bool.and_eq_true, decide_eq_true_eq] at hm; exact hm.2⟩
        have := h r.toNat h3 (by rw [show ((r.toNat : Nat) : Int) = r by omega]; exact hr)
        rwa [show ((r.toNat : Nat) : Int) = r by omega] at this
    obtain ⟨q1, q2, q3⟩ := N.pop_spec hfN
    refine ⟨q1, fun he q => ?_⟩
    rw [← hgr]
    rcases q2 he with h | h
    · exfalso
      by_cases hst : N.st = []
      · rw [hgood.2 hst] at h; cases h
      · obtain ⟨l, r, hl⟩ : ∃ l r, N.st = l ++ [r] := ⟨N.st.dropLast, N.st.getLast hst, (List.dropLast_concat_getLast hst).symm⟩
        have := Mk.pop_grey hl (hgood.1 r (by rw [hl]; simp))
        rw [this] at he; cases he
    · exact h q
  · rw [if_neg hc]
    refine ⟨p1, fun he => ?_⟩
    rcases p2 he with h | h
    · exact absurd ⟨he, h⟩ hc
    · exact h

/-- What a trace does. -/
structure Traced (P : Int → List Int) (l : List Int) (R : Int → Prop) (M : Mk) (k : Nat) (j : Nat) (M' : Mk) : Prop where
  tr : Tr P P l R M'
  le : j ≤ k
  mono : ∀ q, hasR M.mr q = true → hasR M'.mr q = true
  smono : ∀ q, hasR M.sc q = true → hasR M'.sc q = true
  dry : j < k → ∀ q, M'.isGrey q = false
  cnt : ∃ new : List Int, new.length = j ∧ new.Nodup ∧ (∀ q ∈ new, hasR M.sc q = false) ∧ ∀ q, hasR M'.sc q = true ↔ q ∈ new ∨ hasR M.sc q = true

theorem Tr.next {P : Int → List Int} {l : List Int} {R : Int → Prop} {M : Mk} (h : Tr P P l R M) (hP : ∀ r ∈ l, ∀ y ∈ P r, y ∈ l) {r : Int} (hn : M.next.1 = some r) :
    Tr P P l R (Mk.scan P M.next.2 r) ∧ hasR M.sc r = false ∧ (∀ q, hasR M.mr q = true → hasR (Mk.scan P M.next.2 r).mr q = true) ∧ (∀ q, hasR (Mk.scan P M.next.2 r).sc q = true ↔ q = r ∨ hasR M.sc q = true) := by
  obtain ⟨s1, -⟩ := Mk.next_spec h.full h.room (fun q hq => (h.bd q (h.inl q hq)).2)
  have hx := s1 r hn
  have hg := Mk.grey_iff.1 (Mk.next_isGrey hn)
  obtain ⟨i1, i2, i3⟩ := M.ids_next
  simp only [Mk.ids, Prod.mk.injEq] at i1
  have hrl := h.inl r hg.1
  have hb := h.bd r hrl
  generalize M.next.2 = N at *
  have hsc : ∀ q, hasR (putS N.n N.sc r) q = true ↔ q = r ∨ hasR M.sc q = true := fun q => by rw [hasR_put (by omega), i3]
  have h1 : Tr (fun q => if q = r then [] else P q) P l R { N with sc := putS N.n N.sc r } := by
    refine ⟨?_, by show 1 ≤ N.room; rw [i1.2.2.2.2.2]; exact h.room, fun q hq => ?_, fun q hq => h.inl q (by rw [← i2]; exact hq), fun q hq => by show 1 ≤ q ∧ q < N.n; rw [i1.2.2.2.2.1]; exact h.bd q hq, fun q hq y hy => ?_, fun q hq => h.rc q (by rw [← i2]; exact hq)⟩
    · rcases hx with e | e
      · exact .inl e
      · refine .inr fun q hq => ?_
        obtain ⟨g1, g2⟩ := Mk.grey_iff.1 hq
        have hqr : q ≠ r := fun e => by
          have := (hsc q).2 (.inl e)
          simp only at g2; rw [g2] at this; cases this
        have hms : hasR M.sc q = false := by
          cases hh : hasR M.sc q with
          | false => rfl
          | true => have := (hsc q).2 (.inr hh); simp only at g2; rw [g2] at this; cases this
        exact (e q (Mk.grey_iff.2 ⟨g1, by rw [i3]; exact hms⟩)).resolve_left hqr
    · show hasR N.mr q = true
      rw [i2]
      rcases (hsc q).1 hq with e | e
      · rw [e]; exact hg.1
      · exact h.scm q e
    · show hasR N.mr y = true
      rw [i2]
      by_cases hqr : q = r
      · rw [if_pos hqr] at hy; cases hy
      · rw [if_neg hqr] at hy
        exact h.cl q (((hsc q).1 hq).resolve_left hqr) y hy
  obtain ⟨k1, k2, k3⟩ := Tr.shadeL (P r) h1 (fun y hy => ⟨hP r hrl y hy, .step (h.rc r hg.1) hy⟩)
  have hscan : Mk.scan P N r = Mk.shadeL { N with sc := putS N.n N.sc r } (P r) := rfl
  rw [hscan]
  refine ⟨⟨k1.full, k1.room, k1.scm, k1.inl, k1.bd, fun q hq y hy => ?_, k1.rc⟩, hg.2, fun q hq => (k2 q).2 (.inr (by show hasR N.mr q = true; rw [i2]; exact hq)), fun q => by rw [k3]; exact hsc q⟩
  by_cases hqr : q = r
  · exact (k2 y).2 (.inl (hqr ▸ hy))
  · exact k1.cl q hq y (by rw [if_neg hqr]; exact hy)
theorem Tr.trace {P : Int → List Int} {l : List Int} {R : Int → Prop} (hP : ∀ r ∈ l, ∀ y ∈ P r, y ∈ l) : ∀ (k : Nat) {M : Mk}, Tr P P l R M → Traced P l R M k (Mk.trace P k M).1 (Mk.trace P k M).2
  | 0, M, h => ⟨h, Nat.le_refl _, fun _ h => h, fun _ h => h, fun h => absurd h (Nat.lt_irrefl _), [], rfl, List.nodup_nil, (fun q hq => by cases hq), fun q => by simp [Mk.trace]⟩
  | k + 1, M, h => by
    cases hn : M.next.1 with
    | none =>
      rw [Mk.trace_none k hn]
      obtain ⟨-, s2⟩ := Mk.next_spec h.full h.room (fun q hq => (h.bd q (h.inl q hq)).2)
      have hd := s2 hn
      obtain ⟨i1, i2, i3⟩ := M.ids_next
      simp only [Mk.ids, Prod.mk.injEq] at i1
      simp only
      generalize M.next.2 = N at *
      have hgN : ∀ q, N.isGrey q = false := fun q => by have := hd q; unfold Mk.isGrey at this ⊢; rw [i2, i3]; exact this
      refine ⟨⟨.inr fun q hq => (by rw [hgN q] at hq; cases hq), by rw [i1.2.2.2.2.2]; exact h.room, by rw [i2, i3]; exact h.scm, by rw [i2]; exact h.inl, by rw [i1.2.2.2.2.1]; exact h.bd, by rw [i2, i3]; exact h.cl, by rw [i2]; exact h.rc⟩, Nat.zero_le _, by rw [i2]; exact fun _ h => h, by rw [i3]; exact fun _ h => h, fun _ => hgN, [], rfl, List.nodup_nil, (fun q hq => by cases hq), fun q => by rw [i3]; simp⟩
    | some r =>
      rw [Mk.trace_some k hn]
      obtain ⟨h1, h2, h3, h4⟩ := h.next hP hn
      obtain ⟨t1, t2, t3, t4, t5, new, n1, n2, n3, n4⟩ := Tr.trace hP k h1
      refine ⟨t1, by simp only; omega, fun q hq => t3 q (h3 q hq), fun q hq => t4 q ((h4 q).2 (.inr hq)), fun hj => t5 (by simp only at hj; omega), r :: new, by simp [n1], List.nodup_cons.2 ⟨fun hm => ?_, n2⟩, fun q hq => ?_, fun q => ?_⟩
      · have := n3 r hm
        rw [(h4 r).2 (.inl rfl)] at this; cases this
      · rcases List.mem_cons.1 hq with rfl | hq
        · exact h2
        · cases hh : hasR M.sc q with
          | false => rfl
          | true => have := n3 q hq; rw [(h4 q).2 (.inr hh)] at this; cases this
      · rw [n4 q, h4 q, List.mem_cons]
        constructor
        · rintro (a | a | a)
          · exact .inl (.inr a)
          · exact .inl (.inl a)
          · exact .inr a
        · rintro ((a | a) | a)
          · exact .inr (.inl a)
          · exact .inl a
          · exact .inr (.inr a)
/-- Where nothing is grey, what is marked is closed. -/
theorem Tr.closed {P : Int → List Int} {l : List Int} {R : Int → Prop} {M : Mk} (h : Tr P P l R M) (hd : ∀ q, M.isGrey q = false) (hR : ∀ r, R r → hasR M.mr r = true) (q : Int) : hasR M.mr q = true ↔ Reached P R q := by
  have hs : ∀ q, hasR M.mr q = true → hasR M.sc q = true := fun q hq => by
    cases hh : hasR M.sc q with
    | true => rfl
    | false => have := hd q; rw [Mk.grey_iff.2 ⟨hq, hh⟩] at this; cases this
  refine ⟨h.rc q, fun hr => ?_⟩
  induction hr with
  | root h1 => exact hR _ h1
  | step _ hy ih => exact h.cl _ (hs _ ih) _ hy
end Go.Hw
