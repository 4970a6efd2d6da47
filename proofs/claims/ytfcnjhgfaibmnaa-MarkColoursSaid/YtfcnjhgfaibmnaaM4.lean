/- What the objects of a graph are: plain. -/
import Derived.Test.YtfcnjhgfaibmnaaC2
namespace Go.Hw

theorem wordAt_out {A : Ar} {S : Nat → Bool} {r : Int} (h : ¬ hasR S r = true) (j : Int) : wordAt A S r j = 0 := by
  unfold wordAt wordOk
  rw [Bool.not_eq_true] at h
  rw [h]; rfl
theorem Wf.wordAt_setI {A : Ar} {S : Nat → Bool} (h : Wf A S) {r q i j x : Int} (hk : wordOk A S r i = true) :
    wordAt (Hw.setWord A S r i x) S q j = if q = r ∧ j = i then x else wordAt A S q j := by
  have hr : 0 ≤ r := by
    simp only [wordOk, hasR, Bool.and_eq_true, decide_eq_true_eq] at hk; exact hk.1.1.1
  obtain ⟨n, rfl⟩ := Int.eq_ofNat_of_zero_le hr
  by_cases hq : hasR S q = true
  · simp only [hasR, Bool.and_eq_true, decide_eq_true_eq] at hq
    obtain ⟨k, rfl⟩ := Int.eq_ofNat_of_zero_le hq.1
    rw [h.wordAt_set hk]
    simp only [Int.ofNat_eq_natCast, Int.natCast_inj]
  · rw [wordAt_out hq, wordAt_out hq, if_neg]
    rintro ⟨rfl, -⟩
    simp only [wordOk, Bool.and_eq_true] at hk
    exact hq hk.1.1

structure Objs (A : Ar) (S : Nat → Bool) (l : List Int) : Prop where
  wf : Wf A S
  nd : l.Nodup
  mem : ∀ r, r ∈ l ↔ hasR S r = true
  fl : ∀ r ∈ l, 0 ≤ wordAt A S r 0 ∧ wordAt A S r 0 ≤ 6
  tgt : ∀ r ∈ l, ∀ j : Int, 2 ≤ j → wordAt A S r j = 0 ∨ wordAt A S r j ∈ l
  free : 64 ≤ A.free + l.length

theorem Objs.pos {A : Ar} {S : Nat → Bool} {l : List Int} (h : Objs A S l) {r : Int} (hr : r ∈ l) : 1 ≤ r ∧ r ≤ 2049 := by
  have h1 := (h.mem r).1 hr
  simp only [hasR, Bool.and_eq_true, decide_eq_true_eq] at h1
  have h2 := h.wf.fits _ h1.2
  have h3 := h.wf.n1
  have h4 := words_bd (clsAt A (pageAt A ((r.toNat : Nat) : Int)))
  omega

theorem Objs.bd {A : Ar} {S : Nat → Bool} {l : List Int} (h : Objs A S l) {r : Int} (hr : r ∈ l) : 1 ≤ r ∧ r < (32 * A.pages.length + 1 : Nat) := by
  refine ⟨(h.pos hr).1, ?_⟩
  have h1 := (h.mem r).1 hr
  simp only [hasR, Bool.and_eq_true, decide_eq_true_eq] at h1
  obtain ⟨p, hp, i, hi, e⟩ := h.wf.al _ h1.2
  have h2 := cell_span hi
  rw [refOf_eq hi] at e
  omega

theorem Objs.room {A : Ar} {S : Nat → Bool} {l : List Int} (h : Objs A S l) (hl : l.length < 64) {f : Int} : ∃ (n : Nat) (A' : Ar), takeOf A S (classOf f) = some ((n : Int), A') ∧ Took A S (classOf f) n A' := by
  have hf := h.free
  have hb := class_bd f
  cases ht : takeOf A S (classOf f) with
  | none => have h1 := take_none ht; rw [room_of_free hb (by omega)] at h1; cases h1
  | some x =>
    obtain ⟨r, A'⟩ := x
    obtain ⟨n, rfl, T⟩ := take_spec h.wf hb ht
    exact ⟨n, A', rfl, T⟩

theorem Objs.add {A A' : Ar} {S : Nat → Bool} {l : List Int} (h : Objs A S l) {f : Int} (hf : 0 ≤ f ∧ f ≤ 6) {n : Nat} (T : Took A S (classOf f) n A') : Objs (setWord A' (addTo S n) n 0 f) (addTo S n) (l ++ [(n : Int)]) := by
  have hn : (n : Int) ∉ l := fun hm => by
    have h1 := (h.mem _).1 hm
    simp only [hasR, Bool.and_eq_true, decide_eq_true_eq] at h1
    rw [show ((n : Int)).toNat = n by omega, T.fresh] at h1
    cases h1.2
  have hadd : ∀ k : Nat, addTo S n k = if k = n then true else S k := fun k => by
    unfold addTo
    by_cases hk : k = n
    · simp [hk]
    · have : ¬ ((k : Int) = (n : Int)) := by omega
      simp [hk, this]
  have hok : wordOk A' (addTo S n) n 0 = true := by
    have hw : 0 < wordsOf (classOf f) := by
      have hb := class_bd f
      rcases words_cases (classOf f) with ⟨-, -, h3⟩ | ⟨-, h2, -⟩ | ⟨-, h2, -⟩ | ⟨-, h2, -⟩ <;> omega
    simp only [wordOk, hasR, Bool.and_eq_true, decide_eq_true_eq, T.cls, hw, and_true]
    refine ⟨⟨by omega, ?_⟩, by omega⟩
    rw [hadd]; simp
  have hword : ∀ (r j : Int), r ∈ l → wordAt (setWord A' (addTo S n) n 0 f) (addTo S n) r j = wordAt A S r j := by
    intro r j hr
    rw [T.wf.wordAt_setI hok, if_neg (fun e : r = (n : Int) ∧ j = 0 => hn (e.1 ▸ hr))]
    have h1 := (h.mem _).1 hr
    simp only [hasR, Bool.and_eq_true, decide_eq_true_eq] at h1
    have := T.old r.toNat j h1.2
    rwa [show ((r.toNat : Nat) : Int) = r by omega] at this
  have hnew : ∀ j : Int, wordAt (setWord A' (addTo S n) n 0 f) (addTo S n) n j = if j = 0 then f else 0 := by
    intro j
    rw [T.wf.wordAt_setI hok, T.zero]
    by_cases hj : j = 0 <;> simp [hj]
  refine ⟨T.wf.setWord _ _ _, ?_, ?_, ?_, ?_, ?_⟩
  · rw [List.nodup_append]
    exact ⟨h.nd, by simp, fun a ha b hb => by simp at hb; subst hb; exact fun e => hn (e ▸ ha)⟩
  · intro r
    rw [List.mem_append, h.mem r, List.mem_singleton]
    simp only [hasR, Bool.and_eq_true, decide_eq_true_eq, hadd]
    constructor
    · rintro (⟨h1, h2⟩ | rfl)
      · exact ⟨h1, by simp [h2]⟩
      · exact ⟨by omega, by simp⟩
    · rintro ⟨h1, h2⟩
      by_cases hr : r.toNat = n
      · right; omega
      · left; simp [hr] at h2; exact ⟨h1, h2⟩
  · intro r hr
    rcases List.mem_append.1 hr with hr | hr
    · rw [hword _ _ hr]; exact h.fl r hr
    · rw [List.mem_singleton] at hr; subst hr; rw [hnew]; simp; omega
  · intro r hr j hj
    rcases List.mem_append.1 hr with hr | hr
    · rw [hword _ _ hr]
      rcases h.tgt r hr j hj with h1 | h1
      · exact .inl h1
      · exact .inr (List.mem_append_left _ h1)
    · rw [List.mem_singleton] at hr; subst hr; rw [hnew, if_neg (by omega)]; exact .inl rfl
  · obtain ⟨-, h2, -⟩ := setWord_pages A' (addTo S n) n 0 f
    have := T.free
    have := h.free
    rw [h2, List.length_append]; simp; omega

theorem Objs.set {A : Ar} {S : Nat → Bool} {l : List Int} (h : Objs A S l) {x i y : Int} (hi : 0 ≤ i) (hy : y ∈ l) : Objs (setField A S x i y) S l := by
  unfold setField
  by_cases hc : chk A S x i = 0
  · rw [if_pos hc]
    by_cases hok : wordOk A S x (2 + i) = true
    · have hw : ∀ (r j : Int), wordAt (setWord A S x (2 + i) y) S r j = if r = x ∧ j = 2 + i then y else wordAt A S r j := fun r j => h.wf.wordAt_setI hok
      refine ⟨h.wf.setWord _ _ _, h.nd, h.mem, ?_, ?_, ?_⟩
      · intro r hr; rw [hw, if_neg (by omega)]; exact h.fl r hr
      · intro r hr j hj
        rw [hw]
        by_cases he : r = x ∧ j = 2 + i
        · rw [if_pos he]; exact .inr hy
        · rw [if_neg he]; exact h.tgt r hr j hj
      · obtain ⟨-, h2, -⟩ := setWord_pages A S x (2 + i) y
        rw [h2]; exact h.free
    · unfold setWord; rw [if_neg hok]; exact h
  · rw [if_neg hc]; exact h

theorem Objs.pts {A : Ar} {S : Nat → Bool} {l : List Int} (h : Objs A S l) {r y : Int} (hr : r ∈ l) (hy : y ∈ pts A S r) : y ∈ l := by
  unfold Hw.pts at hy
  generalize (wordAt A S r 0).toNat = n at hy
  induction n with
  | zero => simp [ptsTo] at hy
  | succ k ih =>
    rw [ptsTo_succ] at hy
    rcases List.mem_append.1 hy with h1 | h1
    · exact ih h1
    · split at h1
      · cases h1
      · rw [List.mem_singleton] at h1
        rcases h.tgt r hr (2 + k) (by omega) with h2 | h2
        · exact absurd h2 (by assumption)
        · rw [h1]; exact h2
end Go.Hw
