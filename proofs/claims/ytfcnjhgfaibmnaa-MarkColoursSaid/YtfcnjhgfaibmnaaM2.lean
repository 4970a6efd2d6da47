/- Arenas that are in order: what taking a cell and setting a word do. No program. -/
import Derived.Test.YtfcnjhgfaibmnaaM1
namespace Go.Hw

def cls (A : Ar) (p : Nat) : Int := (A.pages.getD p (0, 0)).1
def tkn (A : Ar) (p : Nat) : Int := (A.pages.getD p (0, 0)).2
def cntOf (S : Nat → Bool) (p c : Int) : Nat := ((List.range (cellsOf c).toNat).filter fun i : Nat => hasR S (refOf p c i)).length

structure Wf (A : Ar) (S : Nat → Bool) : Prop where
  n0 : 0 < A.pages.length
  n1 : A.pages.length ≤ 64
  wl : A.words.length = 32 * A.pages.length
  cl : ∀ p, p < A.pages.length → -1 ≤ cls A p ∧ cls A p ≤ 2
  al : ∀ r : Nat, S r = true → ∃ p, p < A.pages.length ∧ ∃ i : Nat, (i : Int) < cellsOf (cls A p) ∧ (r : Int) = refOf p (cls A p) i
  cnt : ∀ p, p < A.pages.length → tkn A p = cntOf S p (cls A p)
  pos : ∀ p, p < A.pages.length → 0 ≤ cls A p → 0 < tkn A p
  fr : A.free = (((List.range A.pages.length).filter fun p => decide (cls A p < 0)).length : Nat)

/-- Where a cell lies. -/
theorem refOf_eq {p c : Int} {i : Nat} (hi : (i : Int) < cellsOf c) : refOf p c i = p * 32 + i * wordsOf c + 1 := by
  unfold refOf
  rw [if_neg (by omega)]
theorem cell_span {c : Int} {i : Nat} (hi : (i : Int) < cellsOf c) : 0 ≤ (i : Int) * wordsOf c ∧ (i : Int) * wordsOf c + wordsOf c ≤ 32 ∧ 2 ≤ wordsOf c := by
  rcases words_cases c with ⟨h1, h2, -⟩ | ⟨-, h1, h2⟩ | ⟨-, h1, h2⟩ | ⟨-, h1, h2⟩ <;> rw [h1] <;> omega
theorem ref_page {A : Ar} {p : Nat} {c : Int} {i : Nat} (hp : p < A.pages.length) (hi : (i : Int) < cellsOf c) : pageAt A (refOf p c i) = p := by
  have h := cell_span hi
  rw [refOf_eq hi]
  unfold pageAt
  rw [if_neg (by omega)]
  omega
theorem clsAt_eq {A : Ar} {p : Nat} (hp : p < A.pages.length) : clsAt A p = cls A p := by
  unfold clsAt cls
  rw [if_neg (by omega), Int.toNat_natCast]

theorem ref_inj {p q : Nat} {c : Int} {i j : Nat} (hi : (i : Int) < cellsOf c) (hj : (j : Int) < cellsOf c) (h : refOf p c i = refOf q c j) : p = q ∧ i = j := by
  rw [refOf_eq hi, refOf_eq hj] at h
  rcases words_cases c with ⟨h1, h2, -⟩ | ⟨-, h1, h2⟩ | ⟨-, h1, h2⟩ | ⟨-, h1, h2⟩ <;> rw [h1] at h <;> omega

theorem Wf.page {A : Ar} {S : Nat → Bool} (h : Wf A S) {r : Nat} (hr : S r = true) : ∃ p, p < A.pages.length ∧ pageAt A r = p ∧ clsAt A (pageAt A r) = cls A p ∧ ∃ i : Nat, (i : Int) < cellsOf (cls A p) ∧ (r : Int) = refOf p (cls A p) i := by
  obtain ⟨p, hp, i, hi, e⟩ := h.al r hr
  have e1 : pageAt A r = p := by rw [e]; exact ref_page hp hi
  exact ⟨p, hp, e1, by rw [e1, clsAt_eq hp], i, hi, e⟩

theorem Wf.fits {A : Ar} {S : Nat → Bool} (h : Wf A S) : ∀ r : Nat, S r = true → 1 ≤ r ∧ (r : Int) - 1 + wordsOf (clsAt A (pageAt A r)) ≤ 32 * A.pages.length := by
  intro r hr
  obtain ⟨p, hp, -, e2, i, hi, e⟩ := h.page hr
  rw [e2]
  have hs := cell_span hi
  rw [refOf_eq hi] at e
  omega

theorem filter_length_le {α : Type} (l : List α) (f : α → Bool) : (l.filter f).length ≤ l.length := List.length_filter_le f l
theorem cntOf_le (S : Nat → Bool) (p c : Int) : (cntOf S p c : Int) ≤ cellsOf c := by
  have h1 := filter_length_le (List.range (cellsOf c).toNat) fun i : Nat => hasR S (refOf p c i)
  have h2 := cells_bd c
  unfold cntOf
  simp only [List.length_range] at h1
  omega
theorem Wf.cntb {A : Ar} {S : Nat → Bool} (h : Wf A S) : ∀ p, 0 ≤ (A.pages.getD p (0, 0)).2 ∧ (A.pages.getD p (0, 0)).2 ≤ 16 := by
  intro p
  rcases Nat.lt_or_ge p A.pages.length with hp | hp
  · have h1 := h.cnt p hp
    have h2 := cntOf_le S p (cls A p)
    have h3 := cells_bd (cls A p)
    unfold tkn at h1
    omega
  · have : A.pages.getD p (0, 0) = (0, 0) := by simp [List.getD, hp]
    rw [this]; simp
theorem Wf.freeb {A : Ar} {S : Nat → Bool} (h : Wf A S) : 0 ≤ A.free ∧ A.free ≤ 64 := by
  have h1 := filter_length_le (List.range A.pages.length) fun p => decide (cls A p < 0)
  have h2 := h.fr
  have h3 := h.n1
  simp only [List.length_range] at h1
  omega
theorem Wf.freex {A : Ar} {S : Nat → Bool} (h : Wf A S) (hf : A.free > 0) : ∃ p, p < A.pages.length ∧ (A.pages.getD p (0, 0)).1 < 0 := by
  have h2 := h.fr
  have hne : (List.range A.pages.length).filter (fun p => decide (cls A p < 0)) ≠ [] := by
    intro e; rw [e] at h2; simp at h2; omega
  obtain ⟨p, hp⟩ := List.exists_mem_of_ne_nil _ hne
  simp only [List.mem_filter, List.mem_range, decide_eq_true_eq] at hp
  exact ⟨p, hp.1, hp.2⟩

/-! ### words -/
theorem wordOk_iff {A : Ar} {S : Nat → Bool} {r : Nat} {i : Int} : wordOk A S r i = true ↔ S r = true ∧ 0 ≤ i ∧ i < wordsOf (clsAt A (pageAt A r)) := by
  unfold wordOk hasR
  simp only [Bool.and_eq_true, decide_eq_true_eq, Int.toNat_natCast]
  constructor
  · rintro ⟨⟨⟨-, h1⟩, h2⟩, h3⟩; exact ⟨h1, h2, h3⟩
  · rintro ⟨h1, h2, h3⟩; exact ⟨⟨⟨by omega, h1⟩, h2⟩, h3⟩

/-- Two cells that are taken don't meet. -/
theorem Wf.apart {A : Ar} {S : Nat → Bool} (h : Wf A S) {r q : Nat} (hr : S r = true) (hq : S q = true) (hne : r ≠ q) {i j : Int} (hi : 0 ≤ i ∧ i < wordsOf (clsAt A (pageAt A r))) (hj : 0 ≤ j ∧ j < wordsOf (clsAt A (pageAt A q))) :
    (r : Int) - 1 + i ≠ (q : Int) - 1 + j := by
  obtain ⟨p, hp, -, e2, a, ha, e⟩ := h.page hr
  obtain ⟨p', hp', -, e2', a', ha', e'⟩ := h.page hq
  rw [e2] at hi
  rw [e2'] at hj
  intro hc
  have s1 := cell_span ha
  have s2 := cell_span ha'
  have hrq : (r : Int) ≠ q := by omega
  rw [refOf_eq ha] at e
  rw [refOf_eq ha'] at e'
  have hpp : p = p' := by omega
  subst hpp
  rcases words_cases (cls A p) with ⟨h1, h2, -⟩ | ⟨-, h1, h2⟩ | ⟨-, h1, h2⟩ | ⟨-, h1, h2⟩ <;> rw [h1] at e e' hi hj <;> omega

theorem setWord_pages (A : Ar) (S : Nat → Bool) (r i x : Int) : (setWord A S r i x).pages = A.pages ∧ (setWord A S r i x).free = A.free ∧ (setWord A S r i x).sp = A.sp ∧ (setWord A S r i x).pb = A.pb ∧ (setWord A S r i x).wb = A.wb ∧ (setWord A S r i x).words.length = A.words.length := by
  unfold setWord; split <;> simp
theorem pageAt_congr {A B : Ar} (h : B.pages = A.pages) (r : Int) : pageAt B r = pageAt A r := by unfold pageAt; rw [h]
theorem clsAt_congr {A B : Ar} (h : B.pages = A.pages) (p : Int) : clsAt B p = clsAt A p := by unfold clsAt; rw [h]
theorem Wf.setWord {A : Ar} {S : Nat → Bool} (h : Wf A S) (r i x : Int) : Wf (setWord A S r i x) S := by
  obtain ⟨h1, h2, -, -, -, h3⟩ := setWord_pages A S r i x
  have hc : ∀ p, cls (Hw.setWord A S r i x) p = cls A p := fun p => by unfold cls; rw [h1]
  have ht : ∀ p, tkn (Hw.setWord A S r i x) p = tkn A p := fun p => by unfold tkn; rw [h1]
  refine ⟨by rw [h1]; exact h.n0, by rw [h1]; exact h.n1, by rw [h1, h3]; exact h.wl, ?_, ?_, ?_, ?_, ?_⟩
  · intro p hp; rw [hc]; exact h.cl p (by rwa [h1] at hp)
  · intro q hq; obtain ⟨p, hp, i', hi, e⟩ := h.al q hq; exact ⟨p, by rwa [h1], i', by rw [hc]; exact hi, by rw [hc]; exact e⟩
  · intro p hp; rw [ht, hc]; exact h.cnt p (by rwa [h1] at hp)
  · intro p hp hp'; rw [ht]; rw [hc] at hp'; exact h.pos p (by rwa [h1] at hp) hp'
  · rw [h1, h2, h.fr]; simp only [hc]
theorem setWord_ok (A : Ar) (S : Nat → Bool) (r i x q j : Int) : wordOk (Hw.setWord A S r i x) S q j = wordOk A S q j := by
  obtain ⟨h1, -⟩ := setWord_pages A S r i x
  unfold wordOk
  rw [pageAt_congr h1, clsAt_congr h1]

theorem Wf.wordAt_set {A : Ar} {S : Nat → Bool} (h : Wf A S) {r q : Nat} {i j x : Int} (hk : wordOk A S r i = true) :
    wordAt (Hw.setWord A S r i x) S q j = if q = r ∧ j = i then x else wordAt A S q j := by
  have hF := h.fits
  unfold wordAt
  rw [setWord_ok]
  by_cases hq : wordOk A S q j = true
  · simp only [hq, if_true]
    rw [Hw.setWord, if_pos hk]
    simp only
    obtain ⟨a1, a2, a3⟩ := wordOk_iff.1 hk
    obtain ⟨b1, b2, b3⟩ := wordOk_iff.1 hq
    have f1 := hF r a1
    have f2 := hF q b1
    have hwl := h.wl
    by_cases hqr : q = r
    · subst hqr
      by_cases hji : j = i
      · subst hji
        rw [if_pos ⟨rfl, rfl⟩]
        simp only [List.getD, List.getElem?_set]
        rw [if_pos trivial, if_pos (by omega)]; rfl
      · rw [if_neg (fun e => hji e.2)]
        simp only [List.getD, List.getElem?_set]
        rw [if_neg (by omega)]
    · rw [if_neg (fun e => hqr e.1)]
      have hap := h.apart a1 b1 (fun e => hqr e.symm) ⟨a2, a3⟩ ⟨b2, b3⟩
      simp only [List.getD, List.getElem?_set]
      rw [if_neg (by omega)]
  · have hq' : wordOk A S q j = false := by simpa using hq
    simp only [hq']
    by_cases hc : q = r ∧ j = i
    · obtain ⟨rfl, rfl⟩ := hc
      rw [hk] at hq'; cases hq'
    · rw [if_neg hc]; simp

/-! ### taking a cell -/
theorem filter_add (f g : Nat → Bool) (i : Nat) (hf : f i = false) (hg : g i = true) : ∀ n, (∀ j, j < n → j ≠ i → g j = f j) → ((List.range n).filter g).length = ((List.range n).filter f).length + if i < n then 1 else 0
  | 0, _ => by simp
  | n + 1, h => by
    have ih := filter_add f g i hf hg n (fun j hj => h j (by omega))
    rw [List.range_succ, List.filter_append, List.filter_append, List.length_append, List.length_append, ih]
    by_cases hn : n = i
    · subst hn
      simp [hf, hg]
    · have e : (List.filter g [n]).length = (List.filter f [n]).length := by simp [List.filter_cons, h n (by omega) hn]
      by_cases hlt : i < n
      · rw [if_pos hlt, if_pos (by omega)]; omega
      · rw [if_neg hlt, if_neg (by omega)]; omega
theorem filter_congr_len {f g : Nat → Bool} {n : Nat} (h : ∀ j, j < n → f j = g j) : ((List.range n).filter f).length = ((List.range n).filter g).length := by
  rw [List.filter_congr (fun j hj => h j (by simpa using hj))]

theorem addTo_ref (S : Nat → Bool) (r : Nat) : ∀ k, addTo S r k = if k = r then true else S k := by
  intro k; unfold addTo; by_cases h : k = r
  · simp [h]
  · rw [if_neg (by omega), if_neg h]
theorem hasR_nat (S : Nat → Bool) (n : Nat) : hasR S n = S n := by simp [hasR]
theorem ref_nat {p : Nat} {c : Int} {i : Nat} (hi : (i : Int) < cellsOf c) : ∃ n : Nat, refOf p c i = n ∧ 1 ≤ n := by
  rw [refOf_eq hi]
  have := cell_span hi
  exact ⟨(p * 32 + i * wordsOf c + 1 : Int).toNat, by omega, by omega⟩

theorem cnt_add {S : Nat → Bool} {p : Nat} {c : Int} {i : Nat} (hi : (i : Int) < cellsOf c) (hs : hasR S (refOf p c i) = false) : cntOf (addTo S (refOf p c i)) p c = cntOf S p c + 1 := by
  unfold cntOf
  have hb := cells_bd c
  obtain ⟨n, hn, -⟩ := ref_nat (p := p) hi
  rw [filter_add (fun j : Nat => hasR S (refOf p c j)) (fun j : Nat => hasR (addTo S (refOf p c i)) (refOf p c j)) i hs (by rw [hn]; rw [hasR_nat, addTo_ref]; simp) (cellsOf c).toNat ?_, if_pos (by omega)]
  intro j hj1 hj
  · have hjc : (j : Int) < cellsOf c := by omega
    obtain ⟨m, hm, -⟩ := ref_nat (p := p) hjc
    have : m ≠ n := fun e => hj (ref_inj hjc hi (by rw [hm, hn, e])).2
    rw [hn, hm, hasR_nat, hasR_nat, addTo_ref, if_neg this]
theorem cnt_other {S : Nat → Bool} {p q : Nat} {c d : Int} {i : Nat} (hi : (i : Int) < cellsOf c) (hpq : q ≠ p) : cntOf (addTo S (refOf p c i)) q d = cntOf S q d := by
  unfold cntOf
  have hb := cells_bd d
  refine filter_congr_len fun j hj => ?_
  have hj' : (j : Int) < cellsOf d := by omega
  obtain ⟨n, hn, -⟩ := ref_nat (p := p) hi
  obtain ⟨m, hm, -⟩ := ref_nat (p := q) hj'
  have s1 := cell_span hi
  have s2 := cell_span hj'
  have : m ≠ n := by
    intro e
    rw [refOf_eq hi] at hn
    rw [refOf_eq hj'] at hm
    omega
  rw [hn, hm, hasR_nat, hasR_nat, addTo_ref, if_neg this]

structure Wfq (A : Ar) (S : Nat → Bool) (p0 : Nat) : Prop where
  n0 : 0 < A.pages.length
  n1 : A.pages.length ≤ 64
  wl : A.words.length = 32 * A.pages.length
  cl : ∀ p, p < A.pages.length → -1 ≤ cls A p ∧ cls A p ≤ 2
  al : ∀ r : Nat, S r = true → ∃ p, p < A.pages.length ∧ ∃ i : Nat, (i : Int) < cellsOf (cls A p) ∧ (r : Int) = refOf p (cls A p) i
  cnt : ∀ p, p < A.pages.length → tkn A p = cntOf S p (cls A p)
  pos : ∀ p, p ≠ p0 → p < A.pages.length → 0 ≤ cls A p → 0 < tkn A p
  fr : A.free = (((List.range A.pages.length).filter fun p => decide (cls A p < 0)).length : Nat)
theorem Wf.q {A : Ar} {S : Nat → Bool} (h : Wf A S) (p0 : Nat) : Wfq A S p0 := ⟨h.n0, h.n1, h.wl, h.cl, h.al, h.cnt, fun p _ => h.pos p, h.fr⟩

theorem Wf.open {A : Ar} {S : Nat → Bool} (h : Wf A S) {p : Nat} {c : Int} (hp : p < A.pages.length) (hc : cls A p < 0) (h0 : 0 ≤ c ∧ c ≤ 2) : Wfq (openPage A p c) S p := by
  have hl : (openPage A p c).pages.length = A.pages.length := by simp [openPage]
  have hcl : ∀ q, cls (openPage A p c) q = if q = p then c else cls A q := by
    intro q
    unfold cls openPage
    simp only [List.getD, List.getElem?_set]
    by_cases hq : p = q
    · subst hq; simp [hp]
    · rw [if_neg hq, if_neg (fun e => hq e.symm)]
  have htk : ∀ q, tkn (openPage A p c) q = if q = p then 0 else tkn A q := by
    intro q
    unfold tkn openPage
    simp only [List.getD, List.getElem?_set]
    by_cases hq : p = q
    · subst hq; simp [hp]
    · rw [if_neg hq, if_neg (fun e => hq e.symm)]
  have hno : ∀ r : Nat, S r = true → ∀ q, q < A.pages.length → ∀ i : Nat, (i : Int) < cellsOf (cls A q) → (r : Int) = refOf q (cls A q) i → q ≠ p := by
    intro r _ q _ i hi _ e
    subst e
    rcases words_cases (cls A q) with ⟨h1, h2, -⟩ | ⟨h3, h1, h2⟩ | ⟨h3, h1, h2⟩ | ⟨h3, h1, h2⟩ <;> omega
  refine ⟨by rw [hl]; exact h.n0, by rw [hl]; exact h.n1, by rw [hl]; exact h.wl, ?_, ?_, ?_, ?_, ?_⟩
  · intro q hq; rw [hcl]; split
    · omega
    · exact h.cl q (by rwa [hl] at hq)
  · intro r hr
    obtain ⟨q, hq, i, hi, e⟩ := h.al r hr
    have hqp := hno r hr q hq i hi e
    exact ⟨q, by rwa [hl], i, by rw [hcl, if_neg hqp]; exact hi, by rw [hcl, if_neg hqp]; exact e⟩
  · intro q hq
    rw [hl] at hq
    rw [htk, hcl]
    by_cases hqp : q = p
    · subst hqp
      rw [if_pos rfl, if_pos rfl]
      have : cntOf S q c = 0 := by
        unfold cntOf
        rw [List.length_eq_zero_iff, List.filter_eq_nil_iff]
        intro j hj hs
        have hj' : (j : Int) < cellsOf c := by have := List.mem_range.1 hj; omega
        obtain ⟨n, hn, -⟩ := ref_nat (p := q) hj'
        rw [hn, hasR_nat] at hs
        obtain ⟨q', hq', i', hi', e'⟩ := h.al n hs
        have hne := hno n hs q' hq' i' hi' e'
        have s1 := cell_span hj'
        have s2 := cell_span hi'
        rw [refOf_eq hj'] at hn
        rw [refOf_eq hi'] at e'
        omega
      rw [this]; rfl
    · rw [if_neg hqp, if_neg hqp]; exact h.cnt q hq
  · intro q hqp hq hc'
    rw [hcl, if_neg hqp] at hc'
    rw [htk, if_neg hqp]
    exact h.pos q (by rwa [hl] at hq) hc'
  · have hfr := h.fr
    have := filter_add (fun q => decide (cls (openPage A p c) q < 0)) (fun q => decide (cls A q < 0)) p (by rw [hcl, if_pos rfl]; simp; omega) (by simpa using hc) A.pages.length (fun j _ hj => by rw [hcl, if_neg hj])
    rw [if_pos hp] at this
    rw [hl]
    show A.free - 1 = _
    omega

theorem Wfq.take {A : Ar} {S : Nat → Bool} {p i : Nat} {c : Int} (h : Wfq A S p) (hp : p < A.pages.length) (hc : cls A p = c) (hi : (i : Int) < cellsOf c) (hs : hasR S (refOf p c i) = false) :
    Wf (takeCell A p c i) (addTo S (refOf p c i)) := by
  have hl : (takeCell A p c i).pages.length = A.pages.length := by simp [takeCell]
  have hcl : ∀ q, cls (takeCell A p c i) q = cls A q := by
    intro q
    unfold cls takeCell
    simp only [List.getD, List.getElem?_set]
    by_cases hq : p = q
    · subst hq; simp [hp]
    · rw [if_neg hq]
  have htk : ∀ q, tkn (takeCell A p c i) q = if q = p then tkn A q + 1 else tkn A q := by
    intro q
    unfold tkn takeCell
    simp only [List.getD, List.getElem?_set]
    by_cases hq : p = q
    · subst hq; simp [hp]
    · rw [if_neg hq, if_neg (fun e => hq e.symm)]
  have sp := cell_span hi
  obtain ⟨n, hn, hn1⟩ := ref_nat (p := p) hi
  have hwl : (takeCell A p c i).words.length = A.words.length := by
    have hre := refOf_eq (p := p) hi
    have := h.wl
    exact clearAt_length _ _ _ (by omega)
  refine ⟨by rw [hl]; exact h.n0, by rw [hl]; exact h.n1, by rw [hl, hwl]; exact h.wl, ?_, ?_, ?_, ?_, ?_⟩
  · intro q hq; rw [hcl]; exact h.cl q (by rwa [hl] at hq)
  · intro r hr
    rw [hn, addTo_ref] at hr
    by_cases hrn : r = n
    · subst hrn
      exact ⟨p, by rwa [hl], i, by rw [hcl, hc]; exact hi, by rw [hcl, hc]; exact hn.symm⟩
    · rw [if_neg hrn] at hr
      obtain ⟨q, hq, j, hj, e⟩ := h.al r hr
      exact ⟨q, by rwa [hl], j, by rw [hcl]; exact hj, by rw [hcl]; exact e⟩
  · intro q hq
    rw [hl] at hq
    rw [htk, hcl]
    by_cases hqp : q = p
    · subst hqp
      rw [if_pos rfl, hc, cnt_add hi hs, h.cnt q hq, hc]; simp
    · rw [if_neg hqp, cnt_other hi hqp]; exact h.cnt q hq
  · intro q hq hc'
    rw [hl] at hq
    rw [hcl] at hc'
    rw [htk]
    by_cases hqp : q = p
    · rw [if_pos hqp]; have := h.cnt q hq; omega
    · rw [if_neg hqp]; exact h.pos q hqp hq hc'
  · rw [hl]; simp only [hcl]; exact h.fr
end Go.Hw
