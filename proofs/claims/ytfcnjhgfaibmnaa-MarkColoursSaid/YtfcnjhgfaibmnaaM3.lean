/- What taking a cell leaves of an arena. No program. -/
import Derived.Test.YtfcnjhgfaibmnaaA5
import Derived.Test.YtfcnjhgfaibmnaaM2
namespace Go.Hw

theorem clearAt_getD (ws : List Int) (o n k : Nat) (h : o + n ≤ ws.length) : (clearAt ws o n).getD k 0 = if o ≤ k ∧ k < o + n then 0 else ws.getD k 0 := by
  unfold clearAt
  simp only [List.getD, List.getElem?_append, List.length_append, List.length_take, List.length_replicate, List.getElem?_take, List.getElem?_replicate, List.getElem?_drop]
  have hm : min o ws.length = o := by omega
  rw [hm]
  by_cases h1 : k < o
  · have a1 : k < o + n := by omega
    have a2 : ¬ (o ≤ k ∧ k < o + n) := by omega
    have a3 : ¬ o ≤ k := by omega
    simp [h1, a1, a3]
  · by_cases h2 : k < o + n
    · have a1 : k - o < n := by omega
      have a2 : o ≤ k ∧ k < o + n := by omega
      simp [h1, h2, a1, a2]
    · have a2 : ¬ (o ≤ k ∧ k < o + n) := by omega
      simp only [h1, h2, a2, if_false]
      rw [show o + n + (k - (o + n)) = k from by omega]
      simp

/-- What a taken cell's words are, in the arena that it was taken from, and in that behind it. -/
structure Took (A : Ar) (S : Nat → Bool) (c : Int) (n : Nat) (A' : Ar) : Prop where
  fresh : S n = false
  wf : Wf A' (addTo S n)
  sp : A'.sp = A.sp
  len : A'.pages.length = A.pages.length
  n1 : 1 ≤ n
  page : ∀ q : Int, pageAt A' q = pageAt A q
  cls : clsAt A' (pageAt A' n) = c
  zero : ∀ i : Int, wordAt A' (addTo S n) n i = 0
  oldc : ∀ q : Nat, S q = true → clsAt A' (pageAt A' q) = clsAt A (pageAt A q)
  old : ∀ (q : Nat) (j : Int), S q = true → wordAt A' (addTo S n) q j = wordAt A S q j
  free : A.free - 1 ≤ A'.free

theorem took_of {A B : Ar} {S : Nat → Bool} {c : Int} {p i : Nat} (hA : Wf A S) (hB : Wfq B S p) (hp : p < B.pages.length) (hc : cls B p = c) (hi : (i : Int) < cellsOf c) (hs : hasR S (refOf p c i) = false)
    (hlen : B.pages.length = A.pages.length) (hsp : B.sp = A.sp) (hw : B.words = A.words) (hfree : A.free - 1 ≤ B.free)
    (hcl : ∀ q : Nat, S q = true → clsAt B (pageAt A q) = clsAt A (pageAt A q)) : ∃ n : Nat, refOf p c i = n ∧ Took A S c n (takeCell B p c i) := by
  obtain ⟨n, hn, hn1⟩ := ref_nat (p := p) hi
  have hwf := hB.take hp hc hi hs
  rw [hn] at hwf hs
  rw [hasR_nat] at hs
  have hl : (takeCell B p c i).pages.length = B.pages.length := by simp [takeCell]
  have hpg : ∀ q : Int, pageAt (takeCell B p c i) q = pageAt A q := fun q => by unfold pageAt; rw [hl, hlen]
  have hclt : ∀ q, clsAt (takeCell B p c i) q = clsAt B q := by
    intro q
    unfold clsAt
    rw [hl]
    split
    · rfl
    · unfold takeCell
      simp only [List.getD, List.getElem?_set]
      by_cases hq : p = q.toNat
      · rw [if_pos hq, ← hq, if_pos hp]; simp
      · rw [if_neg hq]
  have hpn : pageAt A n = p := by rw [← hn]; exact ref_page (by omega) hi
  have sp1 := cell_span hi
  have hre := refOf_eq (p := p) hi
  have hr5 : (refOf p c i - 1).toNat + (wordsOf c).toNat ≤ B.words.length := by have := hB.wl; omega
  have hfz : ∀ q : Nat, addTo S n q = if q = n then true else S q := addTo_ref S n
  have hnn : addTo S n n = true := by rw [hfz]; simp
  have hcn : clsAt (takeCell B p c i) (pageAt (takeCell B p c i) n) = c := by rw [hpg, hpn, hclt, clsAt_eq hp]; exact hc
  refine ⟨n, hn, hs, hwf, hsp, by rw [hl, hlen], hn1, hpg, hcn, ?_, ?_, ?_, hfree⟩
  · intro k
    unfold wordAt
    by_cases hk : wordOk (takeCell B p c i) (addTo S n) n k = true
    · rw [if_pos hk]
      obtain ⟨-, k1, k2⟩ := wordOk_iff.1 hk
      rw [hcn] at k2
      show (clearAt B.words (refOf p c i - 1).toNat (wordsOf c).toNat).getD _ 0 = 0
      rw [clearAt_getD _ _ _ _ hr5, if_pos]
      omega
    · rw [if_neg hk]
  · intro q hq
    rw [hpg, hclt]; exact hcl q hq
  · intro q j hq
    have hqn : q ≠ n := fun e => by rw [e, hs] at hq; cases hq
    have hqq : addTo S n q = true := by rw [hfz, if_neg hqn]; exact hq
    have hcq : clsAt (takeCell B p c i) (pageAt (takeCell B p c i) q) = clsAt A (pageAt A q) := by rw [hpg, hclt]; exact hcl q hq
    have hkk : wordOk (takeCell B p c i) (addTo S n) q j = wordOk A S q j := by
      rw [Bool.eq_iff_iff, wordOk_iff, wordOk_iff, hcq]
      simp [hqq, hq]
    unfold wordAt
    rw [hkk]
    by_cases hk : wordOk A S q j = true
    · rw [if_pos hk, if_pos hk]
      obtain ⟨-, k1, k2⟩ := wordOk_iff.1 hk
      have hf := hA.fits q hq
      show (clearAt B.words (refOf p c i - 1).toNat (wordsOf c).toNat).getD _ 0 = _
      rw [clearAt_getD _ _ _ _ hr5, hw, if_neg]
      rintro ⟨m1, m2⟩
      refine hwf.apart (r := q) (q := n) hqq hnn hqn (i := j) (j := (q : Int) - 1 + j - ((n : Int) - 1)) ⟨k1, by rw [hcq]; exact k2⟩ ⟨by omega, by rw [hcn]; omega⟩ (by omega)
    · rw [if_neg hk, if_neg hk]

theorem take_spec {A A' : Ar} {S : Nat → Bool} {c r : Int} (h : Wf A S) (hc : 0 ≤ c ∧ c ≤ 2) (ht : takeOf A S c = some (r, A')) : ∃ n : Nat, r = n ∧ Took A S c n A' := by
  unfold takeOf at ht
  by_cases hroom : roomOf A S c = true
  · rw [if_pos hroom] at ht
    cases hg : gapOf A S c with
    | some x =>
      obtain ⟨p, i⟩ := x
      rw [hg] at ht
      simp only [Option.some.injEq, Prod.mk.injEq] at ht
      obtain ⟨rfl, rfl⟩ := ht
      obtain ⟨hp, hi, hpc, hs⟩ := gapOf_spec hg
      exact took_of h (h.q p) hp hpc hi hs rfl rfl rfl (by omega) (fun _ _ => rfl)
    | none =>
      rw [hg] at ht
      simp only [Option.some.injEq, Prod.mk.injEq] at ht
      obtain ⟨rfl, rfl⟩ := ht
      have hfree : A.free > 0 := by
        have : cellsOf c ≠ 0 := by intro e; simp [roomOf, e] at hroom
        simpa [roomOf, this, hg] using hroom
      obtain ⟨f1, f2, f3⟩ := firstFree_spec (h.freex hfree)
      have hcell : ((0 : Nat) : Int) < cellsOf c := by rcases words_cases c with ⟨h1, h2, h3⟩ | ⟨-, h1, h2⟩ | ⟨-, h1, h2⟩ | ⟨-, h1, h2⟩ <;> omega
      have hl : (openPage A (firstFree A) c).pages.length = A.pages.length := by simp [openPage]
      have hq := h.open f1 f2 hc
      have hs : hasR S (refOf (firstFree A) c (0 : Nat)) = false := by
        obtain ⟨n, hn, -⟩ := ref_nat (p := firstFree A) hcell
        rw [hn, hasR_nat]
        cases e : S n with
        | false => rfl
        | true =>
          obtain ⟨p, hp, e1, e2, i, hi, e3⟩ := h.page e
          have : pageAt A n = firstFree A := by rw [← hn]; exact ref_page f1 hcell
          have hpf : p = firstFree A := by omega
          rw [hpf] at hi
          have f2' : cls A (firstFree A) < 0 := f2
          rcases words_cases (cls A (firstFree A)) with ⟨h1, h2, h3⟩ | ⟨h3, h1, h2⟩ | ⟨h3, h1, h2⟩ | ⟨h3, h1, h2⟩ <;> omega
      refine took_of (i := 0) h hq (by rw [hl]; exact f1) ?_ hcell hs hl rfl rfl (by show A.free - 1 ≤ A.free - 1; omega) ?_
      · unfold cls openPage; simp [List.getD, f1]
      · intro q hq'
        obtain ⟨p, hp, e1, e2, i, hi, e3⟩ := h.page hq'
        rw [e1, clsAt_eq hp, clsAt_eq (by rw [hl]; exact hp)]
        have hpf : p ≠ firstFree A := by
          intro e; rw [e] at hi
          have f2' : cls A (firstFree A) < 0 := f2
          rcases words_cases (cls A (firstFree A)) with ⟨h1, h2, h3⟩ | ⟨h3, h1, h2⟩ | ⟨h3, h1, h2⟩ | ⟨h3, h1, h2⟩ <;> omega
        unfold cls openPage
        simp only [List.getD, List.getElem?_set]
        rw [if_neg (fun e => hpf e.symm)]
  · rw [if_neg hroom] at ht; cases ht

theorem take_none {A : Ar} {S : Nat → Bool} {c : Int} (ht : takeOf A S c = none) : roomOf A S c = false := by
  unfold takeOf at ht
  by_cases hroom : roomOf A S c = true
  · rw [if_pos hroom] at ht
    cases hg : gapOf A S c with
    | some x => rw [hg] at ht; cases ht
    | none => rw [hg] at ht; cases ht
  · simpa using hroom
theorem room_of_free {A : Ar} {S : Nat → Bool} {c : Int} (hc : 0 ≤ c ∧ c ≤ 2) (hf : 0 < A.free) : roomOf A S c = true := by
  have : cellsOf c ≠ 0 := by rcases words_cases c with ⟨h1, h2, h3⟩ | ⟨-, h1, h2⟩ | ⟨-, h1, h2⟩ | ⟨-, h1, h2⟩ <;> omega
  simp [roomOf, this, hf]
end Go.Hw
