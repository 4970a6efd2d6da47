/- MarkColours: what the law counts: plain. -/
import Derived.Test.YtfcnjhgfaibmnaaV3
import Derived.Test.YtfcnjhgfaibmnaaY2
import Derived.Test.YtfcnjhgfaibmnaaR2
import Derived.Test.YtfcnjhgfaibmnaaQ1
namespace Go.Hw
open Go.RowKit Go.Proofs Go.ChangeShapes

/-- The colour of each object, as the marker has it. -/
structure ColAt (M : Mk) (l : List Int) (f : Int → Int) : Prop where
  bd : ∀ r ∈ l, 1 ≤ r ∧ r < M.n
  inl : ∀ r, hasR M.mr r = true → r ∈ l
  mrk : ∀ r ∈ l, hasR M.mr r = decide (0 < f r)
  sc : ∀ r ∈ l, hasR M.sc r = decide (f r = 2)
  rg : ∀ r, f r = 0 ∨ f r = 1 ∨ f r = 2

theorem hasR_drop {S : Nat → Bool} {r q : Int} : hasR (dropS S r) q = true ↔ q ≠ r ∧ hasR S q = true := by
  simp only [hasR, dropS, Bool.and_eq_true, decide_eq_true_eq]
  constructor
  · rintro ⟨h1, h2⟩
    split at h2
    · cases h2
    · exact ⟨by omega, h1, h2⟩
  · rintro ⟨h1, h2, h3⟩
    exact ⟨h2, by rw [if_neg (by omega)]; exact h3⟩
theorem ColAt.can {M : Mk} {l : List Int} {f : Int → Int} (h : ColAt M l f) {r : Int} (hr : r ∈ l) : M.can r = decide (f r = 0) := by
  rw [Mk.can_iff (h.bd r hr), h.mrk r hr]
  rcases h.rg r with e | e | e <;> rw [e] <;> rfl
theorem ColAt.isBlack {M : Mk} {l : List Int} {f : Int → Int} (h : ColAt M l f) {r : Int} (hr : r ∈ l) : M.isBlack r = decide (f r = 2) := by
  have := (h.bd r hr).1
  unfold Mk.isBlack
  rw [h.mrk r hr, h.sc r hr]
  rcases h.rg r with e | e | e <;> rw [e] <;> simp <;> omega
theorem ColAt.of {M : Mk} {l : List Int} {f g : Int → Int} (h : ColAt M l f) {M' : Mk} {r v : Int} (hr : r ∈ l) (hv : v = 0 ∨ v = 1 ∨ v = 2) (hn : M'.n = M.n) (hg : g = updF f r v)
    (hm : ∀ q, hasR M'.mr q = if q = r then decide (0 < v) else hasR M.mr q) (hs : ∀ q, hasR M'.sc q = if q = r then decide (v = 2) else hasR M.sc q) : ColAt M' l g := by
  subst hg
  refine ⟨by rw [hn]; exact h.bd, fun q hq => ?_, fun q hq => ?_, fun q hq => ?_, fun q => ?_⟩
  · rw [hm] at hq
    by_cases he : q = r
    · rw [he]; exact hr
    · rw [if_neg he] at hq; exact h.inl q hq
  · rw [hm]; unfold updF
    by_cases he : q = r
    · rw [if_pos he, if_pos he]
    · rw [if_neg he, if_neg he]; exact h.mrk q hq
  · rw [hs]; unfold updF
    by_cases he : q = r
    · rw [if_pos he, if_pos he]
    · rw [if_neg he, if_neg he]; exact h.sc q hq
  · unfold updF
    by_cases he : q = r
    · rw [if_pos he]; exact hv
    · rw [if_neg he]; exact h.rg q
theorem hasR_put' {n : Nat} {S : Nat → Bool} {r q : Int} (hr : 0 ≤ r ∧ r < n) : hasR (putS n S r) q = if q = r then true else hasR S q := by
  rw [Bool.eq_iff_iff, hasR_put hr]
  by_cases h : q = r <;> simp [h]
theorem hasR_drop' {S : Nat → Bool} {r q : Int} : hasR (dropS S r) q = if q = r then false else hasR S q := by
  rw [Bool.eq_iff_iff, hasR_drop]
  by_cases h : q = r <;> simp [h]
theorem updF_same {f : Int → Int} {r : Int} : updF f r (f r) = f := by
  funext q; unfold updF
  by_cases h : q = r
  · rw [if_pos h, h]
  · rw [if_neg h]
/-- shading: grey, if it was white. -/
theorem ColAt.shade {M : Mk} {l : List Int} {f : Int → Int} (h : ColAt M l f) {r : Int} (hr : r ∈ l) : ColAt (M.shade r) l (updF f r (if f r = 0 then 1 else f r)) := by
  have hb := h.bd r hr
  by_cases h0 : f r = 0
  · rw [if_pos h0]
    have hc : M.can r = true := by rw [h.can hr, h0]; rfl
    have hs : M.shade r = Mk.push { M with mr := putS M.n M.mr r } r := by unfold Mk.shade; rw [if_pos hc]
    refine h.of hr (.inr (.inl rfl)) (by rw [hs]; rfl) rfl (fun q => ?_) (fun q => ?_)
    · rw [hs]; exact hasR_put' (by omega)
    · rw [(M.shade_same r).1]
      by_cases he : q = r
      · rw [if_pos he, he, h.sc r hr, h0]; rfl
      · rw [if_neg he]
  · rw [if_neg h0, updF_same]
    have hc : M.can r = false := by rw [h.can hr]; simpa using h0
    have hs : M.shade r = M := by unfold Mk.shade; rw [if_neg (by simp [hc])]
    rw [hs]; exact h
theorem ColAt.black {M : Mk} {l : List Int} {f : Int → Int} (h : ColAt M l f) {r : Int} (hr : r ∈ l) : ColAt (M.black r) l (updF f r 2) := by
  have hb := h.bd r hr
  have hs : M.black r = { M with mr := putS M.n M.mr r, sc := putS M.n M.sc r } := by unfold Mk.black; rw [if_neg (by omega)]
  exact h.of hr (.inr (.inr rfl)) (by rw [hs]) rfl (fun q => by rw [hs]; exact hasR_put' (by omega)) (fun q => by rw [hs]; exact hasR_put' (by omega))
theorem ColAt.regrey {M : Mk} {l : List Int} {f : Int → Int} (h : ColAt M l f) {r : Int} (hr : r ∈ l) : ColAt (M.regrey r) l (updF f r (if f r = 2 then 1 else f r)) := by
  by_cases h2 : f r = 2
  · rw [if_pos h2]
    have hc : M.isBlack r = true := by rw [h.isBlack hr, h2]; rfl
    have hs : M.regrey r = Mk.push { M with sc := dropS M.sc r } r := by unfold Mk.regrey; rw [if_pos hc]
    refine h.of hr (.inr (.inl rfl)) (by rw [hs]; rfl) rfl (fun q => ?_) (fun q => ?_)
    · rw [hs]
      show hasR M.mr q = _
      by_cases he : q = r
      · rw [if_pos he, he, h.mrk r hr, h2]; rfl
      · rw [if_neg he]
    · rw [hs]; exact hasR_drop'
  · rw [if_neg h2, updF_same]
    have hc : M.isBlack r = false := by rw [h.isBlack hr]; simpa using h2
    have hs : M.regrey r = M := by unfold Mk.regrey; rw [if_neg (by simp [hc])]
    rw [hs]; exact h
theorem ColAt.forget {M : Mk} {l : List Int} {f : Int → Int} (h : ColAt M l f) {r : Int} (hr : r ∈ l) : ColAt (M.forget r) l (updF f r 0) :=
  h.of hr (.inl rfl) rfl rfl (fun q => hasR_drop') (fun q => hasR_drop')
theorem Mk.ids_black (M : Mk) (r : Int) : (M.black r).ids = M.ids := by unfold Mk.black; split <;> rfl
theorem Mk.ids_regrey (M : Mk) (r : Int) : (M.regrey r).ids = M.ids := by unfold Mk.regrey; split <;> rfl
theorem Mk.ids_forget (M : Mk) (r : Int) : (M.forget r).ids = M.ids := rfl
theorem ColAt.start {M : Mk} {l : List Int} (hb : ∀ r ∈ l, 1 ≤ r ∧ r < M.n) (h1 : M.mr = fun _ => false) (h2 : M.sc = fun _ => false) : ColAt M l (fun _ => 0) := by
  have e1 : ∀ q, hasR M.mr q = false := fun q => by simp [hasR, h1]
  have e2 : ∀ q, hasR M.sc q = false := fun q => by simp [hasR, h2]
  exact ⟨hb, fun r hr => (by rw [e1] at hr; cases hr), fun r _ => (by rw [e1]; rfl), fun r _ => (by rw [e2]; rfl), fun r => .inl rfl⟩
end Go.Hw
