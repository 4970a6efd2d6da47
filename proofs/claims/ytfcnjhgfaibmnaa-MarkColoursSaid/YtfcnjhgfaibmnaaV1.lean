/- What the laws of layer 11 say of marks: plain. -/
import Derived.Test.YtfcnjhgfaibmnaaW1
namespace Go.Hw

theorem Mk.drained_of {M : Mk} (h : ∀ q, M.isGrey q = false) : M.drained = true := by
  unfold Mk.drained
  rw [List.all_eq_true]
  intro k hk
  obtain ⟨-, h1⟩ := mem_els.1 hk
  have := h k
  unfold Mk.isGrey at this
  rw [hasR_nat, hasR_nat, h1] at this
  simpa using this
theorem Mk.grey_of_drained {M : Mk} (h : M.drained = true) (hb : ∀ q, hasR M.mr q = true → q < M.n) (q : Int) : M.isGrey q = false := by
  cases hg : M.isGrey q with
  | false => rfl
  | true =>
    obtain ⟨h1, h2⟩ := Mk.grey_iff.1 hg
    have h3 := hb q h1
    simp only [hasR, Bool.and_eq_true, decide_eq_true_eq] at h1
    unfold Mk.drained at h
    rw [List.all_eq_true] at h
    have := h q.toNat (mem_els.2 ⟨by omega, h1.2⟩)
    simp [hasR, this, h1.1] at h2
theorem nodup_len {a b : List Int} (ha : a.Nodup) (h : ∀ x ∈ a, x ∈ b) : a.length ≤ b.length := by
  induction a generalizing b with
  | nil => simp
  | cons x a ih =>
    rw [List.nodup_cons] at ha
    have hx := h x (List.mem_cons_self ..)
    have := ih (b := b.erase x) ha.2 (fun y hy => by
      rw [List.mem_erase_of_ne (show y ≠ x from fun e => ha.1 (e ▸ hy))]
      exact h y (List.mem_cons_of_mem _ hy))
    rw [List.length_erase_of_mem hx] at this
    have h0 := List.length_pos_of_mem hx
    simp; omega
theorem Traced.le_len {P : Int → List Int} {l : List Int} {R : Int → Prop} {M M' : Mk} {k j : Nat} (h : Traced P l R M k j M') : j ≤ l.length := by
  obtain ⟨new, h1, h2, h3, h4⟩ := h.cnt
  rw [← h1]
  exact nodup_len h2 fun x hx => h.tr.inl x (h.tr.scm x ((h4 x).2 (.inl hx)))
theorem Traced.count {P : Int → List Int} {l : List Int} {R : Int → Prop} {M M' : Mk} {k j : Nat} (h : Traced P l R M k j M') (h0 : M.sc = fun _ => false) (hn : l.Nodup) : (l.filter fun r => hasR M'.sc r).length = j := by
  obtain ⟨new, h1, h2, h3, h4⟩ := h.cnt
  have h5 : ∀ q, hasR M'.sc q = true ↔ q ∈ new := fun q => by
    rw [h4 q, h0]; simp [hasR]
  rw [← h1]
  refine Nat.le_antisymm (nodup_len (hn.filter _) fun x hx => ?_) (nodup_len h2 fun x hx => ?_)
  · exact (h5 x).1 (List.mem_filter.1 hx).2
  · have := (h5 x).2 hx
    exact List.mem_filter.2 ⟨h.tr.inl x (h.tr.scm x this), this⟩
theorem Mk.ids_clean (M : Mk) : M.clean.ids = M.ids := rfl
theorem Mk.grey_clean (M : Mk) (q : Int) : M.clean.isGrey q = false := by simp [Mk.clean, Mk.isGrey, hasR]
theorem Mk.next_clean (M : Mk) : M.clean.next.1 = none := by
  have h : M.clean.st = [] := rfl
  unfold Mk.next
  rw [Mk.pop_nil h, if_neg (by rintro ⟨-, e⟩; cases e)]
theorem Mk.trace_clean (P : Int → List Int) (M : Mk) (k : Nat) : (Mk.trace P k M.clean).1 = 0 := by
  cases k with
  | zero => rfl
  | succ k => rw [Mk.trace_none k M.next_clean]
theorem pcn_none (n : Nat) : pcn (fun _ => false) n = 0 := by
  induction n with
  | zero => rfl
  | succ n ih => simp [pcn, ih]
theorem Mk.trace0 (P : Int → List Int) (M : Mk) : Mk.trace P 0 M = (0, M) := rfl
end Go.Hw
