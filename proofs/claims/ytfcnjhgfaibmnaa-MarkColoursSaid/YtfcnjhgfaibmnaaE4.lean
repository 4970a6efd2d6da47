/- Package mark: next. -/
import Derived.Test.YtfcnjhgfaibmnaaE3
namespace Go.Hw
open Go.RowKit Go.Proofs

def popR (gr : Int → Bool) : List Int → Option (Int × List Int)
  | [] => none
  | r :: t => if gr r = true then some (r, t) else popR gr t
/-- Off the stack, till a grey one comes. -/
def Mk.pop (M : Mk) : Option Int × Mk := match popR M.isGrey M.st.reverse with
  | some (r, t) => (some r, { M with st := t.reverse })
  | none => (none, { M with st := [] })
def Mk.next (M : Mk) : Option Int × Mk :=
  if M.pop.1 = none ∧ M.over = true then (Mk.refill { M with st := [] }).pop else M.pop

theorem Mk.pop_nil {M : Mk} (h : M.st = []) : M.pop = (none, M) := by
  unfold Mk.pop; rw [h]; simp [popR]; cases M; simp_all
theorem Mk.pop_grey {M : Mk} {l : List Int} {r : Int} (h : M.st = l ++ [r]) (hg : M.isGrey r = true) : M.pop = (some r, { M with st := l }) := by
  unfold Mk.pop; rw [h]; simp [popR, hg]
theorem Mk.pop_skip {M : Mk} {l : List Int} {r : Int} (h : M.st = l ++ [r]) (hg : M.isGrey r = false) : M.pop = Mk.pop { M with st := l } := by
  unfold Mk.pop
  rw [h]
  have : popR M.isGrey (l ++ [r]).reverse = popR M.isGrey l.reverse := by simp [popR, hg]
  rw [this]
  rfl
theorem Mk.next_skip {M : Mk} {l : List Int} {r : Int} (h : M.st = l ++ [r]) (hg : M.isGrey r = false) : Mk.next { M with st := l } = M.next := by
  unfold Mk.next
  rw [Mk.pop_skip h hg]

theorem snoc_ind {α : Type} {P : List α → Prop} (h0 : P []) (h1 : ∀ l x, P l → P (l ++ [x])) : ∀ l, P l := by
  intro l
  rw [← l.reverse_reverse]
  induction l.reverse with
  | nil => exact h0
  | cons x t ih => rw [List.reverse_cons]; exact h1 _ _ ih

def Mk.good (N : Mk) : Prop := (∀ r ∈ N.st, N.isGrey r = true) ∧ (N.st = [] → N.over = false)
theorem Mk.refillTo_good (M : Mk) (h0 : M.st = []) (h1 : 1 ≤ M.room) : ∀ l : List Nat, (M.refillTo l).good := by
  refine snoc_ind ⟨fun r hr => by simp [Mk.refillTo, h0] at hr, fun _ => rfl⟩ ?_
  · intro l x ih
    rw [Mk.refillTo_snoc]
    obtain ⟨e1, e2, e3⟩ := M.refillTo_same l
    have hg : (M.refillTo l).isGrey = M.isGrey := by funext r; unfold Mk.isGrey; rw [e2, e3]
    have hroom : (M.refillTo l).room = M.room := by simp only [Mk.ids, Prod.mk.injEq] at e1; exact e1.2.2.2.2.2
    by_cases hx : M.isGrey x = true
    · rw [if_pos hx]
      have hgp : ((M.refillTo l).push x).isGrey = (M.refillTo l).isGrey := rfl
      constructor
      · intro r hr
        rw [hgp]
        unfold Mk.push at hr
        simp only at hr
        split at hr
        · rcases List.mem_append.1 hr with hr | hr
          · exact ih.1 r hr
          · rw [List.mem_singleton.1 hr, hg]; exact hx
        · exact ih.1 r hr
      · intro he
        unfold Mk.push at he ⊢
        simp only at he ⊢
        by_cases hl : (M.refillTo l).st.length < (M.refillTo l).room
        · rw [if_pos hl] at he; simp at he
        · rw [if_neg hl] at he
          rw [he, hroom] at hl
          simp at hl; omega
    · rw [if_neg hx]; exact ih

def nextV (o : Option Int) : Value := match o with
  | some r => .tuple #[.int .i64 r, .bool true]
  | none => .tuple #[.int .i64 0, .bool false]

def nxRel (m : Nat) (M : Mk) (w0 : World) (G0 : Gh) (g : Nat) (W : World) : Prop :=
  ∃ (N : Mk) (G : Gh), MkAt W G m N ∧ Step M.T w0 G0 W G ∧ N.ids = M.ids ∧
    ((g = N.st.length + 2 ∧ N.next = M.next) ∨ (g = 1 ∧ N.good ∧ N.pop = M.next))

theorem list_snoc {α : Type} (l : List α) : l = [] ∨ ∃ t x, l = t ++ [x] := by
  rcases List.eq_nil_or_concat l with h | ⟨t, x, h⟩
  · exact .inl h
  · exact .inr ⟨t, x, by simpa using h⟩

set_option maxRecDepth 100000 in
set_option maxHeartbeats 2000000 in
theorem mark_next (m : Nat) (M : Mk) (w : World) (G : Gh) (hI : Inv w G) (hM : MkAt w G m M) :
    Calls Try.prog 49 #[.pointer (some ⟨m, 0, none⟩)] w (mPost m M (nextV M.next.1) M.next.2 w G) := by
  have h0 : nxRel m M w G (M.st.length + 2) w := ⟨M, G, hM, St.refl hI, rfl, .inl ⟨rfl, rfl⟩⟩
  have hlm : m < w.heap.size := hM.raw.lt
  have H0 := Lib.hid h0
  clear h0 hM hI
  go_enter Try.func49, Try.ntmps49
  go_wp2
  go_loopg [] (M.st.length + 2) (fun g wr => nxRel m M w G g wr)
  case atStart => exact H0.out
  case round =>
    obtain ⟨N, G1, hN, hS, hids, hcase⟩ := hrel
    have hI1 := hS.inv
    have hcg : wr.cell? ⟨m, 3, none⟩ = some (.pointer (some ⟨N.g, 0, none⟩)) := hN.raw.cell 3
    have hT : N.T = M.T := Mk.T_ids hids
    have HN := Lib.hid hN
    have HS := Lib.hid hS
    have Hids := Lib.hid hids
    have Hcase := Lib.hid hcase
    have HT := Lib.hid hT
    clear hN hS hids hcase hT
    rcases list_snoc N.st with he | ⟨l, r, he⟩
    · have hg0 : G1 N.g = stackE [] N.room N.over := by rw [← he]; exact HN.out.eg
      have Hg0 := Lib.hid hg0
      have He := Lib.hid he
      clear hg0 he
      go_wp2_with fail
      refine (grey_pop_none N.g N.room N.over _ G1 hI1 Hg0.out).mono ?_
      rintro e w1 ⟨rfl, rfl⟩
      go_wp2_with fail
      refine (grey_over N.g N.st N.room N.over _ G1 hI1 HN.out.eg).mono ?_
      rintro e w2 ⟨rfl, rfl⟩
      cases ho : N.over with
      | false =>
        have hfin : M.next = (none, N) := by
          have hp := Mk.pop_nil He.out
          rcases Hcase.out with ⟨-, h⟩ | ⟨-, -, h⟩
          · rw [← h, Mk.next, hp, ho]; simp
          · rw [← h, hp]
        have Hfin := Lib.hid hfin
        clear hfin ho
        go_wp2
        go_ret2
        rw [Hfin.out]
        exact ⟨rfl, G1, HN.out, HS.out⟩
      | true =>
        have h1 : gk = N.st.length + 2 ∧ N.next = M.next := by
          rcases Hcase.out with h | ⟨-, h, -⟩
          · exact h
          · have := h.2 He.out; rw [ho] at this; cases this
        have hfin : N.refill.pop = M.next := by
          have hp := Mk.pop_nil He.out
          have e : ({ N with st := [] } : Mk) = N := by have := He.out; cases N; simp_all
          rw [← h1.2, Mk.next, hp, e, ho]; simp
        have hgood : N.refill.good := Mk.refillTo_good N He.out HN.out.r1 _
        have hgk : 1 < gk := by omega
        have Hfin := Lib.hid hfin
        have Hgood := Lib.hid hgood
        clear hfin ho h1 hgood
        go_wp2_with fail
        refine (mark_refill m N _ G1 hI1 HN.out).mono ?_
        rintro e w3 ⟨rfl, G3, hM3, hS3⟩
        have hrel : nxRel m M w G 1 w3 := ⟨N.refill, G3, hM3, by rw [HT.out] at hS3; exact HS.out.seqT hS3, (N.refillTo_same _).1.trans Hids.out, .inr ⟨rfl, Hgood.out, Hfin.out⟩⟩
        have Hrel := Lib.hid hrel
        clear hrel hM3 hS3
        go_wp2
        go_roundg 1
        case measure => exact hgk
        case rel => exact Hrel.out
    · have hg0 : G1 N.g = stackE (l ++ [r]) N.room N.over := by rw [← he]; exact HN.out.eg
      have hlen : (l ++ [r]).length ≤ 1000 := by rw [← he]; exact Nat.le_trans HN.out.len HN.out.r2
      have Hg0 := Lib.hid hg0
      have He := Lib.hid he
      have Hlen := Lib.hid hlen
      clear hg0 he hlen
      go_wp2_with fail
      refine (grey_pop N.g l r N.room N.over Hlen.out _ G1 hI1 Hg0.out).mono ?_
      rintro e w1 ⟨rfl, G2, hg2, hS2⟩
      have hM2 : MkAt w1 G2 m { N with st := l } := HN.out.ong hI1 hS2 hg2 (by have h1 := HN.out.len; have h2 := He.out; rw [h2] at h1; simp at h1 ⊢; omega)
      have hI2 := hS2.inv
      have hS2' : Step M.T w G w1 G2 := HS.out.seq hS2 (fun _ h => h) (fun x _ _ h => by rw [← HT.out]; exact .inr (.inr h))
      have HM2 := Lib.hid hM2
      have HS2 := Lib.hid hS2'
      clear hM2 hS2 hS2' hg2
      go_wp2_with fail
      refine (mark_isGrey m { N with st := l } r _ G2 hI2 HM2.out).mono ?_
      rintro e w2 ⟨rfl, G3, hS3⟩
      have HM3 := Lib.hid (HM2.out.step0 hI2 hS3)
      have HS3 := Lib.hid (HS2.out.seq1 hS3)
      clear hS3
      have hgn : ({ N with st := l } : Mk).isGrey r = N.isGrey r := rfl
      rw [hgn]
      clear hgn
      cases hg : N.isGrey r with
      | true =>
        have hfin : M.next = (some r, { N with st := l }) := by
          have hp := Mk.pop_grey He.out hg
          rcases Hcase.out with ⟨-, h⟩ | ⟨-, -, h⟩
          · rw [← h, Mk.next, hp]; simp
          · rw [← h, hp]
        have Hfin := Lib.hid hfin
        clear hfin hg
        go_wp2
        go_ret2
        rw [Hfin.out]
        exact ⟨rfl, G3, HM3.out, HS3.out⟩
      | false =>
        have h1 : gk = N.st.length + 2 ∧ N.next = M.next := by
          rcases Hcase.out with h | ⟨-, h, -⟩
          · exact h
          · have := h.1 r (by rw [He.out]; simp); rw [hg] at this; cases this
        have hrel : nxRel m M w G (l.length + 2) w2 := ⟨{ N with st := l }, G3, HM3.out, HS3.out, Hids.out, .inl ⟨rfl, (Mk.next_skip He.out hg).trans h1.2⟩⟩
        have hgk : l.length + 2 < gk := by have h2 := h1.1; rw [He.out] at h2; simp at h2; omega
        have Hrel := Lib.hid hrel
        clear hrel h1 hg
        go_wp2
        go_roundg (l.length + 2)
        case measure => exact hgk
        case rel => exact Hrel.out
end Go.Hw
