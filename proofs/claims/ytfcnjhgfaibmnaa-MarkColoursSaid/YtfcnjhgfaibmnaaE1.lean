/- Package mark: what a marker is; its simple calls. -/
import Derived.Test.YtfcnjhgfaibmnaaD1
import Derived.Test.YtfcnjhgfaibmnaaC2
namespace Go.Hw
open Go.RowKit Go.Proofs

structure Mk where
  a : Nat
  s1 : Nat
  s2 : Nat
  g : Nat
  n : Nat
  mr : Nat → Bool
  sc : Nat → Bool
  st : List Int
  room : Nat
  over : Bool

structure MkAt (w : World) (G : Gh) (m : Nat) (M : Mk) : Prop where
  raw : Raw w G m #[.pointer (some ⟨M.a, 0, none⟩), .pointer (some ⟨M.s1, 0, none⟩), .pointer (some ⟨M.s2, 0, none⟩), .pointer (some ⟨M.g, 0, none⟩)] 78
  e1 : G M.s1 = .set M.n M.mr
  e2 : G M.s2 = .set M.n M.sc
  eg : G M.g = stackE M.st M.room M.over
  ne : M.s1 ≠ M.s2
  r1 : 1 ≤ M.room
  r2 : M.room ≤ 1000
  len : M.st.length ≤ M.room

abbrev Mk.T (M : Mk) : Nat → Prop := fun b => b = M.s1 ∨ b = M.s2 ∨ b = M.g

theorem MkAt.ng1 {w : World} {G : Gh} {m : Nat} {M : Mk} (h : MkAt w G m M) : M.s1 ≠ M.g := fun e => by have h1 := h.e1; rw [e, h.eg] at h1; cases h1
theorem MkAt.ng2 {w : World} {G : Gh} {m : Nat} {M : Mk} (h : MkAt w G m M) : M.s2 ≠ M.g := fun e => by have h1 := h.e2; rw [e, h.eg] at h1; cases h1
/-- A step that touches other things leaves a marker as it is. -/
theorem MkAt.frame {w w' : World} {G G' : Gh} {m : Nat} {M : Mk} {T : Nat → Prop} {B : Nat} (h : MkAt w G m M) (hI : Inv w G) (k : St T B w G w' G') (hT : ∀ b, M.T b → ¬ T b) : MkAt w' G' m M :=
  ⟨h.raw.step k, (k.ent _ (lay_lt hI (by rw [h.e1]; rfl)) (by rw [h.e1]; rfl) (hT _ (.inl rfl))).trans h.e1, (k.ent _ (lay_lt hI (by rw [h.e2]; rfl)) (by rw [h.e2]; rfl) (hT _ (.inr (.inl rfl)))).trans h.e2,
    (k.ent _ (lay_lt hI (by rw [h.eg]; rfl)) (by rw [h.eg]; rfl) (hT _ (.inr (.inr rfl)))).trans h.eg, h.ne, h.r1, h.r2, h.len⟩
theorem MkAt.step0 {w w' : World} {G G' : Gh} {m : Nat} {M : Mk} {B : Nat} (h : MkAt w G m M) (hI : Inv w G) (k : St (fun _ => False) B w G w' G') : MkAt w' G' m M := h.frame hI k (fun _ _ h => h)
theorem MkAt.on1 {w w' : World} {G G' : Gh} {m : Nat} {M : Mk} {B : Nat} {S : Nat → Bool} (h : MkAt w G m M) (hI : Inv w G) (k : St (fun c => c = M.s1) B w G w' G') (hs : G' M.s1 = .set M.n S) : MkAt w' G' m { M with mr := S } :=
  ⟨h.raw.step k, hs, (k.ent _ (lay_lt hI (by rw [h.e2]; rfl)) (by rw [h.e2]; rfl) (fun e => h.ne e.symm)).trans h.e2,
    (k.ent _ (lay_lt hI (by rw [h.eg]; rfl)) (by rw [h.eg]; rfl) (fun e => h.ng1 e.symm)).trans h.eg, h.ne, h.r1, h.r2, h.len⟩
theorem MkAt.on2 {w w' : World} {G G' : Gh} {m : Nat} {M : Mk} {B : Nat} {S : Nat → Bool} (h : MkAt w G m M) (hI : Inv w G) (k : St (fun c => c = M.s2) B w G w' G') (hs : G' M.s2 = .set M.n S) : MkAt w' G' m { M with sc := S } :=
  ⟨h.raw.step k, (k.ent _ (lay_lt hI (by rw [h.e1]; rfl)) (by rw [h.e1]; rfl) h.ne).trans h.e1, hs,
    (k.ent _ (lay_lt hI (by rw [h.eg]; rfl)) (by rw [h.eg]; rfl) (fun e => h.ng2 e.symm)).trans h.eg, h.ne, h.r1, h.r2, h.len⟩
theorem MkAt.ong {w w' : World} {G G' : Gh} {m : Nat} {M : Mk} {B : Nat} {l : List Int} {o : Bool} (h : MkAt w G m M) (hI : Inv w G) (k : St (fun c => c = M.g) B w G w' G') (hs : G' M.g = stackE l M.room o) (hl : l.length ≤ M.room) : MkAt w' G' m { M with st := l, over := o } :=
  ⟨h.raw.step k, (k.ent _ (lay_lt hI (by rw [h.e1]; rfl)) (by rw [h.e1]; rfl) h.ng1).trans h.e1, (k.ent _ (lay_lt hI (by rw [h.e2]; rfl)) (by rw [h.e2]; rfl) h.ng2).trans h.e2, hs, h.ne, h.r1, h.r2, hl⟩

def putS (n : Nat) (S : Nat → Bool) (r : Int) : Nat → Bool := fun k => if (k : Int) = r ∧ k < n then true else S k
def dropS (S : Nat → Bool) (r : Int) : Nat → Bool := fun k => if (k : Int) = r then false else S k
def Mk.push (M : Mk) (r : Int) : Mk := { M with st := if M.st.length < M.room then M.st ++ [r] else M.st, over := if M.st.length < M.room then M.over else true }
def Mk.can (M : Mk) (r : Int) : Bool := decide (r ≠ 0) && (decide (0 ≤ r ∧ r < M.n) && !M.mr r.toNat)
def Mk.shade (M : Mk) (r : Int) : Mk := if M.can r = true then Mk.push { M with mr := putS M.n M.mr r } r else M
def Mk.black (M : Mk) (r : Int) : Mk := if r = 0 then M else { M with mr := putS M.n M.mr r, sc := putS M.n M.sc r }
def Mk.isBlack (M : Mk) (r : Int) : Bool := decide (r ≠ 0) && (hasR M.mr r && hasR M.sc r)
def Mk.regrey (M : Mk) (r : Int) : Mk := if M.isBlack r = true then Mk.push { M with sc := dropS M.sc r } r else M
def Mk.forget (M : Mk) (r : Int) : Mk := { M with mr := dropS M.mr r, sc := dropS M.sc r }
def Mk.isGrey (M : Mk) (r : Int) : Bool := hasR M.mr r && !hasR M.sc r

def qPost (v : Value) (w : World) (G : Gh) (e : Ending) (w' : World) : Prop := e = .returned v ∧ ∃ G', Step (fun _ => False) w G w' G'
def mPost (m : Nat) (M : Mk) (v : Value) (M' : Mk) (w : World) (G : Gh) (e : Ending) (w' : World) : Prop :=
  e = .returned v ∧ ∃ G', MkAt w' G' m M' ∧ Step M.T w G w' G'

theorem mark_marked (m : Nat) (M : Mk) (r : Int) (w : World) (G : Gh) (hI : Inv w G) (hM : MkAt w G m M) :
    Calls Try.prog 13 #[.pointer (some ⟨m, 0, none⟩), .int .i64 r] w (qPost (.bool (hasR M.mr r)) w G) := by
  have hc : w.cell? ⟨m, 1, none⟩ = some (.pointer (some ⟨M.s1, 0, none⟩)) := hM.raw.cell 1
  have HM := Lib.hid hM
  clear hM
  go_enter Try.func13, Try.ntmps13
  go_wp2_with fail
  refine (has_any M.s1 _ r M.mr w G hI HM.out.e1).mono ?_
  rintro e w1 ⟨rfl, G1, hS⟩
  go_wp2
  go_ret
  exact ⟨rfl, G1, hS⟩

theorem mark_scanned (m : Nat) (M : Mk) (r : Int) (w : World) (G : Gh) (hI : Inv w G) (hM : MkAt w G m M) :
    Calls Try.prog 18 #[.pointer (some ⟨m, 0, none⟩), .int .i64 r] w (qPost (.bool (hasR M.sc r)) w G) := by
  have hc : w.cell? ⟨m, 2, none⟩ = some (.pointer (some ⟨M.s2, 0, none⟩)) := hM.raw.cell 2
  have HM := Lib.hid hM
  clear hM
  go_enter Try.func18, Try.ntmps18
  go_wp2_with fail
  refine (has_any M.s2 _ r M.sc w G hI HM.out.e2).mono ?_
  rintro e w1 ⟨rfl, G1, hS⟩
  go_wp2
  go_ret
  exact ⟨rfl, G1, hS⟩

theorem mark_isGrey (m : Nat) (M : Mk) (r : Int) (w : World) (G : Gh) (hI : Inv w G) (hM : MkAt w G m M) :
    Calls Try.prog 74 #[.pointer (some ⟨m, 0, none⟩), .int .i64 r] w (qPost (.bool (M.isGrey r)) w G) := by
  have HM := Lib.hid hM
  clear hM
  have hfin : M.isGrey r = (hasR M.mr r && !hasR M.sc r) := rfl
  have Hf := Lib.hid hfin
  clear hfin
  go_enter Try.func74, Try.ntmps74
  go_wp2_with fail
  refine (mark_marked m M r w G hI HM.out).mono ?_
  rintro e w1 ⟨rfl, G1, hS⟩
  have hI1 := hS.inv
  have HM1 := Lib.hid (HM.out.step0 hI hS)
  have HS := Lib.hid hS
  clear hS
  cases h1 : hasR M.mr r with
  | false =>
    have H1 := Lib.hid h1
    clear h1
    go_wp2
    go_ret
    exact ⟨ret_bool (by rw [Hf.out, H1.out]; rfl), G1, HS.out⟩
  | true =>
    have H1 := Lib.hid h1
    clear h1
    go_wp2_with fail
    refine (mark_scanned m M r w1 G1 hI1 HM1.out).mono ?_
    rintro e w2 ⟨rfl, G2, hS2⟩
    have HS2 := Lib.hid (HS.out.seqT hS2)
    clear hS2
    go_wp2
    go_ret
    exact ⟨ret_bool (by rw [Hf.out, H1.out]; simp), G2, HS2.out⟩

/-- Onto the stack. -/
theorem mark_push (m : Nat) (M : Mk) (r : Int) (w : World) (G : Gh) (hI : Inv w G) (hM : MkAt w G m M) :
    Calls Try.prog 48 #[.pointer (some ⟨M.g, 0, none⟩), .int .i64 r] w (fun e w' => (∃ v, e = .returned (.bool v)) ∧ ∃ G', MkAt w' G' m (M.push r) ∧ Step (fun c => c = M.g) w G w' G') := by
  refine (grey_push M.g M.st M.room M.over r hM.r2 w G hI hM.eg).mono ?_
  rintro e w' ⟨rfl, G', hg, hS⟩
  refine ⟨⟨_, rfl⟩, G', ?_, hS⟩
  have hl := hM.len
  unfold Mk.push
  by_cases h : M.st.length < M.room
  · simp only [h, if_true] at hg ⊢
    exact hM.ong hI hS hg (by simp; omega)
  · simp only [h, if_false] at hg ⊢
    exact hM.ong hI hS hg hl

set_option maxHeartbeats 1000000 in
theorem mark_shade (m : Nat) (M : Mk) (r : Int) (w : World) (G : Gh) (hI : Inv w G) (hM : MkAt w G m M) :
    Calls Try.prog 14 #[.pointer (some ⟨m, 0, none⟩), .int .i64 r] w (mPost m M (.bool (M.can r)) (M.shade r) w G) := by
  have hc1 : w.cell? ⟨m, 1, none⟩ = some (.pointer (some ⟨M.s1, 0, none⟩)) := hM.raw.cell 1
  have HM := Lib.hid hM
  clear hM
  by_cases h0 : r = 0
  · subst h0
    have hfin : M.shade 0 = M := by simp [Mk.shade, Mk.can]
    have hcan : M.can 0 = false := by simp [Mk.can]
    rw [hfin, hcan]
    clear hfin hcan
    go_enter Try.func14, Try.ntmps14
    go_wp2
    go_ret
    exact ⟨rfl, G, HM.out, St.refl hI⟩
  · have h0' : (r == 0) = false := by simpa using h0
    have hcd : M.can r = (decide (0 ≤ r ∧ r < M.n) && !M.mr r.toNat) := by simp [Mk.can, h0]
    have Hcd := Lib.hid hcd
    clear hcd h0
    cases hcan : (decide (0 ≤ r ∧ r < M.n) && !M.mr r.toNat) with
    | false =>
      have hfin : M.shade r = M := by rw [Mk.shade, Hcd.out, hcan]; simp
      have hS0 : (fun k : Nat => if (k : Int) = r ∧ k < M.n then true else M.mr k) = M.mr := by
        funext k
        by_cases hk : (k : Int) = r ∧ k < M.n
        · rw [if_pos hk]
          obtain ⟨rfl, hk2⟩ := hk
          have e1 : decide (0 ≤ (k : Int) ∧ (k : Int) < M.n) = true := by simp; omega
          rw [e1, Int.toNat_natCast] at hcan
          simpa using hcan.symm
        · rw [if_neg hk]
      rw [Hcd.out, hfin, hcan]
      have Hcan := Lib.hid hcan
      have HS0 := Lib.hid hS0
      clear hcan hfin hS0
      go_enter Try.func14, Try.ntmps14
      go_wp2_with fail
      refine (put_any M.s1 _ r M.mr w G hI HM.out.e1).mono ?_
      rintro e w1 ⟨rfl, G1, hg1, hS1⟩
      rw [Hcan.out]
      rw [HS0.out] at hg1
      have hM1 : MkAt w1 G1 m M := HM.out.on1 hI hS1 hg1
      have HM1 := Lib.hid hM1
      have HS1 := Lib.hid (hS1.mono (T' := M.T) (fun _ h => .inl h) (Nat.le_refl _))
      clear hg1 hS1 hM1
      go_wp2
      go_ret
      exact ⟨rfl, G1, HM1.out, HS1.out⟩
    | true =>
      have hfin : M.shade r = Mk.push { M with mr := putS M.n M.mr r } r := by rw [Mk.shade, Hcd.out, hcan]; simp
      rw [Hcd.out, hfin, hcan]
      have Hcan := Lib.hid hcan
      clear hcan hfin
      go_enter Try.func14, Try.ntmps14
      go_wp2_with fail
      refine (put_any M.s1 _ r M.mr w G hI HM.out.e1).mono ?_
      rintro e w1 ⟨rfl, G1, hg1, hS1⟩
      rw [Hcan.out]
      have hM1 : MkAt w1 G1 m { M with mr := putS M.n M.mr r } := HM.out.on1 hI hS1 hg1
      have hc3 : w1.cell? ⟨m, 3, none⟩ = some (.pointer (some ⟨M.g, 0, none⟩)) := hM1.raw.cell 3
      have hI1 := hS1.inv
      have HM1 := Lib.hid hM1
      have HS1 := Lib.hid (hS1.mono (T' := M.T) (fun _ h => .inl h) (Nat.le_refl _))
      clear hg1 hS1 hM1
      go_wp2_with fail
      refine (mark_push m { M with mr := putS M.n M.mr r } r w1 G1 hI1 HM1.out).mono ?_
      rintro e w2 ⟨⟨v, rfl⟩, G2, hM2, hS2⟩
      have HM2 := Lib.hid hM2
      have HS2 := Lib.hid (HS1.out.seq hS2 (T := M.T) (fun _ h => h) (fun _ _ _ h => .inr (.inr h)))
      clear hM2 hS2
      go_wp2
      go_ret
      exact ⟨rfl, G2, HM2.out, HS2.out⟩
end Go.Hw
