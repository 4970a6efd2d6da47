/- Package mark: Blacken, Regrey, Forget, Arena, New, Reset, All. -/
import Derived.Test.YtfcnjhgfaibmnaaE1
namespace Go.Hw
open Go.RowKit Go.Proofs

theorem mark_put1 (m : Nat) (M : Mk) (r : Int) (w : World) (G : Gh) (hI : Inv w G) (hM : MkAt w G m M) :
    Calls Try.prog 47 #[.pointer (some ⟨M.s1, 0, none⟩), .int .i64 r] w (mPost m M (.bool (decide (0 ≤ r ∧ r < M.n) && !M.mr r.toNat)) { M with mr := putS M.n M.mr r } w G) := by
  refine (put_any M.s1 _ r M.mr w G hI hM.e1).mono ?_
  rintro e w1 ⟨rfl, G1, hg1, hS1⟩
  exact ⟨rfl, G1, hM.on1 hI hS1 hg1, hS1.mono (fun _ h => .inl h) (Nat.le_refl _)⟩
theorem mark_put2 (m : Nat) (M : Mk) (r : Int) (w : World) (G : Gh) (hI : Inv w G) (hM : MkAt w G m M) :
    Calls Try.prog 47 #[.pointer (some ⟨M.s2, 0, none⟩), .int .i64 r] w (mPost m M (.bool (decide (0 ≤ r ∧ r < M.n) && !M.sc r.toNat)) { M with sc := putS M.n M.sc r } w G) := by
  refine (put_any M.s2 _ r M.sc w G hI hM.e2).mono ?_
  rintro e w1 ⟨rfl, G1, hg1, hS1⟩
  exact ⟨rfl, G1, hM.on2 hI hS1 hg1, hS1.mono (fun _ h => .inr (.inl h)) (Nat.le_refl _)⟩
theorem mark_drop1 (m : Nat) (M : Mk) (r : Int) (w : World) (G : Gh) (hI : Inv w G) (hM : MkAt w G m M) :
    Calls Try.prog 60 #[.pointer (some ⟨M.s1, 0, none⟩), .int .i64 r] w (mPost m M (.bool (hasR M.mr r)) { M with mr := dropS M.mr r } w G) := by
  refine (drop_any M.s1 _ r M.mr w G hI hM.e1).mono ?_
  rintro e w1 ⟨rfl, G1, hg1, hS1⟩
  exact ⟨rfl, G1, hM.on1 hI hS1 hg1, hS1.mono (fun _ h => .inl h) (Nat.le_refl _)⟩
theorem mark_drop2 (m : Nat) (M : Mk) (r : Int) (w : World) (G : Gh) (hI : Inv w G) (hM : MkAt w G m M) :
    Calls Try.prog 60 #[.pointer (some ⟨M.s2, 0, none⟩), .int .i64 r] w (mPost m M (.bool (hasR M.sc r)) { M with sc := dropS M.sc r } w G) := by
  refine (drop_any M.s2 _ r M.sc w G hI hM.e2).mono ?_
  rintro e w1 ⟨rfl, G1, hg1, hS1⟩
  exact ⟨rfl, G1, hM.on2 hI hS1 hg1, hS1.mono (fun _ h => .inr (.inl h)) (Nat.le_refl _)⟩

theorem mark_blacken (m : Nat) (M : Mk) (r : Int) (w : World) (G : Gh) (hI : Inv w G) (hM : MkAt w G m M) :
    Calls Try.prog 21 #[.pointer (some ⟨m, 0, none⟩), .int .i64 r] w (mPost m M (.tuple #[]) (M.black r) w G) := by
  have hc1 : w.cell? ⟨m, 1, none⟩ = some (.pointer (some ⟨M.s1, 0, none⟩)) := hM.raw.cell 1
  have HM := Lib.hid hM
  clear hM
  by_cases h0 : r = 0
  · subst h0
    go_enter Try.func21, Try.ntmps21
    go_wp2
    go_end0
    exact ⟨rfl, G, HM.out, St.refl hI⟩
  · have h0' : (r != 0) = true := by simpa using h0
    have hfin : M.black r = { M with mr := putS M.n M.mr r, sc := putS M.n M.sc r } := by rw [Mk.black, if_neg h0]
    rw [hfin]
    clear hfin h0
    go_enter Try.func21, Try.ntmps21
    go_wp2_with fail
    refine (mark_put1 m M r w G hI HM.out).mono ?_
    rintro e w1 ⟨rfl, G1, hM1, hS1⟩
    have hI1 := hS1.inv
    have HM1 := Lib.hid hM1
    have HS1 := Lib.hid hS1
    have hc2 : w1.cell? ⟨m, 2, none⟩ = some (.pointer (some ⟨M.s2, 0, none⟩)) := hM1.raw.cell 2
    clear hM1 hS1
    go_wp2_with fail
    refine (mark_put2 m { M with mr := putS M.n M.mr r } r w1 G1 hI1 HM1.out).mono ?_
    rintro e w2 ⟨rfl, G2, hM2, hS2⟩
    have HM2 := Lib.hid hM2
    have HS2 := Lib.hid (HS1.out.seqT hS2)
    clear hM2 hS2
    go_wp2
    go_end0
    exact ⟨rfl, G2, HM2.out, HS2.out⟩

set_option maxHeartbeats 1000000 in
theorem mark_regrey (m : Nat) (M : Mk) (r : Int) (w : World) (G : Gh) (hI : Inv w G) (hM : MkAt w G m M) :
    Calls Try.prog 34 #[.pointer (some ⟨m, 0, none⟩), .int .i64 r] w (mPost m M (.bool (M.isBlack r)) (M.regrey r) w G) := by
  have HM := Lib.hid hM
  clear hM
  by_cases h0 : r = 0
  · subst h0
    have hfin : M.regrey 0 = M := by simp [Mk.regrey, Mk.isBlack]
    have hcan : M.isBlack 0 = false := by simp [Mk.isBlack]
    rw [hfin, hcan]
    clear hfin hcan
    go_enter Try.func34, Try.ntmps34
    go_wp2
    go_ret
    exact ⟨rfl, G, HM.out, St.refl hI⟩
  · have h0' : (r == 0) = false := by simpa using h0
    have hcd : M.isBlack r = (hasR M.mr r && hasR M.sc r) := by simp [Mk.isBlack, h0]
    have Hcd := Lib.hid hcd
    clear hcd h0
    cases h1 : hasR M.mr r with
    | false =>
      have hcan : M.isBlack r = false := by rw [Hcd.out, h1]; rfl
      have hfin : M.regrey r = M := by rw [Mk.regrey, hcan]; simp
      rw [hfin, hcan]
      have H1 := Lib.hid h1
      clear hfin hcan h1
      go_enter Try.func34, Try.ntmps34
      go_wp2_with fail
      refine (mark_marked m M r w G hI HM.out).mono ?_
      rintro e w1 ⟨rfl, G1, hS1⟩
      rw [H1.out]
      have HM1 := Lib.hid (HM.out.step0 hI hS1)
      have HS1 := Lib.hid (hS1.mono (T' := M.T) (fun _ h => h.elim) (Nat.le_refl _))
      clear hS1
      go_wp2
      go_ret
      exact ⟨rfl, G1, HM1.out, HS1.out⟩
    | true =>
      cases h2 : hasR M.sc r with
      | false =>
        have hcan : M.isBlack r = false := by rw [Hcd.out, h1, h2]; rfl
        have hfin : M.regrey r = M := by rw [Mk.regrey, hcan]; simp
        have hd : dropS M.sc r = M.sc := by
          funext k; unfold dropS
          by_cases hk : (k : Int) = r
          · subst hk; rw [if_pos rfl]; rw [hasR_nat] at h2; exact h2.symm
          · rw [if_neg hk]
        rw [hfin, hcan]
        have H1 := Lib.hid h1
        have H2 := Lib.hid h2
        have HD := Lib.hid hd
        clear hfin hcan h1 h2 hd
        go_enter Try.func34, Try.ntmps34
        go_wp2_with fail
        refine (mark_marked m M r w G hI HM.out).mono ?_
        rintro e w1 ⟨rfl, G1, hS1⟩
        rw [H1.out]
        have HM1 := Lib.hid (HM.out.step0 hI hS1)
        have HS1 := Lib.hid (hS1.mono (T' := M.T) (fun _ h => h.elim) (Nat.le_refl _))
        have hI1 := hS1.inv
        clear hS1
        have hc2 : w1.cell? ⟨m, 2, none⟩ = some (.pointer (some ⟨M.s2, 0, none⟩)) := HM1.out.raw.cell 2
        go_wp2_with fail
        refine (mark_drop2 m M r w1 G1 hI1 HM1.out).mono ?_
        rintro e w2 ⟨rfl, G2, hM2, hS2⟩
        rw [H2.out]
        rw [HD.out] at hM2
        have HM2 := Lib.hid hM2
        have HS2 := Lib.hid (HS1.out.seqT hS2)
        clear hM2 hS2
        go_wp2
        go_ret
        exact ⟨rfl, G2, HM2.out, HS2.out⟩
      | true =>
        have hcan : M.isBlack r = true := by rw [Hcd.out, h1, h2]; rfl
        have hfin : M.regrey r = Mk.push { M with sc := dropS M.sc r } r := by rw [Mk.regrey, hcan]; simp
        rw [hfin, hcan]
        have H1 := Lib.hid h1
        have H2 := Lib.hid h2
        clear hfin hcan h1 h2
        go_enter Try.func34, Try.ntmps34
        go_wp2_with fail
        refine (mark_marked m M r w G hI HM.out).mono ?_
        rintro e w1 ⟨rfl, G1, hS1⟩
        rw [H1.out]
        have HM1 := Lib.hid (HM.out.step0 hI hS1)
        have HS1 := Lib.hid (hS1.mono (T' := M.T) (fun _ h => h.elim) (Nat.le_refl _))
        have hI1 := hS1.inv
        clear hS1
        have hc2 : w1.cell? ⟨m, 2, none⟩ = some (.pointer (some ⟨M.s2, 0, none⟩)) := HM1.out.raw.cell 2
        go_wp2_with fail
        refine (mark_drop2 m M r w1 G1 hI1 HM1.out).mono ?_
        rintro e w2 ⟨rfl, G2, hM2, hS2⟩
        rw [H2.out]
        have hI2 := hS2.inv
        have hc3 : w2.cell? ⟨m, 3, none⟩ = some (.pointer (some ⟨M.g, 0, none⟩)) := hM2.raw.cell 3
        have HM2 := Lib.hid hM2
        have HS2 := Lib.hid (HS1.out.seqT hS2)
        clear hM2 hS2
        go_wp2_with fail
        refine (mark_push m { M with sc := dropS M.sc r } r w2 G2 hI2 HM2.out).mono ?_
        rintro e w3 ⟨⟨v, rfl⟩, G3, hM3, hS3⟩
        have HM3 := Lib.hid hM3
        have HS3 := Lib.hid (HS2.out.seq hS3 (T := M.T) (fun _ h => h) (fun _ _ _ h => .inr (.inr h)))
        clear hM3 hS3
        go_wp2
        go_ret
        exact ⟨rfl, G3, HM3.out, HS3.out⟩

theorem mark_forget (m : Nat) (M : Mk) (r : Int) (w : World) (G : Gh) (hI : Inv w G) (hM : MkAt w G m M) :
    Calls Try.prog 36 #[.pointer (some ⟨m, 0, none⟩), .int .i64 r] w (mPost m M (.tuple #[]) (M.forget r) w G) := by
  have hc1 : w.cell? ⟨m, 1, none⟩ = some (.pointer (some ⟨M.s1, 0, none⟩)) := hM.raw.cell 1
  have HM := Lib.hid hM
  clear hM
  go_enter Try.func36, Try.ntmps36
  go_wp2_with fail
  refine (mark_drop1 m M r w G hI HM.out).mono ?_
  rintro e w1 ⟨rfl, G1, hM1, hS1⟩
  have hI1 := hS1.inv
  have HM1 := Lib.hid hM1
  have HS1 := Lib.hid hS1
  have hc2 : w1.cell? ⟨m, 2, none⟩ = some (.pointer (some ⟨M.s2, 0, none⟩)) := hM1.raw.cell 2
  clear hM1 hS1
  go_wp2_with fail
  refine (mark_drop2 m { M with mr := dropS M.mr r } r w1 G1 hI1 HM1.out).mono ?_
  rintro e w2 ⟨rfl, G2, hM2, hS2⟩
  have HM2 := Lib.hid hM2
  have HS2 := Lib.hid (HS1.out.seqT hS2)
  clear hM2 hS2
  go_wp2
  go_end0
  exact ⟨rfl, G2, HM2.out, HS2.out⟩
theorem mark_arena (m : Nat) (M : Mk) (w : World) (G : Gh) (hM : MkAt w G m M) :
    Calls Try.prog 35 #[.pointer (some ⟨m, 0, none⟩)] w fun e w' => e = .returned (.pointer (some ⟨M.a, 0, none⟩)) ∧ w' = w := by
  have hc1 : w.cell? ⟨m, 0, none⟩ = some (.pointer (some ⟨M.a, 0, none⟩)) := hM.raw.cell 0
  clear hM
  go_enter Try.func35, Try.ntmps35
  go_wp2
  go_ret
  exact ⟨rfl, rfl⟩

/-- As new. -/
def Mk.clean (M : Mk) : Mk := { M with mr := fun _ => false, sc := fun _ => false, st := [], over := false }

theorem mark_reset (m : Nat) (M : Mk) (w : World) (G : Gh) (hI : Inv w G) (hM : MkAt w G m M) :
    Calls Try.prog 33 #[.pointer (some ⟨m, 0, none⟩)] w (mPost m M (.tuple #[]) M.clean w G) := by
  have hc1 : w.cell? ⟨m, 1, none⟩ = some (.pointer (some ⟨M.s1, 0, none⟩)) := hM.raw.cell 1
  have HM := Lib.hid hM
  clear hM
  go_enter Try.func33, Try.ntmps33
  go_wp2_with fail
  refine (set_reset M.s1 _ M.mr w G hI HM.out.e1).mono ?_
  rintro e w1 ⟨rfl, G1, hg1, hS1⟩
  have hM1 := HM.out.on1 hI hS1 hg1
  have hI1 := hS1.inv
  have HM1 := Lib.hid hM1
  have HS1 := Lib.hid (hS1.mono (T' := M.T) (fun _ h => .inl h) (Nat.le_refl _))
  have hc2 : w1.cell? ⟨m, 2, none⟩ = some (.pointer (some ⟨M.s2, 0, none⟩)) := hM1.raw.cell 2
  clear hM1 hS1 hg1
  go_wp2_with fail
  refine (set_reset M.s2 _ M.sc w1 G1 hI1 HM1.out.e2).mono ?_
  rintro e w2 ⟨rfl, G2, hg2, hS2⟩
  have hM2 := HM1.out.on2 hI1 hS2 hg2
  have hI2 := hS2.inv
  have HM2 := Lib.hid hM2
  have HS2 := Lib.hid (HS1.out.seq hS2 (T := M.T) (fun _ h => h) (fun _ _ _ h => .inr (.inl h)))
  have hc3 : w2.cell? ⟨m, 3, none⟩ = some (.pointer (some ⟨M.g, 0, none⟩)) := hM2.raw.cell 3
  clear hM2 hS2 hg2
  go_wp2_with fail
  refine (grey_reset M.g M.st M.room M.over w2 G2 hI2 HM2.out.eg).mono ?_
  rintro e w3 ⟨rfl, G3, hg3, hS3⟩
  have hM3 := HM2.out.ong hI2 hS3 hg3 (Nat.zero_le _)
  have HM3 := Lib.hid hM3
  have HS3 := Lib.hid (HS2.out.seq hS3 (T := M.T) (fun _ h => h) (fun _ _ _ h => .inr (.inr h)))
  clear hM3 hS3 hg3
  go_wp2
  go_end0
  exact ⟨rfl, G3, HM3.out, HS3.out⟩

theorem mark_all (m : Nat) (w : World) :
    Calls Try.prog 37 #[.pointer (some ⟨m, 0, none⟩)] w fun e w' => e = .returned (.func (.func 61) #[] #[.pointer (some ⟨w.heap.size, 0, none⟩)]) ∧ w' = w.alloc (.cells #[.pointer (some ⟨m, 0, none⟩)] 33) := by
  have hmf : ∀ (fn : Fn) (first cap : Array Value) (w : World), (Instr.makeFunc fn first cap).run Try.prog w = .ok (.func fn first cap) w := fun _ _ _ _ => rfl
  go_enter Try.func37, Try.ntmps37
  go_wp2
  go_ret
  exact ⟨rfl, rfl⟩

def mnewPost (a : Nat) (A : Ar) (room : Nat) (w : World) (G : Gh) (e : Ending) (w' : World) : Prop :=
  ∃ m G' M, e = .returned (.pointer (some ⟨m, 0, none⟩)) ∧ w.heap.size ≤ m ∧ MkAt w' G' m M ∧ Step (fun _ => False) w G w' G' ∧
    M.a = a ∧ M.n = 32 * A.pages.length + 1 ∧ (M.mr = fun _ => false) ∧ (M.sc = fun _ => false) ∧ M.st = [] ∧ M.over = false ∧ M.room = max room 1 ∧ (∀ b, M.T b → w.heap.size ≤ b)


set_option maxHeartbeats 1000000 in
theorem mark_new (a : Nat) (A : Ar) (S : Nat → Bool) (room : Nat) (hroom : room ≤ 1000) (w : World) (G : Gh) (hI : Inv w G) (hA : ArAt w G a A S) :
    Calls Try.prog 11 #[.pointer (some ⟨a, 0, none⟩), .int .i64 room] w (mnewPost a A room w G) := by
  have hn64 := (hA.facts hI).2.1
  have hsz := arena_size a A S
  unfold mnewPost
  obtain ⟨N, hN⟩ : ∃ N, 32 * A.pages.length + 1 = N := ⟨_, rfl⟩
  rw [hN] at hsz ⊢
  have hNb : N ≤ 1000000 := by omega
  have Hsz := Lib.hid hsz
  have HA := Lib.hid hA
  clear hA hsz hN hn64
  by_cases hr1 : 1 ≤ room
  · have hmx : max room 1 = room := by omega
    rw [hmx]
    clear hmx
    go_enter Try.func11, Try.ntmps11
    go_wp2_with fail
    refine (Hsz.out w G hI HA.out).mono ?_
    rintro e w1 ⟨rfl, rfl⟩
    go_wp2_with fail
    refine (set_new N hNb _ G hI).mono ?_
    rintro e w2 ⟨b1, G2, rfl, hb1, hb1', hg1, ho1, hS1⟩
    have hI1 := hS1.inv
    have HA1 := Lib.hid (HA.out.step0 hI hS1)
    have HS1 := Lib.hid hS1
    have Hg1 := Lib.hid hg1
    clear hS1 hg1 ho1
    go_wp2_with fail
    refine (Hsz.out w2 G2 hI1 HA1.out).mono ?_
    rintro e w3 ⟨rfl, rfl⟩
    go_wp2_with fail
    refine (set_new N hNb _ G2 hI1).mono ?_
    rintro e w4 ⟨b2, G4, rfl, hb2, hb2', hg2, ho2, hS2⟩
    have hI2 := hS2.inv
    have hg1' : G4 b1 = .set N (fun _ => false) := (hS2.ent b1 (by omega) (by rw [Hg1.out]; rfl) (fun h => h)).trans Hg1.out
    have HS2 := Lib.hid (HS1.out.seqT hS2)
    have Hg1' := Lib.hid hg1'
    have Hg2 := Lib.hid hg2
    clear hS2 hg1' hg2 ho2
    go_wp2_with fail
    refine (grey_new room w4 G4 hI2).mono ?_
    rintro e w5 ⟨b3, G5, rfl, hb3, hb3', hg3, ho3, hS3⟩
    have hI3 := hS3.inv
    have hg1'' : G5 b1 = .set N (fun _ => false) := (hS3.ent b1 (by omega) (by rw [Hg1'.out]; rfl) (fun h => h)).trans Hg1'.out
    have hg2'' : G5 b2 = .set N (fun _ => false) := (hS3.ent b2 (by omega) (by rw [Hg2.out]; rfl) (fun h => h)).trans Hg2.out
    have HS3 := Lib.hid (HS2.out.seqT hS3)
    have Hg1'' := Lib.hid hg1''
    have Hg2'' := Lib.hid hg2''
    have Hg3 := Lib.hid hg3
    clear hS3 hg1'' hg2'' hg3 ho3
    have hsl : w1.heap.size ≤ w3.heap.size := HS1.out.le
    have hsl2 : w3.heap.size ≤ w4.heap.size := by omega
    go_wp2
    go_ret
    refine ⟨w5.heap.size, G5, ⟨a, b1, b2, b3, N, _, _, _, room, _⟩, rfl, by omega, ⟨⟨hI3.new _ (Nat.le_refl _), heap_alloc_new w5 _⟩, Hg1''.out, Hg2''.out, Hg3.out, by show b1 ≠ b2; omega, by show 1 ≤ room; omega, by show room ≤ 1000; omega, Nat.zero_le _⟩, HS3.out.alloc _, rfl, rfl, rfl, rfl, rfl, rfl, rfl, ?_⟩
    rintro b (h | h | h) <;> (simp only at h; omega)
  · obtain rfl : room = 0 := by omega
    rw [show max 0 1 = 1 from rfl]
    clear hr1 hroom
    go_enter Try.func11, Try.ntmps11
    go_wp2_with fail
    refine (Hsz.out w G hI HA.out).mono ?_
    rintro e w1 ⟨rfl, rfl⟩
    go_wp2_with fail
    refine (set_new N hNb _ G hI).mono ?_
    rintro e w2 ⟨b1, G2, rfl, hb1, hb1', hg1, ho1, hS1⟩
    have hI1 := hS1.inv
    have HA1 := Lib.hid (HA.out.step0 hI hS1)
    have HS1 := Lib.hid hS1
    have Hg1 := Lib.hid hg1
    clear hS1 hg1 ho1
    go_wp2_with fail
    refine (Hsz.out w2 G2 hI1 HA1.out).mono ?_
    rintro e w3 ⟨rfl, rfl⟩
    go_wp2_with fail
    refine (set_new N hNb _ G2 hI1).mono ?_
    rintro e w4 ⟨b2, G4, rfl, hb2, hb2', hg2, ho2, hS2⟩
    have hI2 := hS2.inv
    have hg1' : G4 b1 = .set N (fun _ => false) := (hS2.ent b1 (by omega) (by rw [Hg1.out]; rfl) (fun h => h)).trans Hg1.out
    have HS2 := Lib.hid (HS1.out.seqT hS2)
    have Hg1' := Lib.hid hg1'
    have Hg2 := Lib.hid hg2
    clear hS2 hg1' hg2 ho2
    go_wp2_with fail
    refine (grey_new 1 w4 G4 hI2).mono ?_
    rintro e w5 ⟨b3, G5, rfl, hb3, hb3', hg3, ho3, hS3⟩
    have hI3 := hS3.inv
    have hg1'' : G5 b1 = .set N (fun _ => false) := (hS3.ent b1 (by omega) (by rw [Hg1'.out]; rfl) (fun h => h)).trans Hg1'.out
    have hg2'' : G5 b2 = .set N (fun _ => false) := (hS3.ent b2 (by omega) (by rw [Hg2.out]; rfl) (fun h => h)).trans Hg2.out
    have HS3 := Lib.hid (HS2.out.seqT hS3)
    have Hg1'' := Lib.hid hg1''
    have Hg2'' := Lib.hid hg2''
    have Hg3 := Lib.hid hg3
    clear hS3 hg1'' hg2'' hg3 ho3
    have hsl : w1.heap.size ≤ w3.heap.size := HS1.out.le
    have hsl2 : w3.heap.size ≤ w4.heap.size := by omega
    go_wp2
    go_ret
    refine ⟨w5.heap.size, G5, ⟨a, b1, b2, b3, N, _, _, _, 1, _⟩, rfl, by omega, ⟨⟨hI3.new _ (Nat.le_refl _), heap_alloc_new w5 _⟩, Hg1''.out, Hg2''.out, Hg3.out, by show b1 ≠ b2; omega, by show 1 ≤ 1; omega, by show 1 ≤ 1000; omega, Nat.zero_le _⟩, HS3.out.alloc _, rfl, rfl, rfl, rfl, rfl, rfl, rfl, ?_⟩
    rintro b (h | h | h) <;> (simp only at h; omega)
end Go.Hw
