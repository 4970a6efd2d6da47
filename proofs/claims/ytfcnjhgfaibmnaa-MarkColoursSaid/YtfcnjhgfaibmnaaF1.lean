/- A new arena; the fit of law 11. -/
import Derived.Test.YtfcnjhgfaibmnaaN1
import Derived.Test.YtfcnjhgfaibmnaaE6
namespace Go.Hw
open Go.RowKit Go.Proofs

abbrev S0 : Nat → Bool := fun _ => false
def newA (n sp pb wb : Nat) : Ar := { pages := List.replicate n (-1, 0), words := List.replicate (32 * n) 0, free := n, sp := sp, pb := pb, wb := wb }

theorem newA_of {A : Ar} {n : Nat} (h1 : A.pages = List.replicate n (-1, 0)) (h2 : A.words = List.replicate (32 * n) 0) (h3 : A.free = n) : A = newA n A.sp A.pb A.wb := by
  obtain ⟨p, ws, f, sp, pb, wb⟩ := A
  simp only at h1 h2 h3
  subst h1 h2 h3
  rfl

theorem wf_newA (n sp pb wb : Nat) (h0 : 0 < n) (hn : n ≤ 64) : Wf (newA n sp pb wb) S0 := by
  have hcl : ∀ p, p < n → cls (newA n sp pb wb) p = -1 := fun p hp => by simp [cls, newA, List.getD, List.getElem?_replicate, hp]
  have htk : ∀ p, tkn (newA n sp pb wb) p = 0 := fun p => by simp only [tkn, newA, List.getD, List.getElem?_replicate]; split <;> rfl
  refine ⟨by simpa [newA] using h0, by simpa [newA] using hn, by simp [newA], ?_, (fun r h => by cases h), ?_, ?_, ?_⟩
  · intro p hp; rw [hcl p (by simpa [newA] using hp)]; omega
  · intro p hp; rw [hcl p (by simpa [newA] using hp), htk]; rfl
  · intro p hp h; rw [hcl p (by simpa [newA] using hp)] at h; omega
  · have e : ((List.range (newA n sp pb wb).pages.length).filter fun p => decide (cls (newA n sp pb wb) p < 0)) = List.range n := by
      rw [show (newA n sp pb wb).pages.length = n by simp [newA]]
      refine List.filter_eq_self.2 fun p hp => ?_
      rw [hcl p (List.mem_range.1 hp)]; rfl
    rw [e]; simp [newA]

def fB1 (sp pb wb : Nat) : Ar := takeCell (openPage (newA 2 sp pb wb) 0 1) 0 1 0
def fA1 (sp pb wb : Nat) : Ar := setWord (fB1 sp pb wb) (addTo S0 1) 1 0 1
def fB2 (sp pb wb : Nat) : Ar := takeCell (fA1 sp pb wb) 0 1 1
abbrev fS : Nat → Bool := addTo (addTo S0 1) 5
def fA2 (sp pb wb : Nat) : Ar := setWord (fB2 sp pb wb) fS 5 0 1
def fA3 (sp pb wb : Nat) : Ar := setField (fA2 sp pb wb) fS 1 0 5
def fM (a s1 s2 g : Nat) : Mk := { a := a, s1 := s1, s2 := s2, g := g, n := 65, mr := S0, sc := S0, st := [], room := 1, over := false }
theorem fit1 (sp pb wb : Nat) : takeOf (newA 2 sp pb wb) S0 (classOf 1) = some (1, fB1 sp pb wb) := by kernel_rfl
theorem fit2 (sp pb wb : Nat) : takeOf (fA1 sp pb wb) (addTo S0 1) (classOf 1) = some (5, fB2 sp pb wb) := by kernel_rfl
theorem fit3 (sp pb wb : Nat) : chk (fA2 sp pb wb) fS 1 0 = 0 := by kernel_rfl
theorem fit4 (a s1 s2 g : Nat) : (fM a s1 s2 g).can 1 = true := by kernel_rfl
theorem fit5 (a s1 s2 g : Nat) : ((fM a s1 s2 g).shade 1).can 1 = false := by kernel_rfl
def fM1 (a s1 s2 g : Nat) : Mk := ((fM a s1 s2 g).shade 1).shade 1
def fT (sp pb wb a s1 s2 g : Nat) : Nat × Mk := Mk.trace (pts (fA3 sp pb wb) fS) 1 (fM1 a s1 s2 g)
theorem fit6 (sp pb wb a s1 s2 g : Nat) : (fT sp pb wb a s1 s2 g).1 = 1 := by kernel_rfl
theorem fit7 (sp pb wb a s1 s2 g : Nat) : hasR (fT sp pb wb a s1 s2 g).2.sc 1 = true := by kernel_rfl
theorem fit8 (sp pb wb a s1 s2 g : Nat) : hasR (fT sp pb wb a s1 s2 g).2.mr 5 = true := by kernel_rfl
theorem fit9 (sp pb wb a s1 s2 g : Nat) : hasR (fT sp pb wb a s1 s2 g).2.sc 5 = false := by kernel_rfl
theorem fit10 (sp pb wb a s1 s2 g : Nat) : (fT sp pb wb a s1 s2 g).2.drained = false := by kernel_rfl

theorem word_le {A : Ar} {S : Nat → Bool} {i c : Int} (hc : 0 ≤ c) (h : ∀ n : Nat, S n = true → wordAt A S n i ≤ c) (r : Int) : wordAt A S r i ≤ c := by
  by_cases hr : hasR S r = true
  · simp only [hasR, Bool.and_eq_true, decide_eq_true_eq] at hr
    have := h r.toNat hr.2
    rwa [show ((r.toNat : Nat) : Int) = r by omega] at this
  · have : wordAt A S r i = 0 := by
      unfold wordAt wordOk
      rw [Bool.not_eq_true] at hr
      rw [hr]; rfl
    omega
theorem fit11 (sp pb wb : Nat) (r : Int) : wordAt (fA3 sp pb wb) fS r 0 ≤ 100 := by
  refine word_le (by omega) (fun n hn => ?_) r
  have : n = 5 ∨ n = 1 := by
    simp only [fS, addTo, S0] at hn
    split at hn
    · left; omega
    · split at hn
      · right; omega
      · cases hn
  rcases this with rfl | rfl
  · have : wordAt (fA3 sp pb wb) fS ((5 : Nat) : Int) 0 = 1 := by kernel_rfl
    omega
  · have : wordAt (fA3 sp pb wb) fS ((1 : Nat) : Int) 0 = 1 := by kernel_rfl
    omega
theorem ar_sp (sp pb wb : Nat) : (fA1 sp pb wb).sp = sp ∧ (fA2 sp pb wb).sp = sp ∧ (fA3 sp pb wb).sp = sp := ⟨by kernel_rfl, by kernel_rfl, by kernel_rfl⟩
theorem ar_len (sp pb wb : Nat) : (fA3 sp pb wb).pages.length = 2 := by kernel_rfl

/-- What a law leaves behind itself: every old block as it lay. -/
def quiet (v : Value) (w : World) (G : Gh) (e : Ending) (w' : World) : Prop := e = .returned v ∧ ∃ G', Step (fun _ => False) w G w' G'

theorem St.new {T : Nat → Prop} {a b c : World} {Ga Gb Gc : Gh} (h : Step (fun _ => False) a Ga b Gb) (k : Step T b Gb c Gc) (hT : ∀ x, T x → a.heap.size ≤ x) : Step (fun _ => False) a Ga c Gc :=
  h.seq k (fun _ h => h) (fun x hx _ ht => by have := hT x ht; omega)

set_option maxHeartbeats 2000000 in
theorem law11_fit (w : World) (G : Gh) (hI : Inv w G) : Calls Try.prog 8 #[] w (quiet (.bool true) w G) := by
  have HI := Lib.hid hI
  clear hI
  go_enter Try.func8, Try.ntmps8
  go_wp2_with fail
  refine (arena_new 2 (by omega) (by omega) _ G HI.out).mono ?_
  rintro e w1 ⟨a, A, G1, rfl, ha1, ha2, hA, hsp, p1, p2, p3, hS1⟩
  have hA' := newA_of p1 p2 p3
  have hW0 := wf_newA 2 A.sp A.pb A.wb (by omega) (by omega)
  obtain ⟨sp, hspe⟩ : ∃ sp, sp = A.sp := ⟨_, rfl⟩
  obtain ⟨pb, hpb⟩ : ∃ pb, pb = A.pb := ⟨_, rfl⟩
  obtain ⟨wb, hwb⟩ : ∃ wb, wb = A.wb := ⟨_, rfl⟩
  rw [← hspe] at hsp
  rw [← hspe, ← hpb, ← hwb] at hA' hW0
  subst hA'
  have f1 := fit1 sp pb wb
  have f2 := fit2 sp pb wb
  obtain ⟨n1, e1, T1⟩ := take_spec hW0 (by decide) f1
  obtain rfl : n1 = 1 := by omega
  have hW1 : Wf (fA1 sp pb wb) (addTo S0 1) := T1.wf.setWord 1 0 1
  obtain ⟨n2, e2, T2⟩ := take_spec hW1 (by decide) f2
  obtain rfl : n2 = 5 := by omega
  have hW2 : Wf (fA2 sp pb wb) fS := T2.wf.setWord 5 0 1
  have hW3 : Wf (fA3 sp pb wb) fS := by
    have := hW2.setWord 1 (2 + 0) 5
    unfold fA3 Hw.setField
    rw [if_pos (fit3 sp pb wb)]; exact this
  have HA := Lib.hid hA
  have HS1 := Lib.hid hS1
  have HW0 := Lib.hid hW0
  have HW1 := Lib.hid hW1
  have HW2 := Lib.hid hW2
  have HW3 := Lib.hid hW3
  have hI1 := hS1.inv
  clear hA hS1 hW0 hW1 hW2 hW3 T1 T2 f1 f2 e1 e2 p1 p2 p3 hspe hpb hwb
  have hc1 := cell_new a (newA 2 sp pb wb) S0 1 (by omega) w1 G1 hI1 HA.out HW0.out
  unfold newPost at hc1
  rw [fit1] at hc1
  go_wp2_with fail
  refine hc1.mono ?_
  clear hc1
  rintro e w2 ⟨rfl, G2, hA2, hS2⟩
  have hS2' := HS1.out.new hS2 (fun x hx => by rcases hx with rfl | rfl; exact ha1; exact hsp)
  have hI2 := hS2.inv
  have HA2 := Lib.hid (show ArAt w2 G2 a (fA1 sp pb wb) (addTo S0 1) from hA2)
  have HS2 := Lib.hid hS2'
  clear hA2 hS2 hS2' hI1
  have hc2 := cell_new a (fA1 sp pb wb) (addTo S0 1) 1 (by omega) w2 G2 hI2 HA2.out HW1.out
  unfold newPost at hc2
  rw [fit2] at hc2
  go_wp2_with fail
  refine hc2.mono ?_
  clear hc2
  rintro e w3 ⟨rfl, G3, hA3, hS3⟩
  rw [(ar_sp sp pb wb).1] at hS3
  have hS3' := HS2.out.new hS3 (fun x hx => by rcases hx with rfl | rfl; exact ha1; exact hsp)
  have hI3 := hS3.inv
  have HA3 := Lib.hid (show ArAt w3 G3 a (fA2 sp pb wb) fS from hA3)
  have HS3 := Lib.hid hS3'
  clear hA3 hS3 hS3' hI2
  have hc3 := cell_setField a (fA2 sp pb wb) fS 1 0 5 (by omega) (by omega) w3 G3 hI3 HA3.out HW2.out
  unfold setFieldPost at hc3
  rw [fit3] at hc3
  go_wp2_with fail
  refine hc3.mono ?_
  clear hc3
  rintro e w4 ⟨rfl, G4, hA4, hS4⟩
  have hS4' := HS3.out.new hS4 (fun x hx => by subst hx; exact ha1)
  have hI4 := hS4.inv
  have HA4 := Lib.hid (show ArAt w4 G4 a (fA3 sp pb wb) fS from hA4)
  have HS4 := Lib.hid hS4'
  clear hA4 hS4 hS4' hI3
  go_wp2_with fail
  refine (mark_new a (fA3 sp pb wb) fS 1 (by omega) w4 G4 hI4 HA4.out).mono ?_
  rintro e w5 ⟨m, G5, M, rfl, hm, hM, hS5, q1, q2, q3, q4, q5, q6, q7, q8⟩
  rw [ar_len] at q2
  obtain ⟨s1, hs1⟩ : ∃ s1, s1 = M.s1 := ⟨_, rfl⟩
  obtain ⟨s2, hs2⟩ : ∃ s2, s2 = M.s2 := ⟨_, rfl⟩
  obtain ⟨g, hg⟩ : ∃ g, g = M.g := ⟨_, rfl⟩
  have hMe : M = fM a s1 s2 g := by
    obtain ⟨Ma, Ms1, Ms2, Mg, Mn, Mmr, Msc, Mst, Mroom, Mover⟩ := M
    simp only at q1 q2 q3 q4 q5 q6 q7 hs1 hs2 hg
    subst q1 q2 q3 q4 q5 q6 q7 hs1 hs2 hg
    rfl
  have hlsp : sp < w4.heap.size := lay_lt hI4 (by have := HA4.out.st; rw [(ar_sp sp pb wb).2.2] at this; rw [this]; rfl)
  have d1 : (fM a s1 s2 g).s1 ≠ sp := by have := q8 M.s1 (.inl rfl); show s1 ≠ sp; omega
  have d2 : (fM a s1 s2 g).s2 ≠ sp := by have := q8 M.s2 (.inr (.inl rfl)); show s2 ≠ sp; omega
  rw [hMe] at hM q8
  have hbT : ∀ x, (fM a s1 s2 g).T x → w.heap.size ≤ x := fun x hx => Nat.le_trans HS4.out.le (q8 x hx)
  have hI5 := hS5.inv
  have hS5' := HS4.out.seq1 hS5
  have HA5 := Lib.hid (HA4.out.step0 hI4 hS5)
  have HM5 := Lib.hid hM
  have HS5 := Lib.hid hS5'
  have HbT := Lib.hid hbT
  clear hM hS5 hS5' hI4 hMe q1 q2 q3 q4 q5 q6 q7 q8 hs1 hs2 hg hbT HS4 HA4 HS3 HA3 HS2 HA2 HS1 HA
  go_wp2_with fail
  refine (mark_shade m (fM a s1 s2 g) 1 w5 G5 hI5 HM5.out).mono ?_
  rintro e w6 ⟨rfl, G6, hM6, hS6⟩
  rw [fit4]
  have HM6 := Lib.hid hM6
  have HA6 := Lib.hid (HM5.out.arena hI5 HA5.out (by rw [(ar_sp sp pb wb).2.2]; exact d1) (by rw [(ar_sp sp pb wb).2.2]; exact d2) hS6)
  have HS6 := Lib.hid (HS5.out.new hS6 HbT.out)
  have hI6 := hS6.inv
  clear hM6 hS6 hI5
  go_wp2_with fail
  refine (mark_shade m ((fM a s1 s2 g).shade 1) 1 w6 G6 hI6 HM6.out).mono ?_
  rintro e w7 ⟨rfl, G7, hM7, hS7⟩
  rw [fit5]
  have HA7 := Lib.hid (HM6.out.arena hI6 HA6.out (by rw [(ar_sp sp pb wb).2.2]; exact d1) (by rw [(ar_sp sp pb wb).2.2]; exact d2) hS7)
  have HM7 := Lib.hid (show MkAt w7 G7 m (fM1 a s1 s2 g) from hM7)
  have HS7 := Lib.hid (HS6.out.new hS7 HbT.out)
  have hI7 := hS7.inv
  clear hM7 hS7 hI6
  go_wp2_with fail
  refine (mark_trace m (fM1 a s1 s2 g) (fA3 sp pb wb) fS 1 (by omega) (by omega) HW3.out (fit11 sp pb wb) (by rw [(ar_sp sp pb wb).2.2]; exact d1) (by rw [(ar_sp sp pb wb).2.2]; exact d2) w7 G7 hI7 HM7.out HA7.out).mono ?_
  rintro e w8 ⟨rfl, G8, hM8, hS8⟩
  have hte : Mk.trace (pts (fA3 sp pb wb) fS) (1 : Int).toNat (fM1 a s1 s2 g) = fT sp pb wb a s1 s2 g := rfl
  rw [hte] at hM8 ⊢
  rw [fit6]
  have HM8 := Lib.hid hM8
  have HS8 := Lib.hid (HS7.out.new hS8 HbT.out)
  have hI8 := hS8.inv
  clear hM8 hS8 hI7
  go_wp2_with fail
  refine (mark_scanned m _ 1 w8 G8 hI8 HM8.out).mono ?_
  rintro e w9 ⟨rfl, G9, hS9⟩
  rw [fit7]
  have HM9 := Lib.hid (HM8.out.step0 hI8 hS9)
  have HS9 := Lib.hid (HS8.out.seq1 hS9)
  have hI9 := hS9.inv
  clear hS9 hI8
  go_wp2_with fail
  refine (mark_marked m _ 5 w9 G9 hI9 HM9.out).mono ?_
  rintro e w10 ⟨rfl, G10, hS10⟩
  rw [fit8]
  have HM10 := Lib.hid (HM9.out.step0 hI9 hS10)
  have HS10 := Lib.hid (HS9.out.seq1 hS10)
  have hI10 := hS10.inv
  clear hS10 hI9
  go_wp2_with fail
  refine (mark_scanned m _ 5 w10 G10 hI10 HM10.out).mono ?_
  rintro e w11 ⟨rfl, G11, hS11⟩
  rw [fit9]
  have HM11 := Lib.hid (HM10.out.step0 hI10 hS11)
  have HS11 := Lib.hid (HS10.out.seq1 hS11)
  have hI11 := hS11.inv
  clear hS11 hI10
  go_wp2_with fail
  refine (mark_drained m _ w11 G11 hI11 HM11.out).mono ?_
  rintro e w12 ⟨rfl, G12, hS12⟩
  rw [fit10]
  have HS12 := Lib.hid (HS11.out.seq1 hS12)
  clear hS12
  go_wp2
  go_ret
  exact ⟨rfl, G12, HS12.out⟩
end Go.Hw
