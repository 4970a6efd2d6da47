/- Package cell. -/
import Derived.Test.YtfcnjhgfaibmnaaM3
import Derived.Test.YtfcnjhgfaibmnaaI1
namespace Go.Hw
open Go.RowKit Go.Proofs
attribute [local go_sem] Oper.semAt_some

def newPost (a : Nat) (A : Ar) (S : Nat → Bool) (f : Int) (w : World) (G : Gh) (e : Ending) (w' : World) : Prop :=
  match takeOf A S (classOf f) with
  | none => e = .returned (.tuple #[.int .i64 0, .int .i64 10]) ∧ ∃ G', Step (fun _ => False) w G w' G'
  | some (r, A') => e = .returned (.tuple #[.int .i64 r, .int .i64 0]) ∧ ∃ G', ArAt w' G' a (setWord A' (addTo S r) r 0 f) (addTo S r) ∧ Step (fun x => x = a ∨ x = A.sp) w G w' G'

theorem sizeN {A : Ar} {S : Nat → Bool} (h : Wf A S) {n : Nat} (hn : S n = true) : (n : Int) ≤ 4611686018427387904 := by
  have h1 := h.fits n hn
  have h2 := h.n1
  have h3 := words_bd (clsAt A (pageAt A n))
  omega

set_option maxHeartbeats 1000000 in
theorem cell_new (a : Nat) (A : Ar) (S : Nat → Bool) (f : Int) (hf : 0 ≤ f ∧ f ≤ 6) (w : World) (G : Gh) (hI : Inv w G) (hA : ArAt w G a A S) (hW : Wf A S) :
    Calls Try.prog 39 #[.pointer (some ⟨a, 0, none⟩), .int .i64 f] w (newPost a A S f w G) := by
  have HA := Lib.hid hA
  have HW := Lib.hid hW
  have hcb := class_bd f
  have hc := size_class f w
  unfold classPost at hc
  rw [if_pos hf, decide_eq_true hf] at hc
  have Hc := Lib.hid hc
  obtain ⟨hf0, hf6⟩ := hf
  have htk := arena_take a A S (classOf f) w G hI hA hW.cntb (by have := hW.freeb; omega) hW.freex
  unfold takePost at htk
  clear hc hA hW
  cases ht : takeOf A S (classOf f) with
  | none =>
    rw [ht] at htk
    have Htk := Lib.hid htk
    have Ht := Lib.hid ht
    clear htk ht
    go_enter Try.func39, Try.ntmps39
    go_wp2_with fail
    refine Hc.out.mono ?_
    rintro e w1 ⟨rfl, rfl⟩
    go_wp2_with fail
    refine Htk.out.mono ?_
    rintro e w2 ⟨rfl, G2, hS2⟩
    go_wp2
    go_ret2
    unfold newPost
    rw [Ht.out]
    exact ⟨rfl, G2, hS2⟩
  | some x =>
    obtain ⟨r, A'⟩ := x
    rw [ht] at htk
    obtain ⟨n, rfl, hT⟩ := take_spec HW.out hcb ht
    have Htk := Lib.hid htk
    have Ht := Lib.hid ht
    have HT := Lib.hid hT
    clear htk ht hT
    go_enter Try.func39, Try.ntmps39
    go_wp2_with fail
    refine Hc.out.mono ?_
    rintro e w1 ⟨rfl, rfl⟩
    go_wp2_with fail
    refine Htk.out.mono ?_
    rintro e w2 ⟨rfl, G2, hA2, hS2⟩
    have hI2 := hS2.inv
    have HS2 := Lib.hid hS2
    have HA2 := Lib.hid hA2
    clear hS2 hA2
    go_wp2_with fail
    refine (arena_Set a A' (addTo S n) n 0 f _ G2 hI2 HA2.out HT.out.wf.fits (sizeN HT.out.wf (by rw [addTo_ref]; simp))).mono ?_
    rintro e w3 ⟨rfl, G3, hA3, hS3⟩
    have HS3 := Lib.hid (HS2.out.seq hS3 (T := fun x => x = a ∨ x = A.sp) (fun _ h => h) (fun _ _ _ h => .inl h))
    have HA3 := Lib.hid hA3
    clear hS3 hA3
    go_wp2
    go_ret2
    unfold newPost
    rw [Ht.out]
    exact ⟨rfl, G3, HA3.out, HS3.out⟩

theorem cell_fields (a : Nat) (A : Ar) (S : Nat → Bool) (r : Int) (hr : r ≤ 4611686018427387904) (w : World) (G : Gh) (hI : Inv w G) (hA : ArAt w G a A S) (hW : Wf A S) :
    Calls Try.prog 41 #[.pointer (some ⟨a, 0, none⟩), .int .i64 r] w (WordPost A S r 0 w G) := by
  have HA := Lib.hid hA
  have HW := Lib.hid hW
  clear hA hW
  go_enter Try.func41, Try.ntmps41
  go_wp2_with fail
  refine (arena_Word a A S r 0 w G hI HA.out HW.out.fits hr).mono ?_
  rintro e w1 ⟨rfl, G1, hS1⟩
  go_wp2
  go_ret
  exact ⟨rfl, G1, hS1⟩

def chk (A : Ar) (S : Nat → Bool) (r i : Int) : Int := if r = 0 then 8 else if i < 0 ∨ i ≥ wordAt A S r 0 then 6 else 0
def chkPost (A : Ar) (S : Nat → Bool) (r i : Int) (w : World) (G : Gh) (e : Ending) (w' : World) : Prop := e = .returned (.int .i64 (chk A S r i)) ∧ ∃ G', Step (fun _ => False) w G w' G'

theorem cell_check (a : Nat) (A : Ar) (S : Nat → Bool) (r i : Int) (hr : r ≤ 4611686018427387904) (w : World) (G : Gh) (hI : Inv w G) (hA : ArAt w G a A S) (hW : Wf A S) :
    Calls Try.prog 66 #[.pointer (some ⟨a, 0, none⟩), .int .i64 r, .int .i64 i] w (chkPost A S r i w G) := by
  have HA := Lib.hid hA
  have HW := Lib.hid hW
  clear hA hW
  by_cases h0 : r = 0
  · subst h0
    go_enter Try.func66, Try.ntmps66
    go_wp2
    go_ret
    exact ⟨ret_int (by simp [chk]), G, St.refl hI⟩
  · have h0' : (r == 0) = false := by simpa using h0
    by_cases h1 : i < 0
    · have hfin : chk A S r i = 6 := by rw [chk, if_neg h0, if_pos (.inl h1)]
      have Hf := Lib.hid hfin
      clear h0 hfin
      go_enter Try.func66, Try.ntmps66
      go_wp2
      go_ret
      exact ⟨ret_int Hf.out.symm, G, St.refl hI⟩
    · have h1' : 0 ≤ i := by omega
      by_cases h2 : i ≥ wordAt A S r 0
      · have hfin : chk A S r i = 6 := by rw [chk, if_neg h0, if_pos (.inr h2)]
        have Hf := Lib.hid hfin
        have h2' : wordAt A S r 0 ≤ i := h2
        clear h0 hfin
        go_enter Try.func66, Try.ntmps66
        go_wp2_with fail
        refine (cell_fields a A S r hr _ G hI HA.out HW.out).mono ?_
        rintro e w1 ⟨rfl, G1, hS1⟩
        go_wp2
        go_ret
        exact ⟨ret_int Hf.out.symm, G1, hS1⟩
      · have hfin : chk A S r i = 0 := by rw [chk, if_neg h0, if_neg (by omega)]
        have Hf := Lib.hid hfin
        have h2' : i < wordAt A S r 0 := by omega
        clear h0 hfin h2
        go_enter Try.func66, Try.ntmps66
        go_wp2_with fail
        refine (cell_fields a A S r hr _ G hI HA.out HW.out).mono ?_
        rintro e w1 ⟨rfl, G1, hS1⟩
        go_wp2
        go_ret
        exact ⟨ret_int Hf.out.symm, G1, hS1⟩

def fieldPost (A : Ar) (S : Nat → Bool) (r i : Int) (w : World) (G : Gh) (e : Ending) (w' : World) : Prop :=
  e = .returned (.tuple #[.int .i64 (if chk A S r i = 0 then wordAt A S r (2 + i) else 0), .int .i64 (chk A S r i)]) ∧ ∃ G', Step (fun _ => False) w G w' G'

theorem cell_field (a : Nat) (A : Ar) (S : Nat → Bool) (r i : Int) (hr : r ≤ 4611686018427387904) (hi : i ≤ 4611686018427387904) (w : World) (G : Gh) (hI : Inv w G) (hA : ArAt w G a A S) (hW : Wf A S) :
    Calls Try.prog 69 #[.pointer (some ⟨a, 0, none⟩), .int .i64 r, .int .i64 i] w (fieldPost A S r i w G) := by
  have HA := Lib.hid hA
  have HW := Lib.hid hW
  clear hA hW
  by_cases hk : chk A S r i = 0
  · have h0 : 0 ≤ i := by
      unfold chk at hk
      split at hk
      · cases hk
      · split at hk
        · cases hk
        · omega
    have Hk := Lib.hid hk
    clear hk
    go_enter Try.func69, Try.ntmps69
    go_wp2_with fail
    refine (cell_check a A S r i hr _ G hI HA.out HW.out).mono ?_
    rintro e w1 ⟨rfl, G1, hS1⟩
    rw [Hk.out]
    have hI1 := hS1.inv
    have HA1 := Lib.hid (HA.out.step0 hI hS1)
    have HS1 := Lib.hid hS1
    clear hS1
    go_wp2_with fail
    refine (arena_Word a A S r (2 + i) _ G1 hI1 HA1.out HW.out.fits hr).mono ?_
    rintro e w2 ⟨rfl, G2, hS2⟩
    have HS2 := Lib.hid (HS1.out.seqT hS2)
    clear hS2
    go_wp2
    go_ret2
    refine ⟨?_, G2, HS2.out⟩
    rw [Hk.out, if_pos rfl]
    rfl
  · have Hk := Lib.hid hk
    have hk' : (chk A S r i != 0) = true := by simpa using hk
    clear hk
    go_enter Try.func69, Try.ntmps69
    go_wp2_with fail
    refine (cell_check a A S r i hr _ G hI HA.out HW.out).mono ?_
    rintro e w1 ⟨rfl, G1, hS1⟩
    go_wp2
    go_ret2
    refine ⟨?_, G1, hS1⟩
    rw [if_neg Hk.out]
    rfl

def setField (A : Ar) (S : Nat → Bool) (r i x : Int) : Ar := if chk A S r i = 0 then setWord A S r (2 + i) x else A
def setFieldPost (a : Nat) (A : Ar) (S : Nat → Bool) (r i x : Int) (w : World) (G : Gh) (e : Ending) (w' : World) : Prop :=
  e = .returned (.int .i64 (chk A S r i)) ∧ ∃ G', ArAt w' G' a (setField A S r i x) S ∧ Step (fun c => c = a) w G w' G'

theorem cell_setField (a : Nat) (A : Ar) (S : Nat → Bool) (r i x : Int) (hr : r ≤ 4611686018427387904) (hi : i ≤ 4611686018427387904) (w : World) (G : Gh) (hI : Inv w G) (hA : ArAt w G a A S) (hW : Wf A S) :
    Calls Try.prog 40 #[.pointer (some ⟨a, 0, none⟩), .int .i64 r, .int .i64 i, .int .i64 x] w (setFieldPost a A S r i x w G) := by
  have HA := Lib.hid hA
  have HW := Lib.hid hW
  clear hA hW
  by_cases hk : chk A S r i = 0
  · have h0 : 0 ≤ i := by
      unfold chk at hk
      split at hk
      · cases hk
      · split at hk
        · cases hk
        · omega
    have Hk := Lib.hid hk
    clear hk
    go_enter Try.func40, Try.ntmps40
    go_wp2_with fail
    refine (cell_check a A S r i hr _ G hI HA.out HW.out).mono ?_
    rintro e w1 ⟨rfl, G1, hS1⟩
    rw [Hk.out]
    have hI1 := hS1.inv
    have HA1 := Lib.hid (HA.out.step0 hI hS1)
    have HS1 := Lib.hid hS1
    clear hS1
    go_wp2_with fail
    refine (arena_Set a A S r (2 + i) x _ G1 hI1 HA1.out HW.out.fits hr).mono ?_
    rintro e w2 ⟨rfl, G2, hA2, hS2⟩
    have HS2 := Lib.hid (HS1.out.seq0 hS2)
    have HA2 := Lib.hid hA2
    clear hS2 hA2
    go_wp2
    go_ret
    refine ⟨ret_int Hk.out.symm, G2, ?_, HS2.out⟩
    rw [setField, if_pos Hk.out]; exact HA2.out
  · have Hk := Lib.hid hk
    have hk' : (chk A S r i == 0) = false := by simpa using hk
    clear hk
    go_enter Try.func40, Try.ntmps40
    go_wp2_with fail
    refine (cell_check a A S r i hr _ G hI HA.out HW.out).mono ?_
    rintro e w1 ⟨rfl, G1, hS1⟩
    have HA1 := Lib.hid (HA.out.step0 hI hS1)
    go_wp2
    go_ret
    refine ⟨rfl, G1, ?_, hS1.mono (fun _ h => h.elim) (Nat.le_refl _)⟩
    rw [setField, if_neg Hk.out]; exact HA1.out
end Go.Hw
