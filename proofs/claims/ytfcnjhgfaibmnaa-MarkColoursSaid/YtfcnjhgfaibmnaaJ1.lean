/- Barrier yuasa. -/
import Derived.Test.YtfcnjhgfaibmnaaV3
import Derived.Test.YtfcnjhgfaibmnaaR2
import Derived.StillTailTactics
namespace Go.Hw
open Go.RowKit Go.Proofs

abbrev YuAt (w : World) (G : Gh) (b m : Nat) : Prop := Raw w G b #[.func (.func 14) #[.pointer (some ⟨m, 0, none⟩)] #[]] 93

theorem yuasa_new (m : Nat) (w : World) :
    Calls Try.prog 30 #[.pointer (some ⟨m, 0, none⟩)] w fun e w' => e = .returned (.pointer (some ⟨w.heap.size, 0, none⟩)) ∧ w' = w.alloc (.cells #[.func (.func 14) #[.pointer (some ⟨m, 0, none⟩)] #[]] 93) := by
  have hmf : ∀ (fn : Fn) (first cap : Array Value) (w : World), (Instr.makeFunc fn first cap).run Try.prog w = .ok (.func fn first cap) w := fun _ _ _ _ => rfl
  go_enter Try.func30, Try.ntmps30
  go_wp2
  go_ret
  exact ⟨rfl, rfl⟩

theorem yuasa_pre (b m : Nat) (M : Mk) (src old : Int) (w : World) (G : Gh) (hI : Inv w G) (hM : MkAt w G m M) (hb : YuAt w G b m) :
    Calls Try.prog 31 #[.pointer (some ⟨b, 0, none⟩), .int .i64 src, .int .i64 old] w (mPost m M (.tuple #[]) (M.shade old) w G) := by
  have hc := hb.cell 0
  have HM := Lib.hid hM
  clear hM hb
  go_enter Try.func31, Try.ntmps31
  go_wp2_with fail
  refine (mark_shade m M old w G hI HM.out).mono ?_
  rintro e w1 ⟨rfl, G1, h1, hS1⟩
  go_wp2
  go_end0
  exact ⟨rfl, G1, h1, hS1⟩

def Mk.yu (M : Mk) (old new : Int) (early : Bool) : Mk := if early = true then (M.shade old).shade new else M.shade old

set_option maxRecDepth 100000 in
theorem yuasa_post (b m : Nat) (M : Mk) (src old new : Int) (black early : Bool) (w : World) (G : Gh) (hI : Inv w G) (hM : MkAt w G m M) (hb : YuAt w G b m) :
    Calls Try.prog 32 #[.pointer (some ⟨b, 0, none⟩), .agg #[.int .i64 src, .int .i64 old, .int .i64 new, .bool black, .bool early]] w (mPost m M (.tuple #[]) (M.yu old new early) w G) := by
  have hS0 : Step M.T w G (w.alloc (.cells #[.int .i64 src, .int .i64 old, .int .i64 new, .bool black, .bool early] 52)) G := (St.refl hI).alloc _
  have hS00 : Step (fun _ => False) w G (w.alloc (.cells #[.int .i64 src, .int .i64 old, .int .i64 new, .bool black, .bool early] 52)) G := (St.refl hI).alloc _
  have hr := Raw.new hI #[.int .i64 src, .int .i64 old, .int .i64 new, .bool black, .bool early] 52
  have hb0 := hb.step hS0
  have hM0 := hM.step0 hI hS00
  have HS0 := Lib.hid hS0
  have HR := Lib.hid hr
  have HB := Lib.hid hb0
  have HM := Lib.hid hM0
  clear hM hb hS0 hS00 hr hb0 hM0
  go_enter Try.func32, Try.ntmps32
  go_wp2
  generalize hbw : w.heap.size = bw at *
  generalize w.alloc (.cells #[.int .i64 src, .int .i64 old, .int .i64 new, .bool black, .bool early] 52) = w1 at *
  have hc : w1.cell? ⟨b, 0, none⟩ = some (.func (.func 14) #[.pointer (some ⟨m, 0, none⟩)] #[]) := HB.out.cell 0
  have hc1 : w1.cell? ⟨bw, 1, none⟩ = some (.int .i64 old) := HR.out.cell 1
  go_wp2
  go_still_tail 6, (by kernel_rfl)
  change wpList _ _ _ _ _ w1.drew
  have hD : Step (fun _ => False) w1 G w1.drew G := (St.refl HS0.out.inv).drew
  have HM2 := Lib.hid (HM.out.step0 HS0.out.inv hD)
  have HB2 := Lib.hid (HB.out.step hD)
  have HR2 := Lib.hid (HR.out.step hD)
  have HS2 := Lib.hid (HS0.out.seq1 hD)
  clear hD hc hc1 HM HB HR HS0
  generalize w1.drew = w2 at *
  go_wp2_with fail
  refine (mark_shade m M old w2 G HS2.out.inv HM2.out).mono ?_
  rintro e w3 ⟨rfl, G3, h3, hS3⟩
  have HM3 := Lib.hid h3
  have HB3 := Lib.hid (HB2.out.step hS3)
  have HR3 := Lib.hid (HR2.out.step hS3)
  have HS3 := Lib.hid (HS2.out.seqT hS3)
  have hc4 : w3.cell? ⟨bw, 4, none⟩ = some (.bool early) := HR3.out.cell 4
  clear h3 hS3 HM2 HB2 HR2 HS2
  cases early with
  | false =>
    go_wp2
    go_end0
    exact ⟨rfl, G3, HM3.out, HS3.out⟩
  | true =>
    go_wp2
    have hc : w3.cell? ⟨b, 0, none⟩ = some (.func (.func 14) #[.pointer (some ⟨m, 0, none⟩)] #[]) := HB3.out.cell 0
    have hc2 : w3.cell? ⟨bw, 2, none⟩ = some (.int .i64 new) := HR3.out.cell 2
    go_still_tail 6, (by kernel_rfl)
    change wpList _ _ _ _ _ w3.drew
    have hD : Step (fun _ => False) w3 G3 w3.drew G3 := (St.refl HS3.out.inv).drew
    have HM4 := Lib.hid (HM3.out.step0 HS3.out.inv hD)
    have HS4 := Lib.hid (HS3.out.seq1 hD)
    clear hD hc hc2 hc4 HM3 HB3 HR3 HS3
    generalize w3.drew = w4 at *
    go_wp2_with fail
    refine (mark_shade m (M.shade old) new w4 G3 HS4.out.inv HM4.out).mono ?_
    rintro e w5 ⟨rfl, G5, h5, hS5⟩
    rw [Mk.T_ids (M.ids_shade old)] at hS5
    have HM5 := Lib.hid h5
    have HS5 := Lib.hid (HS4.out.seqT hS5)
    clear h5 hS5
    go_wp2
    go_end0
    exact ⟨rfl, G5, HM5.out, HS5.out⟩

theorem yuasa_rescans (b : Nat) (w : World) : Calls Try.prog 57 #[.pointer (some ⟨b, 0, none⟩)] w fun e w' => e = .returned (.bool false) ∧ w' = w := by
  go_enter Try.func57, Try.ntmps57
  go_wp2
  go_ret
  exact ⟨rfl, rfl⟩
end Go.Hw
