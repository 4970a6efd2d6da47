/- mark.Count. -/
import Derived.Test.YtfcnjhgfaibmnaaE5
import Derived.Test.YtfcnjhgfaibmnaaP1
namespace Go.Hw
open Go.RowKit Go.Proofs

theorem mark_count (m : Nat) (M : Mk) (w : World) (G : Gh) (hI : Inv w G) (hM : MkAt w G m M) :
    Calls Try.prog 19 #[.pointer (some ⟨m, 0, none⟩)] w (qPost (.int .i64 (pcn M.mr M.n : Nat)) w G) := by
  have hc : w.cell? ⟨m, 1, none⟩ = some (.pointer (some ⟨M.s1, 0, none⟩)) := hM.raw.cell 1
  have HM := Lib.hid hM
  clear hM
  go_enter Try.func19, Try.ntmps19
  go_wp2_with fail
  refine (set_count M.s1 _ M.mr w G hI HM.out.e1).mono ?_
  rintro e w1 ⟨rfl, G1, hS⟩
  go_wp2
  go_ret
  exact ⟨rfl, G1, hS⟩
end Go.Hw
