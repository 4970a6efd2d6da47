/- MarkReaches: whatever the graph, the roots and the room, the law returns true, and its arguments read as they did. No condition. -/
import Derived.Test.YtfcnjhgfaibmnaaB2
import Derived.Test.YtfcnjhgfaibmnaaQ1
namespace Go.Proofs.Ytfcnjhgfaibmnaa
open Go.ChangeShapes Go.WideShapes Go.ChangeAt Go.RowKit Go.Hw

theorem B2.own : ownKnob Try.prog.godebug = none := by kernel_rfl

set_option maxRecDepth 100000 in
theorem B2.lifted (os : Os) (started : os.Started) (H : Type) (enc : TypeId × Value → H) :
    ReturnsInHanded {} Try.checked os 3 .any (Rows.markReachesSpec.pre6 enc Try.prog Try.f3 Rows.markReachesRow.domain false) (Rows.markReachesSpec.post enc Try.prog Try.f3 false true false false) := by
  refine returnsInHanded_of_change (C := Try.checked) B2.own started (by kernel_rfl) Try.func3
    (ChangeSpec.witness6 (enc := enc) (C := Try.checked) false ⟨#[], #[.agg #[.slice none 0 0, .slice none 0 0], .slice none 0 0, .agg #[.int .u8 0, .int .u8 0]], []⟩ 8 (by kernel_rfl) (by kernel_rfl) (by kernel_rfl) (by kernel_rfl)) ?_
  intro W base args ds gs before hval0 hW hcnd _
  have hval : ∀ (j : Nat) t v, Try.f3.params[j]? = some t → args[j]? = some v → Value.okWide Try.prog W .any base t v := hval0
  have hW' := hW
  obtain ⟨p, q, hA0, hV, rfl, hfz, hnd⟩ := hW
  have hA : DataW.TrodAll enc Try.prog W 0 (fun _ => true) true Try.f3.params.toList args.toList ds p := hA0
  rw [Try.params3] at hA hval
  obtain ⟨v0, v1, v2, d0, d1, d2, p0, p1, p2, rfl, rfl, rfl, h0, h1, h2⟩ := trodAll_three hA
  obtain ⟨a1, a2, fs, es, rfl, k1, k2⟩ := open_graph (hval 0 _ v0 rfl rfl) h0
  obtain ⟨xs, k3⟩ := open_bytes (hval 1 _ v1 rfl rfl) h1
  obtain ⟨x, y, rfl, wx, wy⟩ := open_u8x2 (hval 2 _ v2 rfl rfl) h2
  refine (reaches_any a1 a2 v1 fs es xs x y wx wy W GR (inv_raw W) k1 k2 k3).mono fun e W' ⟨he, G', hS⟩ => ?_
  subst he
  exact ⟨_, rfl, law_post laidOut hW' rfl Try.underlying4 rfl (by kernel_rfl) (fun ds hl => by match ds, hl with | [d1, d2, d3], _ => rfl) hS⟩

theorem markReaches_holds : Rows.MarkReachesSaid :=
  OpenClaim.holds_of_wide 3 Try.f3 rfl rfl rfl rfl rfl rfl rfl ⟨rfl, rfl, rfl, rfl, rfl⟩ rfl rfl rfl rfl rfl (by kernel_rfl) Try.func3 (by kernel_rfl)
    (of_decide_eq_true (by kernel_rfl)) (by unfold Func.isWrapper; first | (rw [if_pos (by decide +kernel)]; kernel_rfl) | (rw [if_neg (by decide +kernel)]; exact ⟨rfl, rfl⟩))
    (fun os started H enc _ => B2.lifted os started H enc)
#print axioms markReaches_holds
end Go.Proofs.Ytfcnjhgfaibmnaa
