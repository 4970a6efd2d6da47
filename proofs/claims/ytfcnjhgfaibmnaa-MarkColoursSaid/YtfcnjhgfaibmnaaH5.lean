/- MarkColours: whatever the graph and the deeds, the law returns true, and its arguments read as they did. No condition. -/
import Derived.Test.YtfcnjhgfaibmnaaB5
import Derived.Test.YtfcnjhgfaibmnaaQ1
namespace Go.Proofs.Ytfcnjhgfaibmnaa
open Go.ChangeShapes Go.WideShapes Go.ChangeAt Go.RowKit Go.Hw

theorem B5.own : ownKnob Try.prog.godebug = none := by kernel_rfl

set_option maxRecDepth 100000 in
theorem B5.lifted (os : Os) (started : os.Started) (H : Type) (enc : TypeId × Value → H) :
    ReturnsInHanded {} Try.checked os 7 .any (Rows.markColoursSpec.pre6 enc Try.prog Try.f7 Rows.markColoursRow.domain false) (Rows.markColoursSpec.post enc Try.prog Try.f7 false true false false) := by
  refine returnsInHanded_of_change (C := Try.checked) B5.own started (by kernel_rfl) Try.func7
    (ChangeSpec.witness6 (enc := enc) (C := Try.checked) false ⟨#[], #[.agg #[.slice none 0 0, .slice none 0 0], .slice none 0 0], []⟩ 8 (by kernel_rfl) (by kernel_rfl) (by kernel_rfl) (by kernel_rfl)) ?_
  intro W base args ds gs before hval0 hW hcnd _
  have hval : ∀ (j : Nat) t v, Try.f7.params[j]? = some t → args[j]? = some v → Value.okWide Try.prog W .any base t v := hval0
  have hW' := hW
  obtain ⟨p, q, hA0, hV, rfl, hfz, hnd⟩ := hW
  have hA : DataW.TrodAll enc Try.prog W 0 (fun _ => true) true Try.f7.params.toList args.toList ds p := hA0
  rw [Try.params7] at hA hval
  obtain ⟨v0, v1, d0, d1, p0, p1, rfl, rfl, rfl, h0, h1⟩ := trodAll_two hA
  obtain ⟨a1, a2, fs, es, rfl, k1, k2⟩ := open_graph (hval 0 _ v0 rfl rfl) h0
  obtain ⟨nw, fw, k3⟩ := open_u8x2s (hval 1 _ v1 rfl rfl) h1
  refine (colours_any a1 a2 v1 fs es nw fw W GR (inv_raw W) k1 k2 k3).mono fun e W' ⟨he, G', hS⟩ => ?_
  subst he
  exact ⟨_, rfl, law_post laidOut hW' rfl Try.underlying4 rfl (by kernel_rfl) (fun ds hl => by match ds, hl with | [d1, d2], _ => rfl) hS⟩

theorem markColours_holds : Rows.MarkColoursSaid :=
  OpenClaim.holds_of_wide 7 Try.f7 rfl rfl rfl rfl rfl rfl rfl ⟨rfl, rfl, rfl, rfl, rfl⟩ rfl rfl rfl rfl rfl (by kernel_rfl) Try.func7 (by kernel_rfl)
    (of_decide_eq_true (by kernel_rfl)) (by unfold Func.isWrapper; first | (rw [if_pos (by decide +kernel)]; kernel_rfl) | (rw [if_neg (by decide +kernel)]; exact ⟨rfl, rfl⟩))
    (fun os started H enc _ => B5.lifted os started H enc)
#print axioms markColours_holds
end Go.Proofs.Ytfcnjhgfaibmnaa
