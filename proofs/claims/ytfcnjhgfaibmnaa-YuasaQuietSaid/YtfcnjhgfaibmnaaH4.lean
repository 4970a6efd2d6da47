/- YuasaQuiet: whatever the graph and the writes, the law returns true, and its arguments read as they did. No condition. -/
import Derived.Test.YtfcnjhgfaibmnaaB4
import Derived.Test.YtfcnjhgfaibmnaaQ1
namespace Go.Proofs.Ytfcnjhgfaibmnaa
open Go.ChangeShapes Go.WideShapes Go.ChangeAt Go.RowKit Go.Hw

theorem B4.own : ownKnob Try.prog.godebug = none := by kernel_rfl

set_option maxRecDepth 100000 in
theorem B4.lifted (os : Os) (started : os.Started) (H : Type) (enc : TypeId × Value → H) :
    ReturnsInHanded {} Try.checked os 5 .any (Rows.yuasaQuietSpec.pre6 enc Try.prog Try.f5 Rows.yuasaQuietRow.domain false) (Rows.yuasaQuietSpec.post enc Try.prog Try.f5 false true false false) := by
  refine returnsInHanded_of_change (C := Try.checked) B4.own started (by kernel_rfl) Try.func5
    (ChangeSpec.witness6 (enc := enc) (C := Try.checked) false ⟨#[], #[.agg #[.slice none 0 0, .slice none 0 0], .slice none 0 0], []⟩ 8 (by kernel_rfl) (by kernel_rfl) (by kernel_rfl) (by kernel_rfl)) ?_
  intro W base args ds gs before hval0 hW hcnd _
  have hval : ∀ (j : Nat) t v, Try.f5.params[j]? = some t → args[j]? = some v → Value.okWide Try.prog W .any base t v := hval0
  have hW' := hW
  obtain ⟨p, q, hA0, hV, rfl, hfz, hnd⟩ := hW
  have hA : DataW.TrodAll enc Try.prog W 0 (fun _ => true) true Try.f5.params.toList args.toList ds p := hA0
  rw [Try.params5] at hA hval
  obtain ⟨v0, v1, d0, d1, p0, p1, rfl, rfl, rfl, h0, h1⟩ := trodAll_two hA
  obtain ⟨a1, a2, fs, es, rfl, k1, k2⟩ := open_graph (hval 0 _ v0 rfl rfl) h0
  obtain ⟨nw, fw, k3⟩ := open_u8x2s (hval 1 _ v1 rfl rfl) h1
  refine (yuasaQuiet_any a1 a2 v1 fs es nw fw W GR (inv_raw W) k1 k2 k3).mono fun e W' ⟨he, G', hS⟩ => ?_
  subst he
  exact ⟨_, rfl, law_post laidOut hW' rfl Try.underlying4 rfl (by kernel_rfl) (fun ds hl => by match ds, hl with | [d1, d2], _ => rfl) hS⟩

theorem yuasaQuiet_holds : Rows.YuasaQuietSaid :=
  OpenClaim.holds_of_wide 5 Try.f5 rfl rfl rfl rfl rfl rfl rfl ⟨rfl, rfl, rfl, rfl, rfl⟩ rfl rfl rfl rfl rfl (by kernel_rfl) Try.func5 (by kernel_rfl)
    (of_decide_eq_true (by kernel_rfl)) (by unfold Func.isWrapper; first | (rw [if_pos (by decide +kernel)]; kernel_rfl) | (rw [if_neg (by decide +kernel)]; exact ⟨rfl, rfl⟩))
    (fun os started H enc _ => B4.lifted os started H enc)
#print axioms yuasaQuiet_holds
end Go.Proofs.Ytfcnjhgfaibmnaa
