/- Maps from objects to numbers, raw: what the laws count by. -/
import Derived.Test.YtfcnjhgfaibmnaaL3
import Derived.Maps.OwnSet
import Derived.Maps.Views
namespace Go.Hw
open Go.RowKit Go.Proofs Go.ChangeMaps Go.ChangeShapes

structure IMapAt (w : World) (G : Gh) (b n : Nat) (f : Int → Int) (ks : List Int) : Prop where
  raw : G b = .raw
  ex : ∃ D : DataW Unit, w.ownsMap Try.prog 36 (plainElem Try.prog 3) b n D ∧ (∀ x, D.atKey (kL x) (.lit (.int .i64 0)) = .lit (.int .i64 (f x))) ∧ Maps.size D = ks.length ∧ (∀ x, Maps.has D (kL x) = decide (x ∈ ks))

theorem IMapAt.lt {w : World} {G : Gh} {b n : Nat} {f : Int → Int} {ks : List Int} (h : IMapAt w G b n f ks) : b < w.heap.size := by
  obtain ⟨-, D, hd, -⟩ := h
  exact hd.lt
theorem ownsMap_same {w w' : World} {P : Program} {k : TypeId} {R : Value → Option (DataW Unit × List MemPlace)} {b n : Nat} {D : DataW Unit} (h : w.ownsMap P k R b n D) (hb : w'.heap[b]? = w.heap[b]?) : w'.ownsMap P k R b n D := by
  obtain ⟨es, clock, h1, h2⟩ := h
  exact ⟨es, clock, hb.trans h1, h2⟩
theorem IMapAt.step {T : Nat → Prop} {B : Nat} {w w' : World} {G G' : Gh} {b n : Nat} {f : Int → Int} {ks : List Int} (h : IMapAt w G b n f ks) (k : St T B w G w' G') : IMapAt w' G' b n f ks := by
  have hlt := h.lt
  obtain ⟨hr, D, hd, h1⟩ := h
  exact ⟨(k.raw b hlt hr).1, D, ownsMap_same hd (k.raw b hlt hr).2, h1⟩
theorem IMapAt.new {w : World} {G : Gh} (hI : Inv w G) : IMapAt (w.alloc (.map #[] 0)) G w.heap.size 0 (fun _ => 0) [] :=
  ⟨hI.new _ (Nat.le_refl _), .map [], World.ownsMap_made _ _ _ _, fun _ => rfl, rfl, fun _ => rfl⟩
theorem IMapAt.new' {w w' : World} {G : Gh} {b : Nat} (hG : G b = .raw) (hb : w.heap[b]? = some (.map #[] 0)) : IMapAt w G b 0 (fun _ => 0) [] :=
  ⟨hG, .map [], ⟨#[], 0, hb, ⟨by simp, MapKept.stamped_empty 0, by simp⟩, Nat.le_refl _, rfl⟩, fun _ => rfl, rfl, fun _ => rfl⟩

set_option maxRecDepth 100000 in
theorem IMapAt.look {w : World} {G : Gh} {b n : Nat} {f : Int → Int} {ks : List Int} (h : IMapAt w G b n f ks) {x : Int} (hx : -9223372036854775808 ≤ x ∧ x ≤ 9223372036854775807) : (Instr.lookup 38 (.map (some b)) (.int .i64 x) false).run Try.prog w = .ok (.int .i64 (f x)) w := by
  obtain ⟨-, D, hd, h1, -⟩ := h
  obtain ⟨c, hrun, hat, -⟩ := hd.lookup_int (t := 38) ref_law Try.underlying38 Try.underlying3 (zero_int w) (key_ref hx)
  rw [h1] at hat
  injection hat with e1
  injection e1 with e2 e3
  rw [hrun, ← e3]
set_option maxRecDepth 100000 in
theorem IMapAt.len {w : World} {G : Gh} {b n : Nat} {f : Int → Int} {ks : List Int} (h : IMapAt w G b n f ks) (ty : TypeId) : (Builtin.len_ #[38] ty #[.map (some b)]).run Try.prog w = .ok (.int .i64 ks.length) w := by
  obtain ⟨-, D, hd, -, h2, -⟩ := h
  rw [hd.len Try.underlying38, h2]
def updF (f : Int → Int) (x v : Int) : Int → Int := fun y => if y = x then v else f y
def addK (ks : List Int) (x : Int) : List Int := if x ∈ ks then ks else ks ++ [x]
theorem mem_addK {ks : List Int} {x y : Int} : y ∈ addK ks x ↔ y = x ∨ y ∈ ks := by
  unfold addK
  split
  · rename_i h
    constructor
    · exact .inr
    · rintro (rfl | h1) <;> assumption
  · simp [or_comm]
theorem nodup_addK {ks : List Int} {x : Int} (h : ks.Nodup) : (addK ks x).Nodup := by
  unfold addK
  split
  · exact h
  · rename_i h1
    rw [List.nodup_append]
    exact ⟨h, by simp, fun a ha b hb => by simp at hb; subst hb; exact fun e => h1 (e ▸ ha)⟩
set_option maxRecDepth 100000 in
theorem IMapAt.put {w : World} {G : Gh} {b n : Nat} {f : Int → Int} {ks : List Int} (h : IMapAt w G b n f ks) (hn : n < 1000000) {x v : Int} (hx : -9223372036854775808 ≤ x ∧ x ≤ 9223372036854775807) (hv : -9223372036854775808 ≤ v ∧ v ≤ 9223372036854775807) :
    ∃ w', (Instr.mapUpdate 38 (.map (some b)) (.int .i64 x) (.int .i64 v)).run Try.prog w = .ok () w' ∧ IMapAt w' G b (n + 1) (updF f x v) (addK ks x) ∧ w.grownBy w' (some b) := by
  obtain ⟨hr, D, hd, h1, h2, h3⟩ := h
  have hwv : (Lit.int .i64 v).wf = true := by simp [Lit.wf, IntKind.min, IntKind.max, IntKind.signed, IntKind.bits]; omega
  obtain ⟨w', r1, r2, r3⟩ := hd.update (t := 38) ref_law Try.underlying38 (by unfold maxLen; omega) (key_ref hx) (plainElem_int (H := Unit) Try.underlying3 hwv)
  have hT := hd.tidy ref_law
  have hk : WideAt.IsKeyLit (kL x) := trivial
  refine ⟨w', r1, ⟨hr, _, r2, fun y => ?_, ?_, fun y => ?_⟩, r3⟩
  · by_cases hy : y = x
    · subst hy
      rw [Maps.atKey_put_same hT.isMap hk]
      simp [updF]
    · rw [Maps.atKey_put_other (by intro e; injection e with e1 e2; exact hy e2), h1]
      simp [updF, hy]
  · rw [Maps.size_put hT, h3, h2]
    unfold addK
    by_cases hm : x ∈ ks <;> simp [hm]
  · by_cases hy : y = x
    · subst hy
      rw [Maps.has_put_same hT.isMap hk]
      simp [mem_addK]
    · rw [Maps.has_put_other (by intro e; injection e with e1 e2; exact hy e2), h3]
      simp [mem_addK, hy]
/-- .. the store as a step, where the map is the walk's own. -/
theorem St.mapPut {T : Nat → Prop} {B : Nat} {w0 w w1 : World} {G0 G : Gh} {b : Nat} (h : St T B w0 G0 w G) (hb : w0.heap.size ≤ b) (hr : G b = .raw) (hg : w.grownBy w1 (some b)) : St T B w0 G0 w1 G :=
  h.grown hg fun g hg => by cases hg; exact ⟨hb, hr⟩
end Go.Hw
