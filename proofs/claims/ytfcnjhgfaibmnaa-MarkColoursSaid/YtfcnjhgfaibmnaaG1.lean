/- Groups: a map of lists, raw; and rows that grow, raw. -/
import Derived.Test.YtfcnjhgfaibmnaaN1
import Derived.Test.YtfcnjhgfaibmnaaR0
import Derived.Maps.GroupsBeside
import Derived.Maps.OwnIn
namespace Go.Hw
open Go.RowKit Go.Proofs
open Go.ChangeMaps Go.ChangeShapes Go.Maps
open Go.WideElems (rd_val)

/-- A row of its own grows (or a new one is laid): a step. -/
theorem St.grown {T : Nat → Prop} {B : Nat} {w0 w w1 : World} {G0 G : Gh} {row : Option Nat} (h : St T B w0 G0 w G) (hg : w.grownBy w1 row) (hr : ∀ g, row = some g → w0.heap.size ≤ g ∧ G g = .raw) : St T B w0 G0 w1 G := by
  have hl := h.le
  refine ⟨h.inv.other hg.size (fun b hb he => hg.block b hb fun e => ?_), Nat.le_trans h.le hg.size, hg.os.trans h.os, hg.tape.trans h.tape, hg.output.trans h.output, ?_, ?_, h.ent, h.own⟩
  · have := (hr b e.symm).2
    rcases he with he | ⟨o, he⟩ <;> rw [this] at he <;> cases he
  · intro x hx hx'
    have := h.raw x hx hx'
    exact ⟨this.1, (hg.block x (by omega) (fun e => by have := (hr x e.symm).1; omega)).trans this.2⟩
  · intro x hx hb hx'
    have := h.priv x hx hb hx'
    exact ⟨this.1, (hg.block x (by omega) (fun e => by have := (hr x e.symm).1; omega)).trans this.2⟩
theorem Raw.grown {w w1 : World} {G : Gh} {row : Option Nat} {b : Nat} {c : Array Value} {t : TypeId} (h : Raw w G b c t) (hg : w.grownBy w1 row) (hne : some b ≠ row) : Raw w1 G b c t :=
  ⟨h.raw, (hg.block b h.lt hne).trans h.heap⟩

section
variable {P : Program} {k e : TypeId} {q : IntKind} {base b n : Nat} {D : DataW Unit}

theorem ownsInts_congr {w w' : World} {v : Value} {zs : List Int} (h : w.ownsInts base e q v zs) (hg : ∀ g, v.ownBlock = some g → w'.heap[g]? = w.heap[g]?) : w'.ownsInts base e q v zs :=
  ⟨ownsRow_congr h.1 hg, h.2⟩

/-- The groups over whatever leaves the map's block and its rows. -/
theorem groups_congr {w w' : World} {No : Nat → Prop} (h : w.ownsGroups (H := Unit) P k base e q b n D) (hs : w.Shuns b No) (hb' : w'.heap[b]? = w.heap[b]?) (hr : ∀ g, g < w.heap.size → ¬ No g → w'.heap[g]? = w.heap[g]?) :
    w'.ownsGroups P k base e q b n D ∧ w'.Shuns b No := by
  refine ⟨?_, fun es clock hb => hs es clock (hb'.symm.trans hb)⟩
  obtain ⟨es, clock, hb, F, hsz, rfl, hbb, hlen, hap⟩ := h
  have hk : ∀ x ∈ es.toList, ∀ zs, w.ownsInts base e q x.val zs → w'.ownsInts base e q x.val zs := fun x hx zs ho =>
    ownsInts_congr ho fun g hg => hr g (ho.1.lt g hg).2 (hs es clock hb x hx g hg)
  have hst : ∀ x ∈ es.toList, ∀ z, rowElem (H := Unit) w base e q x.val = some z → rowElem w' base e q x.val = some z := fun x hx z hz => by
    obtain ⟨zs, ho, rfl⟩ := rowElem_inv hz
    exact rowElem_mk (hk x hx zs ho)
  obtain ⟨F1, hmap, _⟩ := F.stay hst
  refine ⟨es, clock, hb'.trans hb, F1, hsz, by rw [hmap], hbb, fun x hx zs ho => ?_, hap⟩
  obtain ⟨y, hy⟩ := F.reads x hx
  obtain ⟨z, hz, _⟩ := rd_val hy
  obtain ⟨zs0, ho0, _⟩ := rowElem_inv hz
  rw [ho.unique (hk x hx zs0 ho0)]
  exact hlen x hx zs0 ho0

/-- The look-up, in a round too. -/
theorem wpListIn_lookup_gs {F : Fence} {nF : Nat} (w : World) {ops : Array Oper} {rest : List Oper} {o : Oper} {a : Act} {Q : Exit → Act → World → Prop}
    (hg : o.guard = none) (m x : Operand) (t : TypeId) (hop : o.op = Op.lookup t m x false)
    (k E e : TypeId) (q : IntKind) (K : Keyed P k) (ht : P.underlying t = some (.map k E)) (hz : (zeroValue E).run P w = .ok (.slice none 0 0) w) (base b n : Nat) (D : DataW Unit)
    (hm : a.eval m = .map (some b)) (hown : w.ownsGroups P k base e q b n D) (hn : n < maxLen) (key : Value) (kl : Lit) (hx : a.eval x = key) (hkey : keyOf P k key = some kl)
    (hK : ∀ v zs, D.atKey kl .nil = rowDatum q v zs → w.ownsInts base e q v zs → zs.length ≤ n → w.groupBack P t k base e q b n D key kl v → (∀ No : Nat → Prop, w.Shuns b No → ∀ g, v.ownBlock = some g → ¬ No g) → wpListIn F nF P ops Q rest (a.put o.dst v) w) :
    wpListIn F nF P ops Q (o :: rest) a w := by
  refine wpListIn_plain hg fun K' hK' => ?_
  obtain ⟨v, zs, hrun, hat, hoi, hzl, hback⟩ := hown.at K ht hz hn hkey
  have hsh : ∀ No : Nat → Prop, w.Shuns b No → ∀ g, v.ownBlock = some g → ¬ No g := by
    obtain ⟨es, clock, hb, F, _⟩ := hown
    rcases Maps.fit_look false K ht hz hb F hkey with ⟨hrun', _, _⟩ | ⟨e0, y, hm0, _, hrun', _, _, _⟩
    · rw [hrun] at hrun'
      obtain rfl : v = .slice none 0 0 := by simpa using hrun'
      intro _ _ g hg'
      cases hg'
    · rw [hrun] at hrun'
      obtain rfl : v = e0.val := by simpa using hrun'
      exact fun No hs g hg' => hs es clock hb e0 hm0 g hg'
  unfold Oper.wpIn
  refine ⟨by simp [Oper.about, hop], ?_⟩
  rw [Oper.semAt_plain F _ _ (by rw [hop]; intro c hc'; cases hc')]
  simp [execOp, hop, hm, hx, hrun, Result.andThen]
  exact hK' _ _ (hK v zs hat hoi hzl hback hsh)

/-- The store by the way back, in a round too. -/
theorem wpListIn_update_gs {F : Fence} {nF : Nat} (w : World) {ops : Array Oper} {rest : List Oper} {o : Oper} {a : Act} {Q : Exit → Act → World → Prop}
    (hg : o.guard = none) (m x v : Operand) (t : TypeId) (hop : o.op = Op.mapUpdate t m x v)
    {w0 : World} {k E : TypeId} {base : Nat} {e : TypeId} {q : IntKind} {b n : Nat} {D : DataW Unit} {key : Value} {kl : Lit} {u v' : Value} {zs zs' : List Int} {No : Nat → Prop}
    (K : Keyed P k) (ht : P.underlying t = some (.map k E)) (hkey : keyOf P k key = some kl) (hown0 : w0.ownsGroups P k base e q b n D) (hn : n < maxLen) (hu : w0.ownsInts base e q u zs) (hsh : w0.Shuns b No) (hno : ∀ g, v'.ownBlock = some g → ¬ No g)
    (hback : w0.groupBack P t k base e q b n D key kl u) (hm : a.eval m = .map (some b)) (hx : a.eval x = key) (hv : a.eval v = v')
    (hgr : w0.grownBy w u.ownBlock) (hown' : w.ownsInts base e q v' zs') (hl' : zs'.length ≤ n + 1) (hloc : v'.ownBlock = u.ownBlock ∨ ∃ g, v'.ownBlock = some g ∧ w0.heap.size ≤ g)
    (hK : ∀ w2, w2.ownsGroups P k base e q b (n + 1) (D.put kl (rowDatum q v' zs')) → w.grownBy w2 (some b) → w2.Shuns b No → wpListIn F nF P ops Q rest (a.put o.dst undef) w2) :
    wpListIn F nF P ops Q (o :: rest) a w := by
  refine wpListIn_plain hg fun K' hK' => ?_
  obtain ⟨w2, hrun, r1, r2⟩ := hback w v' zs' hgr hown' hl' hloc
  have r3 : w2.Shuns b No := by
    obtain ⟨es, clock, hb, F, hs, _, hbb, _⟩ := hown0
    have hblt : b < w0.heap.size := (Array.getElem?_eq_some_iff.1 hb).1
    have hb1 : w.heap[b]? = some (.map es clock) := (hgr.block b hblt (fun e1 => by have := (hu.1.lt b e1.symm).1; omega)).trans hb
    obtain ⟨es', clock', hb2, hwho⟩ := stored_who K ht hb1 F (Nat.lt_of_le_of_lt hs hn) hkey hrun
    intro es2 clock2 hb2' y hy g hyg
    obtain ⟨rfl, rfl⟩ : es' = es2 ∧ clock' = clock2 := by rw [hb2] at hb2'; simpa using hb2'
    rcases hwho y hy with ⟨hy0, _⟩ | ⟨_, hval⟩
    · exact hsh es clock hb y hy0 g hyg
    · exact hno g (hval ▸ hyg)
  unfold Oper.wpIn
  refine ⟨by simp [Oper.about, hop], ?_⟩
  rw [Oper.semAt_plain F _ _ (by rw [hop]; intro c hc'; cases hc')]
  simp [execOp, hop, hm, hx, hv, hrun, Result.andThen]
  exact hK' _ _ (hK w2 r1 r2 r3)
end

/-! ### a map from objects to objects -/
abbrev kL (x : Int) : Lit := .int .i64 x
def dat (zs : List Int) : DataW Unit := if zs = [] then .nil else .slice (lits .i64 zs) []
structure GrpAt (w : World) (G : Gh) (b base n : Nat) (tab : Int → List Int) (X : Nat → Prop) : Prop where
  raw : G b = .raw
  ex : ∃ D : DataW Unit, Maps.IsMap D ∧ w.ownsGroups Try.prog 36 base 36 .i64 b n D ∧ (∀ x, D.atKey (kL x) .nil = dat (tab x)) ∧ w.Shuns b (fun g => G g ≠ .raw ∨ X g)
theorem GrpAt.lt {w : World} {G : Gh} {b base n : Nat} {tab : Int → List Int} {X : Nat → Prop} (h : GrpAt w G b base n tab X) : b < w.heap.size := by
  obtain ⟨-, D, -, ⟨es, clock, hb, -⟩, -⟩ := h
  exact (Array.getElem?_eq_some_iff.1 hb).1
theorem GrpAt.step {T : Nat → Prop} {B : Nat} {w w' : World} {G G' : Gh} {b base n : Nat} {tab : Int → List Int} {X : Nat → Prop} (h : GrpAt w G b base n tab X) (k : St T B w G w' G') : GrpAt w' G' b base n tab X := by
  have hlt := h.lt
  obtain ⟨hr, D, hm, ho, ht, hs⟩ := h
  obtain ⟨h1, h2⟩ := groups_congr ho hs (k.raw b hlt hr).2 (fun g hg hn => (k.raw g hg (Classical.byContradiction fun e => hn (.inl e))).2)
  refine ⟨(k.raw b hlt hr).1, D, hm, h1, ht, fun es clock hb x hx g hg hN => ?_⟩
  refine h2 es clock hb x hx g hg ?_
  rcases hN with hN | hN
  · refine .inl fun e => hN ?_
    have hb0 : w.heap[b]? = some (.map es clock) := (k.raw b hlt hr).2.symm.trans hb
    obtain ⟨es', clock', hb', F, _⟩ := ho
    obtain ⟨rfl, rfl⟩ : es' = es ∧ clock' = clock := by rw [hb'] at hb0; simpa using hb0
    obtain ⟨y, hy⟩ := F.reads x hx
    obtain ⟨z, hz, _⟩ := rd_val hy
    obtain ⟨zs, hoi, _⟩ := rowElem_inv hz
    exact (k.raw g (hoi.1.lt g hg).2 e).1
  · exact .inr hN
/-- What lies above the world is shunned, too. -/
theorem GrpAt.also {w : World} {G : Gh} {b base n : Nat} {tab : Int → List Int} {X Y : Nat → Prop} (h : GrpAt w G b base n tab X) (hY : ∀ g, Y g → X g ∨ w.heap.size ≤ g) : GrpAt w G b base n tab Y := by
  obtain ⟨hr, D, hm, ho, ht, hs⟩ := h
  refine ⟨hr, D, hm, ho, ht, hs.reno ho fun g hN => ?_⟩
  rcases hN with hN | hN
  · exact .inl (.inl hN)
  · exact (hY g hN).imp .inr id
end Go.Hw
