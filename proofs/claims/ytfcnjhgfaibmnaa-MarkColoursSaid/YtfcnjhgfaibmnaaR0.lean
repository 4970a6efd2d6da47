/- A range over a function, over the ghost heap: what an iterator's contract says, and what its caller owes. -/
import Derived.Test.YtfcnjhgfaibmnaaB0
namespace Go.Hw
open Go.RowKit

abbrev Wd : Fence := Fence.wide

/-- The private blocks at or beyond B lie as they lay. -/
def Keep (B : Nat) (w : World) (G : Gh) (w' : World) (G' : Gh) : Prop :=
  w.heap.size ≤ w'.heap.size ∧ ∀ b, B ≤ b → b < w.heap.size → G b = .priv → G' b = .priv ∧ w'.heap[b]? = w.heap[b]?
theorem Keep.refl (B : Nat) (w : World) (G : Gh) : Keep B w G w G := ⟨Nat.le_refl _, fun _ _ _ h => ⟨h, rfl⟩⟩
theorem Keep.trans {B : Nat} {a b c : World} {Ga Gb Gc : Gh} (h : Keep B a Ga b Gb) (k : Keep B b Gb c Gc) : Keep B a Ga c Gc :=
  ⟨Nat.le_trans h.1 k.1, fun x h1 h2 h3 => by
    have e1 := h.2 x h1 h2 h3
    have e2 := k.2 x h1 (Nat.lt_of_lt_of_le h2 h.1) e1.1
    exact ⟨e2.1, e2.2.trans e1.2⟩⟩
theorem Keep.mono {B B' : Nat} {w w' : World} {G G' : Gh} (h : Keep B w G w' G') (hB : B ≤ B') : Keep B' w G w' G' := ⟨h.1, fun x h1 => h.2 x (by omega)⟩
theorem St.keep {T : Nat → Prop} {w w' : World} {G G' : Gh} (h : Step T w G w' G') (B : Nat) : Keep B w G w' G' := ⟨h.le, fun b _ h2 h3 => h.priv b h2 h2 h3⟩
theorem Keep.alloc {B : Nat} {w w' : World} {G G' : Gh} (h : Keep B w G w' G') (o : Obj) : Keep B w G (w'.alloc o) G' :=
  ⟨by have := h.1; simp; omega, fun b h1 h2 h3 => ⟨(h.2 b h1 h2 h3).1, (heap_alloc_lt w' o (by have := h.1; omega)).trans (h.2 b h1 h2 h3).2⟩⟩
theorem Keep.drew {B : Nat} {w w' : World} {G G' : Gh} (h : Keep B w G w' G') : Keep B w G w'.drew G' := h
theorem Keep.setRaw {B : Nat} {w w' : World} {G G' : Gh} (h : Keep B w G w' G') {a : Addr} (ha : G' a.block = .raw) (v : Value) : Keep B w G (w'.setCell a v) G' :=
  ⟨by simp [h.1], fun b h1 h2 h3 => ⟨(h.2 b h1 h2 h3).1, (heap_setCell_ne w' a v (fun e => by have := (h.2 b h1 h2 h3).1; rw [e, ha] at this; cases this)).trans (h.2 b h1 h2 h3).2⟩⟩

theorem Inv.putPriv {w : World} {G : Gh} (h : Inv w G) {l : Nat} (o : Obj) (hl : G l = .priv) : Inv (w.putObj l o) G :=
  h.other (by simp) fun b _ he => World.putObj_heap_other (fun e => by subst e; rw [hl] at he; simp [Ent.isE] at he)
/-- A private block that lies at or beyond B is turned. -/
theorem St.putPriv {T : Nat → Prop} {B : Nat} {w : World} {G : Gh} (h : Inv w G) {l : Nat} (o : Obj) (hl : G l = .priv) (hB : B ≤ l) : St T B w G (w.putObj l o) G :=
  ⟨h.putPriv o hl, by simp, rfl, rfl, rfl, fun b _ hr => ⟨hr, World.putObj_heap_other (fun e => by subst e; rw [hl] at hr; cases hr)⟩,
    fun b _ hb hr => ⟨hr, World.putObj_heap_other (fun e => by omega)⟩, fun _ _ _ _ => rfl, fun _ _ _ h => h⟩
/-- A private block is laid. -/
def privAt (G : Gh) (b : Nat) : Gh := fun c => if c = b then .priv else G c
theorem St.layPriv {T : Nat → Prop} {B : Nat} {w : World} {G : Gh} (h : Inv w G) (o : Obj) : St T B w G (w.alloc o) (privAt G w.heap.size) := by
  have hold : ∀ c : Nat, c < w.heap.size → privAt G w.heap.size c = G c := by
    intro c hc
    have : c ≠ w.heap.size := by omega
    simp [privAt, this]
  refine ⟨⟨fun c => ?_, fun c hc => ?_⟩, by simp, rfl, rfl, rfl, fun c hc hr => ⟨(hold c hc).trans hr, heap_alloc_lt w o hc⟩, fun c hc _ hr => ⟨(hold c hc).trans hr, heap_alloc_lt w o hc⟩, fun c hc _ _ => hold c hc, fun c o' hc hr => (hold c hc).trans hr⟩
  · by_cases hc : c = w.heap.size
    · simp [privAt, hc, Lay]
    · simp only [privAt, hc, if_false]
      by_cases he : (G c).isE = true
      · exact (h.lay c).congr (heap_alloc_lt w o (lay_lt h he)) (fun d hd => ⟨(hold d (own_lt h hd)).trans hd, heap_alloc_lt w o (own_lt h hd)⟩)
      · cases hG : G c <;> simp_all [Ent.isE, Lay]
  · have : c ≠ w.heap.size := by simp at hc; omega
    simp only [privAt, this, if_false]
    exact h.new c (by simp at hc; omega)
theorem privAt_self (G : Gh) (b : Nat) : privAt G b b = .priv := by simp [privAt]
theorem privAt_ne (G : Gh) {b c : Nat} (h : c ≠ b) : privAt G b c = G c := by simp [privAt, h]

variable {P : Program}

/-- WHAT AN ITERATOR'S CONTRACT SAYS: it hands xs to yield, one by one; between two rounds R holds, which it reads. -/
def SeqG {α : Type} (P : Program) (gf : Nat) (lb : Array Value) (encs : α → Array Value) (xs : List α) (R : List α → World → Gh → Prop) : Prop :=
  ∀ (l n : Nat) (J Jx : List α → World → Gh → Prop) (W0 : World) (G0 : Gh),
    (∀ pre W G, J pre W G → Inv W G ∧ R pre W G ∧ W0.heap.size ≤ W.heap.size) →
    (∀ pre W G, Jx pre W G → Inv W G ∧ W0.heap.size ≤ W.heap.size) →
    (∀ pre W G W' G', J pre W G → St (fun _ => False) W0.heap.size W G W' G' → J pre W' G') →
    (∀ pre W G W' G', Jx pre W G → St (fun _ => False) W0.heap.size W G W' G' → Jx pre W' G') →
    (∀ pre x W G, J pre W G → pre ++ [x] <+: xs → YieldAt Wd n P l (encs x) W fun e W' =>
      (e = .returned (.bool true) ∧ ∃ G', J (pre ++ [x]) W' G' ∧ Keep W0.heap.size W G W' G') ∨ (e = .returned (.bool false) ∧ ∃ G', Jx (pre ++ [x]) W' G' ∧ Keep W0.heap.size W G W' G')) →
    J [] W0 G0 →
    CallsIn Wd n P gf (#[.func (.yield l) #[] #[]] ++ lb) W0 fun e W' => (∃ v, e = .returned v) ∧ ((∃ G', J xs W' G') ∨ (∃ pre G', pre <+: xs ∧ Jx pre W' G'))

/-- How the body of a round may be left. -/
def rpost {α : Type} (B : Nat) (I : List α → World → Gh → Prop) (Ix : Code → List α → World → Gh → Prop) (xs : List α) (W : World) (G : Gh) : Exit → Act → World → Prop
  | .normal, _, W' => ∃ G', I xs W' G' ∧ Keep B W G W' G'
  | .ret, _, W' => ∃ G', Ix .ret xs W' G' ∧ Keep B W G W' G'
  | .exit id, _, W' => ∃ G', Ix (.exit id) xs W' G' ∧ Keep B W G W' G'
  | .goto t, _, W' => ∃ G', Ix (.goto t) xs W' G' ∧ Keep B W G W' G'
  | .panic _, _, _ => False
  | .outgrown, _, _ => False

theorem roundIn_n {F : Fence} {n m : Nat} {l : Nat} {f : FuncId} {tmps : Array Value} {assign body : Code} {w : World} {R : Ending → World → Prop} (hd : F.depth = none) (h : RoundIn F n P l f tmps assign body w R) : RoundIn F m P l f tmps assign body w R := by
  refine ⟨h.1, fun c cs _ => h.2 c cs (fun d hd' => by rw [hd] at hd'; cases hd')⟩

/-- **THE STATEMENT, outside every round.** -/
theorem range_out {α : Type} {n : Nat} {g : Operand} {ps : Array Tmp} {assign body : Code} {Q : Exit → Act → World → Prop} {a : Act} {w : World} {G : Gh}
    {gf : Nat} {lb : Array Value} (hg : a.eval g = .func (.func gf) #[] lb) (eg : ∀ args w, (callFunc gf args).run P w = .ok (.enter gf args) w)
    {encs : α → Array Value} {xs : List α} {R : List α → World → Gh → Prop} (hseq : SeqG P gf lb encs xs R) (hps : ∀ x, (encs x).size = ps.size)
    (I : List α → World → Gh → Prop) (Ix : Code → List α → World → Gh → Prop) (Ax : α → Act → World → Gh → Prop)
    (hI : ∀ pre W G, I pre W G → Inv W G ∧ R pre W G ∧ w.heap.size ≤ W.heap.size) (hIx : ∀ c pre W G, Ix c pre W G → Inv W G ∧ w.heap.size ≤ W.heap.size)
    (hIq : ∀ pre W G W' G', I pre W G → St (fun _ => False) w.heap.size W G W' G' → I pre W' G') (hIxq : ∀ c pre W G W' G', Ix c pre W G → St (fun _ => False) w.heap.size W G W' G' → Ix c pre W' G')
    (hAx : ∀ x a' W G W' G', Ax x a' W G → St (fun _ => False) w.heap.size W G W' G' → Ax x a' W' G')
    (h0 : I [] w G)
    (hassign : ∀ (l : Nat) (pre : List α) (x : α) (W : World) (G : Gh) (K : Act → World → Prop), I pre W G → (∀ a' W' G', I pre W' G' → Ax x a' W' G' → Keep w.heap.size W G W' G' → K a' W') →
      assign.wpIn (Wd.inRound l) n P (Exit.then K (fun _ _ _ => False)) { tmps := (ps.zip (encs x)).foldl (fun t (p, v) => t.setIfInBounds p v) a.tmps, defers := [] } W)
    (hbody : ∀ (l : Nat) (pre : List α) (x : α) (a' : Act) (W : World) (G : Gh), w.heap.size ≤ l → G l = .priv → (∃ r, W.heap[l]? = some (.loop r)) → I pre W G → Ax x a' W G → pre ++ [x] <+: xs →
      body.wpIn (Wd.inRound l) n P (rpost w.heap.size I Ix (pre ++ [x]) W G) a' W)
    (hdone : ∀ (D : Nat) (W : World) (G : Gh), w.heap.size ≤ D → G D = .priv → I xs W G → W.heap[D]? = some (.deferred (some [])) → Q .normal { a with defers := { target := .collected D, args := #[] } :: a.defers } W)
    (hstop : ∀ (D : Nat) (c : Code) (pre : List α) (W : World) (G : Gh), w.heap.size ≤ D → G D = .priv → pre <+: xs → Ix c pre W G → W.heap[D]? = some (.deferred (some [])) → c.wpIn Wd n P Q { a with defers := { target := .collected D, args := #[] } :: a.defers } W) :
    (Code.rangeFunc g ps assign body).wpIn Wd n P Q a w := by
  refine wpIn_rangeFunc ?_
  intro fn hfn
  obtain ⟨rec, hrec⟩ : ∃ rec : LoopState → Option Code → Loop, rec = fun st pe => { state := st, pending := pe, fn, tmps := a.tmps, params := ps, assign, body, defers := w.heap.size } := ⟨_, rfl⟩
  obtain ⟨W1, hW1⟩ : ∃ W1, (w.alloc (.deferred (some []))).alloc (.loop (rec .ready none)) = W1 := ⟨_, rfl⟩
  obtain ⟨G1, hG1⟩ : ∃ G1, privAt (privAt G w.heap.size) (w.heap.size + 1) = G1 := ⟨_, rfl⟩
  have hinv := (hI _ _ _ h0).1
  have hsz1 : W1.heap.size = w.heap.size + 2 := by rw [← hW1]; simp
  have hL1 : W1.heap[w.heap.size + 1]? = some (.loop (rec .ready none)) := by
    rw [← hW1]; have := World.alloc_heap_new (w.alloc (.deferred (some []))) (.loop (rec .ready none)); rwa [World.size_alloc] at this
  have hK1 : W1.heap[w.heap.size]? = some (.deferred (some [])) := by
    rw [← hW1]; exact (heap_alloc_lt _ _ (by simp)).trans (World.alloc_heap_new w _)
  have hs1 : St (fun _ => False) w.heap.size w G (w.alloc (.deferred (some []))) (privAt G w.heap.size) := St.layPriv hinv _
  have hs2 : St (fun _ => False) w.heap.size (w.alloc (.deferred (some []))) (privAt G w.heap.size) W1 G1 := by
    have := St.layPriv (T := fun _ => False) (B := w.heap.size) hs1.inv (.loop (rec .ready none))
    rw [World.size_alloc] at this
    rw [← hW1, ← hG1]; exact this
  have hgl : G1 (w.heap.size + 1) = .priv := by rw [← hG1]; exact privAt_self _ _
  have hgd : G1 w.heap.size = .priv := by rw [← hG1, privAt_ne _ (by omega)]; exact privAt_self _ _
  have hI1 : I [] W1 G1 := hIq _ _ _ _ _ (hIq _ _ _ _ _ h0 hs1) hs2
  refine ⟨w.heap.size + 1, [{ target := .collected w.heap.size, args := #[] }], W1, { target := .fn (.func gf) lb, args := #[.func (.yield (w.heap.size + 1)) #[] #[]] }, W1, gf,
    #[.func (.yield (w.heap.size + 1)) #[] #[]] ++ lb, W1, ?_, ?_, fun _ _ => trivial, ?_, fun h => by simp [Wd, Fence.wide] at h, ?_⟩
  · rw [← hW1, hrec]; exact run_enterLoop_outer _ _ _ _ _
  · simp only [resolve, hg]
    simp [go_sem]
  · simp [invoke, go_sem, eg]
  · refine (hseq (w.heap.size + 1) (n - 1)
      (fun pre W G => I pre W G ∧ W.heap[w.heap.size + 1]? = some (.loop (rec .ready none)) ∧ W.heap[w.heap.size]? = some (.deferred (some [])) ∧ G (w.heap.size + 1) = .priv ∧ G w.heap.size = .priv)
      (fun pre W G => ∃ c, Ix c pre W G ∧ W.heap[w.heap.size + 1]? = some (.loop (rec .done (some c))) ∧ W.heap[w.heap.size]? = some (.deferred (some [])) ∧ G (w.heap.size + 1) = .priv ∧ G w.heap.size = .priv)
      W1 G1 ?_ ?_ ?_ ?_ ?_ ⟨hI1, hL1, hK1, hgl, hgd⟩).mono ?_
    · rintro pre W G ⟨h1, h2, -⟩
      have h := hI _ _ _ h1
      have := (Array.getElem?_eq_some_iff.1 h2).1
      exact ⟨h.1, h.2.1, by omega⟩
    · rintro pre W G ⟨c, h1, h2, -⟩
      have h := hIx _ _ _ _ h1
      have := (Array.getElem?_eq_some_iff.1 h2).1
      exact ⟨h.1, by omega⟩
    · rintro pre W G W' G' ⟨h1, h2, h3, h4, h5⟩ hs
      have l1 := (Array.getElem?_eq_some_iff.1 h2).1
      have e1 := hs.priv _ l1 (by omega) h4
      have e2 := hs.priv w.heap.size (by omega) (by omega) h5
      exact ⟨hIq _ _ _ _ _ h1 (hs.mono (fun _ h => h) (by omega)), e1.2.trans h2, e2.2.trans h3, e1.1, e2.1⟩
    · rintro pre W G W' G' ⟨c, h1, h2, h3, h4, h5⟩ hs
      have l1 := (Array.getElem?_eq_some_iff.1 h2).1
      have e1 := hs.priv _ l1 (by omega) h4
      have e2 := hs.priv w.heap.size (by omega) (by omega) h5
      exact ⟨c, hIxq _ _ _ _ _ _ h1 (hs.mono (fun _ h => h) (by omega)), e1.2.trans h2, e2.2.trans h3, e1.1, e2.1⟩
    · -- one round
      rintro pre x W Gr ⟨hi, hl, hk, hgl', hgd'⟩ hpre
      have hlt : w.heap.size + 1 < W.heap.size := (Array.getElem?_eq_some_iff.1 hl).1
      have hy := run_yield (P := P) (args := encs x) hl (by rw [hrec]; exact hps x)
      rw [hrec] at hy
      refine ⟨fn, _, assign, body, hy, roundIn_n rfl (roundIn_of_wpIn (n := n) hfn (hassign _ pre x W Gr _ hi ?_))⟩
      clear hy
      intro a' Wa Ga hia hax hka
      have e1 := hka.2 _ (by omega) hlt hgl'
      have e2 := hka.2 w.heap.size (Nat.le_refl _) (by omega) hgd'
      have hla := e1.2.trans hl
      have hda := e2.2.trans hk
      have hlta : w.heap.size + 1 < Wa.heap.size := (Array.getElem?_eq_some_iff.1 hla).1
      refine ⟨_, run_beginRound hla (by rw [hrec]), ?_⟩
      obtain ⟨W2, hW2⟩ : ∃ W2, Wa.putObj (w.heap.size + 1) (.loop { rec .ready none with state := .busy }) = W2 := ⟨_, rfl⟩
      rw [hW2]
      have hs3 : St (fun _ => False) w.heap.size Wa Ga W2 Ga := by rw [← hW2]; exact St.putPriv (hI _ _ _ hia).1 _ e1.1 (by omega)
      have hl2 : W2.heap[w.heap.size + 1]? = some (.loop { rec .ready none with state := .busy }) := by rw [← hW2]; exact World.putObj_heap_same hlta
      have hd2 : W2.heap[w.heap.size]? = some (.deferred (some [])) := by rw [← hW2]; exact (World.putObj_heap_other (by omega)).trans hda
      have hsz2 : W2.heap.size = Wa.heap.size := by rw [← hW2]; simp
      have hother2 : ∀ b, b ≠ w.heap.size + 1 → W2.heap[b]? = Wa.heap[b]? := fun b hb => by rw [← hW2]; exact World.putObj_heap_other hb
      refine wpIn_mono (hbody _ pre x a' W2 Ga (by omega) e1.1 ⟨_, hl2⟩ (hIq _ _ _ _ _ hia hs3) (hAx _ _ _ _ _ _ hax hs3) hpre) ?_
      have fin : ∀ (jump : Option Code) (W3 : World) (G3 : Gh), Inv W3 G3 → Keep w.heap.size W2 Ga W3 G3 →
          ∃ W4, (Instr.endRound (w.heap.size + 1) jump).run P W3 = .ok (.bool jump.isNone) W4 ∧ St (fun _ => False) w.heap.size W3 G3 W4 G3 ∧
          W4.heap[w.heap.size + 1]? = some (.loop (rec (if jump.isNone then .ready else .done) jump)) ∧ W4.heap[w.heap.size]? = some (.deferred (some [])) ∧ G3 (w.heap.size + 1) = .priv ∧ G3 w.heap.size = .priv ∧ Keep W1.heap.size W Gr W4 G3 := by
        intro jump W3 G3 hinv3 hk3
        have f1 := hk3.2 (w.heap.size + 1) (by omega) (by omega) e1.1
        have f2 := hk3.2 w.heap.size (by omega) (by omega) e2.1
        have hl3 := f1.2.trans hl2
        have hr := run_endRound (P := P) jump hl3
        refine ⟨_, hr, St.putPriv hinv3 _ f1.1 (by omega), ?_, (World.putObj_heap_other (by omega)).trans (f2.2.trans hd2), f1.1, f2.1, ?_⟩
        · rw [World.putObj_heap_same (Array.getElem?_eq_some_iff.1 hl3).1, hrec]
        · refine ⟨by have := hka.1; have := hk3.1; simp; omega, fun b hb1 hb2 hb3 => ?_⟩
          have g1 := hka.2 b (by omega) hb2 hb3
          have g2 := hk3.2 b (by omega) (by have := hka.1; omega) g1.1
          exact ⟨g2.1, (World.putObj_heap_other (by omega)).trans (g2.2.trans ((hother2 b (by omega)).trans g1.2))⟩
      rintro e a3 W3 hp
      cases e with
      | normal =>
        obtain ⟨G3, hi3, hk3⟩ := hp
        obtain ⟨W4, hr, hs4, hl4, hd4, hg4, hg5, hk4⟩ := fin none W3 G3 (hI _ _ _ hi3).1 hk3
        exact ⟨_, _, hr, .inl ⟨rfl, G3, ⟨hIq _ _ _ _ _ hi3 hs4, hl4, hd4, hg4, hg5⟩, hk4⟩⟩
      | ret =>
        obtain ⟨G3, hi3, hk3⟩ := hp
        obtain ⟨W4, hr, hs4, hl4, hd4, hg4, hg5, hk4⟩ := fin (some .ret) W3 G3 (hIx _ _ _ _ hi3).1 hk3
        exact ⟨_, _, hr, .inr ⟨rfl, G3, ⟨.ret, hIxq _ _ _ _ _ _ hi3 hs4, hl4, hd4, hg4, hg5⟩, hk4⟩⟩
      | exit id =>
        obtain ⟨G3, hi3, hk3⟩ := hp
        obtain ⟨W4, hr, hs4, hl4, hd4, hg4, hg5, hk4⟩ := fin (some (.exit id)) W3 G3 (hIx _ _ _ _ hi3).1 hk3
        exact ⟨_, _, hr, .inr ⟨rfl, G3, ⟨.exit id, hIxq _ _ _ _ _ _ hi3 hs4, hl4, hd4, hg4, hg5⟩, hk4⟩⟩
      | goto t =>
        obtain ⟨G3, hi3, hk3⟩ := hp
        obtain ⟨W4, hr, hs4, hl4, hd4, hg4, hg5, hk4⟩ := fin (some (.goto t)) W3 G3 (hIx _ _ _ _ hi3).1 hk3
        exact ⟨_, _, hr, .inr ⟨rfl, G3, ⟨.goto t, hIxq _ _ _ _ _ _ hi3 hs4, hl4, hd4, hg4, hg5⟩, hk4⟩⟩
      | panic ch => exact hp.elim
      | outgrown => exact hp.elim
    · -- behind the iterator
      rintro e W2 ⟨⟨v, rfl⟩, (⟨G2, hi, hl, hk, hg1, hg2⟩ | ⟨pre, G2, hpre, c, hi, hl, hk, hg1, hg2⟩)⟩
      · have hinv2 := (hI _ _ _ hi).1
        exact ⟨none, _, by have := run_endLoop (P := P) hl (by rw [hrec]; simp); rw [hrec] at this; exact this,
          hdone _ _ G2 (Nat.le_refl _) hg2 (hIq _ _ _ _ _ hi (St.putPriv hinv2 _ hg1 (by omega))) ((World.putObj_heap_other (by omega)).trans hk)⟩
      · have hinv2 := (hIx _ _ _ _ hi).1
        exact ⟨some c, _, by have := run_endLoop (P := P) hl (by rw [hrec]; simp); rw [hrec] at this; exact this,
          hstop _ c pre _ G2 (Nat.le_refl _) hg2 hpre (hIxq _ _ _ _ _ _ hi (St.putPriv hinv2 _ hg1 (by omega))) ((World.putObj_heap_other (by omega)).trans hk)⟩
/-- **THE STATEMENT, in a round of loop l₀.** -/
theorem range_in {α : Type} {n : Nat} {g : Operand} {ps : Array Tmp} {assign body : Code} {Q : Exit → Act → World → Prop} {a : Act} {w : World} {G : Gh}
    {l₀ : Nat} {r₀ : Loop} (hr₀ : w.heap[l₀]? = some (.loop r₀)) {gf : Nat} {lb : Array Value} (hg : a.eval g = .func (.func gf) #[] lb) (eg : ∀ args w, (callFunc gf args).run P w = .ok (.enter gf args) w)
    {encs : α → Array Value} {xs : List α} {R : List α → World → Gh → Prop} (hseq : SeqG P gf lb encs xs R) (hps : ∀ x, (encs x).size = ps.size)
    (I : List α → World → Gh → Prop) (Ix : Code → List α → World → Gh → Prop) (Ax : α → Act → World → Gh → Prop)
    (hI : ∀ pre W G, I pre W G → Inv W G ∧ R pre W G ∧ w.heap.size ≤ W.heap.size) (hIx : ∀ c pre W G, Ix c pre W G → Inv W G ∧ w.heap.size ≤ W.heap.size)
    (hIq : ∀ pre W G W' G', I pre W G → St (fun _ => False) w.heap.size W G W' G' → I pre W' G') (hIxq : ∀ c pre W G W' G', Ix c pre W G → St (fun _ => False) w.heap.size W G W' G' → Ix c pre W' G')
    (hAx : ∀ x a' W G W' G', Ax x a' W G → St (fun _ => False) w.heap.size W G W' G' → Ax x a' W' G')
    (h0 : I [] w G)
    (hassign : ∀ (l : Nat) (pre : List α) (x : α) (W : World) (G : Gh) (K : Act → World → Prop), I pre W G → (∀ a' W' G', I pre W' G' → Ax x a' W' G' → Keep w.heap.size W G W' G' → K a' W') →
      assign.wpIn (Wd.inRound l) n P (Exit.then K (fun _ _ _ => False)) { tmps := (ps.zip (encs x)).foldl (fun t (p, v) => t.setIfInBounds p v) a.tmps, defers := [] } W)
    (hbody : ∀ (l : Nat) (pre : List α) (x : α) (a' : Act) (W : World) (G : Gh), w.heap.size ≤ l → G l = .priv → (∃ r, W.heap[l]? = some (.loop r)) → I pre W G → Ax x a' W G → pre ++ [x] <+: xs →
      body.wpIn (Wd.inRound l) n P (rpost w.heap.size I Ix (pre ++ [x]) W G) a' W)
    (hdone : ∀ (W : World) (G : Gh), I xs W G → Q .normal a W)
    (hstop : ∀ (c : Code) (pre : List α) (W : World) (G : Gh), pre <+: xs → Ix c pre W G → c.wpIn (Wd.inRound l₀) n P Q a W) :
    (Code.rangeFunc g ps assign body).wpIn (Wd.inRound l₀) n P Q a w := by
  refine wpIn_rangeFunc ?_
  intro fn hfn
  obtain ⟨rec, hrec⟩ : ∃ rec : LoopState → Option Code → Loop, rec = fun st pe => { state := st, pending := pe, fn, tmps := a.tmps, params := ps, assign, body, defers := r₀.defers } := ⟨_, rfl⟩
  obtain ⟨W1, hW1⟩ : ∃ W1, w.alloc (.loop (rec .ready none)) = W1 := ⟨_, rfl⟩
  obtain ⟨G1, hG1⟩ : ∃ G1, privAt G w.heap.size = G1 := ⟨_, rfl⟩
  have hinv := (hI _ _ _ h0).1
  have hsz1 : W1.heap.size = w.heap.size + 1 := by rw [← hW1]; simp
  have hL1 : W1.heap[w.heap.size]? = some (.loop (rec .ready none)) := by
    rw [← hW1]; exact World.alloc_heap_new w _
  have hs2 : St (fun _ => False) w.heap.size w G W1 G1 := by rw [← hW1, ← hG1]; exact St.layPriv hinv _
  have hgl : G1 w.heap.size = .priv := by rw [← hG1]; exact privAt_self _ _
  have hI1 : I [] W1 G1 := hIq _ _ _ _ _ h0 hs2
  refine ⟨w.heap.size, [], W1, { target := .fn (.func gf) lb, args := #[.func (.yield w.heap.size) #[] #[]] }, W1, gf,
    #[.func (.yield w.heap.size) #[] #[]] ++ lb, W1, ?_, ?_, fun _ _ => trivial, ?_, fun h => by simp [Wd, Fence.wide] at h, ?_⟩
  · rw [← hW1, hrec]; exact run_enterLoop_inner hr₀ _ _ _ _ _
  · simp only [resolve, hg]
    simp [go_sem]
  · simp [invoke, go_sem, eg]
  · refine (CallsIn.inRound l₀ (hseq w.heap.size (n - 1)
      (fun pre W G => I pre W G ∧ W.heap[w.heap.size]? = some (.loop (rec .ready none)) ∧ G w.heap.size = .priv)
      (fun pre W G => ∃ c, Ix c pre W G ∧ W.heap[w.heap.size]? = some (.loop (rec .done (some c))) ∧ G w.heap.size = .priv)
      W1 G1 ?_ ?_ ?_ ?_ ?_ ⟨hI1, hL1, hgl⟩)).mono ?_
    · rintro pre W G ⟨h1, h2, -⟩
      have h := hI _ _ _ h1
      have := (Array.getElem?_eq_some_iff.1 h2).1
      exact ⟨h.1, h.2.1, by omega⟩
    · rintro pre W G ⟨c, h1, h2, -⟩
      have h := hIx _ _ _ _ h1
      have := (Array.getElem?_eq_some_iff.1 h2).1
      exact ⟨h.1, by omega⟩
    · rintro pre W G W' G' ⟨h1, h2, h4⟩ hs
      have l1 := (Array.getElem?_eq_some_iff.1 h2).1
      have e1 := hs.priv _ l1 (by omega) h4
      exact ⟨hIq _ _ _ _ _ h1 (hs.mono (fun _ h => h) (by omega)), e1.2.trans h2, e1.1⟩
    · rintro pre W G W' G' ⟨c, h1, h2, h4⟩ hs
      have l1 := (Array.getElem?_eq_some_iff.1 h2).1
      have e1 := hs.priv _ l1 (by omega) h4
      exact ⟨c, hIxq _ _ _ _ _ _ h1 (hs.mono (fun _ h => h) (by omega)), e1.2.trans h2, e1.1⟩
    · -- one round
      rintro pre x W Gr ⟨hi, hl, hgl'⟩ hpre
      have hlt : w.heap.size < W.heap.size := (Array.getElem?_eq_some_iff.1 hl).1
      have hy := run_yield (P := P) (args := encs x) hl (by rw [hrec]; exact hps x)
      rw [hrec] at hy
      refine ⟨fn, _, assign, body, hy, roundIn_n rfl (roundIn_of_wpIn (F := Wd) (n := n) hfn (hassign _ pre x W Gr _ hi ?_))⟩
      clear hy
      intro a' Wa Ga hia hax hka
      have e1 := hka.2 _ (Nat.le_refl _) hlt hgl'
      have hla := e1.2.trans hl
      have hlta : w.heap.size < Wa.heap.size := (Array.getElem?_eq_some_iff.1 hla).1
      refine ⟨_, run_beginRound hla (by rw [hrec]), ?_⟩
      obtain ⟨W2, hW2⟩ : ∃ W2, Wa.putObj w.heap.size (.loop { rec .ready none with state := .busy }) = W2 := ⟨_, rfl⟩
      rw [hW2]
      have hs3 : St (fun _ => False) w.heap.size Wa Ga W2 Ga := by rw [← hW2]; exact St.putPriv (hI _ _ _ hia).1 _ e1.1 (Nat.le_refl _)
      have hl2 : W2.heap[w.heap.size]? = some (.loop { rec .ready none with state := .busy }) := by rw [← hW2]; exact World.putObj_heap_same hlta
      have hsz2 : W2.heap.size = Wa.heap.size := by rw [← hW2]; simp
      have hother2 : ∀ b, b ≠ w.heap.size → W2.heap[b]? = Wa.heap[b]? := fun b hb => by rw [← hW2]; exact World.putObj_heap_other hb
      refine wpIn_mono (hbody _ pre x a' W2 Ga (Nat.le_refl _) e1.1 ⟨_, hl2⟩ (hIq _ _ _ _ _ hia hs3) (hAx _ _ _ _ _ _ hax hs3) hpre) ?_
      have fin : ∀ (jump : Option Code) (W3 : World) (G3 : Gh), Inv W3 G3 → Keep w.heap.size W2 Ga W3 G3 →
          ∃ W4, (Instr.endRound w.heap.size jump).run P W3 = .ok (.bool jump.isNone) W4 ∧ St (fun _ => False) w.heap.size W3 G3 W4 G3 ∧
          W4.heap[w.heap.size]? = some (.loop (rec (if jump.isNone then .ready else .done) jump)) ∧ G3 w.heap.size = .priv ∧ Keep W1.heap.size W Gr W4 G3 := by
        intro jump W3 G3 hinv3 hk3
        have f1 := hk3.2 w.heap.size (Nat.le_refl _) (by omega) e1.1
        have hl3 := f1.2.trans hl2
        have hr := run_endRound (P := P) jump hl3
        refine ⟨_, hr, St.putPriv hinv3 _ f1.1 (Nat.le_refl _), ?_, f1.1, ?_⟩
        · rw [World.putObj_heap_same (Array.getElem?_eq_some_iff.1 hl3).1, hrec]
        · refine ⟨by have := hka.1; have := hk3.1; simp; omega, fun b hb1 hb2 hb3 => ?_⟩
          have g1 := hka.2 b (by omega) hb2 hb3
          have g2 := hk3.2 b (by omega) (by have := hka.1; omega) g1.1
          exact ⟨g2.1, (World.putObj_heap_other (by omega)).trans (g2.2.trans ((hother2 b (by omega)).trans g1.2))⟩
      rintro e a3 W3 hp
      cases e with
      | normal =>
        obtain ⟨G3, hi3, hk3⟩ := hp
        obtain ⟨W4, hr, hs4, hl4, hg4, hk4⟩ := fin none W3 G3 (hI _ _ _ hi3).1 hk3
        exact ⟨_, _, hr, .inl ⟨rfl, G3, ⟨hIq _ _ _ _ _ hi3 hs4, hl4, hg4⟩, hk4⟩⟩
      | ret =>
        obtain ⟨G3, hi3, hk3⟩ := hp
        obtain ⟨W4, hr, hs4, hl4, hg4, hk4⟩ := fin (some .ret) W3 G3 (hIx _ _ _ _ hi3).1 hk3
        exact ⟨_, _, hr, .inr ⟨rfl, G3, ⟨.ret, hIxq _ _ _ _ _ _ hi3 hs4, hl4, hg4⟩, hk4⟩⟩
      | exit id =>
        obtain ⟨G3, hi3, hk3⟩ := hp
        obtain ⟨W4, hr, hs4, hl4, hg4, hk4⟩ := fin (some (.exit id)) W3 G3 (hIx _ _ _ _ hi3).1 hk3
        exact ⟨_, _, hr, .inr ⟨rfl, G3, ⟨.exit id, hIxq _ _ _ _ _ _ hi3 hs4, hl4, hg4⟩, hk4⟩⟩
      | goto t =>
        obtain ⟨G3, hi3, hk3⟩ := hp
        obtain ⟨W4, hr, hs4, hl4, hg4, hk4⟩ := fin (some (.goto t)) W3 G3 (hIx _ _ _ _ hi3).1 hk3
        exact ⟨_, _, hr, .inr ⟨rfl, G3, ⟨.goto t, hIxq _ _ _ _ _ _ hi3 hs4, hl4, hg4⟩, hk4⟩⟩
      | panic ch => exact hp.elim
      | outgrown => exact hp.elim
    · -- behind the iterator
      rintro e W2 ⟨⟨v, rfl⟩, (⟨G2, hi, hl, hg1⟩ | ⟨pre, G2, hpre, c, hi, hl, hg1⟩)⟩
      · have hinv2 := (hI _ _ _ hi).1
        exact ⟨none, _, by have := run_endLoop (P := P) hl (by rw [hrec]; simp); rw [hrec] at this; exact this,
          hdone _ G2 (hIq _ _ _ _ _ hi (St.putPriv hinv2 _ hg1 (Nat.le_refl _)))⟩
      · have hinv2 := (hIx _ _ _ _ hi).1
        exact ⟨some c, _, by have := run_endLoop (P := P) hl (by rw [hrec]; simp); rw [hrec] at this; exact this,
          hstop c pre _ G2 hpre (hIxq _ _ _ _ _ _ hi (St.putPriv hinv2 _ hg1 (Nat.le_refl _)))⟩
end Go.Hw
