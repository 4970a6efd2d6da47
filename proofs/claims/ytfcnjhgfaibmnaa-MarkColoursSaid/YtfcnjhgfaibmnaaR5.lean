/- A region that draws its order: unguarded operations of known values, one of them a call that may turn the class of worlds. -/
import Derived.Test.YtfcnjhgfaibmnaaG2
namespace Go.Hw
open Go.RowKit Go.Proofs

def putsL (a : Act) (l : List (Tmp × Value)) : Act := l.foldl (fun a x => a.put (some x.1) x.2) a
def okReg (ops : Array Oper) (n : Nat) (deps : Nat → List Nat) : Bool :=
  (allB n).all fun l => (Region.ready .any ops l.toArray).all (fun i => decide (i < n) && !l.getD i true && (deps i).all fun j => l.getD j false) && (l.all id || !(Region.ready .any ops l.toArray).isEmpty) && (!l.all id || (Region.ready .any ops l.toArray).isEmpty)

theorem act_ext {a b : Act} (hs : a.tmps.size = b.tmps.size) (hd : a.defers = b.defers) (h : ∀ t, a.eval (.tmp t) = b.eval (.tmp t)) : a = b := by
  cases a with
  | mk ta da =>
    cases b with
    | mk tb db =>
      simp only [Act.eval] at hs hd h
      subst hd
      congr 1
      apply Array.ext hs
      intro i h1 h2
      have := h i
      simpa [Array.getD, h1, h2] using this
theorem putsL_size (l : List (Tmp × Value)) : ∀ a : Act, (putsL a l).tmps.size = a.tmps.size := by
  induction l with
  | nil => intro a; rfl
  | cons x l ih => intro a; exact (ih _).trans (put_size a _ _)
theorem put_defers (a : Act) (d : Option Tmp) (v : Value) : (a.put d v).defers = a.defers := by cases d <;> rfl
theorem putsL_defers (l : List (Tmp × Value)) : ∀ a : Act, (putsL a l).defers = a.defers := by
  induction l with
  | nil => intro a; rfl
  | cons x l ih => intro a; exact (ih _).trans (put_defers a _ _)
theorem putsL_out (l : List (Tmp × Value)) : ∀ (a : Act) (t : Tmp), (∀ x ∈ l, x.1 ≠ t) → (∀ x ∈ l, x.1 < a.tmps.size) → (putsL a l).eval (.tmp t) = a.eval (.tmp t) := by
  induction l with
  | nil => intro a t _ _; rfl
  | cons x l ih =>
    intro a t h hs
    have h1 := hs x (List.mem_cons_self ..)
    refine (ih (a.put (some x.1) x.2) t (fun y hy => h y (List.mem_cons_of_mem _ hy)) (fun y hy => by rw [put_size]; exact hs y (List.mem_cons_of_mem _ hy))).trans ?_
    rw [put_eval a x.1 x.2 t h1, if_neg (fun e => h x (List.mem_cons_self ..) e.symm)]
theorem putsL_in (l : List (Tmp × Value)) : ∀ (a : Act), (l.map (·.1)).Nodup → (∀ x ∈ l, x.1 < a.tmps.size) → ∀ x ∈ l, (putsL a l).eval (.tmp x.1) = x.2 := by
  induction l with
  | nil => intro a _ _ x hx; cases hx
  | cons y l ih =>
    intro a hn hs x hx
    rw [List.map_cons, List.nodup_cons] at hn
    have hs' : ∀ z ∈ l, z.1 < (a.put (some y.1) y.2).tmps.size := fun z hz => by rw [put_size]; exact hs z (List.mem_cons_of_mem _ hz)
    rcases List.mem_cons.1 hx with rfl | hx
    · refine (putsL_out l _ x.1 (fun z hz e => hn.1 (e ▸ List.mem_map_of_mem hz)) hs').trans ?_
      rw [put_eval a x.1 x.2 x.1 (hs x (List.mem_cons_self ..)), if_pos rfl]
    · exact ih _ hn.2 hs' x hx

/-- What is known of one operation. -/
def OpAt (F : Fence) (nF : Nat) (P : Program) (Q : Exit → Act → World → Prop) (ops : Array Oper) (dv : List (Tmp × Value)) (deps : Nat → List Nat) (a0 : Act) (Wp : Bool → World → Prop) (c i : Nat) (d : Tmp) (v : Value) : Prop :=
  ∃ o, ops[i]? = some o ∧ o.guard = none ∧ o.dst = some d ∧ ∀ (a : Act) (w : World) (b : Bool) (K : Act → World → Prop), (∀ t, (∀ x ∈ dv, x.1 ≠ t) → a.eval (.tmp t) = a0.eval (.tmp t)) → (∀ j ∈ deps i, ∀ x, dv[j]? = some x → a.eval (.tmp x.1) = x.2) → Wp b w → (i = c → b = false) →
    (∀ w', Wp (b || decide (i = c)) w' → K (a.put (some d) v) w') → Oper.wpIn F nF P o a w K Q

theorem region_vals {F : Fence} {nF : Nat} {P : Program} {Q : Exit → Act → World → Prop} {ops : Array Oper} {id : Nat} {a0 : Act} {w : World} (hm : P.follows .mixedOrders = true) (dv : List (Tmp × Value)) (deps : Nat → List Nat) (Wp : Bool → World → Prop) (c : Nat) (hn : ops.size = dv.length)
    (hck : okReg ops dv.length deps = true) (hc : c < dv.length) (hnd : (dv.map (·.1)).Nodup) (hsz : ∀ x ∈ dv, x.1 < a0.tmps.size)
    (hops : ∀ i x, dv[i]? = some x → OpAt F nF P Q ops dv deps a0 Wp c i x.1 x.2) (h0 : Wp false w.drew) (hQ : ∀ w, Wp true w → Q .normal (putsL a0 dv) w) : (Code.region id ops true).wpIn F nF P Q a0 w := by
  refine wpIn_region_any hm ?_
  have hup : ∀ l : List Bool, l.length = dv.length → (∀ i ∈ Region.ready .any ops l.toArray, i < dv.length ∧ l.getD i true = false ∧ ∀ j ∈ deps i, l.getD j false = true) ∧ (Region.ready .any ops l.toArray = [] → ∀ i, l.getD i true = true) ∧ ((∀ i, l.getD i true = true) → Region.ready .any ops l.toArray = []) := by
    intro l hl
    have hm := mem_allB l
    rw [hl] at hm
    have := List.all_eq_true.1 hck l hm
    simp only [Bool.and_eq_true, Bool.or_eq_true, List.all_eq_true, decide_eq_true_eq, Bool.not_eq_true'] at this
    obtain ⟨⟨h1, h2⟩, h3⟩ := this
    refine ⟨fun i hi => ⟨(h1 i hi).1.1, (h1 i hi).1.2, (h1 i hi).2⟩, fun e i => ?_, fun e => ?_⟩
    · rcases h2 with h2 | h2
      · rw [List.getD_eq_getElem?_getD]
        by_cases hi : i < l.length
        · rw [List.getElem?_eq_getElem hi]; exact h2 _ (List.getElem_mem _)
        · rw [List.getElem?_eq_none (by omega)]; rfl
      · rw [e] at h2; simp at h2
    · rcases h3 with h3 | h3
      · exfalso
        simp only [List.all_eq_false] at h3
        obtain ⟨b, hb, hb'⟩ := h3
        obtain ⟨j, hj, rfl⟩ := List.getElem_of_mem hb
        have := e j
        rw [List.getD_eq_getElem?_getD, List.getElem?_eq_getElem hj] at this
        exact hb' (by simpa using this)
      · simpa using h3
  have hrep : Array.replicate ops.size false = (List.replicate dv.length false).toArray := by rw [hn]; simp
  rw [hrep, hn]
  have hcr : ∀ n, cntF (List.replicate n false) = n := fun n => by
    induction n with
    | zero => rfl
    | succ n ih => rw [List.replicate_succ, cntF, ih]; rfl
  refine any_inv (I := fun f la a w => ∃ l : List Bool, la = l.toArray ∧ l.length = dv.length ∧ cntF l = f ∧ a.tmps.size = a0.tmps.size ∧ a.defers = a0.defers ∧ (∀ t, (∀ x ∈ dv, x.1 ≠ t) → a.eval (.tmp t) = a0.eval (.tmp t)) ∧
    (∀ j x, l.getD j false = true → dv[j]? = some x → a.eval (.tmp x.1) = x.2) ∧ Wp (l.getD c false) w) ?_ ?_ ?_ _ _ a0 _ ⟨_, rfl, by simp, hcr _, rfl, rfl, fun _ _ => rfl, fun j x hj => ?_, ?_⟩
  · rintro _ a w ⟨l, rfl, hl, hc0, -⟩
    exact (hup l hl).2.2 (cntF_zero l hc0)
  · rintro f _ a w ⟨l, rfl, hl, -, h1, h2, h3, h4, h5⟩ he
    have hall := (hup l hl).2.1 he
    have htrue : ∀ j, j < dv.length → l.getD j false = true := fun j hj => by
      have := hall j
      rw [List.getD_eq_getElem?_getD, List.getElem?_eq_getElem (by omega)] at this ⊢
      exact this
    rw [htrue c hc] at h5
    have : a = putsL a0 dv := by
      refine act_ext (h1.trans (putsL_size _ _).symm) (h2.trans (putsL_defers _ _).symm) fun t => ?_
      by_cases ht : ∀ x ∈ dv, x.1 ≠ t
      · rw [h3 t ht, putsL_out dv a0 t ht hsz]
      · obtain ⟨x, hx, rfl⟩ : ∃ x ∈ dv, x.1 = t := Classical.byContradiction fun e => ht fun x hx hxt => e ⟨x, hx, hxt⟩
        rw [putsL_in dv a0 hnd hsz x hx]
        obtain ⟨j, hj, rfl⟩ := List.getElem_of_mem hx
        exact h4 j _ (htrue j hj) (List.getElem?_eq_getElem hj)
    rw [this]
    exact hQ w h5
  · rintro f _ a w i ⟨l, rfl, hl, hcn, h1, h2, h3, h4, h5⟩ hi
    obtain ⟨k1, k2, k3⟩ := (hup l hl).1 i hi
    have hcs := cntF_set l i k2
    have hset : (l.toArray).setIfInBounds i true = (l.set i true).toArray := by simp
    obtain ⟨o, e1, e2, e3, e4⟩ := hops i dv[i] (List.getElem?_eq_getElem k1)
    refine up_op e1 e2 (e4 a w (l.getD c false) _ h3 (fun j hj x hx => h4 j x (k3 j hj) hx) h5 (fun hic => ?_) fun w' hw' => ?_)
    · subst hic
      rw [List.getD_eq_getElem?_getD, List.getElem?_eq_getElem (by omega)] at k2 ⊢
      exact k2
    · have hlt : dv[i].1 < a.tmps.size := by rw [h1]; exact hsz _ (List.getElem_mem _)
      refine ⟨l.set i true, hset, by simpa using hl, by omega, (put_size _ _ _).trans h1, (put_defers _ _ _).trans h2, fun t ht => ?_, fun j x hj hx => ?_, ?_⟩
      · rw [put_eval a _ _ t hlt, if_neg (fun e => ht _ (List.getElem_mem k1) e.symm)]
        exact h3 t ht
      · rw [put_eval a _ _ x.1 hlt]
        rw [getD_set (by omega)] at hj
        by_cases hji : j = i
        · subst hji
          rw [List.getElem?_eq_getElem k1] at hx
          cases hx
          rw [if_pos rfl]
        · rw [if_neg hji] at hj
          have hjl : j < dv.length := (List.getElem?_eq_some_iff.1 hx).1
          rw [if_neg (fun e => ?_)]
          · exact h4 j x hj hx
          · have e5 : (dv.map (·.1))[j]? = some x.1 := by rw [List.getElem?_map, hx]; rfl
            have e6 : (dv.map (·.1))[i]? = some x.1 := by rw [List.getElem?_map, List.getElem?_eq_getElem k1, e]; rfl
            have e7 := (List.getElem?_inj (by simpa using hjl) hnd).1 (e5.trans e6.symm)
            exact hji e7
      · rw [getD_set (by omega)]
        by_cases hci : c = i
        · subst hci
          rw [if_pos rfl]
          simpa using hw'
        · rw [if_neg hci]
          have : decide (i = c) = false := by simpa using fun e => hci e.symm
          rw [this, Bool.or_false] at hw'
          exact hw'
  · simp only [List.getD_eq_getElem?_getD, List.getElem?_replicate] at hj
    split at hj <;> cases hj
  · have : (List.replicate dv.length false).getD c false = false := by
      rw [List.getD_eq_getElem?_getD, List.getElem?_replicate]; split <;> rfl
    rw [this]; exact h0
end Go.Hw
