/- A statement 'm[k] = append(m[k], x)' whose operations come up in any order. -/
import Derived.Test.YtfcnjhgfaibmnaaG1
namespace Go.Hw
open Go.RowKit Go.Proofs
open Go.ChangeMaps Go.ChangeShapes Go.Maps

section
variable {F : Fence} {n : Nat} {P : Program} {ops : Array Oper} {Q : Exit → Act → World → Prop} {md : Region.Mode}

theorem wpOpIn_mono' {i : Nat} {K K' : Act → World → Prop} {a : Act} {w : World} (h : ∀ a w, K a w → K' a w) (hh : wpOpIn F n P ops Q i K a w) : wpOpIn F n P ops Q i K' a w := by
  unfold wpOpIn at *
  cases ho : ops[i]? with
  | none => rw [ho] at hh; exact h _ _ hh
  | some o =>
    rw [ho] at hh
    by_cases hw : Region.wanted o (yielded ops a.tmps) = true
    · simp only [hw, if_true] at hh ⊢; exact Oper.wpIn_mono h hh
    · simp only [hw] at hh ⊢; exact ⟨hh.1, h _ _ hh.2⟩

/-- Whatever order: an invariant over what is listed. -/
theorem any_inv {I : Nat → Array Bool → Act → World → Prop} (h0 : ∀ l a w, I 0 l a w → Region.ready md ops l = []) (hd : ∀ f l a w, I f l a w → Region.ready md ops l = [] → Q .normal a w)
    (hs : ∀ f l a w i, I (f + 1) l a w → i ∈ Region.ready md ops l → wpOpIn F n P ops Q i (I f (l.setIfInBounds i true)) a w) : ∀ f l a w, I f l a w → wpAnyIn F n P md ops Q f l a w
  | 0, l, a, w, h => ⟨h0 l a w h, hd 0 l a w h (h0 l a w h)⟩
  | f + 1, l, a, w, h => ⟨hd _ l a w h, fun i hi => wpOpIn_mono' (any_inv h0 hd hs f _) (hs f l a w i h hi)⟩

theorem wpIn_run {o : Oper} {a : Act} {w w' : World} {v : Value} {K : Act → World → Prop} (hab : o.about P w a.eval = none) (hnd : ∀ c, o.op ≠ .defer c) (hr : (execOp a.eval o).run P w = .ok (.value v) w') (hK : K (a.put o.dst v) w') : Oper.wpIn F n P o a w K Q := by
  refine ⟨(by rw [hab]; intro f h; cases h), ?_⟩
  rw [Oper.semAt_plain F _ _ hnd, hr]
  exact hK
theorem put_size (a : Act) (d : Option Tmp) (v : Value) : (a.put d v).tmps.size = a.tmps.size := by
  cases d <;> simp [Act.put]
theorem put_eval (a : Act) (d : Tmp) (v : Value) (t : Tmp) (hd : d < a.tmps.size) : (a.put (some d) v).eval (.tmp t) = if t = d then v else a.eval (.tmp t) := by
  simp only [Act.put, Act.eval, Array.getD_eq_getD_getElem?, Array.getElem?_setIfInBounds]
  by_cases h : d = t
  · subst h; simp [hd]
  · have : t ≠ d := fun e => h e.symm
    simp [h, this]
end

def cntF : List Bool → Nat
  | [] => 0
  | b :: l => cntF l + (if b = true then 0 else 1)
theorem cntF_set : ∀ (l : List Bool) (i : Nat), l.getD i true = false → cntF (l.set i true) + 1 = cntF l
  | [], i, h => by simp at h
  | b :: l, 0, h => by simp at h; subst h; simp [cntF]
  | b :: l, i + 1, h => by
    have := cntF_set l i (by simpa using h)
    simp only [List.set_cons_succ, cntF]; omega
theorem cntF_zero : ∀ (l : List Bool), cntF l = 0 → ∀ i, l.getD i true = true
  | [], _, i => by simp
  | b :: l, h, i => by
    simp only [cntF] at h
    have hb : b = true := by cases b <;> simp_all
    cases i with
    | zero => simpa using hb
    | succ i => simpa using cntF_zero l (by omega) i
def allB : Nat → List (List Bool)
  | 0 => [[]]
  | k + 1 => (allB k).flatMap fun l => [false :: l, true :: l]
theorem mem_allB : ∀ (l : List Bool), l ∈ allB l.length
  | [] => by simp [allB]
  | b :: l => by
    simp only [List.length_cons, allB, List.mem_flatMap]
    exact ⟨l, mem_allB l, by cases b <;> simp⟩

def clB (l : List Bool) : Bool := (!l.getD 4 false || (l.getD 2 false && l.getD 3 false)) && (!l.getD 6 false || l.getD 5 false) && (!l.getD 7 false || (l.getD 4 false && l.getD 6 false)) && (!l.getD 8 false || (l.getD 0 false && l.getD 1 false && l.getD 7 false))
/-- What may come up: the kernel's check. -/
def okUp (l : List Bool) (i : Nat) : Bool :=
  decide (i < 9) && (!l.getD i true) && clB (l.set i true) && (i != 4 || (l.getD 2 false && l.getD 3 false)) && (i != 6 || l.getD 5 false) && (i != 7 || (l.getD 4 false && l.getD 6 false)) &&
    (i != 8 || (l.getD 0 false && l.getD 1 false && l.getD 7 false))
def ckUp (ops : Array Oper) : Bool :=
  (allB 9).all fun l => !clB l || (Region.ready .any ops l.toArray).all (okUp l) && (l.getD 8 false || !(Region.ready .any ops l.toArray).isEmpty) && (!l.all id || (Region.ready .any ops l.toArray).isEmpty)

/-- The operations. -/
structure OpsAre (ops : Array Oper) (P : Program) (tm te ts : TypeId) : Prop where
  o0 : ∃ o, ops[0]? = some o ∧ o.op = .load tm (.tmp 7) ∧ o.dst = some 103 ∧ o.guard = none
  o1 : ∃ o, ops[1]? = some o ∧ o.op = .load te (.tmp 18) ∧ o.dst = some 104 ∧ o.guard = none
  o2 : ∃ o, ops[2]? = some o ∧ o.op = .load tm (.tmp 7) ∧ o.dst = some 105 ∧ o.guard = none
  o3 : ∃ o, ops[3]? = some o ∧ o.op = .load te (.tmp 18) ∧ o.dst = some 106 ∧ o.guard = none
  o4 : ∃ o, ops[4]? = some o ∧ o.op = .lookup tm (.tmp 105) (.tmp 106) false ∧ o.dst = some 107 ∧ o.guard = none
  o5 : ∃ o, ops[5]? = some o ∧ o.op = .move (.tmp 19) ∧ o.dst = some 108 ∧ o.guard = none
  o6 : ∃ o, ops[6]? = some o ∧ o.op = .buildSlice ts 1 #[(0, .tmp 108)] ∧ o.dst = some 109 ∧ o.guard = none
  o7 : ∃ o, ops[7]? = some o ∧ o.op = .call { callee := .builtin .append, args := #[.tmp 107, .tmp 109], argTypes := #[ts, ts] } ∧ o.dst = some 110 ∧ o.guard = none
  o8 : ∃ o, ops[8]? = some o ∧ o.op = .mapUpdate tm (.tmp 103) (.tmp 104) (.tmp 110) ∧ o.dst = none ∧ o.guard = none
  ck : ckUp ops = true

theorem getD_set {l : List Bool} {i j : Nat} (hi : i < l.length) : (l.set i true).getD j false = if j = i then true else l.getD j false := by
  simp only [List.getD, List.getElem?_set]
  by_cases h : i = j
  · subst h; simp [hi]
  · have : j ≠ i := fun e => h e.symm
    simp [h, this]

theorem grown_none {w w' : World} (h : w.grownBy w' none) (row : Option Nat) : w.grownBy w' row := ⟨h.os, h.tape, h.output, h.size, fun k hk _ => h.block k hk (by simp)⟩
theorem grown_refl (w : World) (row : Option Nat) : w.grownBy w row := ⟨rfl, rfl, rfl, Nat.le_refl _, fun _ _ _ => rfl⟩

section
variable (P : Program) (tm te ts : TypeId) (Wd : World) (base bm n : Nat) (D : DataW Unit) (No : Nat → Prop) (x y : Int) (c7 c18 : Nat) (sz : Nat)

structure LkAt (v : Value) (zs : List Int) (w0 : World) : Prop where
  hat : D.atKey (kL x) .nil = rowDatum .i64 v zs
  own : w0.ownsInts base te .i64 v zs
  len : zs.length ≤ n
  back : w0.groupBack P tm te base te .i64 bm n D (.int .i64 x) (kL x) v
  sh : ∀ g, v.ownBlock = some g → ¬ No g
  grp : w0.ownsGroups P te base te .i64 bm n D
  shn : w0.Shuns bm No
  gr : Wd.grownBy w0 none

def FinAt (w : World) : Prop := ∃ (v v' : Value) (zs : List Int) (w1 : World), D.atKey (kL x) .nil = rowDatum .i64 v zs ∧ (∀ g, v.ownBlock = some g → ¬ No g ∧ base ≤ g) ∧ Wd.grownBy w1 v.ownBlock ∧ w1.grownBy w (some bm) ∧
  w.ownsGroups P te base te .i64 bm (n + 1) (D.put (kL x) (rowDatum .i64 v' (zs ++ [y]))) ∧ w.Shuns bm No ∧ w1.ownsInts base te .i64 v' (zs ++ [y]) ∧
  ((rowDatum (H := Unit) .i64 v zs = .nil ∧ zs = []) ∨ rowDatum (H := Unit) .i64 v zs = .slice (lits .i64 zs) [])

structure Up (l : List Bool) (a : Act) (w : World) : Prop where
  sz : a.tmps.size = sz
  e7 : a.eval (.tmp 7) = .pointer (some ⟨c7, 0, none⟩)
  e18 : a.eval (.tmp 18) = .pointer (some ⟨c18, 0, none⟩)
  e19 : a.eval (.tmp 19) = .int .i64 y
  f0 : l.getD 0 false = true → a.eval (.tmp 103) = .map (some bm)
  f1 : l.getD 1 false = true → a.eval (.tmp 104) = .int .i64 x
  f2 : l.getD 2 false = true → a.eval (.tmp 105) = .map (some bm)
  f3 : l.getD 3 false = true → a.eval (.tmp 106) = .int .i64 x
  f5 : l.getD 5 false = true → a.eval (.tmp 108) = .int .i64 y
  wA : l.getD 6 false = false → w = Wd
  wB : l.getD 6 false = true → l.getD 7 false = false → w = Wd.alloc (.cells #[.int .i64 y] te) ∧ a.eval (.tmp 109) = .slice (some ⟨Wd.heap.size, 0, none⟩) 1 1
  wL : l.getD 4 false = true → l.getD 7 false = false → ∃ v zs w0, LkAt P tm te Wd base bm n D No x v zs w0 ∧ a.eval (.tmp 107) = v ∧ w0.grownBy w none
  wC : l.getD 7 false = true → l.getD 8 false = false → ∃ v zs w0 v', LkAt P tm te Wd base bm n D No x v zs w0 ∧ a.eval (.tmp 110) = v' ∧ w0.grownBy w v.ownBlock ∧ w.ownsInts base te .i64 v' (zs ++ [y]) ∧ (v'.ownBlock = v.ownBlock ∨ ∃ g, v'.ownBlock = some g ∧ w0.heap.size ≤ g)
  wD : l.getD 8 false = true → FinAt P te Wd base bm n D No x y w
  cl : l.getD 8 false = false → w.cell? ⟨c7, 0, none⟩ = some (.map (some bm)) ∧ w.cell? ⟨c18, 0, none⟩ = some (.int .i64 x)
  o7 : l.getD 7 false = true → l.getD 6 false = true ∧ l.getD 4 false = true
  o8 : l.getD 8 false = true → l.getD 7 false = true
variable {P} {tm te ts} {Wd} {base bm n} {D} {No} {x y} {c7 c18} {sz}
theorem Up.op0 {l : List Bool} {a : Act} {w : World} (h : Up P tm te Wd base bm n D No x y c7 c18 sz l a w) (hl : l.length = 9) (hs : 110 < sz) : Up P tm te Wd base bm n D No x y c7 c18 sz (l.set 0 true) (a.put (some 103) (.map (some bm))) w := by
  have hp : ∀ t, (a.put (some 103) (.map (some bm))).eval (.tmp t) = if t = 103 then (.map (some bm)) else a.eval (.tmp t) := fun t => put_eval a 103 _ t (by rw [h.sz]; exact Nat.lt_of_le_of_lt (by decide) hs)
  have hg : ∀ j, (l.set 0 true).getD j false = if j = 0 then true else l.getD j false := fun j => getD_set (by omega)
  refine ⟨(put_size _ _ _).trans h.sz, ?_, ?_, ?_, ?_, ?_, ?_, ?_, ?_, ?_, ?_, ?_, ?_, ?_, ?_, ?_, ?_⟩ <;> simp only [hp, hg, reduceIte, Nat.reduceEqDiff]
  · exact h.e7
  · exact h.e18
  · exact h.e19
  · intro _; trivial
  · exact h.f1
  · exact h.f2
  · exact h.f3
  · exact h.f5
  · exact h.wA
  · exact h.wB
  · exact h.wL
  · exact h.wC
  · exact h.wD
  · exact h.cl
  · exact h.o7
  · exact h.o8
theorem Up.op1 {l : List Bool} {a : Act} {w : World} (h : Up P tm te Wd base bm n D No x y c7 c18 sz l a w) (hl : l.length = 9) (hs : 110 < sz) : Up P tm te Wd base bm n D No x y c7 c18 sz (l.set 1 true) (a.put (some 104) (.int .i64 x)) w := by
  have hp : ∀ t, (a.put (some 104) (.int .i64 x)).eval (.tmp t) = if t = 104 then (.int .i64 x) else a.eval (.tmp t) := fun t => put_eval a 104 _ t (by rw [h.sz]; exact Nat.lt_of_le_of_lt (by decide) hs)
  have hg : ∀ j, (l.set 1 true).getD j false = if j = 1 then true else l.getD j false := fun j => getD_set (by omega)
  refine ⟨(put_size _ _ _).trans h.sz, ?_, ?_, ?_, ?_, ?_, ?_, ?_, ?_, ?_, ?_, ?_, ?_, ?_, ?_, ?_, ?_⟩ <;> simp only [hp, hg, reduceIte, Nat.reduceEqDiff]
  · exact h.e7
  · exact h.e18
  · exact h.e19
  · exact h.f0
  · intro _; trivial
  · exact h.f2
  · exact h.f3
  · exact h.f5
  · exact h.wA
  · exact h.wB
  · exact h.wL
  · exact h.wC
  · exact h.wD
  · exact h.cl
  · exact h.o7
  · exact h.o8
theorem Up.op2 {l : List Bool} {a : Act} {w : World} (h : Up P tm te Wd base bm n D No x y c7 c18 sz l a w) (hl : l.length = 9) (hs : 110 < sz) : Up P tm te Wd base bm n D No x y c7 c18 sz (l.set 2 true) (a.put (some 105) (.map (some bm))) w := by
  have hp : ∀ t, (a.put (some 105) (.map (some bm))).eval (.tmp t) = if t = 105 then (.map (some bm)) else a.eval (.tmp t) := fun t => put_eval a 105 _ t (by rw [h.sz]; exact Nat.lt_of_le_of_lt (by decide) hs)
  have hg : ∀ j, (l.set 2 true).getD j false = if j = 2 then true else l.getD j false := fun j => getD_set (by omega)
  refine ⟨(put_size _ _ _).trans h.sz, ?_, ?_, ?_, ?_, ?_, ?_, ?_, ?_, ?_, ?_, ?_, ?_, ?_, ?_, ?_, ?_⟩ <;> simp only [hp, hg, reduceIte, Nat.reduceEqDiff]
  · exact h.e7
  · exact h.e18
  · exact h.e19
  · exact h.f0
  · exact h.f1
  · intro _; trivial
  · exact h.f3
  · exact h.f5
  · exact h.wA
  · exact h.wB
  · exact h.wL
  · exact h.wC
  · exact h.wD
  · exact h.cl
  · exact h.o7
  · exact h.o8
theorem Up.op3 {l : List Bool} {a : Act} {w : World} (h : Up P tm te Wd base bm n D No x y c7 c18 sz l a w) (hl : l.length = 9) (hs : 110 < sz) : Up P tm te Wd base bm n D No x y c7 c18 sz (l.set 3 true) (a.put (some 106) (.int .i64 x)) w := by
  have hp : ∀ t, (a.put (some 106) (.int .i64 x)).eval (.tmp t) = if t = 106 then (.int .i64 x) else a.eval (.tmp t) := fun t => put_eval a 106 _ t (by rw [h.sz]; exact Nat.lt_of_le_of_lt (by decide) hs)
  have hg : ∀ j, (l.set 3 true).getD j false = if j = 3 then true else l.getD j false := fun j => getD_set (by omega)
  refine ⟨(put_size _ _ _).trans h.sz, ?_, ?_, ?_, ?_, ?_, ?_, ?_, ?_, ?_, ?_, ?_, ?_, ?_, ?_, ?_, ?_⟩ <;> simp only [hp, hg, reduceIte, Nat.reduceEqDiff]
  · exact h.e7
  · exact h.e18
  · exact h.e19
  · exact h.f0
  · exact h.f1
  · exact h.f2
  · intro _; trivial
  · exact h.f5
  · exact h.wA
  · exact h.wB
  · exact h.wL
  · exact h.wC
  · exact h.wD
  · exact h.cl
  · exact h.o7
  · exact h.o8
theorem Up.op5 {l : List Bool} {a : Act} {w : World} (h : Up P tm te Wd base bm n D No x y c7 c18 sz l a w) (hl : l.length = 9) (hs : 110 < sz) : Up P tm te Wd base bm n D No x y c7 c18 sz (l.set 5 true) (a.put (some 108) (.int .i64 y)) w := by
  have hp : ∀ t, (a.put (some 108) (.int .i64 y)).eval (.tmp t) = if t = 108 then (.int .i64 y) else a.eval (.tmp t) := fun t => put_eval a 108 _ t (by rw [h.sz]; exact Nat.lt_of_le_of_lt (by decide) hs)
  have hg : ∀ j, (l.set 5 true).getD j false = if j = 5 then true else l.getD j false := fun j => getD_set (by omega)
  refine ⟨(put_size _ _ _).trans h.sz, ?_, ?_, ?_, ?_, ?_, ?_, ?_, ?_, ?_, ?_, ?_, ?_, ?_, ?_, ?_, ?_⟩ <;> simp only [hp, hg, reduceIte, Nat.reduceEqDiff]
  · exact h.e7
  · exact h.e18
  · exact h.e19
  · exact h.f0
  · exact h.f1
  · exact h.f2
  · exact h.f3
  · intro _; trivial
  · exact h.wA
  · exact h.wB
  · exact h.wL
  · exact h.wC
  · exact h.wD
  · exact h.cl
  · exact h.o7
  · exact h.o8
theorem Up.op4 {l : List Bool} {a : Act} {w : World} (h : Up P tm te Wd base bm n D No x y c7 c18 sz l a w) (hl : l.length = 9) (hs : 110 < sz) (h7 : l.getD 7 false = false) (h8 : l.getD 8 false = false) {v : Value} {zs : List Int} (hk : LkAt P tm te Wd base bm n D No x v zs w) : Up P tm te Wd base bm n D No x y c7 c18 sz (l.set 4 true) (a.put (some 107) v) w := by
  have hp : ∀ t, (a.put (some 107) v).eval (.tmp t) = if t = 107 then v else a.eval (.tmp t) := fun t => put_eval a 107 _ t (by rw [h.sz]; exact Nat.lt_of_le_of_lt (by decide) hs)
  have hg : ∀ j, (l.set 4 true).getD j false = if j = 4 then true else l.getD j false := fun j => getD_set (by omega)
  refine ⟨(put_size _ _ _).trans h.sz, ?_, ?_, ?_, ?_, ?_, ?_, ?_, ?_, ?_, ?_, ?_, ?_, ?_, ?_, ?_, ?_⟩ <;> simp only [hp, hg, Nat.reduceEqDiff, reduceIte]
  · exact h.e7
  · exact h.e18
  · exact h.e19
  · exact h.f0
  · exact h.f1
  · exact h.f2
  · exact h.f3
  · exact h.f5
  · exact h.wA
  · exact h.wB
  · intro _ _; exact ⟨v, zs, w, hk, rfl, grown_refl _ _⟩
  · exact h.wC
  · exact h.wD
  · exact h.cl
  · intro e; rw [h7] at e; cases e
  · exact h.o8
theorem Up.op6 {l : List Bool} {a : Act} {w : World} (h : Up P tm te Wd base bm n D No x y c7 c18 sz l a w) (hl : l.length = 9) (hs : 110 < sz) (h6 : l.getD 6 false = false) (h7 : l.getD 7 false = false) (h8 : l.getD 8 false = false) : Up P tm te Wd base bm n D No x y c7 c18 sz (l.set 6 true) (a.put (some 109) (.slice (some ⟨Wd.heap.size, 0, none⟩) 1 1)) (Wd.alloc (.cells #[.int .i64 y] te)) := by
  have hw := h.wA h6
  have hp : ∀ t, (a.put (some 109) (.slice (some ⟨Wd.heap.size, 0, none⟩) 1 1)).eval (.tmp t) = if t = 109 then (.slice (some ⟨Wd.heap.size, 0, none⟩) 1 1) else a.eval (.tmp t) := fun t => put_eval a 109 _ t (by rw [h.sz]; exact Nat.lt_of_le_of_lt (by decide) hs)
  have hg : ∀ j, (l.set 6 true).getD j false = if j = 6 then true else l.getD j false := fun j => getD_set (by omega)
  refine ⟨(put_size _ _ _).trans h.sz, ?_, ?_, ?_, ?_, ?_, ?_, ?_, ?_, ?_, ?_, ?_, ?_, ?_, ?_, ?_, ?_⟩ <;> simp only [hp, hg, Nat.reduceEqDiff, reduceIte]
  · exact h.e7
  · exact h.e18
  · exact h.e19
  · exact h.f0
  · exact h.f1
  · exact h.f2
  · exact h.f3
  · exact h.f5
  · intro e; cases e
  · intro _ _; exact ⟨trivial, trivial⟩
  · intro e1 e2; obtain ⟨v, zs, w0, k1, k2, k3⟩ := h.wL e1 e2; exact ⟨v, zs, w0, k1, k2, (hw ▸ k3).trans (World.grownBy_alloc _ _ _)⟩
  · intro e; rw [h7] at e; cases e
  · intro e; rw [h8] at e; cases e
  · intro e; obtain ⟨k1, k2⟩ := h.cl e; rw [hw] at k1 k2; exact ⟨(World.cell?_alloc_past _ _ _ (World.block_lt_of_cell? Wd _ k1)).trans k1, (World.cell?_alloc_past _ _ _ (World.block_lt_of_cell? Wd _ k2)).trans k2⟩
  · intro e; rw [h7] at e; cases e
  · exact h.o8
theorem Up.op7 {l : List Bool} {a : Act} {w : World} (h : Up P tm te Wd base bm n D No x y c7 c18 sz l a w) (hl : l.length = 9) (hs : 110 < sz) (h4 : l.getD 4 false = true) (h6 : l.getD 6 false = true) (h7 : l.getD 7 false = false) (h8 : l.getD 8 false = false) {v v' : Value} {zs : List Int} {w0 w1 : World} (hk : LkAt P tm te Wd base bm n D No x v zs w0) (hg1 : w0.grownBy w1 v.ownBlock) (hgw : w.grownBy w1 v.ownBlock) (ho : w1.ownsInts base te .i64 v' (zs ++ [y])) (hb : v'.ownBlock = v.ownBlock ∨ ∃ g, v'.ownBlock = some g ∧ w0.heap.size ≤ g)
    (hc7 : ∀ g, base ≤ g → ¬ No g → g ≠ c7 ∧ g ≠ c18) : Up P tm te Wd base bm n D No x y c7 c18 sz (l.set 7 true) (a.put (some 110) v') w1 := by
  have hp : ∀ t, (a.put (some 110) v').eval (.tmp t) = if t = 110 then v' else a.eval (.tmp t) := fun t => put_eval a 110 _ t (by rw [h.sz]; exact Nat.lt_of_le_of_lt (by decide) hs)
  have hg : ∀ j, (l.set 7 true).getD j false = if j = 7 then true else l.getD j false := fun j => getD_set (by omega)
  refine ⟨(put_size _ _ _).trans h.sz, ?_, ?_, ?_, ?_, ?_, ?_, ?_, ?_, ?_, ?_, ?_, ?_, ?_, ?_, ?_, ?_⟩ <;> simp only [hp, hg, Nat.reduceEqDiff, reduceIte]
  · exact h.e7
  · exact h.e18
  · exact h.e19
  · exact h.f0
  · exact h.f1
  · exact h.f2
  · exact h.f3
  · exact h.f5
  · intro e; rw [h6] at e; cases e
  · intro _ e; cases e
  · intro _ e; cases e
  · intro _ _; exact ⟨v, zs, w0, v', hk, rfl, hg1, ho, hb⟩
  · intro e; rw [h8] at e; cases e
  · intro e; obtain ⟨k1, k2⟩ := h.cl e; have hne : ∀ g, v.ownBlock = some g → g ≠ c7 ∧ g ≠ c18 := fun g hg => hc7 g (hk.own.1.lt g hg).1 (hk.sh g hg); exact ⟨(World.cell?_of_block (hgw.block _ (World.block_lt_of_cell? w _ k1) (fun e => (hne _ e.symm).1 rfl))).trans k1, (World.cell?_of_block (hgw.block _ (World.block_lt_of_cell? w _ k2) (fun e => (hne _ e.symm).2 rfl))).trans k2⟩
  · intro _; exact ⟨h6, h4⟩
  · intro _; trivial
theorem Up.op8 {l : List Bool} {a : Act} {w : World} (h : Up P tm te Wd base bm n D No x y c7 c18 sz l a w) (hl : l.length = 9) (hs : 110 < sz) (h7 : l.getD 7 false = true) (h6 : l.getD 6 false = true) {w1 : World} (hf : FinAt P te Wd base bm n D No x y w1) : Up P tm te Wd base bm n D No x y c7 c18 sz (l.set 8 true) (a.put none undef) w1 := by
  have hg : ∀ j, (l.set 8 true).getD j false = if j = 8 then true else l.getD j false := fun j => getD_set (by omega)
  refine ⟨(put_size _ _ _).trans h.sz, ?_, ?_, ?_, ?_, ?_, ?_, ?_, ?_, ?_, ?_, ?_, ?_, ?_, ?_, ?_, ?_⟩ <;> (try simp only [hg, Nat.reduceEqDiff, reduceIte])
  · exact h.e7
  · exact h.e18
  · exact h.e19
  · exact h.f0
  · exact h.f1
  · exact h.f2
  · exact h.f3
  · exact h.f5
  · intro e; rw [h6] at e; cases e
  · intro _ e; rw [h7] at e; cases e
  · intro _ e; rw [h7] at e; cases e
  · intro _ e; cases e
  · intro _; exact hf
  · intro e; cases e
  · exact h.o7
  · intro _; exact h7

theorem up_wanted {o : Oper} (h : o.guard = none) (f : Nat → Option Bool) : Region.wanted o f = true := by simp [Region.wanted, h]
theorem up_op {F : Fence} {nF : Nat} {Q : Exit → Act → World → Prop} {ops : Array Oper} {i : Nat} {o : Oper} {a : Act} {w : World} {K : Act → World → Prop} (ho : ops[i]? = some o) (hg : o.guard = none) (h : Oper.wpIn F nF P o a w K Q) : wpOpIn F nF P ops Q i K a w := by
  unfold wpOpIn
  rw [ho]
  simp only [up_wanted hg, if_true]
  exact h

/-- THE STATEMENT. -/
theorem region_app {F : Fence} {nF : Nat} {Q : Exit → Act → World → Prop} {ops : Array Oper} (hO : OpsAre ops P tm te ts) (K : Keyed P te) (htm : P.underlying tm = some (.map te ts)) (hz : ∀ w, (zeroValue ts).run P w = .ok (.slice none 0 0) w) (hts : P.underlying ts = some (.slice te))
    {i0 : TypeInfo} (hi0 : P.info? te = some i0) (hiz : i0.zero = some (.int .i64 0)) (hi1 : i0.size = 1) (hi8 : i0.bytes = 8)
    (hlm : ∀ w u, w.cell? ⟨c7, 0, none⟩ = some u → (Instr.loadAt tm (.pointer (some ⟨c7, 0, none⟩))).run P w = .ok u w) (hle : ∀ w u, w.cell? ⟨c18, 0, none⟩ = some u → (Instr.loadAt te (.pointer (some ⟨c18, 0, none⟩))).run P w = .ok u w)
    (hbs : ∀ w, (Instr.buildSlice ts 1 #[(0, .int .i64 y)]).run P w = .ok (.slice (some ⟨w.heap.size, 0, none⟩) 1 1) (w.alloc (.cells #[.int .i64 y] te)))
    (hkey : keyOf P te (.int .i64 x) = some (kL x)) (hwy : (Lit.int .i64 y).wf = true) (hn : n + 1 ≤ 1000000) (hbase : base ≤ Wd.heap.size) (hbm : bm < base)
    (hown : Wd.ownsGroups P te base te .i64 bm n D) (hsh : Wd.Shuns bm No) (hNo : ∀ g, Wd.heap.size ≤ g → ¬ No g) (hc7 : ∀ g, base ≤ g → ¬ No g → g ≠ c7 ∧ g ≠ c18)
    (hQ : ∀ a w, FinAt P te Wd base bm n D No x y w → Q .normal a w) (a : Act) (hs : 110 < sz) (l0 : List Bool) (hl0 : l0 = List.replicate 9 false) (h : Up P tm te Wd base bm n D No x y c7 c18 sz l0 a Wd) :
    wpAnyIn F nF P .any ops Q 9 (l0.toArray) a Wd := by
  have hck := hO.ck
  have hup : ∀ l : List Bool, l.length = 9 → clB l = true → (∀ i ∈ Region.ready .any ops l.toArray, okUp l i = true) ∧ (Region.ready .any ops l.toArray = [] → l.getD 8 false = true) ∧ ((∀ i, l.getD i true = true) → Region.ready .any ops l.toArray = []) := by
    intro l hl hclb
    have hm := mem_allB l
    rw [hl] at hm
    have := List.all_eq_true.1 hck l hm
    rw [hclb, Bool.not_true, Bool.false_or] at this
    simp only [Bool.and_eq_true, Bool.or_eq_true, List.all_eq_true] at this
    obtain ⟨⟨h1, h2⟩, h3⟩ := this
    refine ⟨h1, fun e => ?_, fun e => ?_⟩
    · rcases h2 with h2 | h2
      · exact h2
      · rw [e] at h2; simp at h2
    · rcases h3 with h3 | h3
      · exfalso
        simp only [Bool.not_eq_true', List.all_eq_false] at h3
        obtain ⟨b, hb, hb'⟩ := h3
        obtain ⟨j, hj, rfl⟩ := List.getElem_of_mem hb
        have := e j
        rw [List.getD_eq_getElem?_getD, List.getElem?_eq_getElem hj] at this
        exact hb' (by simpa using this)
      · simpa using h3
  refine any_inv (I := fun f la a w => ∃ l : List Bool, la = l.toArray ∧ l.length = 9 ∧ clB l = true ∧ cntF l = f ∧ Up P tm te Wd base bm n D No x y c7 c18 sz l a w) ?_ ?_ ?_ 9 _ a Wd ⟨l0, rfl, by rw [hl0]; rfl, by rw [hl0]; rfl, by rw [hl0]; rfl, h⟩
  · rintro _ a w ⟨l, rfl, hl, hcb, hc, -⟩
    exact (hup l hl hcb).2.2 (cntF_zero l hc)
  · rintro f _ a w ⟨l, rfl, hl, hcb, -, hu⟩ he
    exact hQ a w (hu.wD ((hup l hl hcb).2.1 he))
  · rintro f _ a w i ⟨l, rfl, hl, hcb, hc, hu⟩ hi
    have hok := (hup l hl hcb).1 i hi
    simp only [okUp, Bool.and_eq_true, Bool.or_eq_true, decide_eq_true_eq, Bool.not_eq_true', bne_iff_ne, ne_eq] at hok
    obtain ⟨⟨⟨⟨⟨⟨hi9, hnot⟩, kcl⟩, k4⟩, k6⟩, k7⟩, k8⟩ := hok
    have hcs := cntF_set l i hnot
    have hset : (l.toArray).setIfInBounds i true = (l.set i true).toArray := by simp
    have hnf : l.getD i false = false := by
      rw [List.getD_eq_getElem?_getD, List.getElem?_eq_getElem (by omega)] at hnot ⊢
      simpa using hnot
    have fin : ∀ a' w', Up P tm te Wd base bm n D No x y c7 c18 sz (l.set i true) a' w' → ∃ l' : List Bool, (l.toArray).setIfInBounds i true = l'.toArray ∧ l'.length = 9 ∧ clB l' = true ∧ cntF l' = f ∧ Up P tm te Wd base bm n D No x y c7 c18 sz l' a' w' :=
      fun a' w' hu' => ⟨l.set i true, hset, by simpa using hl, kcl, by omega, hu'⟩
    simp only [clB, Bool.and_eq_true, Bool.or_eq_true, Bool.not_eq_true'] at hcb
    obtain ⟨⟨⟨c4, c6⟩, c7'⟩, c8⟩ := hcb
    have tf : ∀ b : Bool, b = false → b = true → False := fun b h1 h2 => by rw [h1] at h2; cases h2
    match i, hi9 with
    | 0, _ =>
      obtain ⟨o, e1, e2, e3, e4⟩ := hO.o0
      have h8 : l.getD 8 false = false := c8.resolve_right fun e => tf _ hnf e.1.1
      refine up_op e1 e4 (wpIn_run (v := .map (some bm)) (w' := w) (by simp [Oper.about, e2]) (by rw [e2]; intro c h; cases h) ?_ (by rw [e3]; exact fin _ _ (hu.op0 hl hs)))
      simp [execOp, e2, hu.e7, hlm w _ (hu.cl h8).1, Result.andThen]
    | 1, _ =>
      obtain ⟨o, e1, e2, e3, e4⟩ := hO.o1
      have h8 : l.getD 8 false = false := c8.resolve_right fun e => tf _ hnf e.1.2
      refine up_op e1 e4 (wpIn_run (v := .int .i64 x) (w' := w) (by simp [Oper.about, e2]) (by rw [e2]; intro c h; cases h) ?_ (by rw [e3]; exact fin _ _ (hu.op1 hl hs)))
      simp [execOp, e2, hu.e18, hle w _ (hu.cl h8).2, Result.andThen]
    | 2, _ =>
      obtain ⟨o, e1, e2, e3, e4⟩ := hO.o2
      have h4 : l.getD 4 false = false := c4.resolve_right fun e => tf _ hnf e.1
      have h7 : l.getD 7 false = false := c7'.resolve_right fun e => tf _ h4 e.1
      have h8 : l.getD 8 false = false := c8.resolve_right fun e => tf _ h7 e.2
      refine up_op e1 e4 (wpIn_run (v := .map (some bm)) (w' := w) (by simp [Oper.about, e2]) (by rw [e2]; intro c h; cases h) ?_ (by rw [e3]; exact fin _ _ (hu.op2 hl hs)))
      simp [execOp, e2, hu.e7, hlm w _ (hu.cl h8).1, Result.andThen]
    | 3, _ =>
      obtain ⟨o, e1, e2, e3, e4⟩ := hO.o3
      have h4 : l.getD 4 false = false := c4.resolve_right fun e => tf _ hnf e.2
      have h7 : l.getD 7 false = false := c7'.resolve_right fun e => tf _ h4 e.1
      have h8 : l.getD 8 false = false := c8.resolve_right fun e => tf _ h7 e.2
      refine up_op e1 e4 (wpIn_run (v := .int .i64 x) (w' := w) (by simp [Oper.about, e2]) (by rw [e2]; intro c h; cases h) ?_ (by rw [e3]; exact fin _ _ (hu.op3 hl hs)))
      simp [execOp, e2, hu.e18, hle w _ (hu.cl h8).2, Result.andThen]
    | 4, _ =>
      obtain ⟨o, e1, e2, e3, e4⟩ := hO.o4
      have h7 : l.getD 7 false = false := c7'.resolve_right fun e => tf _ hnf e.1
      have h8 : l.getD 8 false = false := c8.resolve_right fun e => tf _ h7 e.2
      obtain ⟨h2, h3⟩ : l.getD 2 false = true ∧ l.getD 3 false = true := k4.resolve_left (by simp)
      have hgw : Wd.grownBy w none := by
        cases h6 : l.getD 6 false with
        | false => rw [hu.wA h6]; exact grown_refl _ _
        | true => rw [(hu.wB h6 h7).1]; exact World.grownBy_alloc _ _ _
      have hbl : bm < Wd.heap.size := by omega
      obtain ⟨g1, g2⟩ := groups_congr (w' := w) hown hsh (hgw.block bm hbl (by simp)) (fun g hg _ => hgw.block g hg (by simp))
      obtain ⟨v, zs, hrun, hat, hoi, hzl, hback⟩ := g1.at K htm (hz w) (by unfold maxLen; omega) hkey
      have hshv : ∀ g, v.ownBlock = some g → ¬ No g := by
        obtain ⟨es, clock, hb, Ft, _⟩ := g1
        rcases Maps.fit_look false K htm (hz w) hb Ft hkey with ⟨hrun', _, _⟩ | ⟨e0, y0, hm0, _, hrun', _, _, _⟩
        · rw [hrun] at hrun'
          obtain rfl : v = .slice none 0 0 := by simpa using hrun'
          intro g hg'; cases hg'
        · rw [hrun] at hrun'
          obtain rfl : v = e0.val := by simpa using hrun'
          exact fun g hg' => g2 es clock hb e0 hm0 g hg'
      refine up_op e1 e4 (wpIn_run (v := v) (w' := w) (by simp [Oper.about, e2]) (by rw [e2]; intro c h; cases h) ?_ (by rw [e3]; exact fin _ _ (hu.op4 hl hs h7 h8 ⟨hat, hoi, hzl, hback, hshv, g1, g2, hgw⟩)))
      simp [execOp, e2, hu.f2 h2, hu.f3 h3, hrun, Result.andThen]
    | 5, _ =>
      obtain ⟨o, e1, e2, e3, e4⟩ := hO.o5
      refine up_op e1 e4 (wpIn_run (v := .int .i64 y) (w' := w) (by simp [Oper.about, e2]) (by rw [e2]; intro c h; cases h) ?_ (by rw [e3]; exact fin _ _ (hu.op5 hl hs)))
      simp [execOp, e2, hu.e19]
    | 6, _ =>
      obtain ⟨o, e1, e2, e3, e4⟩ := hO.o6
      have h7 : l.getD 7 false = false := c7'.resolve_right fun e => tf _ hnf e.2
      have h8 : l.getD 8 false = false := c8.resolve_right fun e => tf _ h7 e.2
      have h5 : l.getD 5 false = true := k6.resolve_left (by simp)
      have hw := hu.wA hnf
      refine up_op e1 e4 (wpIn_run (v := .slice (some ⟨Wd.heap.size, 0, none⟩) 1 1) (w' := Wd.alloc (.cells #[.int .i64 y] te)) (by simp [Oper.about, e2]) (by rw [e2]; intro c h; cases h) ?_ (by rw [e3]; exact fin _ _ (hu.op6 hl hs hnf h7 h8)))
      simp [execOp, e2, hu.f5 h5, hw, hbs, Result.andThen]
    | 7, _ =>
      obtain ⟨o, e1, e2, e3, e4⟩ := hO.o7
      have h8 : l.getD 8 false = false := c8.resolve_right fun e => tf _ hnf e.2
      obtain ⟨h4, h6⟩ : l.getD 4 false = true ∧ l.getD 6 false = true := k7.resolve_left (by simp)
      obtain ⟨hw, e109⟩ := hu.wB h6 hnf
      obtain ⟨v, zs, w0, hk, e107, hgr⟩ := hu.wL h4 hnf
      have hown1 : w.ownsRow base te 1 v zs.length (zs.map (Value.int .i64)) := ownsRow_congr hk.own.1 (fun g hg => hgr.block g (hk.own.1.lt g hg).2 (by simp))
      have hl1 := hk.len
      have hwz : Wd.heap.size ≤ w.heap.size := by rw [hw]; simp
      obtain ⟨v', w', hr, h2, h3, h4', h5⟩ := run_append_own_at (P := P) w base ts o.type te i0 (.int .i64 0) 1 8 hts hi0 hiz hi1 hi8 rfl (by decide) v zs.length (zs.map (Value.int .i64)) hown1 ⟨Wd.heap.size, 0, none⟩ 1 1 [.int .i64 y] rfl
        (by rw [hw]; exact cell_one_new Wd _ _) (by simp [Value.oneCell']) (by unfold maxLen; omega) (by omega) (by omega)
      have hgw0 : w0.grownBy w' v.ownBlock := (grown_none hgr _).trans h3
      have hsz0 := hgr.size
      have hown2 : w'.ownsInts base te .i64 v' (zs ++ [y]) := hk.own.appended h2 hwy
      have hop := hu.op7 hl hs h4 h6 hnf h8 hk hgw0 h3 hown2 (h5.imp id (fun e => ⟨_, e, hsz0⟩)) hc7
      unfold wpOpIn
      rw [e1]
      simp only [up_wanted e4, if_true]
      unfold Oper.wpIn
      refine ⟨by simp [Oper.about, e2, resolve, Target.leads, Sem.run_pure], ?_⟩
      rw [Oper.semAt_plain F _ _ (by rw [e2]; intro c hc'; cases hc')]
      simp [execOp, e2, resolve, invoke, builtin, e107, e109, hr, Result.andThen]
      rw [Oper.uponIn_value, e3]
      exact ⟨hl, kcl, by omega, hop⟩
    | 8, _ =>
      obtain ⟨o, e1, e2, e3, e4⟩ := hO.o8
      obtain ⟨⟨h0, h1⟩, h7⟩ : (l.getD 0 false = true ∧ l.getD 1 false = true) ∧ l.getD 7 false = true := k8.resolve_left (by simp)
      obtain ⟨v, zs, w0, v', hk, e110, hgr, ho', hloc⟩ := hu.wC h7 hnf
      obtain ⟨w2, hrun, r1, r2⟩ := hk.back w v' (zs ++ [y]) hgr ho' (by have := hk.len; simp; omega) hloc
      have hsz0 := hk.gr.size
      have hno : ∀ g, v'.ownBlock = some g → ¬ No g := fun g hg => by
        rcases hloc with e | ⟨g', e, hge⟩
        · exact hk.sh g (e ▸ hg)
        · rw [hg] at e; cases e; exact hNo g (by omega)
      have r3 : w2.Shuns bm No := by
        obtain ⟨es, clock, hb, Ft, hsz, _, hbb, _⟩ := hk.grp
        have hblt : bm < w0.heap.size := (Array.getElem?_eq_some_iff.1 hb).1
        have hb1 : w.heap[bm]? = some (.map es clock) := (hgr.block bm hblt (fun e1 => by have := (hk.own.1.lt bm e1.symm).1; omega)).trans hb
        obtain ⟨es', clock', hb2, hwho⟩ := stored_who K htm hb1 Ft (Nat.lt_of_le_of_lt hsz (by unfold maxLen; omega)) hkey hrun
        intro es2 clock2 hb2' y0 hy g hyg
        obtain ⟨rfl, rfl⟩ : es' = es2 ∧ clock' = clock2 := by rw [hb2] at hb2'; simpa using hb2'
        rcases hwho y0 hy with ⟨hy0, _⟩ | ⟨_, hval⟩
        · exact hk.shn es clock hb y0 hy0 g hyg
        · exact hno g (hval ▸ hyg)
      have hfin : FinAt P te Wd base bm n D No x y w2 := ⟨v, v', zs, w, hk.hat, (fun g hg => ⟨hk.sh g hg, (hk.own.1.lt g hg).1⟩), (grown_none hk.gr _).trans hgr, r2, r1, r3, ho', hk.own.datum⟩
      have hop := hu.op8 hl hs h7 (hu.o7 h7).1 hfin
      unfold wpOpIn
      rw [e1]
      simp only [up_wanted e4, if_true]
      unfold Oper.wpIn
      refine ⟨by simp [Oper.about, e2], ?_⟩
      rw [Oper.semAt_plain F _ _ (by rw [e2]; intro c hc'; cases hc')]
      simp [execOp, e2, hu.f0 h0, hu.f1 h1, e110, hrun, Result.andThen]
      rw [Oper.uponIn_skip, e3]
      exact ⟨hl, kcl, by omega, hop⟩
end
end Go.Hw
