/- 'm.F(r) != (colour[r] == c)': in whatever order. -/
import Derived.Test.YtfcnjhgfaibmnaaR5
import Derived.Test.YtfcnjhgfaibmnaaY1
namespace Go.Hw
open Go.RowKit Go.Proofs

structure ColOps (ops : Array Oper) (tm ti tb : TypeId) (sm sr sb d : Nat) (fn : Nat) (k : Int) : Prop where
  o0 : ∃ o, ops[0]? = some o ∧ o.op = .move (.tmp sm) ∧ o.dst = some d ∧ o.guard = none
  o1 : ∃ o, ops[1]? = some o ∧ o.op = .move (.tmp sr) ∧ o.dst = some (d + 1) ∧ o.guard = none
  o2 : ∃ o ts, ops[2]? = some o ∧ o.op = .call { callee := .value (.func fn), args := #[.tmp d, .tmp (d + 1)], argTypes := ts } ∧ o.dst = some (d + 2) ∧ o.guard = none
  o3 : ∃ o, ops[3]? = some o ∧ o.op = .load tm (.tmp sb) ∧ o.dst = some (d + 3) ∧ o.guard = none
  o4 : ∃ o, ops[4]? = some o ∧ o.op = .move (.tmp sr) ∧ o.dst = some (d + 4) ∧ o.guard = none
  o5 : ∃ o, ops[5]? = some o ∧ o.op = .lookup tm (.tmp (d + 3)) (.tmp (d + 4)) false ∧ o.dst = some (d + 5) ∧ o.guard = none
  o6 : ∃ o, ops[6]? = some o ∧ o.op = .binOp .eql ti (.tmp (d + 5)) (.const (.int .i64 k)) ti ∧ o.dst = some (d + 6) ∧ o.guard = none
  o7 : ∃ o, ops[7]? = some o ∧ o.op = .binOp .neq tb (.tmp (d + 2)) (.tmp (d + 6)) tb ∧ o.dst = some (d + 7) ∧ o.guard = none

def colDeps : Nat → List Nat
  | 2 => [0, 1]
  | 5 => [3, 4]
  | 6 => [5]
  | 7 => [2, 6]
  | _ => []
def colVals (d : Nat) (m bw : Nat) (r f k : Int) (v : Bool) : List (Tmp × Value) :=
  [(d, .pointer (some ⟨m, 0, none⟩)), (d + 1, .int .i64 r), (d + 2, .bool v), (d + 3, .map (some bw)), (d + 4, .int .i64 r), (d + 5, .int .i64 f), (d + 6, .bool (decide (f = k))), (d + 7, .bool (v != decide (f = k)))]

theorem opAt_run {F : Fence} {nF : Nat} {P : Program} {Q : Exit → Act → World → Prop} {ops : Array Oper} {dv : List (Tmp × Value)} {deps : Nat → List Nat} {a0 : Act} {Wp : Bool → World → Prop} {c i : Nat} {d : Tmp} {v : Value} {o : Oper}
    (ho : ops[i]? = some o) (hg : o.guard = none) (hd : o.dst = some d) (hic : i ≠ c) (hab : ∀ w ρ, o.about P w ρ = none) (hnd : ∀ c, o.op ≠ .defer c)
    (hr : ∀ (a : Act) (w : World) (b : Bool), (∀ t, (∀ x ∈ dv, x.1 ≠ t) → a.eval (.tmp t) = a0.eval (.tmp t)) → (∀ j ∈ deps i, ∀ x, dv[j]? = some x → a.eval (.tmp x.1) = x.2) → Wp b w → (execOp a.eval o).run P w = .ok (.value v) w) : OpAt F nF P Q ops dv deps a0 Wp c i d v := by
  refine ⟨o, ho, hg, hd, fun a w b K h1 h2 h3 _ hK => ?_⟩
  refine wpIn_run (hab _ _) hnd (hr a w b h1 h2 h3) ?_
  rw [hd]
  have := hK w
  rw [show decide (i = c) = false by simpa using hic, Bool.or_false] at this
  exact this h3

set_option maxRecDepth 100000 in
theorem region_col {nF : Nat} {Q : Exit → Act → World → Prop} {ops : Array Oper} {id : Nat} {a0 : Act} {w : World} {sm sr sb d : Nat} {fn : Nat} {k r f : Int} {m cb bw : Nat} {v : Bool} {J0 J1 : World → Prop} (hO : ColOps ops 38 3 4 sm sr sb d fn k) (hs8 : ops.size = 8) (hck : okReg ops 8 colDeps = true)
    (hsz : d + 7 < a0.tmps.size) (hsm : sm < d) (hsr : sr < d) (hsb : sb < d) (em : a0.eval (.tmp sm) = .pointer (some ⟨m, 0, none⟩)) (er : a0.eval (.tmp sr) = .int .i64 r) (eb : a0.eval (.tmp sb) = .pointer (some ⟨cb, 0, none⟩)) (hfn : ∀ args w, (callFunc fn args).run Try.prog w = .ok (.enter fn args) w)
    (hcell : ∀ w, J0 w ∨ J1 w → w.cell? ⟨cb, 0, none⟩ = some (.map (some bw)) ∧ (Instr.lookup 38 (.map (some bw)) (.int .i64 r) false).run Try.prog w = .ok (.int .i64 f) w)
    (hcall : ∀ w, J0 w → Calls Try.prog fn #[.pointer (some ⟨m, 0, none⟩), .int .i64 r] w fun e w' => e = .returned (.bool v) ∧ J1 w') (h0 : J0 w.drew) (hQ : ∀ w, J1 w → Q .normal (putsL a0 (colVals d m bw r f k v)) w) :
    (Code.region id ops true).wpIn Wd nF Try.prog Q a0 w := by
  have hout : ∀ (a : Act), (∀ t, (∀ x ∈ colVals d m bw r f k v, x.1 ≠ t) → a.eval (.tmp t) = a0.eval (.tmp t)) → ∀ t : Nat, t < d → a.eval (.tmp t) = a0.eval (.tmp t) := fun a h t ht => h t fun x hx => by
    simp only [colVals, List.mem_cons, List.not_mem_nil, or_false] at hx
    rcases hx with rfl | rfl | rfl | rfl | rfl | rfl | rfl | rfl <;> (intro (e : (_ : Nat) = t); simp only at e; omega)
  have hWc : ∀ b w, (if b = true then J1 w else J0 w) → J0 w ∨ J1 w := fun b w h => by cases b <;> simp at h <;> simp [h]
  refine region_vals (by kernel_rfl) (colVals d m bw r f k v) colDeps (fun b w => if b = true then J1 w else J0 w) 2 (by rw [hs8]; rfl) hck (by simp [colVals]) (by simp [colVals]) (fun x hx => ?_) (fun i x hx => ?_) (by simpa using h0) (fun w h => hQ w (by simpa using h))
  · simp only [colVals, List.mem_cons, List.not_mem_nil, or_false] at hx
    have hsz' : d + 7 < a0.tmps.size := hsz
    rcases hx with rfl | rfl | rfl | rfl | rfl | rfl | rfl | rfl <;> (show (_ : Nat) < _; simp only; omega)
  · match i, hx with
    | 0, hx =>
      cases hx
      obtain ⟨o, e1, e2, e3, e4⟩ := hO.o0
      refine opAt_run e1 e4 e3 (by decide) (fun w ρ => by simp [Oper.about, e2]) (by rw [e2]; intro c h; cases h) fun a w b h1 h2 h3 => ?_
      simp [execOp, e2, hout a h1 sm hsm, em]
    | 1, hx =>
      cases hx
      obtain ⟨o, e1, e2, e3, e4⟩ := hO.o1
      refine opAt_run e1 e4 e3 (by decide) (fun w ρ => by simp [Oper.about, e2]) (by rw [e2]; intro c h; cases h) fun a w b h1 h2 h3 => ?_
      simp [execOp, e2, hout a h1 sr hsr, er]
    | 2, hx =>
      cases hx
      obtain ⟨o, ts, e1, e2, e3, e4⟩ := hO.o2
      refine ⟨o, e1, e4, e3, fun a w b K h1 h2 h3 hb hK => ?_⟩
      have hb := hb rfl
      subst hb
      have p0 := h2 0 (by simp [colDeps]) _ rfl
      have p1 := h2 1 (by simp [colDeps]) _ rfl
      have hc := (callsIn_wide (n := nF - 1)).2 (hcall w (by simpa using h3))
      unfold Oper.wpIn
      refine ⟨fun _ _ => trivial, ?_⟩
      rw [Oper.semAt_plain Wd _ _ (by rw [e2]; intro c hc'; cases hc')]
      have hr : (execOp a.eval o).run Try.prog w = .ok (.enter fn #[.pointer (some ⟨m, 0, none⟩), .int .i64 r]) w := by
        simp only [execOp, e2, resolve, invoke, List.map_toArray, List.map_cons, List.map_nil, BigFrame.eval_func, p0, p1]
        simp [go_sem, hfn]
      rw [hr]
      simp only [Oper.uponIn]
      refine ⟨fun h => by simp [Wd, Fence.wide] at h, hc.mono ?_⟩
      rintro e w' ⟨rfl, hj⟩
      rw [e3]
      exact hK w' (by simpa using hj)
    | 3, hx =>
      cases hx
      obtain ⟨o, e1, e2, e3, e4⟩ := hO.o3
      refine opAt_run e1 e4 e3 (by decide) (fun w ρ => by simp [Oper.about, e2]) (by rw [e2]; intro c h; cases h) fun a w b h1 h2 h3 => ?_
      have hcc := (hcell w (hWc b w h3)).1
      have hl : (Instr.loadAt 38 (.pointer (some ⟨cb, 0, none⟩))).run Try.prog w = .ok (.map (some bw)) w := by go_simp
      simp [execOp, e2, hout a h1 sb hsb, eb, hl, Result.andThen]
    | 4, hx =>
      cases hx
      obtain ⟨o, e1, e2, e3, e4⟩ := hO.o4
      refine opAt_run e1 e4 e3 (by decide) (fun w ρ => by simp [Oper.about, e2]) (by rw [e2]; intro c h; cases h) fun a w b h1 h2 h3 => ?_
      simp [execOp, e2, hout a h1 sr hsr, er]
    | 5, hx =>
      cases hx
      obtain ⟨o, e1, e2, e3, e4⟩ := hO.o5
      refine opAt_run e1 e4 e3 (by decide) (fun w ρ => by simp [Oper.about, e2]) (by rw [e2]; intro c h; cases h) fun a w b h1 h2 h3 => ?_
      have p3 := h2 3 (by simp [colDeps]) _ rfl
      have p4 := h2 4 (by simp [colDeps]) _ rfl
      have hl := (hcell w (hWc b w h3)).2
      simp [execOp, e2, p3, p4, hl, Result.andThen]
    | 6, hx =>
      cases hx
      obtain ⟨o, e1, e2, e3, e4⟩ := hO.o6
      refine opAt_run e1 e4 e3 (by decide) (fun w ρ => by simp [Oper.about, e2]) (by rw [e2]; intro c h; cases h) fun a w b h1 h2 h3 => ?_
      have p5 := h2 5 (by simp [colDeps]) _ rfl
      have hb : (binOp .eql 3 (.int .i64 f) (.int .i64 k)).run Try.prog w = .ok (.bool (decide (f = k))) w := by
        go_simp
        rfl
      have hg : (eqGuard .eql 3 (.tmp (d + 5)) (.const (.int .i64 k)) (.int .i64 f) (.int .i64 k)).run Try.prog w = .ok () w := by kernel_rfl
      simp [execOp, e2, p5, BigFrame.eval_const, hb, hg, Result.andThen]
    | 7, hx =>
      cases hx
      obtain ⟨o, e1, e2, e3, e4⟩ := hO.o7
      refine opAt_run e1 e4 e3 (by decide) (fun w ρ => by simp [Oper.about, e2]) (by rw [e2]; intro c h; cases h) fun a w b h1 h2 h3 => ?_
      have p2 := h2 2 (by simp [colDeps]) _ rfl
      have p6 := h2 6 (by simp [colDeps]) _ rfl
      have hb : (binOp .neq 4 (.bool v) (.bool (decide (f = k)))).run Try.prog w = .ok (.bool (v != decide (f = k))) w := by
        go_simp
        simp [bne]
      have hg : (eqGuard .neq 4 (.tmp (d + 2)) (.tmp (d + 6)) (.bool v) (.bool (decide (f = k)))).run Try.prog w = .ok () w := by kernel_rfl
      simp [execOp, e2, p2, p6, hb, hg, Result.andThen]
    | n + 8, hx => simp [colVals] at hx
end Go.Hw
