/- Package grey. -/
import Derived.Test.YtfcnjhgfaibmnaaS5
import Derived.Maps.AppendAt
namespace Go.Hw
open Go.RowKit Go.Proofs

def stackE (l : List Int) (room : Nat) (over : Bool) : Ent := .own1 123 36 (fun sv => #[sv, .int .i64 room, .bool over]) (l.map (Value.int .i64))

theorem info_ref : (Try.prog.info? 36).map (fun i => (i.zero, i.size, i.bytes)) = some (some (.int .i64 0), 1, 8) := by kernel_rfl

/-- A thing with one slice of its own is turned: its head, its slice. -/
theorem St.own1 {w w' : World} {G : Gh} {b : Nat} {t e t' e' : TypeId} {f f' : Value → Array Value} {xs ys : List Value} {sv sv' : Value} (h : Inv w G) (hg : G b = .own1 t e f xs)
    (hsv : ∀ g, sv.ownBlock = some g → G g = .owned b)
    (hle : w.heap.size ≤ w'.heap.size) (hos : w'.os = w.os) (htape : w'.tape = w.tape) (hout : w'.output = w.output)
    (hsame : ∀ c, c < w.heap.size → c ≠ b → G c ≠ .owned b → w'.heap[c]? = w.heap[c]?)
    (hh : w'.heap[b]? = some (.cells (f' sv') t' (0, 0))) (hr : w'.ownsRow 0 e' 1 sv' ys.length ys)
    (hown : sv'.ownBlock = sv.ownBlock ∨ (∃ q, sv'.ownBlock = some q ∧ w.heap.size ≤ q ∧ q < w'.heap.size) ∨ sv'.ownBlock = none) :
    ∃ G', G' b = .own1 t' e' f' ys ∧ Step (fun c => c = b) w G w' G' := by
  have hb := lay_lt h (show (G b).isE = true by rw [hg]; rfl)
  refine ⟨_, ?_, St.one (b := b) (e := .own1 t' e' f' ys) h (by rw [hg]; rfl) (fun c => decide (sv'.ownBlock = some c ∧ w.heap.size ≤ c ∧ c < w'.heap.size)) hle hos htape hout (fun c hc => by simp at hc; exact hc.2) hsame ?_⟩
  · simp
  · refine ⟨sv', hh, hr, fun g hg' => ?_⟩
    by_cases hgb : g = b
    · subst hgb
      rcases hown with h1 | ⟨q, h1, h2, h3⟩ | h1
      · have := hsv g (h1.symm.trans hg'); rw [hg] at this; cases this
      · rw [h1] at hg'; cases hg'; omega
      · rw [h1] at hg'; cases hg'
    · dsimp only
      rw [if_neg hgb]
      rcases hown with h1 | ⟨q, h1, h2, h3⟩ | h1
      · have h4 := hsv g (h1.symm.trans hg')
        split
        · rfl
        · exact h4
      · have e1 : q = g := by rw [h1] at hg'; exact Option.some.inj hg'
        subst e1
        rw [if_pos (by simp [h1, h2, h3])]
      · rw [h1] at hg'; cases hg'

def snewPost (room : Nat) (w : World) (G : Gh) (e : Ending) (w' : World) : Prop :=
  ∃ b G', e = .returned (.pointer (some ⟨b, 0, none⟩)) ∧ w.heap.size ≤ b ∧ b < w'.heap.size ∧ G' b = stackE [] room false ∧ (∀ c, c ≠ b → G' c = G c) ∧ Step (fun _ => False) w G w' G'

theorem grey_new (room : Nat) (w : World) (G : Gh) (hI : Inv w G) :
    Calls Try.prog 45 #[.int .i64 room] w (snewPost room w G) := by
  have hS : Step (fun _ => False) w G (w.alloc (.cells #[.slice none 0 0, .int .i64 room, .bool false] 123)) (fun c => if c = w.heap.size then stackE [] room false else if (fun _ => false) c = true then .owned w.heap.size else G c) :=
    ((St.refl hI).alloc _).make (Nat.le_refl _) (by simp) (hI.new _ (Nat.le_refl _)) (fun _ => false) (fun c hc => by simp at hc)
      ⟨.slice none 0 0, heap_alloc_new w _, ⟨by simp, .inl ⟨rfl, rfl⟩⟩, fun g hg => by simp [Value.ownBlock] at hg⟩
  have HS := Lib.hid hS
  clear hS
  go_enter Try.func45, Try.ntmps45
  go_wp2
  go_ret
  exact ⟨w.heap.size, _, rfl, Nat.le_refl _, by simp, by simp, fun c hc => by simp [hc], HS.out⟩

theorem row_cases {w : World} {e : TypeId} {v : Value} {xs : List Value} (h : w.ownsRow 0 e 1 v xs.length xs) :
    (v = .slice none 0 0 ∧ xs = []) ∨ ∃ q cap cur, v = .slice (some ⟨q, 0, none⟩) xs.length cap ∧ w.heap[q]? = some (.cells cur e (0, 0)) ∧ xs.length ≤ cap ∧ cap ≤ maxLen ∧ cur.size = cap ∧ ∀ i : Nat, i < xs.length → cur[i]? = xs[i]? := by
  obtain ⟨h1, h2⟩ := h
  rcases h2 with ⟨h2, h3⟩ | ⟨q, cap, cur, h2, -, h4, h5, h6, h7, h8⟩
  · exact .inl ⟨h2, List.eq_nil_of_length_eq_zero h3⟩
  · refine .inr ⟨q, cap, cur, h2, h4, h5, h6, by omega, fun i hi => ?_⟩
    have : (cur.toList.take (xs.length * 1))[i]? = xs[i]? := by rw [h8]
    rw [List.getElem?_take, if_pos (by omega)] at this
    simpa using this

def pushPost (g : Nat) (l : List Int) (room : Nat) (over : Bool) (r : Int) (w : World) (G : Gh) (e : Ending) (w' : World) : Prop :=
  e = .returned (.bool (decide (l.length < room))) ∧ ∃ G', G' g = (if l.length < room then stackE (l ++ [r]) room over else stackE l room true) ∧ Step (fun c => c = g) w G w' G'

set_option maxHeartbeats 1000000 in
theorem grey_push (g : Nat) (l : List Int) (room : Nat) (over : Bool) (r : Int) (hroom : room ≤ 1000) (w : World) (G : Gh) (hI : Inv w G) (hG : G g = stackE l room over) :
    Calls Try.prog 48 #[.pointer (some ⟨g, 0, none⟩), .int .i64 r] w (pushPost g l room over r w G) := by
  have hL := hI.lay g
  rw [hG] at hL
  obtain ⟨sv, hh, hrow, hown⟩ := hL
  have hlt : g < w.heap.size := lay_lt hI (by rw [hG]; rfl)
  have hlen : (l.map (Value.int .i64)).length = l.length := by simp
  have hc0 : w.cell? ⟨g, 0, none⟩ = some sv := cell_of hh 0
  have hc1 : w.cell? ⟨g, 1, none⟩ = some (.int .i64 room) := cell_of hh 1
  have hc2 : w.cell? ⟨g, 2, none⟩ = some (.bool over) := cell_of hh 2
  have hf : ∀ o, w.frozen? ⟨g, o, none⟩ = false := free_of hh
  have hsvc : ∃ ad c, sv = .slice ad l.length c := by
    rcases row_cases hrow with ⟨h1, h2⟩ | ⟨q, cap, cur, h1, -⟩
    · have : l = [] := by simpa using h2
      subst this; exact ⟨_, _, h1⟩
    · rw [hlen] at h1; exact ⟨_, _, h1⟩
  obtain ⟨ad, cp, hsv⟩ := hsvc
  by_cases hfull : l.length < room
  · have hfin : (if l.length < room then stackE (l ++ [r]) room over else stackE l room true) = stackE (l ++ [r]) room over := if_pos hfull
    have hd : decide (l.length < room) = true := decide_eq_true hfull
    unfold pushPost
    rw [hd, hfin]
    obtain ⟨i0, hi, hz0, hz1, hz2⟩ := info_parts info_ref
    have hq : decide (room ≤ l.length) = false := by simp; omega
    rw [hlen] at hrow
    have hownb : ∀ g', sv.ownBlock = some g' → g' ≠ g := fun g' h1 h2 => by have := hown g' h1; rw [h2, hG] at this; cases this
    have Hrow := Lib.hid hrow
    have Hown := Lib.hid hown
    have Hownb := Lib.hid hownb
    have HG := Lib.hid hG
    have Hh := Lib.hid hh
    subst hsv
    clear hrow hown hfin hd hG hh hlen hownb
    go_enter Try.func48, Try.ntmps48
    go_wp2
    go_quiet (fail)
    go_wp2_with (at_builtin; refine wpList_append_own_at _ rfl _ _ 29 rfl 0 36 i0 (.int .i64 0) 1 8 Try.underlying29 hi hz0 hz1 hz2 rfl (by decide) _ l.length _ rfl (ownsRow_congr (w := w) Hrow.out ?h1) ⟨w.heap.size, 0, none⟩ 1 1 [.int .i64 r] rfl rfl ?h2 (by simp [Value.oneCell']) ?h3 ?h4 (Nat.zero_le _) ?_)
    case h1 => intro g' hg'; exact heap_alloc_lt (w.drewN nq) _ (show g' < w.heap.size from own_lt hI (Hown.out g' hg'))
    case h2 => exact cell_one_new (w.drewN nq) _ _
    case h3 => simp only [maxLen]; omega
    case h4 => omega
    intro v' w1 hrow1 hgrow _ hob
    have hgs : w1.heap[g]? = w.heap[g]? := (hgrow.block g (by simp; omega) (fun e => Hownb.out g e.symm rfl)).trans (heap_alloc_lt (w.drewN nq) _ hlt)
    have k0 : w1.cell? ⟨g, 0, none⟩ = some (.slice ad l.length cp) := (cell_same hgs 0).trans hc0
    have k1 : w1.frozen? ⟨g, 0, none⟩ = false := (free_same hgs 0).trans (hf 0)
    obtain ⟨q', cap', rfl⟩ : ∃ q' cap', v' = .slice (some ⟨q', 0, none⟩) (l.length + 1) cap' := by
      rcases hrow1.2 with ⟨-, h⟩ | ⟨q, cap, cur, h, -⟩
      · omega
      · exact ⟨q, cap, h⟩
    have Hrow1 := Lib.hid hrow1
    have Hgrow := Lib.hid hgrow
    have Hob := Lib.hid hob
    have Hgs := Lib.hid hgs
    clear hrow1 hgrow hob hgs hc0 hc1 hc2 hf
    go_wp2
    go_ret
    refine ⟨rfl, ?_⟩
    obtain ⟨G', h1, h2⟩ := St.own1 (w' := w1.setCell ⟨g, 0, none⟩ (.slice (some ⟨q', 0, none⟩) (l.length + 1) cap')) (t' := 123) (e' := 36) (f' := fun sv => #[sv, .int .i64 room, .bool over]) (ys := (l ++ [r]).map (Value.int .i64)) hI HG.out Hown.out
      (by have := Hgrow.out.size; simp at this ⊢; show w.heap.size ≤ _; omega) Hgrow.out.os Hgrow.out.tape Hgrow.out.output
      (fun c hc hcg hco => (heap_setCell_ne _ _ _ hcg).trans ((Hgrow.out.block c (by simp; omega) (fun e => hco (Hown.out c e.symm))).trans (heap_alloc_lt (w.drewN nq) _ hc)))
      (heap_setCell (Hgs.out.trans Hh.out) 0 _)
      (by
        have h := Hrow1.out
        rw [show ((l ++ [r]).map (Value.int .i64)) = l.map (Value.int .i64) ++ [.int .i64 r] by simp]
        rw [show (l.map (Value.int .i64) ++ [Value.int .i64 r]).length = l.length + 1 by simp]
        refine ownsRow_congr h (fun g' hg' => heap_setCell_ne _ _ _ ?_)
        rcases Hob.out with ho | ho
        · exact Hownb.out g' (ho.symm.trans hg')
        · rw [hg'] at ho; cases ho; simp; omega)
      (by
        rcases Hob.out with ho | ho
        · exact .inl ho
        · refine .inr (.inl ⟨_, ho, by simp, ?_⟩)
          rcases Hrow1.out.2 with ⟨-, h⟩ | ⟨q, cap, cur, h, -, hq, -⟩
          · omega
          · have := (Array.getElem?_eq_some_iff.1 hq).1
            cases h
            cases ho
            simpa using this)
    exact ⟨G', h1, h2⟩
  · have hd : decide (l.length < room) = false := decide_eq_false hfull
    unfold pushPost
    rw [hd, if_neg hfull]
    have hq : decide (room ≤ l.length) = true := by simp; omega
    have Hrow := Lib.hid hrow
    have Hown := Lib.hid hown
    have HG := Lib.hid hG
    have Hh := Lib.hid hh
    subst hsv
    clear hrow hown hd hG hh hlen
    go_enter Try.func48, Try.ntmps48
    go_wp2
    go_quiet (fail)
    go_wp2
    go_ret
    refine ⟨rfl, ?_⟩
    obtain ⟨G', h1, h2⟩ := St.own1 (w' := (w.drewN nq).setCell ⟨g, 2, none⟩ (.bool true)) (t' := 123) (e' := 36) (f' := fun sv => #[sv, .int .i64 room, .bool true]) (ys := l.map (Value.int .i64)) hI HG.out Hown.out
      (by simp) rfl rfl rfl (fun c hc hcg _ => heap_setCell_ne _ _ _ hcg) (heap_setCell (w := w.drewN nq) Hh.out 2 _)
      (by
        refine ownsRow_congr (w := w) (by simpa using Hrow.out) (fun g' hg' => heap_setCell_ne (w.drewN nq) _ _ ?_)
        intro e; have := Hown.out g' hg'; rw [e, HG.out] at this; cases this) (.inl rfl)
    exact ⟨G', h1, h2⟩

def popPost (g : Nat) (l : List Int) (room : Nat) (over : Bool) (r : Int) (w : World) (G : Gh) (e : Ending) (w' : World) : Prop :=
  e = .returned (.tuple #[.int .i64 r, .bool true]) ∧ ∃ G', G' g = stackE l room over ∧ Step (fun c => c = g) w G w' G'

theorem grey_pop_none (g : Nat) (room : Nat) (over : Bool) (w : World) (G : Gh) (hI : Inv w G) (hG : G g = stackE [] room over) :
    Calls Try.prog 73 #[.pointer (some ⟨g, 0, none⟩)] w fun e w' => e = .returned (.tuple #[.int .i64 0, .bool false]) ∧ w' = w := by
  have hL := hI.lay g
  rw [hG] at hL
  obtain ⟨sv, hh, hrow, -⟩ := hL
  have hc0 : w.cell? ⟨g, 0, none⟩ = some sv := cell_of hh 0
  obtain ⟨ad, c, rfl⟩ : ∃ ad c, sv = .slice ad 0 c := by
    rcases row_cases hrow with ⟨h1, -⟩ | ⟨q, cap, cur, h1, -⟩ <;> exact ⟨_, _, h1⟩
  clear hh hrow hG
  go_enter Try.func73, Try.ntmps73
  go_wp2
  go_ret2
  exact ⟨rfl, rfl⟩

set_option maxHeartbeats 1000000 in
theorem grey_pop (g : Nat) (l : List Int) (r : Int) (room : Nat) (over : Bool) (hroom : (l ++ [r]).length ≤ 1000) (w : World) (G : Gh) (hI : Inv w G) (hG : G g = stackE (l ++ [r]) room over) :
    Calls Try.prog 73 #[.pointer (some ⟨g, 0, none⟩)] w (popPost g l room over r w G) := by
  have hL := hI.lay g
  rw [hG] at hL
  obtain ⟨sv, hh, hrow, hown⟩ := hL
  have hlen : ((l ++ [r]).map (Value.int .i64)).length = l.length + 1 := by simp
  have hrow0 := hrow
  obtain ⟨q, cap, cur, rfl, hq, h5, h6, h7, h8⟩ : ∃ q cap cur, sv = .slice (some ⟨q, 0, none⟩) (l.length + 1) cap ∧ w.heap[q]? = some (.cells cur 36 (0, 0)) ∧ l.length + 1 ≤ cap ∧ cap ≤ maxLen ∧ cur.size = cap ∧ ∀ i : Nat, i < l.length + 1 → cur[i]? = ((l ++ [r]).map (Value.int .i64))[i]? := by
    rcases row_cases hrow with ⟨-, h2⟩ | ⟨q, cap, cur, h⟩
    · simp at h2
    · rw [hlen] at h; exact ⟨q, cap, cur, h⟩
  have hqg : q ≠ g := fun e => by have := hown q rfl; rw [e, hG] at this; cases this
  have hc0 : w.cell? ⟨g, 0, none⟩ = some (.slice (some ⟨q, 0, none⟩) (l.length + 1) cap) := cell_of hh 0
  have hf0 : w.frozen? ⟨g, 0, none⟩ = false := free_of hh 0
  have hcq : w.cell? ⟨q, l.length, none⟩ = some (.int .i64 r) := (cell_of hq l.length).trans ((h8 l.length (by omega)).trans (by simp))
  have hmax : l.length + 1 ≤ 1000 := by simpa using hroom
  have hcap : cap ≤ 9223372036854775807 := by simpa [maxLen] using h6
  have hd : decide (l.length + 1 ≤ cap) = true := by simpa using h5
  have hfin : ∃ G', G' g = stackE l room over ∧ Step (fun c => c = g) w G (w.setCell ⟨g, 0, none⟩ (.slice (some ⟨q, 0, none⟩) l.length cap)) G' := by
    refine St.own1 (t' := 123) (e' := 36) (f' := fun sv => #[sv, .int .i64 room, .bool over]) (ys := l.map (Value.int .i64)) (sv' := .slice (some ⟨q, 0, none⟩) l.length cap) hI hG hown
      (by simp) rfl rfl rfl (fun c hc hcg _ => heap_setCell_ne _ _ _ hcg) (heap_setCell hh 0 _) ?_ (.inl rfl)
    refine ⟨by simp, .inr ⟨q, cap, cur, by simp, Nat.zero_le _, (heap_setCell_ne _ _ _ hqg).trans hq, by simp; omega, h6, by omega, ?_⟩⟩
    apply List.ext_getElem?
    intro i
    rw [List.getElem?_take]
    by_cases hi : i < l.length
    · rw [if_pos (by simpa using hi)]
      have := h8 i (by omega)
      simp only [List.map_append] at this
      rw [List.getElem?_append_left (by simpa using hi)] at this
      simpa using this
    · rw [if_neg (by simpa using hi)]
      rw [List.getElem?_eq_none (by simp; omega)]
  have Hfin := Lib.hid hfin
  clear hfin hG hh hrow hrow0 hown hq h8 h7 hqg hlen h6 hroom
  go_enter Try.func73, Try.ntmps73
  go_wp2
  go_ret2
  exact ⟨rfl, Hfin.out⟩

theorem grey_over (g : Nat) (l : List Int) (room : Nat) (over : Bool) (w : World) (G : Gh) (hI : Inv w G) (hG : G g = stackE l room over) :
    Calls Try.prog 75 #[.pointer (some ⟨g, 0, none⟩)] w fun e w' => e = .returned (.bool over) ∧ w' = w := by
  have hL := hI.lay g
  rw [hG] at hL
  obtain ⟨sv, hh, -⟩ := hL
  have hc2 : w.cell? ⟨g, 2, none⟩ = some (.bool over) := cell_of hh 2
  clear hh hG
  go_enter Try.func75, Try.ntmps75
  go_wp2
  go_ret
  exact ⟨rfl, rfl⟩

def sqPost (g : Nat) (E : Ent) (w : World) (G : Gh) (e : Ending) (w' : World) : Prop :=
  e = .returned (.tuple #[]) ∧ ∃ G', G' g = E ∧ Step (fun c => c = g) w G w' G'

theorem grey_settle (g : Nat) (l : List Int) (room : Nat) (over : Bool) (w : World) (G : Gh) (hI : Inv w G) (hG : G g = stackE l room over) :
    Calls Try.prog 95 #[.pointer (some ⟨g, 0, none⟩)] w (sqPost g (stackE l room false) w G) := by
  have hL := hI.lay g
  rw [hG] at hL
  obtain ⟨sv, hh, hrow, hown⟩ := hL
  have hc2 : w.cell? ⟨g, 2, none⟩ = some (.bool over) := cell_of hh 2
  have hf2 : w.frozen? ⟨g, 2, none⟩ = false := free_of hh 2
  have hfin : ∃ G', G' g = stackE l room false ∧ Step (fun c => c = g) w G (w.setCell ⟨g, 2, none⟩ (.bool false)) G' :=
    St.own1 (t' := 123) (e' := 36) (f' := fun sv => #[sv, .int .i64 room, .bool false]) (ys := l.map (Value.int .i64)) (sv' := sv) hI hG hown
      (by simp) rfl rfl rfl (fun c hc hcg _ => heap_setCell_ne _ _ _ hcg) (heap_setCell hh 2 _)
      (ownsRow_congr hrow (fun g' hg' => heap_setCell_ne _ _ _ (fun e => by have := hown g' hg'; rw [e, hG] at this; cases this))) (.inl rfl)
  have Hfin := Lib.hid hfin
  clear hfin hG hh hrow hown
  go_enter Try.func95, Try.ntmps95
  go_wp2
  go_end0
  exact ⟨rfl, Hfin.out⟩

theorem grey_reset (g : Nat) (l : List Int) (room : Nat) (over : Bool) (w : World) (G : Gh) (hI : Inv w G) (hG : G g = stackE l room over) :
    Calls Try.prog 59 #[.pointer (some ⟨g, 0, none⟩)] w (sqPost g (stackE [] room false) w G) := by
  have hL := hI.lay g
  rw [hG] at hL
  obtain ⟨sv, hh, hrow, hown⟩ := hL
  have hc0 : w.cell? ⟨g, 0, none⟩ = some sv := cell_of hh 0
  have hc1 : w.cell? ⟨g, 1, none⟩ = some (.int .i64 room) := cell_of hh 1
  have hc2 : w.cell? ⟨g, 2, none⟩ = some (.bool over) := cell_of hh 2
  have hf : ∀ o, w.frozen? ⟨g, o, none⟩ = false := free_of hh
  have hfin : ∃ G', G' g = stackE [] room false ∧ Step (fun c => c = g) w G (((w.setCell ⟨g, 0, none⟩ (.slice none 0 0)).setCell ⟨g, 1, none⟩ (.int .i64 room)).setCell ⟨g, 2, none⟩ (.bool false)) G' :=
    St.own1 (t' := 123) (e' := 36) (f' := fun sv => #[sv, .int .i64 room, .bool false]) (ys := []) (sv' := .slice none 0 0) hI hG hown
      (by simp) rfl rfl rfl (fun c hc hcg _ => by rw [heap_setCell_ne _ _ _ hcg, heap_setCell_ne _ _ _ hcg, heap_setCell_ne _ _ _ hcg]) (heap_setCell (heap_setCell (heap_setCell hh 0 _) 1 _) 2 _)
      ⟨rfl, .inl ⟨rfl, rfl⟩⟩ (.inr (.inr rfl))
  have Hfin := Lib.hid hfin
  clear hfin hG hh hrow hown
  go_enter Try.func59, Try.ntmps59
  go_wp2
  trace_state
  go_end0
  exact ⟨rfl, Hfin.out⟩
end Go.Hw
