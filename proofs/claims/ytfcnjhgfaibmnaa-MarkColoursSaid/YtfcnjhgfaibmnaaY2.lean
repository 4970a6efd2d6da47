/- Rows appended to rows; law 11: Reach. -/
import Derived.Test.YtfcnjhgfaibmnaaY1
import Derived.Test.YtfcnjhgfaibmnaaV2
namespace Go.Hw
open Go.RowKit Go.Proofs Go.ChangeMaps Go.ChangeShapes

theorem run_append_none {P : Program} {w : World} (t ty e : TypeId) (i : TypeInfo) (ht : P.underlying t = some (.slice e)) (hi : P.info? e = some i) (p : Option Addr) (n c : Nat) (hn : n ≤ c) :
    (Builtin.append_ #[t, t] ty #[.slice p n c, .slice none 0 0]).run P w = .ok (.slice p n c) w := by
  cases p <;> simp [Builtin.append_, run_underlying ht, sizeOf, typeInfo, hi, Builtin.lenOf, run_firstCells_none, hn, storeCells]

/-- 'append' at the operation, by what its run comes to. -/
theorem wpList_append_run {P : Program} {w : World} {ops : Array Oper} {rest : List Oper} {o : Oper} {a : Act} {Q : Exit → Act → World → Prop} (hgd : o.guard = none) (s x : Operand) (t : TypeId)
    (ho : o.op = .call { callee := .builtin .append, args := #[s, x], argTypes := #[t, t] }) (v u v' : Value) (w' : World) (hs : a.eval s = v) (hx : a.eval x = u) (hr : (Builtin.append_ #[t, t] o.type #[v, u]).run P w = .ok v' w')
    (h : wpList P ops Q rest (a.put o.dst v') w') : wpList P ops Q (o :: rest) a w := by
  refine wpList_plain hgd fun K hK => ?_
  unfold Oper.wp execOp
  simp only [ho, resolve, invoke, builtin, Sem.run_bind, Sem.run_pure, Result.andThen_ok, List.map_toArray, List.map_cons, List.map_nil, hs, hx, hr]
  exact hK _ _ h

theorem RowAt.cap {w : World} {G : Gh} {base : Nat} {p : Option Addr} {n c : Nat} {l : List Int} (h : RowAt w G base (.slice p n c) l) : n = l.length ∧ l.length ≤ c := by
  obtain ⟨-, h2⟩ := h.row
  rcases h2 with ⟨h2, h0⟩ | ⟨g, cap, cur, h3, -, hg, hn, -⟩
  · cases h2; exact ⟨h0.symm, by omega⟩
  · cases h3; exact ⟨rfl, hn⟩
theorem RowAt.cells {w : World} {G : Gh} {base : Nat} {v : Value} {l : List Int} (h : RowAt w G base v l) : (v = .slice none 0 0 ∧ l = []) ∨ ∃ g cap, v = .slice (some ⟨g, 0, none⟩) l.length cap ∧ ∀ j u, (l.map (Value.int .i64))[j]? = some u → w.cell? ((⟨g, 0, none⟩ : Addr).add j) = some u := by
  obtain ⟨h1, h2⟩ := h.row
  rcases h2 with ⟨rfl, h0⟩ | ⟨g, cap, cur, rfl, -, hg, hn, -, hc, ht⟩
  · exact .inl ⟨rfl, List.length_eq_zero_iff.1 h0⟩
  · refine .inr ⟨g, cap, rfl, fun j u hj => ?_⟩
    have e1 : (⟨g, 0, none⟩ : Addr).add j = ⟨g, j, none⟩ := by unfold Addr.add; split <;> simp_all
    rw [e1, cell_of hg]
    rw [← ht, List.getElem?_take] at hj
    split at hj
    · simpa using hj
    · cases hj
set_option maxRecDepth 100000 in
/-- 'append(l, u...)': a row of the call's own grows by another row. -/
theorem RowAt.append {W : World} {G : Gh} (hI : Inv W G) {base base2 : Nat} {v u : Value} {l l2 : List Int} (h : RowAt W G base v l) (h2 : RowAt W G base2 u l2) (hb : base ≤ W.heap.size) (hl : l.length + l2.length ≤ 1000000) (ty : TypeId) :
    ∃ v' W', (Builtin.append_ #[29, 29] ty #[v, u]).run Try.prog W = .ok v' W' ∧ RowAt W' G base v' (l ++ l2) ∧ W.grownBy W' v.ownBlock := by
  obtain ⟨i0, hi, hz0, hz1, hz2⟩ := info_parts info_ref
  rcases h2.cells with ⟨rfl, rfl⟩ | ⟨g, cap, rfl, hc⟩
  · obtain ⟨p, c, rfl, -⟩ := h.val
    refine ⟨_, W, run_append_none _ ty _ i0 Try.underlying29 hi p l.length c h.cap.2, by rw [List.append_nil]; exact h, World.grownBy.refl _ _⟩
  · obtain ⟨v', W', r1, r2, r3, -, r5⟩ := run_append_own_at (P := Try.prog) W base 29 ty 36 i0 (.int .i64 0) 1 8 Try.underlying29 hi hz0 hz1 hz2 rfl (by decide) v l.length _ h.row ⟨g, 0, none⟩ l2.length cap (l2.map (Value.int .i64)) (by simp) hc (by simp [Value.oneCell']) (by unfold maxLen; omega) (by omega) hb
    refine ⟨v', W', r1, ⟨by rw [List.length_append, List.map_append]; exact r2, fun k hk => ?_⟩, r3⟩
    rcases r5 with r5 | r5
    · exact h.raw k (r5 ▸ hk)
    · rw [hk] at r5; cases r5; exact hI.new _ (Nat.le_refl _)
theorem RowAt.kept {w w' : World} {G : Gh} {base : Nat} {v : Value} {l : List Int} {row : Option Nat} (h : RowAt w G base v l) (hg : w.grownBy w' row) (hne : ∀ g, v.ownBlock = some g → row ≠ some g) : RowAt w' G base v l :=
  ⟨ownsRow_congr h.row fun g hv => hg.block g (h.row.lt g hv).2 (fun e => hne g hv e.symm), h.raw⟩
theorem IMapAt.kept {w w' : World} {G : Gh} {b n : Nat} {f : Int → Int} {ks : List Int} {row : Option Nat} (h : IMapAt w G b n f ks) (hg : w.grownBy w' row) (hne : some b ≠ row) : IMapAt w' G b n f ks := by
  have hlt := h.lt
  obtain ⟨hr, D, hd, h1⟩ := h
  exact ⟨hr, D, ownsMap_same hd (hg.block b hlt hne), h1⟩
theorem GrpAt.kept {w w' : World} {G : Gh} {b base n : Nat} {tab : Int → List Int} {X : Nat → Prop} {row : Option Nat} (h : GrpAt w G b base n tab X) (hg : w.grownBy w' row) (hne : some b ≠ row) (hX : ∀ g, row = some g → X g) : GrpAt w' G b base n tab X := by
  have hlt := h.lt
  obtain ⟨hr, D, hm, ho, ht, hs⟩ := h
  obtain ⟨h1, h2⟩ := groups_congr ho hs (hg.block b hlt hne) (fun g hgl hn => hg.block g hgl (fun e => hn (.inr (hX g e.symm))))
  exact ⟨hr, D, hm, h1, ht, h2⟩
theorem RowAt.front {w : World} {G : Gh} {base g n c : Nat} {st t : List Int} (h : RowAt w G base (.slice (some ⟨g, 0, none⟩) n c) (st ++ t)) : RowAt w G base (.slice (some ⟨g, 0, none⟩) st.length c) st := by
  obtain ⟨h1, h2⟩ := h.row
  rcases h2 with ⟨h2, -⟩ | ⟨g', cap, cur, h3, hb, hg, hn, hm, hc, ht⟩
  · cases h2
  · cases h3
    simp only [List.length_append, Nat.mul_one] at h1 hn ht hc
    refine ⟨⟨by simp, .inr ⟨g, c, cur, rfl, hb, hg, by omega, hm, by omega, ?_⟩⟩, h.raw⟩
    have := congrArg (List.take st.length) ht
    rw [List.take_take, List.map_append, List.take_append_of_le_length (by simp)] at this
    rw [Nat.mul_one]
    rw [Nat.min_eq_left (by omega)] at this
    rw [this]
    exact List.take_of_length_le (by simp)
theorem RowAt.last {w : World} {G : Gh} {base : Nat} {v : Value} {st : List Int} {x : Int} (h : RowAt w G base v (st ++ [x])) : ∃ g cap, v = .slice (some ⟨g, 0, none⟩) (st.length + 1) cap ∧ st.length + 1 ≤ cap ∧ cap ≤ 9223372036854775807 ∧ w.cell? ⟨g, st.length, none⟩ = some (.int .i64 x) := by
  obtain ⟨h1, h2⟩ := h.row
  rcases h2 with ⟨-, h2⟩ | ⟨g, cap, cur, rfl, -, hg, hn, hm, hc, ht⟩
  · simp at h2
  · simp only [List.length_append, List.length_singleton] at hn ht
    refine ⟨g, cap, by simp, hn, hm, ?_⟩
    rw [cell_of hg]
    have e : ((st ++ [x]).map (Value.int .i64))[st.length]? = some (.int .i64 x) := by simp
    rw [← ht, List.getElem?_take] at e
    split at e
    · simpa using e
    · cases e
def isK (ks : List Int) : Int → Int := fun x => if x ∈ ks then 1 else 0
theorem isK_mem {ks : List Int} {x : Int} (h : x ∈ ks) : isK ks x = 1 := by unfold isK; rw [if_pos h]
theorem isK_not {ks : List Int} {x : Int} (h : x ∉ ks) : isK ks x = 0 := by unfold isK; rw [if_neg h]
theorem isK_add (ks : List Int) (x : Int) : updF (isK ks) x 1 = isK (addK ks x) := by
  funext y
  unfold updF isK
  by_cases hy : y = x
  · rw [if_pos hy, if_pos (mem_addK.2 (.inl hy))]
  · rw [if_neg hy]
    by_cases hk : y ∈ ks
    · rw [if_pos hk, if_pos (mem_addK.2 (.inr hk))]
    · rw [if_neg hk, if_neg (fun e => by rcases mem_addK.1 e with e | e; exact hy e; exact hk e)]

/-- What stands between the rounds of Reach. -/
structure ReInv (tab : Int → List Int) (l fr : List Int) (st ks : List Int) : Prop where
  nd : ks.Nodup
  kl : ∀ x ∈ ks, x ∈ l ∧ Reached tab (fun r => r ∈ fr) x
  sl : ∀ x ∈ st, x ∈ l ∧ Reached tab (fun r => r ∈ fr) x
  fk : ∀ x ∈ fr, x ∈ ks ∨ x ∈ st
  cl : ∀ x ∈ ks, ∀ y ∈ tab x, y ∈ ks ∨ y ∈ st
  sz : st.length ≤ fr.length + 100 * ks.length
theorem ReInv.start {tab : Int → List Int} {l fr : List Int} (h : ∀ r ∈ fr, r ∈ l) : ReInv tab l fr fr [] :=
  ⟨List.nodup_nil, (fun x hx => by cases hx), fun x hx => ⟨h x hx, .root hx⟩, fun x hx => .inr hx, (fun x hx => by cases hx), by simp⟩
theorem ReInv.skip {tab : Int → List Int} {l fr st ks : List Int} {x : Int} (h : ReInv tab l fr (st ++ [x]) ks) (hx : x ∈ ks) : ReInv tab l fr st ks := by
  have hm : ∀ y, y ∈ ks ∨ y ∈ st ++ [x] → y ∈ ks ∨ y ∈ st := fun y hy => by
    rcases hy with hy | hy
    · exact .inl hy
    · rcases List.mem_append.1 hy with hy | hy
      · exact .inr hy
      · rw [List.mem_singleton.1 hy]; exact .inl hx
  have := h.sz
  rw [List.length_append] at this
  exact ⟨h.nd, h.kl, fun y hy => h.sl y (List.mem_append_left _ hy), fun y hy => hm y (h.fk y hy), fun z hz y hy => hm y (h.cl z hz y hy), by simp at this; omega⟩
theorem ReInv.take {tab : Int → List Int} {l fr st ks : List Int} {x : Int} (h : ReInv tab l fr (st ++ [x]) ks) (hx : x ∉ ks) (ht : ∀ r ∈ l, ∀ y ∈ tab r, y ∈ l) (hn : (tab x).length ≤ 100) : ReInv tab l fr (st ++ tab x) (addK ks x) := by
  obtain ⟨hxl, hxr⟩ := h.sl x (by simp)
  have hm : ∀ y, y ∈ ks ∨ y ∈ st ++ [x] → y ∈ addK ks x ∨ y ∈ st ++ tab x := fun y hy => by
    rcases hy with hy | hy
    · exact .inl (mem_addK.2 (.inr hy))
    · rcases List.mem_append.1 hy with hy | hy
      · exact .inr (List.mem_append_left _ hy)
      · exact .inl (mem_addK.2 (.inl (List.mem_singleton.1 hy)))
  refine ⟨nodup_addK h.nd, fun y hy => ?_, fun y hy => ?_, fun y hy => hm y (h.fk y hy), fun z hz y hy => ?_, ?_⟩
  · rcases mem_addK.1 hy with rfl | hy
    · exact ⟨hxl, hxr⟩
    · exact h.kl y hy
  · rcases List.mem_append.1 hy with hy | hy
    · exact h.sl y (List.mem_append_left _ hy)
    · exact ⟨ht x hxl y hy, .step hxr hy⟩
  · rcases mem_addK.1 hz with rfl | hz
    · exact .inr (List.mem_append_right _ hy)
    · exact hm y (h.cl z hz y hy)
  · have := h.sz
    simp only [List.length_append, List.length_singleton] at this ⊢
    unfold addK
    rw [if_neg hx]
    simp; omega
theorem ReInv.done {tab : Int → List Int} {l fr ks : List Int} (h : ReInv tab l fr [] ks) (x : Int) : x ∈ ks ↔ Reached tab (fun r => r ∈ fr) x := by
  refine ⟨fun hx => (h.kl x hx).2, fun hx => ?_⟩
  induction hx with
  | root h1 => rcases h.fk _ h1 with h2 | h2; exact h2; cases h2
  | step _ hy ih => rcases h.cl _ ih _ hy with h2 | h2; exact h2; cases h2

def reachPost (tab : Int → List Int) (fr : List Int) (w : World) (G : Gh) (e : Ending) (w' : World) : Prop :=
  ∃ (b n : Nat) (ks : List Int) (G' : Gh), e = .returned (.map (some b)) ∧ IMapAt w' G' b n (isK ks) ks ∧ ks.Nodup ∧ (∀ x, x ∈ ks ↔ Reached tab (fun r => r ∈ fr) x) ∧ n ≤ 10000 ∧ Step (fun _ => False) w G w' G' ∧ w.heap.size ≤ b

set_option maxRecDepth 100000 in
set_option maxHeartbeats 2000000 in
theorem law11_reach (v : Value) (fr l : List Int) (lb bm base n : Nat) (tab : Int → List Int) (X : Nat → Prop) (hfr : ∀ r ∈ fr, r ∈ l) (htab : ∀ r ∈ l, ∀ y ∈ tab r, y ∈ l) (hlen : ∀ r ∈ l, (tab r).length ≤ 100) (hl0 : ∀ r ∈ l, 1 ≤ r ∧ r ≤ 1000000)
    (hl : l.length ≤ 1000) (hfl : fr.length ≤ 1000) (hn : n ≤ 100000) (w : World) (G : Gh) (hI : Inv w G) (hv : RowAt w G lb v fr) (hg : GrpAt w G bm base n tab X) :
    Calls Try.prog 15 #[v, .map (some bm)] w (reachPost tab fr w G) := by
  have hmm := @run_makeMap Try.prog
  have hI1 : Inv (w.alloc (.map #[] 0)) G := hI.alloc _
  have hS1 : Step (fun _ => False) w G (w.alloc (.map #[] 0)) G := (St.refl hI).alloc _
  have hM1 : IMapAt (w.alloc (.map #[] 0)) G w.heap.size 0 (fun _ => 0) [] := IMapAt.new hI
  have hv1 := hv.step hS1
  have hbm : bm < w.heap.size := hg.lt
  have hg1 := (hg.also (Y := fun g => w.heap.size ≤ g) (fun g hg => .inr hg)).step hS1
  obtain ⟨v2, w2, hrun, hr2, hgr⟩ := (RowAt.nil (w.alloc (.map #[] 0)) G (w.heap.size + 1)).append hI1 hv1 (by simp) (by simp; omega) 29
  rw [List.nil_append] at hr2
  have hS2 : Step (fun _ => False) w G w2 G := hS1.grown hgr fun g hg => by cases hg
  have hS12 : Step (fun _ => False) (w.alloc (.map #[] 0)) G w2 G := (St.refl hI1).grown hgr fun g hg => by cases hg
  have hM2 := hM1.step hS12
  have hg2 := hg1.step hS12
  have HS2 := Lib.hid hS2
  have HM2 := Lib.hid hM2
  have Hg2 := Lib.hid hg2
  have Hr2 := Lib.hid hr2
  have Hfr := Lib.hid hfr
  have Htab := Lib.hid htab
  have Hlen := Lib.hid hlen
  have Hl0 := Lib.hid hl0
  have Hre := Lib.hid (ReInv.start (tab := tab) hfr)
  obtain ⟨p1, cap1, rfl, -⟩ := hv.val
  clear hI hI1 hS1 hM1 hv1 hg1 hS2 hS12 hM2 hg2 hr2 hgr hfr htab hlen hl0 hv hg
  have Hrun := Lib.hid hrun
  clear hrun
  go_enter Try.func15, Try.ntmps15
  go_wp2_with (at_builtin; refine wpList_append_run rfl _ _ 29 rfl _ _ _ _ rfl rfl Hrun.out ?_)
  go_wp2
  go_loopg [6] (l.length * 101 + fr.length) (fun g v6 W => ∃ (st ks : List Int) (n' : Nat), g + ks.length * 101 = l.length * 101 + st.length ∧ ReInv tab l fr st ks ∧ RowAt W G (w.heap.size + 1) v6 st ∧ IMapAt W G w.heap.size n' (isK ks) ks ∧ n' ≤ ks.length ∧ GrpAt W G bm base n tab (fun g => w.heap.size ≤ g) ∧ Step (fun _ => False) w G W G)
  case atStart => exact ⟨fr, [], 0, by simp, Hre.out, Hr2.out, HM2.out, Nat.zero_le _, Hg2.out, HS2.out⟩
  case round =>
    obtain ⟨st, ks, n', hgk, hre, hrow, hmap, hn', hgrp, hS⟩ := hrel
    have hkl : ks.length ≤ l.length := nodup_len hre.nd (fun x hx => (hre.kl x hx).1)
    have hsz := hre.sz
    have HS := Lib.hid hS
    have Hre := Lib.hid hre
    have Hrow := Lib.hid hrow
    have Hmap := Lib.hid hmap
    have Hgrp := Lib.hid hgrp
    have Hgk := Lib.hid hgk
    clear hgk hre hrow hmap hgrp hS HS2 HM2 Hg2 Hr2
    rcases list_snoc st with rfl | ⟨st, x, rfl⟩
    · obtain ⟨p6, c6, rfl, -⟩ := Hrow.out.val
      have hfin : reachPost tab fr w G (.returned (.map (some w.heap.size))) wr := ⟨_, n', ks, G, rfl, Hmap.out, Hre.out.nd, Hre.out.done, by omega, HS.out, Nat.le_refl _⟩
      have Hfin := Lib.hid hfin
      clear hfin
      go_wp2
      go_ret
      exact Hfin.out
    · obtain ⟨g6, c6, rfl, hc6, hc7, hcx⟩ := Hrow.out.last
      have hxl := (Hre.out.sl x (by simp)).1
      have hxb := Hl0.out x hxl
      have hrow' := Hrow.out.front
      have hlook := Hmap.out.look (x := x) (by omega)
      have hne0 : decide (x = 0) = false := by simp; omega
      have hd6 : decide (st.length + 1 ≤ c6) = true := by simpa using hc6
      simp only [List.length_append, List.length_singleton] at hsz
      have Hrow' := Lib.hid hrow'
      have Hxl := Lib.hid hxl
      clear hrow' hxl
      by_cases hk : x ∈ ks
      · rw [isK_mem hk] at hlook
        have Hre' := Lib.hid (Hre.out.skip hk)
        clear hk
        go_wp2
        go_roundg (gk - 1)
        case measure => have := Hgk.out; simp at this; omega
        case rel => exact ⟨st, ks, n', by have := Hgk.out; simp at this; omega, Hre'.out, Hrow'.out, Hmap.out, hn', Hgrp.out, HS.out⟩
      · rw [isK_not hk] at hlook
        have Hre' := Lib.hid (Hre.out.take hk Htab.out (Hlen.out x Hxl.out))
        have hal : (addK ks x).length = ks.length + 1 := by unfold addK; rw [if_neg hk]; simp
        obtain ⟨w3, hput, hm3, hg3⟩ := Hmap.out.put (by omega) (x := x) (v := 1) (by omega) (by omega)
        rw [isK_add] at hm3
        have hS3 := HS.out.mapPut (Nat.le_refl _) Hmap.out.raw hg3
        have hrow3 := Hrow'.out.kept hg3 (fun g hg e => by cases e; have := (Hrow'.out.row.lt _ hg).1; omega)
        have hgrp3 := Hgrp.out.kept hg3 (fun e => by cases e; omega) (fun g hg => by cases hg; exact Nat.le_refl _)
        obtain ⟨vt, hrun, hrt⟩ := hgrp3.look (by omega) (x := x) (by omega)
        have htl := Hlen.out x Hxl.out
        obtain ⟨v4, w4, happ, hrow4, hg4⟩ := hrow3.append hS3.inv hrt (by have := hm3.lt; omega) (by omega) 29
        have hg6 : ∀ g, (Value.slice (some ⟨g6, 0, none⟩) st.length c6).ownBlock = some g → w.heap.size + 1 ≤ g ∧ G g = .raw := fun g hg => ⟨(hrow3.row.lt g hg).1, hrow3.raw g hg⟩
        have hmap4 := hm3.kept hg4 (fun e => by have := (hg6 _ e.symm).1; omega)
        have hgrp4 := hgrp3.kept hg4 (fun e => by have := (hg6 _ e.symm).1; omega) (fun g hg => by have := (hg6 _ hg).1; omega)
        have hS4 := hS3.grown hg4 (fun g hg => ⟨by have := (hg6 _ hg).1; omega, (hg6 _ hg).2⟩)
        have hkl2 := nodup_len Hre'.out.nd (fun x hx => (Hre'.out.kl x hx).1)
        rw [hal] at hkl2
        obtain ⟨pt, ct, rfl, -⟩ := hrt.val
        obtain ⟨p4, c4, rfl, -⟩ := hrow4.val
        have Hmap4 := Lib.hid hmap4
        have Hgrp4 := Lib.hid hgrp4
        have HS4 := Lib.hid hS4
        have Hrow4 := Lib.hid hrow4
        have Hal := Lib.hid hal
        have Happ := Lib.hid happ
        have Hkl2 := Lib.hid hkl2
        clear hmap4 hgrp4 hS4 hkl2 hrow4 hrt hgrp3 hrow3 hS3 hm3 hg3 hg4 hg6 hal hk happ Hgrp Hmap Hrow HS
        go_wp2_with (at_builtin; refine wpList_append_run rfl _ _ 29 rfl _ _ _ _ rfl rfl Happ.out ?_)
        go_wp2
        go_roundg (gk - 102 + (tab x).length)
        case measure => have h1 := Hgk.out; have h2 := Hkl2.out; simp at h1; omega
        case rel => exact ⟨st ++ tab x, addK ks x, n' + 1, by have h1 := Hgk.out; have h2 := Hkl2.out; have h3 := Hal.out; simp at h1 ⊢; omega, Hre'.out, (by have h := Hrow4.out; rw [List.length_append] at h; exact h), Hmap4.out, by have h3 := Hal.out; omega, Hgrp4.out, HS4.out⟩
end Go.Hw
