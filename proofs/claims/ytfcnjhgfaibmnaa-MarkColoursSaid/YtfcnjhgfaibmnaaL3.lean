/- Law 11: some. -/
import Derived.Test.YtfcnjhgfaibmnaaL1
namespace Go.Hw
open Go.RowKit Go.Proofs Go.ChangeShapes

def someOf (l : List Int) (xs : List Int) : List Int := if l.length = 0 then [] else xs.map fun i => l.getD (i % (l.length : Int)).toNat 0
theorem someOf_mem {l xs : List Int} {r : Int} (h : r ∈ someOf l xs) : r ∈ l := by
  unfold someOf at h
  split at h
  · cases h
  · rename_i h0
    obtain ⟨i, -, rfl⟩ := List.mem_map.1 h
    have h1 := Int.emod_lt_of_pos i (show (0 : Int) < l.length by omega)
    have h2 := Int.emod_nonneg i (show (l.length : Int) ≠ 0 by omega)
    rw [List.getD_eq_getElem?_getD, List.getElem?_eq_getElem (by omega)]
    exact List.getElem_mem _
theorem someOf_len (l xs : List Int) : (someOf l xs).length ≤ xs.length := by
  unfold someOf; split <;> simp
theorem someOf_snoc {l xs : List Int} (h : l.length ≠ 0) (x : Int) : someOf l (xs ++ [x]) = someOf l xs ++ [l.getD (x % (l.length : Int)).toNat 0] := by
  unfold someOf; rw [if_neg h, if_neg h]; simp
theorem someOf_nil {l xs : List Int} (h : l.length = 0) : someOf l xs = [] := by unfold someOf; rw [if_pos h]

def somePost (l xs : List Int) (w : World) (G : Gh) (e : Ending) (w' : World) : Prop :=
  ∃ v G', e = .returned v ∧ RowAt w' G' w.heap.size v (someOf l xs) ∧ Step (fun _ => False) w G w' G'

/-- A row that the call makes grows by one. -/
theorem RowAt.push {w0 W w1 : World} {G0 G : Gh} {B : Nat} {v v' : Value} {l : List Int} {x : Int} {o : Obj} (hs : Step (fun _ => False) w0 G0 W G) (h : RowAt W G B v l) (hB : w0.heap.size ≤ B) (hrow : w1.ownsRow B 36 1 v' (l.length + 1) (l.map (Value.int .i64) ++ [.int .i64 x])) (hg : (W.alloc o).grownBy w1 v.ownBlock)
    (hb : v'.ownBlock = v.ownBlock ∨ v'.ownBlock = some (W.heap.size + 1)) : Step (fun _ => False) w0 G0 w1 G ∧ RowAt w1 G B v' (l ++ [x]) := by
  refine ⟨(hs.alloc o).grown hg fun g hv => ⟨by have := (h.row.lt g hv).1; omega, h.raw g hv⟩, ⟨?_, ?_⟩⟩
  · rw [List.length_append, List.map_append]; exact hrow
  · intro g hv
    rcases hb with hb | hb
    · exact h.raw g (hb ▸ hv)
    · rw [hv] at hb; cases hb; exact hs.inv.new _ (by omega)

set_option maxRecDepth 100000 in
set_option maxHeartbeats 1000000 in
theorem law11_some (v u : Value) (l xs : List Int) (lb : Nat) (hl : l.length ≤ 1000) (hx : xs.length ≤ 1000) (w : World) (G : Gh) (hI : Inv w G) (hv : RowAt w G lb v l) (hu : U8s w G u xs) :
    Calls Try.prog 12 #[v, u] w (somePost l xs w G) := by
  obtain ⟨p, cap, rfl, -, hp⟩ := hu
  obtain ⟨p6, cap6, rfl, -⟩ := hv.val
  have Hp := Lib.hid hp
  have Hv := Lib.hid hv
  have HI := Lib.hid hI
  clear hp hv hI
  obtain ⟨i0, hi, hz0, hz1, hz2⟩ := info_parts info_ref
  go_enter Try.func12, Try.ntmps12
  go_wp2
  go_loopw [5, 10] (fun v5 i W => ∃ (k : Nat) (G' : Gh), k ≤ xs.length ∧ i = .int .i64 k ∧ RowAt W G' w.heap.size v5 (someOf l (xs.take k)) ∧ Step (fun _ => False) w G W G') (fun _ i _ => xs.length - (intOf i).toNat)
  case atStart => exact ⟨0, G, Nat.zero_le _, rfl, by rw [show someOf l (xs.take 0) = [] by simp [someOf]]; exact RowAt.nil _ _ _, St.refl HI.out⟩
  case round =>
    obtain ⟨k, G1, hk, rfl, hr, hs⟩ := hrel
    have Hr := Lib.hid hr
    have Hs := Lib.hid hs
    have hsl := Nat.le_trans (someOf_len l (xs.take k)) (by simp; omega : (xs.take k).length ≤ 1000)
    clear hr hs
    by_cases hlt : k < xs.length
    · obtain ⟨ad, rfl, hq1, hq2, hq3, hq4, hq5⟩ := Hp.out k hlt
      have hce : wr.cell? (ad.add k) = some (.int .u8 (xs.getD k 0)) := (cell_raw Hs.out (by rwa [add_block]) (by rwa [add_block])).trans hq3
      have htk : xs.take (k + 1) = xs.take k ++ [xs.getD k 0] := by
        rw [List.take_succ_eq_append_getElem hlt, List.getD_eq_getElem?_getD, List.getElem?_eq_getElem hlt, Option.getD_some]
      have Htk := Lib.hid htk
      clear hq1 hq2 hq3 htk
      generalize xs.getD k 0 = x at *
      by_cases hl0 : l.length = 0
      · have hse : someOf l (xs.take (k + 1)) = someOf l (xs.take k) := by rw [someOf_nil hl0, someOf_nil hl0]
        have Hse := Lib.hid hse
        clear hse
        go_wp2
        go_roundw
        case rel => exact ⟨k + 1, G1, by omega, by go_num, by rw [Hse.out]; exact Hr.out, Hs.out⟩
        case measure => simp [intOf]; omega
      · have hse : someOf l (xs.take (k + 1)) = someOf l (xs.take k) ++ [l.getD (x % (l.length : Int)).toNat 0] := by rw [Htk.out, someOf_snoc hl0]
        have hlp : 0 < l.length := by omega
        obtain ⟨i1, hi1, hi1l⟩ : ∃ i : Nat, x % (l.length : Int) = i ∧ i < l.length := ⟨(x % (l.length : Int)).toNat, by rw [Int.toNat_of_nonneg (Int.emod_nonneg _ (by omega))], by have := Int.emod_lt_of_pos x (show (0 : Int) < l.length by omega); have := Int.emod_nonneg x (show (l.length : Int) ≠ 0 by omega); omega⟩
        obtain ⟨p7, cap7, he7, hrv⟩ := (Hv.out.step Hs.out).val
        cases he7
        obtain ⟨g6, rfl, hrc1⟩ := hrv i1 hi1l
        rw [hi1, show ((i1 : Int)).toNat = i1 by omega] at hse
        have Hse := Lib.hid hse
        clear hse hrv hl0
        generalize l.getD i1 0 = r at *
        generalize hsk : someOf l (xs.take k) = sk at *
        go_wp2_with (at_builtin; refine wpList_append_own_at _ rfl _ _ 29 rfl w.heap.size 36 i0 (.int .i64 0) 1 8 Try.underlying29 hi hz0 hz1 hz2 rfl (by decide) _ sk.length _ rfl (ownsRow_congr (w := wr) Hr.out.row ?h1) ⟨wr.heap.size, 0, none⟩ 1 1 [.int .i64 r] rfl rfl ?h2 (by simp [Value.oneCell']) ?h3 ?h4 ?h5 ?_)
        case h1 => intro g' hg'; exact heap_alloc_lt wr _ (Hr.out.row.lt g' hg').2
        case h2 => exact cell_one_new wr _ _
        case h3 => simp only [maxLen]; omega
        case h4 => omega
        case h5 => have := Hs.out.le; simp; omega
        intro v' w4 hrow4 hg4 _ hob4
        obtain ⟨hs4, hr4⟩ := Hr.out.push Hs.out (Nat.le_refl _) hrow4 hg4 hob4
        have Hs4 := Lib.hid hs4
        have Hr4 := Lib.hid hr4
        clear hs4 hr4 hrow4 hg4 hob4
        go_wp2
        go_roundw
        case rel => exact ⟨k + 1, G1, by omega, by go_num, by rw [Hse.out]; exact Hr4.out, Hs4.out⟩
        case measure => simp [intOf]; omega
    · obtain rfl : k = xs.length := by omega
      have hfin : RowAt wr G1 w.heap.size u5 (someOf l xs) := by have := Hr.out; rwa [List.take_length] at this
      have Hfin := Lib.hid hfin
      clear hfin Hr
      go_wp2
      go_ret
      exact ⟨u5, G1, rfl, Hfin.out, Hs.out⟩
end Go.Hw
