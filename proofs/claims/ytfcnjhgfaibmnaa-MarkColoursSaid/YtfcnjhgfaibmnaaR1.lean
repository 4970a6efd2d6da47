/- The marks that loops over iterators leave among a function's deferred calls. -/
import Derived.Test.YtfcnjhgfaibmnaaR0
namespace Go.Hw
open Go.RowKit
variable {P : Program}

def markD (D : Nat) : Deferred := { target := .collected D, args := #[] }
def Marks (lo hi : Nat) (ds : List Deferred) (W : World) (G : Gh) : Prop :=
  ∃ Ds : List Nat, ds = Ds.map markD ∧ Ds.Nodup ∧ ∀ D ∈ Ds, lo ≤ D ∧ D < hi ∧ G D = .priv ∧ W.heap[D]? = some (.deferred (some []))
theorem Marks.nil (lo hi : Nat) (W : World) (G : Gh) : Marks lo hi [] W G := ⟨[], rfl, List.nodup_nil, fun D h => by cases h⟩
theorem Marks.st {lo hi : Nat} {ds : List Deferred} {W W' : World} {G G' : Gh} {T : Nat → Prop} {B : Nat} (h : Marks lo hi ds W G) (k : St T B W G W' G') (hB : hi ≤ B) : Marks lo hi ds W' G' := by
  obtain ⟨Ds, h1, h2, h3⟩ := h
  refine ⟨Ds, h1, h2, fun D hD => ?_⟩
  obtain ⟨a1, a2, a3, a4⟩ := h3 D hD
  have e := k.priv D (Array.getElem?_eq_some_iff.1 a4).1 (by omega) a3
  exact ⟨a1, a2, e.1, e.2.trans a4⟩
theorem Marks.step {lo hi : Nat} {ds : List Deferred} {W W' : World} {G G' : Gh} {T : Nat → Prop} (h : Marks lo hi ds W G) (k : Step T W G W' G') : Marks lo hi ds W' G' := by
  obtain ⟨Ds, h1, h2, h3⟩ := h
  refine ⟨Ds, h1, h2, fun D hD => ?_⟩
  obtain ⟨a1, a2, a3, a4⟩ := h3 D hD
  have hl := (Array.getElem?_eq_some_iff.1 a4).1
  have e := k.priv D hl hl a3
  exact ⟨a1, a2, e.1, e.2.trans a4⟩
theorem Marks.keep {lo hi B : Nat} {ds : List Deferred} {W W' : World} {G G' : Gh} (h : Marks lo hi ds W G) (k : Keep B W G W' G') (hB : B ≤ lo) : Marks lo hi ds W' G' := by
  obtain ⟨Ds, h1, h2, h3⟩ := h
  refine ⟨Ds, h1, h2, fun D hD => ?_⟩
  obtain ⟨a1, a2, a3, a4⟩ := h3 D hD
  have e := k.2 D (by omega) (Array.getElem?_eq_some_iff.1 a4).1 a3
  exact ⟨a1, a2, e.1, e.2.trans a4⟩
theorem Marks.setRaw {lo hi : Nat} {ds : List Deferred} {W : World} {G : Gh} (h : Marks lo hi ds W G) {a : Addr} (ha : G a.block = .raw) (v : Value) : Marks lo hi ds (W.setCell a v) G := by
  obtain ⟨Ds, h1, h2, h3⟩ := h
  refine ⟨Ds, h1, h2, fun D hD => ?_⟩
  obtain ⟨a1, a2, a3, a4⟩ := h3 D hD
  exact ⟨a1, a2, a3, (heap_setCell_ne _ _ _ (fun e => by rw [e, ha] at a3; cases a3)).trans a4⟩
theorem Marks.alloc {lo hi : Nat} {ds : List Deferred} {W : World} {G : Gh} (h : Marks lo hi ds W G) (o : Obj) : Marks lo hi ds (W.alloc o) G := by
  obtain ⟨Ds, h1, h2, h3⟩ := h
  refine ⟨Ds, h1, h2, fun D hD => ?_⟩
  obtain ⟨a1, a2, a3, a4⟩ := h3 D hD
  exact ⟨a1, a2, a3, (heap_alloc_lt _ _ (Array.getElem?_eq_some_iff.1 a4).1).trans a4⟩
theorem Marks.wide {lo lo' hi hi' : Nat} {ds : List Deferred} {W : World} {G : Gh} (h : Marks lo hi ds W G) (h1 : lo' ≤ lo) (h2 : hi ≤ hi') : Marks lo' hi' ds W G := by
  obtain ⟨Ds, e1, e2, e3⟩ := h
  exact ⟨Ds, e1, e2, fun D hD => by obtain ⟨a1, a2, a3⟩ := e3 D hD; exact ⟨by omega, by omega, a3⟩⟩
theorem Marks.cons {lo hi hi' D : Nat} {ds : List Deferred} {W : World} {G : Gh} (h : Marks lo hi ds W G) (hlo : lo ≤ hi) (hD : hi ≤ D) (hD' : D < hi') (hg : G D = .priv) (hd : W.heap[D]? = some (.deferred (some []))) :
    Marks lo hi' ({ target := .collected D, args := #[] } :: ds) W G := by
  obtain ⟨Ds, h1, h2, h3⟩ := h
  refine ⟨D :: Ds, by rw [h1]; rfl, List.nodup_cons.2 ⟨fun hm => by have := h3 D hm; omega, h2⟩, fun E hE => ?_⟩
  rcases List.mem_cons.1 hE with rfl | hE
  · exact ⟨by omega, hD', hg, hd⟩
  · obtain ⟨a1, a2, a3⟩ := h3 E hE; exact ⟨a1, by omega, a3⟩

theorem leave_marks {n : Nat} {fn : Func} {tmps : Array Value} {R : Ending → World → Prop} {lo hi : Nat} {G : Gh} : ∀ {ds : List Deferred} {W : World}, Inv W G → Marks lo hi ds W G →
    (∀ W', St (fun _ => False) lo W G W' G → (∀ b, G b ≠ .priv → W'.heap[b]? = W.heap[b]?) → ∃ v, (results fn tmps).run P W' = .ok v W' ∧ R (.returned v) W') →
    LeavesInM Wd n P fn tmps R ds .returning W := by
  rintro ds W hI ⟨Ds, rfl, hnd, hds⟩ h
  induction Ds generalizing W with
  | nil => exact h W (St.refl hI) (fun _ _ => rfl)
  | cons D Ds ih =>
    obtain ⟨a1, a2, a3, a4⟩ := hds D (List.mem_cons_self ..)
    have hst : St (fun _ => False) lo W G (W.putObj D (.deferred none)) G := St.putPriv hI _ a3 a1
    refine ⟨by simp, .inl ⟨D, _, rfl, run_takeDeferred a4, ?_⟩⟩
    refine ih hst.inv (List.nodup_cons.1 hnd).2 (fun E hE => ?_) (fun W' k hk => h W' (hst.trans k (.inl (Nat.le_refl _))) (fun b hb => (hk b hb).trans (World.putObj_heap_other (fun e => hb (by rw [e]; exact a3)))))
    obtain ⟨b1, b2, b3, b4⟩ := hds E (List.mem_cons_of_mem _ hE)
    exact ⟨b1, b2, b3, (World.putObj_heap_other (fun e => by rw [e] at hE; exact (List.nodup_cons.1 hnd).1 hE)).trans b4⟩
end Go.Hw
