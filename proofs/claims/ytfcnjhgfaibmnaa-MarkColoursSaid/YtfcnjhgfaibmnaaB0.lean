/- The ghost heap: which block is what, and what a call may change. No program in sight but for the numbers of types. -/
import Derived.Test.YtfcnjhgfaibmnaaRows
import Derived.WalkKit
import Derived.WalkSpells
import Derived.WalkLawsBesides
import Derived.BigQuiet
import Derived.Deep.QuietTactic
import Derived.RangeFuncNested
import Derived.RangeFuncBound
import Derived.RangeFuncCalls
import Derived.RangeFuncLeaves
import Derived.Shelf.Abstract
import Derived.Shelf.RegionOpen
import Derived.OwnWalkIn
import Derived.TacticsInMore
import Derived.LoopNIn
import Derived.LoopIn
import Derived.Defers
import Derived.RegionTactic
import Derived.RegionCalls
import Derived.ChangeAlike
import Derived.Lib.Hide
namespace Go.Hw
open Go.RowKit

/-- An arena's pages (class, taken), words and free pages; the block of its set. -/
structure Ar where
  pages : List (Int × Int)
  words : List Int
  free : Int
  sp : Nat
  pb : Nat
  wb : Nat

inductive Ent where
  | raw
  | priv
  | owned (o : Nat)
  | set (n : Nat) (S : Nat → Bool)
  | blk (c : Array Value) (t : TypeId)
  | own1 (t e : TypeId) (f : Value → Array Value) (xs : List Value)
  | own2 (t e1 e2 : TypeId) (f : Value → Value → Array Value) (xs ys : List Value)
  | arena (A : Ar)

def Ent.isE : Ent → Bool
  | .raw | .priv | .owned _ => false
  | _ => true

abbrev Gh := Nat → Ent

def LaySet (w : World) (G : Gh) (b n : Nat) (S : Nat → Bool) : Prop :=
  n ≤ 1000000 ∧ ∃ ws : List Nat, ws.length = (n + 63) / 64 ∧ (∀ x ∈ ws, x < 18446744073709551616) ∧
    (∀ i, S i = (ws.getD (i / 64) 0).testBit (i % 64)) ∧ (∀ i, S i = true → i < n) ∧
    ((w.heap[b]? = some (.cells #[.int .i64 n, .int .u32 0, .int .i32 0, .int .u32 0, .slice none 0 0] 121 (0, 0)) ∧ (∀ x ∈ ws, x = 0)) ∨
     ∃ q, G q = .owned b ∧ w.heap[b]? = some (.cells #[.int .i64 n, .int .u32 1, .int .i32 0, .int .u32 0, .slice (some ⟨q, 0, none⟩) ws.length ws.length] 121 (0, 0)) ∧
       w.heap[q]? = some (.cells (ws.map (fun x : Nat => Value.int .u64 x)).toArray 134 (0, 0)))

def LayOwn1 (w : World) (G : Gh) (b : Nat) (t e : TypeId) (f : Value → Array Value) (xs : List Value) : Prop :=
  ∃ sv, w.heap[b]? = some (.cells (f sv) t (0, 0)) ∧ w.ownsRow 0 e 1 sv xs.length xs ∧ ∀ g, sv.ownBlock = some g → G g = .owned b
def LayOwn2 (w : World) (G : Gh) (b : Nat) (t e1 e2 : TypeId) (f : Value → Value → Array Value) (xs ys : List Value) : Prop :=
  ∃ sv1 sv2, w.heap[b]? = some (.cells (f sv1 sv2) t (0, 0)) ∧ w.ownsRow 0 e1 1 sv1 xs.length xs ∧ w.ownsRow 0 e2 1 sv2 ys.length ys ∧
    (∀ g, sv1.ownBlock = some g → G g = .owned b) ∧ (∀ g, sv2.ownBlock = some g → G g = .owned b) ∧ (∀ g, sv1.ownBlock = some g → sv2.ownBlock ≠ some g)
theorem ownsRow_congr {w w' : World} {base : Nat} {e : TypeId} {size : Nat} {v : Value} {n : Nat} {xs : List Value} (h : w.ownsRow base e size v n xs) (hg : ∀ g, v.ownBlock = some g → w'.heap[g]? = w.heap[g]?) : w'.ownsRow base e size v n xs := by
  obtain ⟨h1, h2⟩ := h
  refine ⟨h1, ?_⟩
  rcases h2 with h2 | ⟨g, cap, cur, rfl, h3, h4, h5⟩
  · exact .inl h2
  · exact .inr ⟨g, cap, cur, rfl, h3, (hg g rfl).trans h4, h5⟩

def pageCells (l : List (Int × Int)) : List Value := l.flatMap fun x => [.int .i64 x.1, .int .i64 x.2]

def LayArena (w : World) (G : Gh) (b : Nat) (A : Ar) : Prop :=
  0 < A.pages.length ∧ A.pages.length ≤ 64 ∧ A.words.length = 32 * A.pages.length ∧
  ∃ pb wb, pb ≠ wb ∧ G pb = .owned b ∧ G wb = .owned b ∧
    w.heap[b]? = some (.cells #[.slice (some ⟨pb, 0, none⟩) A.pages.length A.pages.length, .slice (some ⟨wb, 0, none⟩) A.words.length A.words.length, .pointer (some ⟨A.sp, 0, none⟩), .int .i64 A.free] 97 (0, 0)) ∧
    w.heap[pb]? = some (.cells (pageCells A.pages).toArray 99 (0, 0)) ∧
    w.heap[wb]? = some (.cells (A.words.map (Value.int .i64)).toArray 3 (0, 0)) ∧ pb = A.pb ∧ wb = A.wb

def Lay (w : World) (G : Gh) (b : Nat) : Ent → Prop
  | .raw | .priv | .owned _ => True
  | .set n S => LaySet w G b n S
  | .blk c t => w.heap[b]? = some (.cells c t (0, 0))
  | .own1 t e f xs => LayOwn1 w G b t e f xs
  | .own2 t e1 e2 f xs ys => LayOwn2 w G b t e1 e2 f xs ys
  | .arena A => LayArena w G b A

theorem Lay.congr {w w' : World} {G G' : Gh} {b : Nat} {e : Ent} (h : Lay w G b e) (hb : w'.heap[b]? = w.heap[b]?)
    (ho : ∀ c, G c = .owned b → G' c = .owned b ∧ w'.heap[c]? = w.heap[c]?) : Lay w' G' b e := by
  cases e with
  | raw | priv | owned => trivial
  | set n S =>
    obtain ⟨h0, ws, h1, h2, h3, h4, h5⟩ := h
    refine ⟨h0, ws, h1, h2, h3, h4, ?_⟩
    rcases h5 with ⟨h5, h6⟩ | ⟨q, h5, h6, h7⟩
    · exact .inl ⟨hb.trans h5, h6⟩
    · exact .inr ⟨q, (ho q h5).1, hb.trans h6, (ho q h5).2.trans h7⟩
  | blk c t => exact hb.trans h
  | own1 t e f xs =>
    obtain ⟨sv, h1, h2, h3⟩ := h
    exact ⟨sv, hb.trans h1, ownsRow_congr h2 (fun g hg => (ho g (h3 g hg)).2), fun g hg => (ho g (h3 g hg)).1⟩
  | own2 t e1 e2 f xs ys =>
    obtain ⟨sv1, sv2, h1, h2, h3, h4, h5, h6⟩ := h
    exact ⟨sv1, sv2, hb.trans h1, ownsRow_congr h2 (fun g hg => (ho g (h4 g hg)).2), ownsRow_congr h3 (fun g hg => (ho g (h5 g hg)).2), fun g hg => (ho g (h4 g hg)).1, fun g hg => (ho g (h5 g hg)).1, h6⟩
  | arena A =>
    obtain ⟨h0, h1, h2, pb, wb, h3, h4, h5, h6, h7, h8⟩ := h
    exact ⟨h0, h1, h2, pb, wb, h3, (ho pb h4).1, (ho wb h5).1, hb.trans h6, (ho pb h4).2.trans h7, (ho wb h5).2.trans h8.1, h8.2⟩

structure Inv (w : World) (G : Gh) : Prop where
  lay : ∀ b, Lay w G b (G b)
  new : ∀ b, w.heap.size ≤ b → G b = .raw

/-- What a call that touches the things of T leaves. -/
structure St (T : Nat → Prop) (B : Nat) (w : World) (G : Gh) (w' : World) (G' : Gh) : Prop where
  inv : Inv w' G'
  le : w.heap.size ≤ w'.heap.size
  os : w'.os = w.os
  tape : w'.tape = w.tape
  output : w'.output = w.output
  raw : ∀ b, b < w.heap.size → G b = .raw → G' b = .raw ∧ w'.heap[b]? = w.heap[b]?
  priv : ∀ b, b < w.heap.size → b < B → G b = .priv → G' b = .priv ∧ w'.heap[b]? = w.heap[b]?
  ent : ∀ b, b < w.heap.size → (G b).isE = true → ¬ T b → G' b = G b
  own : ∀ b o, b < w.heap.size → G b = .owned o → G' b = .owned o

abbrev Step (T : Nat → Prop) (w : World) (G : Gh) (w' : World) (G' : Gh) : Prop := St T w.heap.size w G w' G'

theorem St.refl {T : Nat → Prop} {B : Nat} {w : World} {G : Gh} (h : Inv w G) : St T B w G w G :=
  ⟨h, Nat.le_refl _, rfl, rfl, rfl, fun _ _ h => ⟨h, rfl⟩, fun _ _ _ h => ⟨h, rfl⟩, fun _ _ _ _ => rfl, fun _ _ _ h => h⟩

theorem St.trans {T : Nat → Prop} {B B' : Nat} {a b c : World} {Ga Gb Gc : Gh} (h : St T B a Ga b Gb) (k : St T B' b Gb c Gc) (hB : B ≤ B' ∨ a.heap.size ≤ B') : St T B a Ga c Gc := by
  have hl := h.le
  refine ⟨k.inv, Nat.le_trans h.le k.le, k.os.trans h.os, k.tape.trans h.tape, k.output.trans h.output, ?_, ?_, ?_, ?_⟩
  · intro x hx hr
    have h1 := h.raw x hx hr
    have h2 := k.raw x (by omega) h1.1
    exact ⟨h2.1, h2.2.trans h1.2⟩
  · intro x hx hb hr
    have h1 := h.priv x hx hb hr
    have h2 := k.priv x (by omega) (by omega) h1.1
    exact ⟨h2.1, h2.2.trans h1.2⟩
  · intro x hx he hT
    have h1 := h.ent x hx he hT
    exact (k.ent x (by omega) (by rw [h1]; exact he) hT).trans h1
  · intro x o hx hr
    exact k.own x o (by omega) (h.own x o hx hr)

theorem St.mono {T T' : Nat → Prop} {B B' : Nat} {w w' : World} {G G' : Gh} (h : St T B w G w' G') (hT : ∀ b, T b → T' b) (hB : B' ≤ B) : St T' B' w G w' G' :=
  ⟨h.inv, h.le, h.os, h.tape, h.output, h.raw, fun b h1 h2 => h.priv b h1 (by omega), fun b h1 h2 h3 => h.ent b h1 h2 (fun h4 => h3 (hT _ h4)), h.own⟩

/-- The composition that walks use: a call behind what has been done. -/
theorem St.seq {T T1 T2 : Nat → Prop} {a b c : World} {Ga Gb Gc : Gh} (h : Step T1 a Ga b Gb) (k : Step T2 b Gb c Gc) (h1 : ∀ x, T1 x → T x) (h2 : ∀ x, x < a.heap.size → (Ga x).isE = true → T2 x → T x) : Step T a Ga c Gc := by
  have hl := h.le
  refine ⟨k.inv, Nat.le_trans h.le k.le, k.os.trans h.os, k.tape.trans h.tape, k.output.trans h.output, ?_, ?_, ?_, ?_⟩
  · intro x hx hr
    have e1 := h.raw x hx hr
    have e2 := k.raw x (by omega) e1.1
    exact ⟨e2.1, e2.2.trans e1.2⟩
  · intro x hx hb hr
    have e1 := h.priv x hx hb hr
    have e2 := k.priv x (by omega) (by omega) e1.1
    exact ⟨e2.1, e2.2.trans e1.2⟩
  · intro x hx he hx'
    have e1 := h.ent x hx he (fun h4 => hx' (h1 x h4))
    exact (k.ent x (by omega) (by rw [e1]; exact he) (fun h4 => hx' (h2 x hx he h4))).trans e1
  · intro x o hx hr
    exact k.own x o (by omega) (h.own x o hx hr)
theorem St.seq0 {T : Nat → Prop} {a b c : World} {Ga Gb Gc : Gh} (h : Step (fun _ => False) a Ga b Gb) (k : Step T b Gb c Gc) : Step T a Ga c Gc := h.seq k (fun _ h => h.elim) (fun _ _ _ h => h)
theorem St.seq1 {T : Nat → Prop} {a b c : World} {Ga Gb Gc : Gh} (h : Step T a Ga b Gb) (k : Step (fun _ => False) b Gb c Gc) : Step T a Ga c Gc := h.seq k (fun _ h => h) (fun _ _ _ h => h.elim)
theorem St.seqT {T : Nat → Prop} {a b c : World} {Ga Gb Gc : Gh} (h : Step T a Ga b Gb) (k : Step T b Gb c Gc) : Step T a Ga c Gc := h.seq k (fun _ h => h) (fun _ _ _ h => h)

theorem heap_alloc_lt (w : World) (o : Obj) {b : Nat} (h : b < w.heap.size) : (w.alloc o).heap[b]? = w.heap[b]? := Below.heap_alloc w o b h
theorem heap_alloc_new (w : World) (o : Obj) : (w.alloc o).heap[w.heap.size]? = some o := World.alloc_heap_new w o
theorem heap_setCell_ne (w : World) (a : Addr) (v : Value) {b : Nat} (h : b ≠ a.block) : (w.setCell a v).heap[b]? = w.heap[b]? := Below.heap_setCell w a v b h

theorem lay_lt {w : World} {G : Gh} {b : Nat} (h : Inv w G) (he : (G b).isE = true) : b < w.heap.size := by
  rcases Nat.lt_or_ge b w.heap.size with h1 | h1
  · exact h1
  · rw [h.new b h1] at he; exact absurd he (by simp [Ent.isE])
theorem own_lt {w : World} {G : Gh} {b o : Nat} (h : Inv w G) (he : G b = .owned o) : b < w.heap.size := by
  rcases Nat.lt_or_ge b w.heap.size with h1 | h1
  · exact h1
  · rw [h.new b h1] at he; exact absurd he (by simp)

/-- Whatever is neither a thing's nor owned may be turned. -/
theorem Inv.other {w w' : World} {G : Gh} (h : Inv w G) (hle : w.heap.size ≤ w'.heap.size)
    (hs : ∀ b, b < w.heap.size → (G b).isE = true ∨ (∃ o, G b = .owned o) → w'.heap[b]? = w.heap[b]?) : Inv w' G := by
  refine ⟨fun b => ?_, fun b hb => h.new b (by omega)⟩
  by_cases he : (G b).isE = true
  · refine (h.lay b).congr (hs b (lay_lt h he) (.inl he)) (fun c hc => ⟨hc, hs c (own_lt h hc) (.inr ⟨_, hc⟩)⟩)
  · cases hG : G b <;> simp_all [Ent.isE, Lay]

theorem Inv.alloc {w : World} {G : Gh} (h : Inv w G) (o : Obj) : Inv (w.alloc o) G :=
  h.other (by simp) fun b hb _ => heap_alloc_lt w o hb
theorem Inv.drew {w : World} {G : Gh} (h : Inv w G) : Inv w.drew G := h.other (Nat.le_refl _) fun _ _ _ => rfl
theorem Inv.setRaw {w : World} {G : Gh} (h : Inv w G) {a : Addr} (hr : G a.block = .raw) (v : Value) : Inv (w.setCell a v) G :=
  h.other (by simp) fun b _ he => heap_setCell_ne w a v (fun e => by subst e; rw [hr] at he; simp [Ent.isE] at he)

theorem St.alloc {T : Nat → Prop} {B : Nat} {w w' : World} {G G' : Gh} (h : St T B w G w' G') (o : Obj) : St T B w G (w'.alloc o) G' := by
  have hl := h.le
  refine ⟨h.inv.alloc o, by simp; omega, h.os, h.tape, h.output, ?_, ?_, h.ent, h.own⟩
  · intro x hx hr; have := h.raw x hx hr; exact ⟨this.1, (heap_alloc_lt w' o (by omega)).trans this.2⟩
  · intro x hx hb hr; have := h.priv x hx hb hr; exact ⟨this.1, (heap_alloc_lt w' o (by omega)).trans this.2⟩
theorem St.drew {T : Nat → Prop} {B : Nat} {w w' : World} {G G' : Gh} (h : St T B w G w' G') : St T B w G w'.drew G' :=
  ⟨h.inv.drew, h.le, h.os, h.tape, h.output, h.raw, h.priv, h.ent, h.own⟩
theorem St.setRaw {T : Nat → Prop} {B : Nat} {w w' : World} {G G' : Gh} (h : St T B w G w' G') {a : Addr} (ha : w.heap.size ≤ a.block) (hr : G' a.block = .raw) (v : Value) : St T B w G (w'.setCell a v) G' := by
  refine ⟨h.inv.setRaw hr v, by simp [h.le], h.os, h.tape, h.output, ?_, ?_, h.ent, h.own⟩
  · intro x hx hx'; have := h.raw x hx hx'; exact ⟨this.1, (heap_setCell_ne w' a v (by omega)).trans this.2⟩
  · intro x hx hb hx'; have := h.priv x hx hb hx'; exact ⟨this.1, (heap_setCell_ne w' a v (by omega)).trans this.2⟩

/-- A raw block that lies. -/
structure Raw (w : World) (G : Gh) (b : Nat) (c : Array Value) (t : TypeId) : Prop where
  raw : G b = .raw
  heap : w.heap[b]? = some (.cells c t (0, 0))
theorem Raw.lt {w : World} {G : Gh} {b : Nat} {c : Array Value} {t : TypeId} (h : Raw w G b c t) : b < w.heap.size :=
  (Array.getElem?_eq_some_iff.1 h.heap).1
theorem cell_of {w : World} {b : Nat} {c : Array Value} {t : TypeId} (h : w.heap[b]? = some (.cells c t (0, 0))) (i : Nat) : w.cell? ⟨b, i, none⟩ = c[i]? := by
  simp [World.cell?, h]
theorem free_of {w : World} {b : Nat} {c : Array Value} {t : TypeId} (h : w.heap[b]? = some (.cells c t (0, 0))) (i : Nat) : w.frozen? ⟨b, i, none⟩ = false := by
  simp [World.frozen?, h]
theorem Raw.step {T : Nat → Prop} {B : Nat} {w w' : World} {G G' : Gh} {b : Nat} {c : Array Value} {t : TypeId} (h : Raw w G b c t) (k : St T B w G w' G') : Raw w' G' b c t :=
  ⟨(k.raw b h.lt h.raw).1, (k.raw b h.lt h.raw).2.trans h.heap⟩
theorem Raw.alloc {w : World} {G : Gh} {b : Nat} {c : Array Value} {t : TypeId} (h : Raw w G b c t) (o : Obj) : Raw (w.alloc o) G b c t :=
  ⟨h.raw, (heap_alloc_lt w o h.lt).trans h.heap⟩
theorem Raw.new {w : World} {G : Gh} (h : Inv w G) (c : Array Value) (t : TypeId) : Raw (w.alloc (.cells c t)) G w.heap.size c t :=
  ⟨h.new _ (Nat.le_refl _), heap_alloc_new w _⟩
theorem Raw.drew {w : World} {G : Gh} {b : Nat} {c : Array Value} {t : TypeId} (h : Raw w G b c t) : Raw w.drew G b c t := ⟨h.raw, h.heap⟩
theorem Raw.other {w : World} {G : Gh} {b : Nat} {c : Array Value} {t : TypeId} (h : Raw w G b c t) {a : Addr} (hne : b ≠ a.block) (v : Value) : Raw (w.setCell a v) G b c t :=
  ⟨h.raw, (heap_setCell_ne w a v hne).trans h.heap⟩
theorem heap_setCell {w : World} {b : Nat} {c : Array Value} {t : TypeId} (h : w.heap[b]? = some (.cells c t (0, 0))) (i : Nat) (v : Value) :
    (w.setCell ⟨b, i, none⟩ v).heap[b]? = some (.cells (c.setIfInBounds i v) t (0, 0)) := by
  simp [World.setCell, Array.getElem?_modify, h]
theorem Raw.set {w : World} {G : Gh} {b : Nat} {c : Array Value} {t : TypeId} (h : Raw w G b c t) (i : Nat) (v : Value) : Raw (w.setCell ⟨b, i, none⟩ v) G b (c.setIfInBounds i v) t :=
  ⟨h.raw, heap_setCell h.heap i v⟩
theorem Raw.cell {w : World} {G : Gh} {b : Nat} {c : Array Value} {t : TypeId} (h : Raw w G b c t) (i : Nat) : w.cell? ⟨b, i, none⟩ = c[i]? := cell_of h.heap i
theorem Raw.free {w : World} {G : Gh} {b : Nat} {c : Array Value} {t : TypeId} (h : Raw w G b c t) (i : Nat) : w.frozen? ⟨b, i, none⟩ = false := free_of h.heap i

theorem cell_same {w w' : World} {b : Nat} (h : w'.heap[b]? = w.heap[b]?) (i : Nat) : w'.cell? ⟨b, i, none⟩ = w.cell? ⟨b, i, none⟩ := World.cell?_of_block (a := ⟨b, i, none⟩) h
theorem free_same {w w' : World} {b : Nat} (h : w'.heap[b]? = w.heap[b]?) (i : Nat) : w'.frozen? ⟨b, i, none⟩ = w.frozen? ⟨b, i, none⟩ := World.frozen?_of_block (a := ⟨b, i, none⟩) h

/-- One thing is turned (its own blocks, and new ones): a step. -/
theorem St.one {w w' : World} {G : Gh} {b : Nat} {e : Ent} (h : Inv w G) (he : (G b).isE = true) (qs : Nat → Bool)
    (hle : w.heap.size ≤ w'.heap.size) (hos : w'.os = w.os) (htape : w'.tape = w.tape) (hout : w'.output = w.output)
    (hqs : ∀ c, qs c = true → w.heap.size ≤ c ∧ c < w'.heap.size)
    (hsame : ∀ c, c < w.heap.size → c ≠ b → G c ≠ .owned b → w'.heap[c]? = w.heap[c]?)
    (hlay : Lay w' (fun c => if c = b then e else if qs c = true then .owned b else G c) b e) :
    Step (fun c => c = b) w G w' (fun c => if c = b then e else if qs c = true then .owned b else G c) := by
  have hb := lay_lt h he
  have hnq : ∀ c, c < w.heap.size → qs c = false := fun c hc => by
    cases hq : qs c with
    | false => rfl
    | true => have := hqs c hq; omega
  have hold : ∀ c, c < w.heap.size → c ≠ b → (if c = b then e else if qs c = true then Ent.owned b else G c) = G c := fun c hc hne => by
    simp [hne, hnq c hc]
  refine ⟨⟨fun c => ?_, fun c hc => ?_⟩, hle, hos, htape, hout, ?_, ?_, ?_, ?_⟩
  · by_cases hcb : c = b
    · subst hcb; simpa using hlay
    · simp only [hcb, if_false]
      by_cases hq : qs c = true
      · simp [hq, Lay]
      · simp only [hq]
        by_cases hec : (G c).isE = true
        · have hc := lay_lt h hec
          refine (h.lay c).congr (hsame c hc hcb (fun e1 => by rw [e1] at hec; simp [Ent.isE] at hec)) (fun d hd => ?_)
          have hd' := own_lt h hd
          have hdb : d ≠ b := fun e1 => by subst e1; rw [hd] at he; simp [Ent.isE] at he
          refine ⟨(hold d hd' hdb).trans hd, hsame d hd' hdb (fun e1 => ?_)⟩
          rw [hd] at e1; cases e1; exact hcb rfl
        · cases hG : G c <;> simp_all [Ent.isE, Lay]
  · have hcb : c ≠ b := by omega
    have hq : qs c = false := by
      cases hq : qs c with
      | false => rfl
      | true => have := hqs c hq; omega
    simp only [hcb, if_false, hq]
    exact h.new c (by omega)
  · intro c hc hr
    have hcb : c ≠ b := fun e1 => by subst e1; rw [hr] at he; simp [Ent.isE] at he
    exact ⟨(hold c hc hcb).trans hr, hsame c hc hcb (by rw [hr]; simp)⟩
  · intro c hc _ hr
    have hcb : c ≠ b := fun e1 => by subst e1; rw [hr] at he; simp [Ent.isE] at he
    exact ⟨(hold c hc hcb).trans hr, hsame c hc hcb (by rw [hr]; simp)⟩
  · intro c hc _ hne
    exact hold c hc hne
  · intro c o hc hr
    have hcb : c ≠ b := fun e1 => by subst e1; rw [hr] at he; simp [Ent.isE] at he
    exact (hold c hc hcb).trans hr

/-- A raw block becomes a thing (with new blocks of its own). -/
theorem St.make {w0 w : World} {G0 G : Gh} {T : Nat → Prop} {B : Nat} (h : St T B w0 G0 w G) {b : Nat} {e : Ent} (hb : w0.heap.size ≤ b) (hlt : b < w.heap.size) (hr : G b = .raw) (qs : Nat → Bool)
    (hqs : ∀ c, qs c = true → w0.heap.size ≤ c ∧ c < w.heap.size ∧ c ≠ b ∧ G c = .raw)
    (hlay : Lay w (fun c => if c = b then e else if qs c = true then .owned b else G c) b e) :
    St T B w0 G0 w (fun c => if c = b then e else if qs c = true then .owned b else G c) := by
  have hold : ∀ c, c < w0.heap.size → (if c = b then e else if qs c = true then Ent.owned b else G c) = G c := fun c hc => by
    have hcb : c ≠ b := by omega
    have hq : qs c = false := by
      cases hq : qs c with
      | false => rfl
      | true => have := hqs c hq; omega
    simp [hcb, hq]
  refine ⟨⟨fun c => ?_, fun c hc => ?_⟩, h.le, h.os, h.tape, h.output, ?_, ?_, ?_, ?_⟩
  · by_cases hcb : c = b
    · subst hcb; simpa using hlay
    · simp only [hcb, if_false]
      by_cases hq : qs c = true
      · simp [hq, Lay]
      · simp only [hq]
        refine (h.inv.lay c).congr rfl (fun d hd => ⟨?_, rfl⟩)
        have hdb : d ≠ b := fun e1 => by subst e1; rw [hd] at hr; cases hr
        have hqd : qs d ≠ true := fun e1 => by have := (hqs d e1).2.2.2; rw [hd] at this; cases this
        simpa [hdb, hqd] using hd
  · have hcb : c ≠ b := by omega
    have hq : qs c = false := by
      cases hq : qs c with
      | false => rfl
      | true => have := hqs c hq; omega
    simp only [hcb, if_false, hq]
    exact h.inv.new c hc
  · intro c hc hx; exact ⟨(hold c hc).trans (h.raw c hc hx).1, (h.raw c hc hx).2⟩
  · intro c hc hB hx; exact ⟨(hold c hc).trans (h.priv c hc hB hx).1, (h.priv c hc hB hx).2⟩
  · intro c hc h1 h2; exact (hold c hc).trans (h.ent c hc h1 h2)
  · intro c o hc h1; exact (hold c hc).trans (h.own c o hc h1)

end Go.Hw
