/- The atomics of bits.Set; Has, Put, Drop. -/
import Derived.Test.YtfcnjhgfaibmnaaS3
namespace Go.Hw
open Go.RowKit Go.Proofs

theorem run_call_bits {P : Program} {f : FuncId} {fn : Func} (hf : P.funcs[f]? = some fn) (hname : (fn.name == "runtime.NumGoroutine") = false) (hb : fn.body.isNone = true) (hn : Extern.findNext fn = none) (op : BinOp) (k : IntKind)
    (he : Extern.find fn = some (Extern.Atomic.update (Op.intBits op) k false)) {a : Addr} {x y s : Int} {w : World} (hc : w.cell? a = some (.int k x)) (hz : w.frozen? a = false)
    (hs : (Op.intBits op k x y).run P w = .ok (.int k s) w) :
    (callFunc f #[.pointer (some a), .int k y]).run P w = .ok (.value (.int k x)) (w.setCell a (.int k s)) := by
  rw [run_callFunc_extern hf hname hb hn he]
  change (Sem.run P (do
    let a' ← asAddr (.pointer (some a))
    let old ← Extern.Atomic.read (.int k) a'
    let new ← Op.intBits op k (← asInt old) (← asInt (.int k y))
    store a' new .atomic
    pure (if false = true then new else old)) w).andThen _ = _
  simp [Extern.Atomic.read, asAddr, asInt, asIntOf, hc, hz, hs, run_store P w a (.int k s) .atomic rfl, Result.andThen]

theorem u64_load (a : Addr) (x : Int) (w : World) (hc : w.cell? ⟨a.block, a.off, none⟩ = some (.int .u64 x)) (ha : a.spot = none) :
    Calls Try.prog 71 #[.pointer (some a)] w fun e w' => e = .returned (.int .u64 x) ∧ w' = w := by
  obtain ⟨b, o, s⟩ := a
  obtain rfl : s = none := ha
  have hl := run_call_load (P := Try.prog) Try.func93 (by kernel_rfl) (by kernel_rfl) (by kernel_rfl) .u64 (by kernel_rfl) hc
  go_enter Try.func71, Try.ntmps71
  go_wp2
  go_ret
  exact ⟨rfl, rfl⟩

theorem run_or (x y : Nat) (hx : x < 18446744073709551616) (hy : y < 18446744073709551616) (w : World) : (Op.intBits .or .u64 (x : Int) (y : Int)).run Try.prog w = .ok (.int .u64 ((x ||| y : Nat) : Int)) w := by
  rw [← bits_or_u64_nat x y hx hy]; rfl
theorem run_and (x y : Nat) (hx : x < 18446744073709551616) (hy : y < 18446744073709551616) (w : World) : (Op.intBits .and .u64 (x : Int) (y : Int)).run Try.prog w = .ok (.int .u64 ((x &&& y : Nat) : Int)) w := by
  rw [← bits_and_u64_nat x y hx hy]; rfl

theorem u64_or (b o x y : Nat) (hx : x < 18446744073709551616) (hy : y < 18446744073709551616) (w : World) (hc : w.cell? ⟨b, o, none⟩ = some (.int .u64 x)) (hf : w.frozen? ⟨b, o, none⟩ = false) :
    Calls Try.prog 72 #[.pointer (some ⟨b, o, none⟩), .int .u64 y] w fun e w' => e = .returned (.int .u64 x) ∧ w' = w.setCell ⟨b, o, none⟩ (.int .u64 ((x ||| y : Nat) : Int)) := by
  have hl := run_call_bits (P := Try.prog) Try.func94 (by kernel_rfl) (by kernel_rfl) (by kernel_rfl) .or .u64 (by kernel_rfl) hc hf (run_or x y hx hy w)
  clear hc hf
  go_enter Try.func72, Try.ntmps72
  go_wp2
  go_ret
  exact ⟨rfl, rfl⟩

theorem u64_and (b o x y : Nat) (hx : x < 18446744073709551616) (hy : y < 18446744073709551616) (w : World) (hc : w.cell? ⟨b, o, none⟩ = some (.int .u64 x)) (hf : w.frozen? ⟨b, o, none⟩ = false) :
    Calls Try.prog 87 #[.pointer (some ⟨b, o, none⟩), .int .u64 y] w fun e w' => e = .returned (.int .u64 x) ∧ w' = w.setCell ⟨b, o, none⟩ (.int .u64 ((x &&& y : Nat) : Int)) := by
  have hl := run_call_bits (P := Try.prog) Try.func100 (by kernel_rfl) (by kernel_rfl) (by kernel_rfl) .and .u64 (by kernel_rfl) hc hf (run_and x y hx hy w)
  clear hc hf
  go_enter Try.func87, Try.ntmps87
  go_wp2
  go_ret
  exact ⟨rfl, rfl⟩

theorem u64_store (b o : Nat) (x y : Int) (w : World) (hc : w.cell? ⟨b, o, none⟩ = some (.int .u64 x)) (hf : w.frozen? ⟨b, o, none⟩ = false) :
    Calls Try.prog 86 #[.pointer (some ⟨b, o, none⟩), .int .u64 y] w fun e w' => e = .returned (.tuple #[]) ∧ w' = w.setCell ⟨b, o, none⟩ (.int .u64 y) := by
  have hl := run_call_store (P := Try.prog) Try.func99 (by kernel_rfl) (by kernel_rfl) (by kernel_rfl) (by kernel_rfl) (k := .u64) (y := y) hc hf
  clear hc hf
  go_enter Try.func86, Try.ntmps86
  go_wp2
  go_end0
  exact ⟨rfl, rfl⟩

/-! ### bits of words -/
theorem pow_pos (k : Nat) : 0 < pw k := Nat.two_pow_pos k
theorem and_pow (x j : Nat) : (x &&& pw j) = if x.testBit j then pw j else 0 := by
  unfold pw
  apply Nat.eq_of_testBit_eq
  intro k
  rw [Nat.testBit_and, Nat.testBit_two_pow]
  by_cases h : j = k
  · subst h; cases hx : x.testBit j <;> simp
  · cases hx : x.testBit j <;> simp [h, Nat.testBit_two_pow]

theorem bit_put (ws : List Nat) (i k : Nat) (hi : i / 64 < ws.length) :
    ((ws.set (i / 64) (ws.getD (i / 64) 0 ||| pw (i % 64))).getD (k / 64) 0).testBit (k % 64) = if k = i then true else (ws.getD (k / 64) 0).testBit (k % 64) := by
  by_cases hq : k / 64 = i / 64
  · have e : (ws.set (i / 64) (ws.getD (i / 64) 0 ||| pw (i % 64))).getD (k / 64) 0 = ws.getD (i / 64) 0 ||| pw (i % 64) := by
      simp [List.getD, hq, hi]
    rw [e, Nat.testBit_or, pw, Nat.testBit_two_pow]
    by_cases hk : k = i
    · subst hk; simp
    · have : ¬ (i % 64 = k % 64) := fun h => hk (by omega)
      simp [hk, this, hq]
  · have e : (ws.set (i / 64) (ws.getD (i / 64) 0 ||| pw (i % 64))).getD (k / 64) 0 = ws.getD (k / 64) 0 := by
      simp [List.getD, List.getElem?_set_ne (fun h => hq h.symm)]
    rw [e]
    have : k ≠ i := fun h => hq (by rw [h])
    simp [this]

theorem testBit_compl (j k : Nat) (hj : j < 64) (hk : k < 64) : (18446744073709551615 - pw j).testBit k = decide (k ≠ j) := by
  have h := Nat.testBit_two_pow_sub_succ (x := 2 ^ j) (n := 64) (pow_lt64 j hj) k
  have e : 2 ^ 64 - (2 ^ j + 1) = 18446744073709551615 - 2 ^ j := by
    rw [show (2 : Nat) ^ 64 = 18446744073709551616 from by decide]; omega
  rw [e] at h
  unfold pw
  rw [h, Nat.testBit_two_pow]
  simp [hk, eq_comm]

theorem bit_drop (ws : List Nat) (i k : Nat) (hi : i / 64 < ws.length) :
    ((ws.set (i / 64) (ws.getD (i / 64) 0 &&& (18446744073709551615 - pw (i % 64)))).getD (k / 64) 0).testBit (k % 64) = if k = i then false else (ws.getD (k / 64) 0).testBit (k % 64) := by
  by_cases hq : k / 64 = i / 64
  · have e : (ws.set (i / 64) (ws.getD (i / 64) 0 &&& (18446744073709551615 - pw (i % 64)))).getD (k / 64) 0 = ws.getD (i / 64) 0 &&& (18446744073709551615 - pw (i % 64)) := by
      simp [List.getD, hq, hi]
    rw [e, Nat.testBit_and, testBit_compl _ _ (by omega) (by omega)]
    by_cases hk : k = i
    · subst hk; simp
    · have : ¬ (k % 64 = i % 64) := fun h => hk (by omega)
      simp [hk, this, hq]
  · have e : (ws.set (i / 64) (ws.getD (i / 64) 0 &&& (18446744073709551615 - pw (i % 64)))).getD (k / 64) 0 = ws.getD (k / 64) 0 := by
      simp [List.getD, List.getElem?_set_ne (fun h => hq h.symm)]
    rw [e]
    have : k ≠ i := fun h => hq (by rw [h])
    simp [this]

/-! ### Has, Put, Drop -/
theorem LaidAt.cell {w : World} {G : Gh} {b n : Nat} {S : Nat → Bool} {q : Nat} {ws : List Nat} (h : LaidAt w G b n S q ws) (j : Nat) (hj : j < ws.length) :
    w.cell? ⟨q, j, none⟩ = some (.int .u64 (ws.getD j 0)) ∧ w.frozen? ⟨q, j, none⟩ = false := by
  refine ⟨(cell_of h.row j).trans ?_, free_of h.row j⟩
  simp [List.getD, hj]
theorem getD_lt {ws : List Nat} (h : ∀ x ∈ ws, x < 18446744073709551616) (j : Nat) : ws.getD j 0 < 18446744073709551616 := by
  rcases Nat.lt_or_ge j ws.length with h1 | h1
  · have : ws.getD j 0 = ws[j] := by simp [List.getD, h1]
    rw [this]; exact h _ (List.getElem_mem _)
  · have : ws.getD j 0 = 0 := by simp [List.getD, h1]
    omega

theorem LaidAt.store {w : World} {G : Gh} {b n : Nat} {S S' : Nat → Bool} {q : Nat} {ws : List Nat} (hI : Inv w G) (h : LaidAt w G b n S q ws) (j v : Nat) (hv : v < 18446744073709551616)
    (hbit : ∀ k, S' k = ((ws.set j v).getD (k / 64) 0).testBit (k % 64)) (hbelow : ∀ k, S' k = true → k < n) :
    ∃ G', LaidAt (w.setCell ⟨q, j, none⟩ (.int .u64 v)) G' b n S' q (ws.set j v) ∧ Step (fun c => c = b) w G (w.setCell ⟨q, j, none⟩ (.int .u64 v)) G' := by
  have hqb : q ≠ b := fun e => by have := h.own; rw [e, h.ghost] at this; cases this
  have hL : LaidAt (w.setCell ⟨q, j, none⟩ (.int .u64 v)) (fun c => if c = b then .set n S' else if (fun _ => false) c = true then .owned b else G c) b n S' q (ws.set j v) := by
    refine ⟨by simp, h.small, by simpa using h.len, ?_, hbit, hbelow, by simp [hqb, h.own], ?_, ?_⟩
    · intro x hx
      rcases List.mem_or_eq_of_mem_set hx with hx | hx
      · exact h.word x hx
      · rw [hx]; exact hv
    · rw [heap_setCell_ne _ _ _ (fun e => hqb e.symm), h.head]; simp
    · rw [heap_setCell h.row]; simp [List.map_set]
  exact ⟨_, hL, St.one (e := .set n S') hI (by rw [h.ghost]; rfl) (fun _ => false) (by simp) rfl rfl rfl (fun c hc => by simp at hc) (fun c _ h2 h3 => heap_setCell_ne _ _ _ (fun e => h3 (by rw [e]; exact h.own))) hL.laySet⟩

def HasPost (S : Nat → Bool) (i : Int) (w : World) (G : Gh) (e : Ending) (w' : World) : Prop :=
  e = .returned (.bool (decide (0 ≤ i) && S i.toNat)) ∧ ∃ G', Step (fun _ => False) w G w' G'

theorem set_out {w : World} {G : Gh} {b n : Nat} {S : Nat → Bool} (hI : Inv w G) (hG : G b = .set n S) {i : Int} (hi : i < 0 ∨ n ≤ i) : (decide (0 ≤ i) && S i.toNat) = false := by
  have hL := hI.lay b
  rw [hG] at hL
  obtain ⟨hn0, ws, -, -, -, hb, -⟩ := hL
  cases h : S i.toNat with
  | false => simp
  | true => have := hb _ h; simp; omega

set_option maxRecDepth 100000 in
theorem has_any (b n : Nat) (i : Int) (S : Nat → Bool) (w : World) (G : Gh) (hI : Inv w G) (hG : G b = .set n S) :
    Calls Try.prog 46 #[.pointer (some ⟨b, 0, none⟩), .int .i64 i] w (HasPost S i w G) := by
  have HG := Lib.hid hG
  by_cases hi : i < 0 ∨ n ≤ i
  · have HS := Lib.hid (set_out hI hG hi)
    clear hG
    go_enter Try.func46, Try.ntmps46
    go_wp2_with fail
    refine (place_out b n i S w G hI HG.out hi).mono ?_
    rintro e w1 ⟨rfl, rfl⟩
    go_wp2
    go_ret
    exact ⟨by rw [HS.out]; rfl, G, St.refl hI⟩
  · obtain ⟨j, rfl⟩ : ∃ j : Nat, i = j := ⟨i.toNat, by omega⟩
    have hj : j < n := by omega
    clear hG hi
    go_enter Try.func46, Try.ntmps46
    go_wp2_with fail
    refine (place_in b n j S w G hI HG.out hj).mono ?_
    rintro e w1 ⟨q, ws, G1, rfl, hA, hS⟩
    have hlen : j / 64 < ws.length := by rw [hA.len]; omega
    obtain ⟨hc, hf⟩ := hA.cell (j / 64) hlen
    have hx := getD_lt hA.word (j / 64)
    have hb := hA.bit j
    have hand := and_pow (ws.getD (j / 64) 0) (j % 64)
    have hbits := bits_and_u64_nat (ws.getD (j / 64) 0) (pw (j % 64)) hx (pow_lt64 _ (by omega))
    have Hb := Lib.hid hb
    have HA := Lib.hid hA
    have HS := Lib.hid hS
    have Hand := Lib.hid hand
    clear hA hS hb hand
    generalize ws.getD (j / 64) 0 = x at *
    go_wp2_with (go_at_call 71; refine (u64_load ⟨q, j / 64, none⟩ x _ hc rfl).mono ?_; rintro e w2 ⟨rfl, rfl⟩)
    go_wp2
    go_ret
    refine ⟨ret_bool ?_, G1, HS.out⟩
    rw [Hand.out, Int.toNat_natCast, Hb.out]
    have := pow_pos (j % 64)
    cases x.testBit (j % 64) <;> simp
    omega

def PutPost (b n : Nat) (S S' : Nat → Bool) (r : Bool) (w : World) (G : Gh) (e : Ending) (w' : World) : Prop :=
  e = .returned (.bool r) ∧ ∃ G', G' b = .set n S' ∧ Step (fun c => c = b) w G w' G'

set_option maxRecDepth 100000 in
theorem put_any (b n : Nat) (i : Int) (S : Nat → Bool) (w : World) (G : Gh) (hI : Inv w G) (hG : G b = .set n S) :
    Calls Try.prog 47 #[.pointer (some ⟨b, 0, none⟩), .int .i64 i] w
      (PutPost b n S (fun k => if (k : Int) = i ∧ k < n then true else S k) (decide (0 ≤ i ∧ i < n) && !S i.toNat) w G) := by
  have HG := Lib.hid hG
  by_cases hi : i < 0 ∨ n ≤ i
  · have h1 : decide (0 ≤ i ∧ i < n) = false := by simp; omega
    have h2 : (fun k : Nat => if (k : Int) = i ∧ k < n then true else S k) = S := by
      funext k; rw [if_neg (by omega)]
    rw [h1, h2]
    clear hG h1 h2
    go_enter Try.func47, Try.ntmps47
    go_wp2_with fail
    refine (place_out b n i S w G hI HG.out hi).mono ?_
    rintro e w1 ⟨rfl, rfl⟩
    go_wp2
    go_ret
    exact ⟨by simp, G, HG.out, St.refl hI⟩
  · obtain ⟨j, rfl⟩ : ∃ j : Nat, i = j := ⟨i.toNat, by omega⟩
    have hj : j < n := by omega
    have h1 : decide (0 ≤ (j : Int) ∧ (j : Int) < n) = true := by simp; omega
    have h2 : (fun k : Nat => if (k : Int) = (j : Int) ∧ k < n then true else S k) = (fun k => if k = j then true else S k) := by
      funext k; by_cases hk : k = j
      · subst hk; simp [hj]
      · rw [if_neg (by omega), if_neg hk]
    rw [h1, h2, Int.toNat_natCast, Bool.true_and]
    clear hG hi h1 h2
    go_enter Try.func47, Try.ntmps47
    go_wp2_with fail
    refine (place_in b n j S w G hI HG.out hj).mono ?_
    rintro e w1 ⟨q, ws, G1, rfl, hA, hS⟩
    have hlen : j / 64 < ws.length := by rw [hA.len]; omega
    obtain ⟨hc, hf⟩ := hA.cell (j / 64) hlen
    have hx := getD_lt hA.word (j / 64)
    have hp := pow_lt64 (j % 64) (by omega)
    have hor : ws.getD (j / 64) 0 ||| pw (j % 64) < 18446744073709551616 := Nat.or_lt_two_pow (n := 64) hx hp
    obtain ⟨G2, hA2, hS2⟩ := hA.store hS.inv (S' := fun k => if k = j then true else S k) (j / 64) (ws.getD (j / 64) 0 ||| pw (j % 64)) hor (fun k => by rw [bit_put ws j k hlen, ← hA.bit k]) (fun k hk => by
      by_cases h : k = j
      · omega
      · simp [h] at hk; exact hA.below k hk)
    have hb := hA.bit j
    have hand := and_pow (ws.getD (j / 64) 0) (j % 64)
    have hbits := bits_and_u64_nat (ws.getD (j / 64) 0) (pw (j % 64)) hx hp
    have Hb := Lib.hid hb
    have HA2 := Lib.hid hA2.ghost
    have HS := Lib.hid (hS.seq0 hS2)
    have Hand := Lib.hid hand
    clear hA hA2 hS2 hS hb hand
    generalize ws.getD (j / 64) 0 = x at *
    go_wp2_with (go_at_call 72; refine (u64_or q (j / 64) x (pw (j % 64)) hx hp _ hc hf).mono ?_; rintro e w2 ⟨rfl, rfl⟩)
    go_wp2
    go_ret
    refine ⟨ret_bool ?_, G2, HA2.out, HS.out⟩
    rw [Hand.out, Hb.out]
    have := pow_pos (j % 64)
    cases x.testBit (j % 64) <;> simp
    omega

def bnot (x : Nat) : Nat := 18446744073709551615 - x
theorem bits_not (x : Nat) (hx : x < 18446744073709551616) : bits .xor .u64 IntKind.u64.max (x : Int) = ((bnot x : Nat) : Int) := by
  have e : 18446744073709551615 ^^^ x = bnot x := by
    apply Nat.eq_of_testBit_eq
    intro k
    have h := Nat.testBit_two_pow_sub_succ (x := x) (n := 64) hx k
    have h1 := Nat.testBit_two_pow_sub_succ (x := 0) (n := 64) (by decide) k
    have h2 : 2 ^ 64 - (x + 1) = bnot x := by
      unfold bnot
      rw [show (2 : Nat) ^ 64 = 18446744073709551616 from by decide]; omega
    rw [h2] at h
    rw [show 2 ^ 64 - (0 + 1) = 18446744073709551615 from by decide] at h1
    rw [Nat.testBit_xor, h, h1]
    by_cases hk : k < 64
    · simp [hk]
    · have : x.testBit k = false := Nat.testBit_lt_two_pow (Nat.lt_of_lt_of_le hx (Nat.pow_le_pow_right (show 2 > 0 by omega) (show 64 ≤ k by omega)))
      simp [hk, this]
  rw [← e, ← bits_xor_u64_nat 18446744073709551615 x (by decide) hx]
  rfl

set_option maxRecDepth 100000 in
theorem drop_any (b n : Nat) (i : Int) (S : Nat → Bool) (w : World) (G : Gh) (hI : Inv w G) (hG : G b = .set n S) :
    Calls Try.prog 60 #[.pointer (some ⟨b, 0, none⟩), .int .i64 i] w
      (PutPost b n S (fun k => if (k : Int) = i then false else S k) (decide (0 ≤ i) && S i.toNat) w G) := by
  have HG := Lib.hid hG
  by_cases hi : i < 0 ∨ n ≤ i
  · have h1 := set_out hI hG hi
    have h2 : (fun k : Nat => if (k : Int) = i then false else S k) = S := by
      funext k
      by_cases hk : (k : Int) = i
      · subst hk; rw [if_pos rfl]; simpa using h1.symm
      · rw [if_neg hk]
    rw [h1, h2]
    clear hG h1 h2
    go_enter Try.func60, Try.ntmps60
    go_wp2_with fail
    refine (place_out b n i S w G hI HG.out hi).mono ?_
    rintro e w1 ⟨rfl, rfl⟩
    go_wp2
    go_ret
    exact ⟨rfl, G, HG.out, St.refl hI⟩
  · obtain ⟨j, rfl⟩ : ∃ j : Nat, i = j := ⟨i.toNat, by omega⟩
    have hj : j < n := by omega
    have h2 : (fun k : Nat => if (k : Int) = (j : Int) then false else S k) = (fun k => if k = j then false else S k) := by
      funext k; by_cases hk : k = j
      · subst hk; simp
      · rw [if_neg (by omega), if_neg hk]
    rw [h2, Int.toNat_natCast, show decide (0 ≤ (j : Int)) = true by simp, Bool.true_and]
    clear hG hi h2
    have hnt := bits_not (pw (j % 64)) (pow_lt64 _ (by omega))
    have hnl : bnot (pw (j % 64)) < 18446744073709551616 := by unfold bnot; omega
    go_enter Try.func60, Try.ntmps60
    go_wp2_with fail
    refine (place_in b n j S w G hI HG.out hj).mono ?_
    rintro e w1 ⟨q, ws, G1, rfl, hA, hS⟩
    have hlen : j / 64 < ws.length := by rw [hA.len]; omega
    obtain ⟨hc, hf⟩ := hA.cell (j / 64) hlen
    have hx := getD_lt hA.word (j / 64)
    have hp := pow_lt64 (j % 64) (by omega)
    have hor : ws.getD (j / 64) 0 &&& bnot (pw (j % 64)) < 18446744073709551616 := Nat.and_lt_two_pow (n := 64) _ hnl
    obtain ⟨G2, hA2, hS2⟩ := hA.store hS.inv (S' := fun k => if k = j then false else S k) (j / 64) (ws.getD (j / 64) 0 &&& bnot (pw (j % 64))) hor (fun k => by unfold bnot; rw [bit_drop ws j k hlen, ← hA.bit k]) (fun k hk => by
      by_cases h : k = j
      · omega
      · simp [h] at hk; exact hA.below k hk)
    have hb := hA.bit j
    have hand := and_pow (ws.getD (j / 64) 0) (j % 64)
    have hbits := bits_and_u64_nat (ws.getD (j / 64) 0) (pw (j % 64)) hx hp
    have Hb := Lib.hid hb
    have HA2 := Lib.hid hA2.ghost
    have HS := Lib.hid (hS.seq0 hS2)
    have Hand := Lib.hid hand
    clear hA hA2 hS2 hS hb hand
    generalize ws.getD (j / 64) 0 = x at *
    go_wp2_with fail
    refine (u64_and q (j / 64) x (bnot (pw (j % 64))) hx hnl _ hc hf).mono ?_
    rintro e w2 ⟨rfl, rfl⟩
    go_wp2
    go_ret
    refine ⟨ret_bool ?_, G2, HA2.out, HS.out⟩
    rw [Hand.out, Hb.out]
    have := pow_pos (j % 64)
    cases x.testBit (j % 64) <;> simp
    omega
end Go.Hw
