/-
  HeapReuses: the plain facts, the contracts at its heaps.
-/
import Derived.Test.YtdnhjkmcogbaoaaHeapI
import Derived.Laws.Bits128
namespace Go.Proofs.Ytdnhjkmcogbaoaa
open Go.RowKit
theorem i64_and16 (n : Int) : bits .and .i64 n 65535 = n % 65536 := by
  have h1 : (BitVec.ofInt 64 65535).toNat = 2 ^ 16 - 1 := by decide
  have key : (BitVec.ofInt 64 n &&& BitVec.ofInt 64 65535).toNat = (n % ((2 ^ 64 : Nat) : Int)).toNat % 2 ^ 16 := by
    rw [BitVec.toNat_and, BitVec.toNat_ofInt, h1, Nat.and_two_pow_sub_one_eq_mod]
  show IntKind.i64.wrap ((BitVec.ofInt 64 n &&& BitVec.ofInt 64 65535).toNat : Nat) = n % 65536
  rw [key, IntKind.wrap_i64]
  omega
theorem i64_and3 (n : Int) : bits .and .i64 n 7 = n % 8 := by
  have h1 : (BitVec.ofInt 64 7).toNat = 2 ^ 3 - 1 := by decide
  have key : (BitVec.ofInt 64 n &&& BitVec.ofInt 64 7).toNat = (n % ((2 ^ 64 : Nat) : Int)).toNat % 2 ^ 3 := by
    rw [BitVec.toNat_and, BitVec.toNat_ofInt, h1, Nat.and_two_pow_sub_one_eq_mod]
  show IntKind.i64.wrap ((BitVec.ofInt 64 n &&& BitVec.ofInt 64 7).toNat : Nat) = n % 8
  rw [key, IntKind.wrap_i64]
  omega
theorem u64_and12 (n : Nat) (hn : n < 18446744073709551616) : bits .and .u64 (n : Int) 4095 = ((n % 4096 : Nat) : Int) := by
  have := u64_and_nat n 4095 hn (by decide)
  rw [show (4095 : Nat) = 2 ^ 12 - 1 from by decide, Nat.and_two_pow_sub_one_eq_mod] at this
  exact this
/-- The heap's numbers in HeapReuses. -/
structure Nums (n N p q r : Nat) : Prop where
  n1 : 1 ≤ n
  n2 : n ≤ 4096
  hN : up n 4 = N
  hp : p = 65536 + N
  hq : q = p + N
  hr : r = q + N
section
variable {n N p q r : Nat}
theorem Nums.le (h : Nums n N p q r) : 16 ≤ N ∧ N ≤ 4096 ∧ N % 16 = 0 := by
  obtain ⟨a1, a2, a3⟩ := up_spec n 4
  rw [h.hN] at a1 a2 a3
  simp only [show (2 : Nat) ^ 4 = 16 from rfl] at a2 a3
  have := h.n1; have := h.n2
  omega
theorem up16 {x : Nat} (h : x % 16 = 0) : up x 4 = x := up_zero (by simpa using h)
theorem free_of {L : List Blk} {b u : Nat} (h : ∀ k ∈ L, ¬ (k.b < u ∧ b < k.t)) : L.find? (hitB b u) = none := by
  rw [List.find?_eq_none]
  intro k hk
  have := h k hk
  simp only [hitB, decide_eq_true_eq]; exact this
abbrev hv (s : Value) : Value := .agg #[.int .u64 65536, .int .u64 131072, s]
def bA (p : Nat) : Blk := ⟨65536, p, false, 0⟩
def bA' (p : Nat) (x : Int) : Blk := ⟨65536, p, true, x⟩
def bB (p q : Nat) : Blk := ⟨p, q, false, 0⟩
theorem take1 (h : Nums n N p q r) (s : Value) (w : World) (hs : RowB w s []) :
    Calls Try.prog 41 #[hv s, .int .u64 n] w fun e w' => (∃ s', e = .returned (.tuple #[hv s', .agg #[.int .u64 65536, .int .u64 (p : Int)], .int .i64 0]) ∧ RowB w' s' [bA p]) ∧ Below w.heap.size w w' := by
  obtain ⟨l1, l2, l3⟩ := h.le
  have hlow : Low [] N 4 131072 (up 65536 4) 65536 (65536 + N) true := by
    rw [up16 (by decide)]
    have := Low.free (L := []) (N := N) (x := 4) (T := 131072) (b := 65536) (by decide) (free_of (by simp))
    rwa [decide_eq_true (by omega)] at this
  have := take_any 65536 131072 n N s [] w hs (by decide) (by decide) (by decide) h.n1 h.n2 h.hN (by simp) 65536 hlow
  have e : ((65536 : Nat) : Int) + (N : Int) = (p : Int) := by have := h.hp; omega
  rw [e, ← h.hp] at this
  exact this
theorem take2 (h : Nums n N p q r) (s : Value) (w : World) (hs : RowB w s [bA p]) :
    Calls Try.prog 41 #[hv s, .int .u64 n] w fun e w' => (∃ s', e = .returned (.tuple #[hv s', .agg #[.int .u64 (p : Int), .int .u64 (q : Int)], .int .i64 0]) ∧ RowB w' s' [bA p, bB p q]) ∧ Below w.heap.size w w' := by
  obtain ⟨l1, l2, l3⟩ := h.le
  have hp := h.hp
  have hq := h.hq
  have hlow : Low [bA p] N 4 131072 (up 65536 4) p (p + N) true := by
    rw [up16 (by decide)]
    refine Low.hit (bA p) (by decide) ?_ ?_
    · simp [hitB, bA]; omega
    · rw [show (bA p).t = p from rfl, up16 (by omega)]
      have := Low.free (L := [bA p]) (N := N) (x := 4) (T := 131072) (b := p) (by omega) (free_of (by simp [bA]))
      rwa [decide_eq_true (by omega)] at this
  have := take_any 65536 131072 n N s [bA p] w hs (by simp) (by decide) (by decide) h.n1 h.n2 h.hN (by simp [bA]; omega) p hlow
  have e : (p : Int) + (N : Int) = (q : Int) := by omega
  have e2 : ([bA p].takeWhile (fun k => decide (k.b < p)) ++ ⟨p, p + N, false, 0⟩ :: [bA p].dropWhile (fun k => decide (k.b < p))) = [bA p, bB p q] := by
    have : decide ((bA p).b < p) = true := decide_eq_true (by show 65536 < p; omega)
    simp [List.takeWhile, List.dropWhile, this, bB, hq]
  rw [e, e2] at this
  exact this
theorem take3 (h : Nums n N p q r) (x : Int) (s : Value) (w : World) (hs : RowB w s [bA' p x, bB p q]) :
    Calls Try.prog 41 #[hv s, .int .u64 n] w fun e w' => (∃ s', e = .returned (.tuple #[hv s', .agg #[.int .u64 (q : Int), .int .u64 (r : Int)], .int .i64 0]) ∧ RowB w' s' [bA' p x, bB p q, bB q r]) ∧ Below w.heap.size w w' := by
  obtain ⟨l1, l2, l3⟩ := h.le
  have hp := h.hp
  have hq := h.hq
  have hr := h.hr
  have hlow : Low [bA' p x, bB p q] N 4 131072 (up 65536 4) q (q + N) true := by
    rw [up16 (by decide)]
    refine Low.hit (bA' p x) (by decide) ?_ ?_
    · have : hitB 65536 (65536 + N) (bA' p x) = true := decide_eq_true (by simp [bA']; omega)
      simp [List.find?, this]
    · rw [show (bA' p x).t = p from rfl, up16 (by omega)]
      refine Low.hit (bB p q) (by omega) ?_ ?_
      · have h1 : hitB p (p + N) (bA' p x) = false := decide_eq_false (by simp [bA'])
        have h2 : hitB p (p + N) (bB p q) = true := decide_eq_true (by simp [bB]; omega)
        simp [List.find?, h1, h2]
      · rw [show (bB p q).t = q from rfl, up16 (by omega)]
        have := Low.free (L := [bA' p x, bB p q]) (N := N) (x := 4) (T := 131072) (b := q) (by omega) (free_of (by simp [bA', bB]; omega))
        rwa [decide_eq_true (by omega)] at this
  have := take_any 65536 131072 n N s [bA' p x, bB p q] w hs (by simp) (by decide) (by decide) h.n1 h.n2 h.hN (by simp [bA', bB]; omega) q hlow
  have e : (q : Int) + (N : Int) = (r : Int) := by omega
  have e2 : ([bA' p x, bB p q].takeWhile (fun k => decide (k.b < q)) ++ ⟨q, q + N, false, 0⟩ :: [bA' p x, bB p q].dropWhile (fun k => decide (k.b < q))) = [bA' p x, bB p q, bB q r] := by
    have h1 : decide ((bA' p x).b < q) = true := decide_eq_true (by show 65536 < q; omega)
    have h2 : decide ((bB p q).b < q) = true := decide_eq_true (by show p < q; omega)
    simp only [List.takeWhile_cons, List.dropWhile_cons, List.takeWhile_nil, List.dropWhile_nil, h1, h2, if_pos, List.cons_append, List.nil_append]
    rw [hr]; rfl
  rw [e, e2] at this
  exact this
theorem take4 (h : Nums n N p q r) (s : Value) (w : World) (hs : RowB w s [bB p q]) :
    Calls Try.prog 41 #[hv s, .int .u64 n] w fun e w' => (∃ s', e = .returned (.tuple #[hv s', .agg #[.int .u64 65536, .int .u64 (p : Int)], .int .i64 0]) ∧ RowB w' s' [bA p, bB p q]) ∧ Below w.heap.size w w' := by
  obtain ⟨l1, l2, l3⟩ := h.le
  have hp := h.hp
  have hq := h.hq
  have hlow : Low [bB p q] N 4 131072 (up 65536 4) 65536 (65536 + N) true := by
    rw [up16 (by decide)]
    have := Low.free (L := [bB p q]) (N := N) (x := 4) (T := 131072) (b := 65536) (by decide) (free_of (by simp [bB]; omega))
    rwa [decide_eq_true (by omega)] at this
  have := take_any 65536 131072 n N s [bB p q] w hs (by simp) (by decide) (by decide) h.n1 h.n2 h.hN (by simp [bB]; omega) 65536 hlow
  have e : ((65536 : Nat) : Int) + (N : Int) = (p : Int) := by omega
  have e2 : ([bB p q].takeWhile (fun k => decide (k.b < 65536)) ++ ⟨65536, 65536 + N, false, 0⟩ :: [bB p q].dropWhile (fun k => decide (k.b < 65536))) = [bA p, bB p q] := by
    have h1 : decide ((bB p q).b < 65536) = false := decide_eq_false (by show ¬ p < 65536; omega)
    simp only [List.takeWhile_cons, List.dropWhile_cons, h1, Bool.false_eq_true, if_false, List.nil_append]
    rw [hp]; rfl
  rw [e, e2] at this
  exact this
theorem give2 (x : Int) (s : Value) (w : World) (hs : RowB w s [bA p, bB p q]) :
    Calls Try.prog 42 #[hv s, .int .u64 65536, .int .i64 x] w fun e w' => (∃ s', e = .returned (.tuple #[hv s', .int .i64 0]) ∧ RowB w' s' [bA' p x, bB p q]) ∧ Below w.heap.size w w' :=
  giveH 65536 131072 65536 x s [bA p, bB p q] 0 (bA p) w hs (by simp) rfl rfl
theorem settle_gone (x now : Int) (hx : 0 ≤ x ∧ x ≤ 65535) (hg : againI x ≤ now) (s : Value) (w : World) (hs : RowB w s [bA' p x, bB p q]) :
    Calls Try.prog 45 #[hv s, .int .i64 now] w fun e w' => (∃ s', e = .returned (hv s') ∧ RowB w' s' [bB p q]) ∧ Below w.heap.size w w' := by
  have := settleH 65536 131072 s [bA' p x, bB p q] now w hs (by simp) (by simp) (by simp [bA', bB]; omega)
  have e : [bA' p x, bB p q].filter (fun k => !goneB now k) = [bB p q] := by
    have h1 : goneB now (bA' p x) = true := by simp [goneB, bA', hg]
    have h2 : goneB now (bB p q) = false := rfl
    simp [List.filter, h1, h2]
  rw [e] at this
  exact this
theorem settle_kept (x now : Int) (hx : 0 ≤ x ∧ x ≤ 65535) (hg : ¬ againI x ≤ now) (s : Value) (w : World) (hs : RowB w s [bA' p x, bB p q]) :
    Calls Try.prog 45 #[hv s, .int .i64 now] w fun e w' => (∃ s', e = .returned (hv s') ∧ RowB w' s' [bA' p x, bB p q]) ∧ Below w.heap.size w w' := by
  have := settleH 65536 131072 s [bA' p x, bB p q] now w hs (by simp) (by simp) (by simp [bA', bB]; omega)
  have e : [bA' p x, bB p q].filter (fun k => !goneB now k) = [bA' p x, bB p q] := by
    have h1 : goneB now (bA' p x) = false := by simp [goneB, bA', hg]
    have h2 : goneB now (bB p q) = false := rfl
    simp [List.filter, h1, h2]
  rw [e] at this
  exact this
theorem held3 (x : Int) (s : Value) (w : World) (hs : RowB w s [bA' p x, bB p q, bB q r]) : Calls Try.prog 43 #[hv s] w fun e w' => (∃ a c, e = .returned (.slice a 1 c)) ∧ Below w.heap.size w w' :=
  heldH 65536 131072 s [bA' p x, bB p q, bB q r] w hs (by simp)
theorem blocks3 (x : Int) (s : Value) (w : World) (hs : RowB w s [bA' p x, bB p q, bB q r]) : Calls Try.prog 44 #[hv s] w fun e w' => (∃ a c, e = .returned (.slice a 3 c)) ∧ Below w.heap.size w w' :=
  (blocksH 65536 131072 s [bA' p x, bB p q, bB q r] w hs (by simp)).mono fun e w' ⟨⟨v, he, hr⟩, hb⟩ => by
    obtain ⟨a, c, rfl⟩ := own_slice hr
    exact ⟨⟨a, c, he⟩, hb⟩
end
end Go.Proofs.Ytdnhjkmcogbaoaa
