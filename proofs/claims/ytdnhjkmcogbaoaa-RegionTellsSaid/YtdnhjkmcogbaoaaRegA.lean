/-
  region: meet, in, pages, New.
-/
import Derived.Test.YtdnhjkmcogbaoaaInsR
import Derived.Test.YtdnhjkmcogbaoaaAskB
import Derived.Test.YtdnhjkmcogbaoaaBetwA
import Derived.Deep.LoopGhost
import Derived.Deep.DeepCutAuto
import Derived.Deep.CutBlock
namespace Go.Proofs.Ytdnhjkmcogbaoaa
open Go.RowKit
abbrev spN (b t : Nat) : Value := .agg #[.int .u64 (b : Int), .int .u64 (t : Int)]
def meetN (a b c d : Nat) : Bool := decide (a < d ∧ c < b)
def inN (a b c d : Nat) : Bool := decide (c ≤ a ∧ b ≤ d)
def pagesN (b t : Nat) : Bool := decide (b < t ∧ b % 4096 = 0 ∧ t % 4096 = 0)
theorem meet_any (a b c d : Nat) (w : World) :
    Calls Try.prog 76 #[spN a b, spN c d] w fun e w' => e = .returned (.bool (meetN a b c d)) ∧ Below w.heap.size w w' := by
  by_cases h1 : a < d
  · have e1 : decide (a < d) = true := decide_eq_true h1
    have e2 : meetN a b c d = decide (c < b) := by unfold meetN; simp [h1]
    rw [e2]
    clear h1 e2
    go_enter Try.func76, Try.ntmps76
    go_wp2
    go_ret
    exact ⟨rfl, ba (ba (Below.refl _ _) _) _⟩
  · have e1 : decide (a < d) = false := decide_eq_false h1
    have e2 : meetN a b c d = false := by unfold meetN; simp [h1]
    rw [e2]
    clear h1 e2
    go_enter Try.func76, Try.ntmps76
    go_wp2
    go_ret
    exact ⟨rfl, ba (ba (Below.refl _ _) _) _⟩
theorem in_sp (a b c d : Nat) (w : World) :
    Calls Try.prog 75 #[spN a b, spN c d] w fun e w' => e = .returned (.bool (inN a b c d)) ∧ Below w.heap.size w w' := by
  by_cases h1 : c ≤ a
  · have e1 : decide (c ≤ a) = true := decide_eq_true h1
    have e2 : inN a b c d = decide (b ≤ d) := by unfold inN; simp [h1]
    rw [e2]
    clear h1 e2
    go_enter Try.func75, Try.ntmps75
    go_wp2
    go_ret
    exact ⟨rfl, ba (ba (Below.refl _ _) _) _⟩
  · have e1 : decide (c ≤ a) = false := decide_eq_false h1
    have e2 : inN a b c d = false := by unfold inN; simp [h1]
    rw [e2]
    clear h1 e2
    go_enter Try.func75, Try.ntmps75
    go_wp2
    go_ret
    exact ⟨rfl, ba (ba (Below.refl _ _) _) _⟩
theorem zeros12 (x : Nat) : 12 ≤ zerosOf x ↔ x % 4096 = 0 := zerosOf_ge x 12 (by decide)
theorem pages_any (b t : Nat) (hb : b < 18446744073709551616) (ht : t < 18446744073709551616) (w : World) :
    Calls Try.prog 73 #[spN b t] w fun e w' => e = .returned (.bool (pagesN b t)) ∧ Below w.heap.size w w' := by
  have HB0 := Lib.hid (zeros_any b hb)
  have HT0 := Lib.hid (zeros_any t ht)
  have z1 := zeros12 b
  have z2 := zeros12 t
  generalize zerosOf b = x at HB0 z1
  generalize zerosOf t = y at HT0 z2
  clear hb ht
  by_cases h1 : b < t
  · have e1 : decide (b < t) = true := decide_eq_true h1
    by_cases h2 : b % 4096 = 0
    · have e2 : decide ((12 : Int) ≤ (x : Int)) = true := decide_eq_true (by have := z1.mpr h2; omega)
      have e3 : pagesN b t = decide ((12 : Int) ≤ (y : Int)) := by
        unfold pagesN
        rw [decide_eq_decide]
        constructor
        · rintro ⟨-, -, h⟩; have := z2.mpr h; omega
        · intro h; exact ⟨h1, h2, z2.mp (by omega)⟩
      rw [e3]
      clear h1 h2 e3 z1 z2
      go_enter Try.func73, Try.ntmps73
      go_wp2_with (first | ((with_reducible (go_at_call 24; refine (HB0.out _).mono ?_)); rintro e1 w1 ⟨rfl, hb1⟩; have A1 := (HB.new w #[.int .u64 (b : Int), .int .u64 (t : Int)] 51).callee hb1; obtain ⟨⟨c0, c1⟩, -⟩ := A1.two) | ((with_reducible (go_at_call 24; refine (HT0.out _).mono ?_)); rintro e1 w2 ⟨rfl, hb2⟩))
      go_ret
      exact ⟨rfl, bc (bc (ba (Below.refl _ _) _) hb1) hb2⟩
    · have e2 : decide ((12 : Int) ≤ (x : Int)) = false := decide_eq_false (by intro h; exact h2 (z1.mp (by omega)))
      have e3 : pagesN b t = false := by unfold pagesN; exact decide_eq_false (fun h => h2 h.2.1)
      rw [e3]
      clear h1 h2 e3 z1 z2
      go_enter Try.func73, Try.ntmps73
      go_wp2_with (first | ((with_reducible (go_at_call 24; refine (HB0.out _).mono ?_)); rintro e1 w1 ⟨rfl, hb1⟩; have A1 := (HB.new w #[.int .u64 (b : Int), .int .u64 (t : Int)] 51).callee hb1; obtain ⟨⟨c0, c1⟩, -⟩ := A1.two))
      go_ret
      exact ⟨rfl, bc (ba (Below.refl _ _) _) hb1⟩
  · have e1 : decide (b < t) = false := decide_eq_false h1
    have e3 : pagesN b t = false := by unfold pagesN; exact decide_eq_false (fun h => h1 h.1)
    rw [e3]
    clear h1 e3 z1 z2
    go_enter Try.func73, Try.ntmps73
    go_wp2
    go_ret
    exact ⟨rfl, ba (Below.refl _ _) _⟩
/-- A map, as a value. -/
abbrev mapV (b t : Nat) (s : Value) : Value := .agg #[.int .u64 (b : Int), .int .u64 (t : Int), s]
theorem newR_ok (b t : Nat) (hp : pagesN b t = true) (ht : t ≤ 274877906944) (w : World) :
    Calls Try.prog 48 #[spN b t] w fun e w' => e = .returned (.tuple #[mapV b t (.slice none 0 0), .int .i64 0]) ∧ Below w.heap.size w w' := by
  have hbt : b < t := (of_decide_eq_true hp).1
  have HPg := Lib.hid (pages_any b t (by omega) (by omega))
  rw [hp] at HPg
  have h3 : decide ((274877906944 : Int) < (t : Int)) = false := decide_eq_false (by omega)
  clear hp
  go_enter Try.func48, Try.ntmps48
  go_wp2_with (first | ((with_reducible (go_at_call 73; refine (HPg.out _).mono ?_)); rintro e1 w1 ⟨rfl, hb1⟩; obtain ⟨⟨c0, c1⟩, -⟩ := (((HB.new w #[.int .u64 (b : Int), .int .u64 (t : Int)] 51).alloc (.cells #[.int .u64 0, .int .u64 0, .slice none 0 0] 71)).callee hb1).two; obtain ⟨⟨⟨r0, r1, r2⟩, f0, f1, f2⟩, s0, s1, s2, -⟩ := ((HB.new' (w.alloc (.cells #[.int .u64 (b : Int), .int .u64 (t : Int)] 51)) #[.int .u64 0, .int .u64 0, .slice none 0 0] 71 (w.heap.size + 1) (by simp)).callee hb1).store3 (.int .u64 (b : Int)) (.int .u64 (t : Int)) (.slice none 0 0)))
  refine bodyPost_ret (v := .tuple #[mapV b t (.slice none 0 0), .int .i64 0]) (by simp [results, Try.results48, go_sem, s0, s1, s2]) rfl ⟨rfl, ?_⟩
  exact set3_below (bc (ba (ba (Below.refl _ _) _) _) hb1) (Nat.le_add_right _ _) _ _ _
theorem newR_no (b t : Nat) (hb : b < 18446744073709551616) (ht : t < 18446744073709551616) (hn : ¬ (pagesN b t = true ∧ t ≤ 274877906944)) (w : World) :
    Calls Try.prog 48 #[spN b t] w fun e w' => e = .returned (.tuple #[.agg #[.int .u64 0, .int .u64 0, .slice none 0 0], .int .i64 2]) ∧ Below w.heap.size w w' := by
  have HPg := Lib.hid (pages_any b t hb ht)
  cases hp : pagesN b t with
  | false =>
    rw [hp] at HPg
    clear hp hn hb ht
    go_enter Try.func48, Try.ntmps48
    go_wp2_with (first | ((with_reducible (go_at_call 73; refine (HPg.out _).mono ?_)); rintro e1 w1 ⟨rfl, hb1⟩; obtain ⟨⟨⟨r0, r1, r2⟩, f0, f1, f2⟩, s0, s1, s2, -⟩ := ((HB.new' (w.alloc (.cells #[.int .u64 (b : Int), .int .u64 (t : Int)] 51)) #[.int .u64 0, .int .u64 0, .slice none 0 0] 71 (w.heap.size + 1) (by simp)).callee hb1).store3 (.int .u64 0) (.int .u64 0) (.slice none 0 0)))
    refine bodyPost_ret (v := .tuple #[.agg #[.int .u64 0, .int .u64 0, .slice none 0 0], .int .i64 2]) (by simp [results, Try.results48, go_sem, s0, s1, s2]) rfl ⟨rfl, ?_⟩
    exact set3_below (bc (ba (ba (Below.refl _ _) _) _) hb1) (Nat.le_add_right _ _) _ _ _
  | true =>
    rw [hp] at HPg
    have ht2 : ¬ t ≤ 274877906944 := fun h => hn ⟨hp, h⟩
    have h3 : (274877906944 : Int) < (t : Int) := by omega
    clear hp hn hb ht ht2
    go_enter Try.func48, Try.ntmps48
    go_wp2_with (first | ((with_reducible (go_at_call 73; refine (HPg.out _).mono ?_)); rintro e1 w1 ⟨rfl, hb1⟩; obtain ⟨⟨c0, c1⟩, -⟩ := (((HB.new w #[.int .u64 (b : Int), .int .u64 (t : Int)] 51).alloc (.cells #[.int .u64 0, .int .u64 0, .slice none 0 0] 71)).callee hb1).two; obtain ⟨⟨⟨r0, r1, r2⟩, f0, f1, f2⟩, s0, s1, s2, -⟩ := ((HB.new' (w.alloc (.cells #[.int .u64 (b : Int), .int .u64 (t : Int)] 51)) #[.int .u64 0, .int .u64 0, .slice none 0 0] 71 (w.heap.size + 1) (by simp)).callee hb1).store3 (.int .u64 0) (.int .u64 0) (.slice none 0 0)))
    refine bodyPost_ret (v := .tuple #[.agg #[.int .u64 0, .int .u64 0, .slice none 0 0], .int .i64 2]) (by simp [results, Try.results48, go_sem, s0, s1, s2]) rfl ⟨rfl, ?_⟩
    exact set3_below (bc (ba (ba (Below.refl _ _) _) _) hb1) (Nat.le_add_right _ _) _ _ _
end Go.Proofs.Ytdnhjkmcogbaoaa
