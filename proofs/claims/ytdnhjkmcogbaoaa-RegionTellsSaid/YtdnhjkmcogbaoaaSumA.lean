/-
  The contracts of scale.Add, scale.In and of the reference's In, and the walk of the law ScaleSums: it returns true, for any two numbers of 64 bits and any span.
-/
import Derived.Test.YtdnhjkmcogbaoaaRows
import Derived.WalkKit
import Derived.WalkSpells
import Derived.WalkLawsBesides
import Derived.Laws.Externs
import Derived.Deep.QuietTactic
import Derived.BigQuiet
import Derived.Outline
import Derived.Below
import Derived.Lib.Hide
namespace Go.Proofs.Ytdnhjkmcogbaoaa
open Go.RowKit
theorem add64 (x y : Int) (hx : 0 ≤ x) (hy : 0 ≤ y) (w : World) : (callFunc 58 #[.int .u64 x, .int .u64 y, .int .u64 0]).run Try.prog w =
    .ok (.value (.tuple #[.int .u64 ((x + y) % 18446744073709551616), .int .u64 ((x + y) / 18446744073709551616)])) w := by
  rw [run_callFunc_extern Try.func58 (by kernel_rfl) (by kernel_rfl) (by kernel_rfl) (e := add64Entry) (by kernel_rfl), run_add64 x y 0 hx hy (by omega) (by omega)]
  simp only [Int.add_zero]
  rfl
/-- The sum modulo 2^64, and whether it is 2^64 or more. -/
def sumM (x y : Int) : Int := (x + y) % 18446744073709551616
def sumO (x y : Int) : Bool := decide (18446744073709551616 ≤ x + y)
theorem add_any (x y : Int) (hx : 0 ≤ x) (hy : 0 ≤ y) (w : World) :
    Calls Try.prog 15 #[.int .u64 x, .int .u64 y] w fun e w' => e = .returned (.tuple #[.int .u64 (sumM x y), .bool (sumO x y)]) ∧ w = w' := by
  have h : ((x + y) / 18446744073709551616 != 0) = sumO x y := by
    unfold sumO; rw [Bool.eq_iff_iff]; simp only [bne_iff_ne, decide_eq_true_eq]; omega
  have H := Lib.hid h; clear h
  go_enter Try.func15, Try.ntmps15
  go_wp2_with (simp only [add64 x y hx hy])
  go_ret2
  exact ⟨by rw [← H.out]; rfl, rfl⟩
theorem ret_bool {a b : Bool} (h : a = b) : Ending.returned (.bool a) = .returned (.bool b) := by rw [h]
/-- What In tells. -/
def inB (a n b t : Int) : Bool := decide (b ≤ a ∧ a + n ≤ t)
theorem inB_over (a n b t : Int) (ht : t < 18446744073709551616) (h : sumO a n = true) : false = inB a n b t := by
  unfold sumO at h; unfold inB; symm; simp only [decide_eq_true_eq, decide_eq_false_iff_not] at *; omega
theorem inB_some (a n b t : Int) (ha : 0 ≤ a) (hn : 0 ≤ n) (h : ¬ sumO a n = true) (h1 : b ≤ a) : decide (sumM a n ≤ t) = inB a n b t := by
  unfold sumO at h; unfold sumM inB; rw [Bool.eq_iff_iff]; simp only [decide_eq_true_eq] at *; omega
theorem inB_none (a n b t : Int) (h1 : a < b) : false = inB a n b t := by
  unfold inB; symm; simp only [decide_eq_false_iff_not] at *; omega
theorem in_any (a n b t : Int) (ha : 0 ≤ a) (hn : 0 ≤ n) (ht : t < 18446744073709551616) (w : World) :
    Calls Try.prog 16 #[.int .u64 a, .int .u64 n, .int .u64 b, .int .u64 t] w fun e w' => e = .returned (.bool (inB a n b t)) ∧ w = w' := by
  go_enter Try.func16, Try.ntmps16
  go_wp2_with (go_at_call 15; refine (add_any _ _ ha hn _).mono ?_; rintro e w' ⟨rfl, rfl⟩)
  · go_ret
    exact ⟨ret_bool (inB_over a n b t ht ‹_›), rfl⟩
  · go_ret
    exact ⟨ret_bool (inB_some a n b t ha hn ‹_› ‹_›), rfl⟩
  · go_ret
    exact ⟨ret_bool (inB_none a n b t ‹_›), rfl⟩
theorem refin_some (a n b t : Int) (h1 : b ≤ a) : decide (n ≤ t - a) = inB a n b t := by
  unfold inB; rw [Bool.eq_iff_iff]; simp only [decide_eq_true_eq] at *; omega
theorem refin_none (a n b t : Int) (hn : 0 ≤ n) (h2 : t < a) : false = inB a n b t := by
  unfold inB; symm; simp only [decide_eq_false_iff_not] at *; omega
theorem refin_any (a n b t : Int) (ha : 0 ≤ a) (hn : 0 ≤ n) (ht : t < 18446744073709551616) (w : World) :
    Calls Try.prog 17 #[.int .u64 a, .int .u64 n, .int .u64 b, .int .u64 t] w fun e w' => e = .returned (.bool (inB a n b t)) ∧ w = w' := by
  go_enter Try.func17, Try.ntmps17
  go_wp2
  · go_ret
    exact ⟨ret_bool (refin_some a n b t ‹_›), rfl⟩
  · go_ret
    exact ⟨ret_bool (refin_none a n b t hn ‹_›), rfl⟩
  · go_ret
    exact ⟨ret_bool (inB_none a n b t ‹_›), rfl⟩
/-- A callee that leaves the world alone, in a region that draws. -/
theorem quietly {P : Program} {f : FuncId} {args : Array Value} {w : World} {n : Nat} {v : Value}
    (h : Calls P f args (w.drewN n) fun e w' => e = .returned v ∧ w.drewN n = w') : Calls P f args (w.drewN n) fun e w'' => e = .returned v ∧ ∃ m, w'' = w.drewN m :=
  h.mono fun _ _ ⟨he, hm⟩ => ⟨he, n, hm.symm⟩
theorem sums_ok (x y : Int) (l0 l1 : Int) (w : World) (hx : 0 ≤ x) (hx' : x < 18446744073709551616) (hy : 0 ≤ y) (hy' : y < 18446744073709551616) (h1 : l1 < 18446744073709551616) :
    Calls Try.prog 3 #[.int .u64 x, .int .u64 y, .agg #[.int .u64 l0, .int .u64 l1]] w fun e w' => e = .returned (.bool true) ∧ Below w.heap.size w w' := by
  have e1 : IntKind.u64.wrap (x + y) = sumM x y := rfl
  have e2 : decide (sumM x y < x) = sumO x y := by
    unfold sumM sumO; rw [Bool.eq_iff_iff]; simp only [decide_eq_true_eq]; omega
  have k1 : inB 4 4 0 8 = true := by decide
  have k2 : inB 5 4 0 8 = false := by decide
  go_enter Try.func3, Try.ntmps3
  go_wp2_with (first | (go_at_call 15; refine (add_any _ _ hx hy _).mono ?_; rintro e w' ⟨rfl, rfl⟩))
  go_quiet (first | (go_at_call 16; exact quietly (in_any _ _ _ _ (by first | assumption | decide) (by first | assumption | decide) (by first | assumption | decide) _)) | (go_at_call 17; exact quietly (refin_any _ _ _ _ (by assumption) (by assumption) (by assumption) _)))
  go_wp2
  go_ret
  exact ⟨rfl, below_drewN ((Below.refl _ _).alloc (Nat.le_refl _) _) _⟩
end Go.Proofs.Ytdnhjkmcogbaoaa
