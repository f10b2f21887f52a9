/-
  The walk of the law ScaleSpans: it returns true, for any three numbers of 64 bits and any span.
-/
import Derived.Test.YtdnhjkmcogbaoaaSumA
namespace Go.Proofs.Ytdnhjkmcogbaoaa
open Go.RowKit
theorem wrapU (x : Int) : IntKind.u64.wrap x = x % 18446744073709551616 := rfl
/-- No number is within what begins behind it. -/
theorem in_behind (a : Int) (ha : 0 ≤ a) (ha' : a < 18446744073709551616) (w : World) :
    Calls Try.prog 16 #[.int .u64 a, .int .u64 1, .int .u64 (IntKind.u64.wrap (a + 1)), .int .u64 18446744073709551615] w fun e w' => e = .returned (.bool false) ∧ w = w' := by
  refine (in_any a 1 _ _ ha (by decide) (by decide) w).mono ?_
  rintro e w' ⟨rfl, rfl⟩
  refine ⟨ret_bool ?_, rfl⟩
  rw [wrapU]; unfold inB; simp only [decide_eq_false_iff_not]; omega
/-- None is within what ends at it. -/
theorem in_end (t : Int) (ht0 : 0 ≤ t) (ht : t < 18446744073709551616) (w : World) :
    Calls Try.prog 16 #[.int .u64 t, .int .u64 1, .int .u64 0, .int .u64 t] w fun e w' => e = .returned (.bool false) ∧ w = w' := by
  refine (in_any t 1 _ _ ht0 (by decide) ht w).mono ?_
  rintro e w' ⟨rfl, rfl⟩
  refine ⟨ret_bool ?_, rfl⟩
  unfold inB; simp only [decide_eq_false_iff_not]; omega
theorem in_four (w : World) :
    Calls Try.prog 16 #[.int .u64 4, .int .u64 4, .int .u64 0, .int .u64 8] w fun e w' => e = .returned (.bool true) ∧ w = w' := by
  refine (in_any 4 4 0 8 (by decide) (by decide) (by decide) w).mono ?_
  rintro e w' ⟨rfl, rfl⟩
  exact ⟨ret_bool (by decide), rfl⟩
theorem sp_over (a n q b t : Int) (hqn : q ≤ n) (ht : t < 18446744073709551616) (h : sumO a q = true) : inB a n b t = false := by
  unfold sumO at h; unfold inB; simp only [decide_eq_true_eq, decide_eq_false_iff_not] at *; omega
theorem sp_mid (a q : Int) (ha : 0 ≤ a) (hq : 0 ≤ q) (h : sumO a q = false) : sumM a q = a + q := by
  unfold sumO at h; unfold sumM; simp only [decide_eq_false_iff_not] at *; omega
theorem sp_yes (a n q b t : Int) (hq0 : 0 ≤ q) (h : inB a q b t = true) : inB (a + q) (n - q) b t = inB a n b t := by
  unfold inB at *; rw [Bool.eq_iff_iff]; simp only [decide_eq_true_eq] at *; omega
theorem sp_no (a n q b t : Int) (hqn : q ≤ n) (h : inB a q b t = false) : inB a n b t = false := by
  unfold inB at *; simp only [decide_eq_false_iff_not] at *; omega
set_option maxRecDepth 100000 in
theorem spans_pos (a n k q : Int) (b t : Int) (w : World) (hq : k % n = q) (h : 0 < n) (hq0 : 0 ≤ q) (hqn : q ≤ n) (ha : 0 ≤ a) (ha' : a < 18446744073709551616) (hn' : n < 18446744073709551616) (hk : 0 ≤ k) (hk' : k < 18446744073709551616) (ht0 : 0 ≤ t) (ht : t < 18446744073709551616) :
    Calls Try.prog 4 #[.agg #[.int .u64 a, .int .u64 n, .int .u64 k], .agg #[.int .u64 b, .int .u64 t]] w fun e w' => e = .returned (.bool true) ∧ Below w.heap.size w w' := by
  by_cases o : sumO a q = true
  · have g1 := sp_over a n q b t hqn ht o
    go_enter Try.func4, Try.ntmps4
    go_wp2
    go_quiet (fail)
    go_wp2_with (first | ((with_reducible (go_at_call 16; refine (in_end t ht0 ht _).mono ?_)); rintro e w' ⟨rfl, rfl⟩) | ((with_reducible (go_at_call 16; refine (in_behind a ha ha' _).mono ?_)); rintro e w' ⟨rfl, rfl⟩) | ((with_reducible (go_at_call 16; refine (in_four _).mono ?_)); rintro e w' ⟨rfl, rfl⟩) | ((with_reducible (go_at_call 16; refine (in_any _ _ b t (by omega) (by omega) ht _).mono ?_)); rintro e w' ⟨rfl, rfl⟩) | ((with_reducible (go_at_call 15; refine (add_any a _ ha (by omega) _).mono ?_)); rintro e w' ⟨rfl, rfl⟩))
    go_ret
    exact ⟨rfl, below_drewN (((Below.refl _ _).alloc (Nat.le_refl _) _).alloc (by simp) _) _⟩
  · replace o : sumO a q = false := by simpa using o
    have e1 := sp_mid a q ha hq0 o
    by_cases p : inB a q b t = true
    · have e2 := sp_yes a n q b t hq0 p
      go_enter Try.func4, Try.ntmps4
      go_wp2
      go_quiet (fail)
      go_wp2_with (first | ((with_reducible (go_at_call 16; refine (in_end t ht0 ht _).mono ?_)); rintro e w' ⟨rfl, rfl⟩) | ((with_reducible (go_at_call 16; refine (in_behind a ha ha' _).mono ?_)); rintro e w' ⟨rfl, rfl⟩) | ((with_reducible (go_at_call 16; refine (in_four _).mono ?_)); rintro e w' ⟨rfl, rfl⟩) | ((with_reducible (go_at_call 16; refine (in_any _ _ b t (by omega) (by omega) ht _).mono ?_)); rintro e w' ⟨rfl, rfl⟩) | ((with_reducible (go_at_call 15; refine (add_any a _ ha (by omega) _).mono ?_)); rintro e w' ⟨rfl, rfl⟩))
      go_ret
      exact ⟨rfl, below_drewN (((Below.refl _ _).alloc (Nat.le_refl _) _).alloc (by simp) _) _⟩
    · replace p : inB a q b t = false := by simpa using p
      have g1 := sp_no a n q b t hqn p
      go_enter Try.func4, Try.ntmps4
      go_wp2
      go_quiet (fail)
      go_wp2_with (first | ((with_reducible (go_at_call 16; refine (in_end t ht0 ht _).mono ?_)); rintro e w' ⟨rfl, rfl⟩) | ((with_reducible (go_at_call 16; refine (in_behind a ha ha' _).mono ?_)); rintro e w' ⟨rfl, rfl⟩) | ((with_reducible (go_at_call 16; refine (in_four _).mono ?_)); rintro e w' ⟨rfl, rfl⟩) | ((with_reducible (go_at_call 16; refine (in_any _ _ b t (by omega) (by omega) ht _).mono ?_)); rintro e w' ⟨rfl, rfl⟩) | ((with_reducible (go_at_call 15; refine (add_any a _ ha (by omega) _).mono ?_)); rintro e w' ⟨rfl, rfl⟩))
      go_ret
      exact ⟨rfl, below_drewN (((Below.refl _ _).alloc (Nat.le_refl _) _).alloc (by simp) _) _⟩
set_option maxRecDepth 100000 in
theorem spans_zero (a k : Int) (b t : Int) (w : World) (ha : 0 ≤ a) (ha' : a < 18446744073709551616) (ht0 : 0 ≤ t) (ht : t < 18446744073709551616) :
    Calls Try.prog 4 #[.agg #[.int .u64 a, .int .u64 0, .int .u64 k], .agg #[.int .u64 b, .int .u64 t]] w fun e w' => e = .returned (.bool true) ∧ Below w.heap.size w w' := by
  have o : sumO a 0 = false := by unfold sumO; simp only [decide_eq_false_iff_not]; omega
  have e1 : sumM a 0 = a := by unfold sumM; omega
  by_cases p : inB a 0 b t = true
  · go_enter Try.func4, Try.ntmps4
    go_wp2
    go_quiet (fail)
    go_wp2_with (first | ((with_reducible (go_at_call 16; refine (in_end t ht0 ht _).mono ?_)); rintro e w' ⟨rfl, rfl⟩) | ((with_reducible (go_at_call 16; refine (in_behind a ha ha' _).mono ?_)); rintro e w' ⟨rfl, rfl⟩) | ((with_reducible (go_at_call 16; refine (in_four _).mono ?_)); rintro e w' ⟨rfl, rfl⟩) | ((with_reducible (go_at_call 16; refine (in_any _ _ b t (by omega) (by omega) ht _).mono ?_)); rintro e w' ⟨rfl, rfl⟩) | ((with_reducible (go_at_call 15; refine (add_any a _ ha (by omega) _).mono ?_)); rintro e w' ⟨rfl, rfl⟩))
    go_ret
    exact ⟨rfl, below_drewN (((Below.refl _ _).alloc (Nat.le_refl _) _).alloc (by simp) _) _⟩
  · replace p : inB a 0 b t = false := by simpa using p
    go_enter Try.func4, Try.ntmps4
    go_wp2
    go_quiet (fail)
    go_wp2_with (first | ((with_reducible (go_at_call 16; refine (in_end t ht0 ht _).mono ?_)); rintro e w' ⟨rfl, rfl⟩) | ((with_reducible (go_at_call 16; refine (in_behind a ha ha' _).mono ?_)); rintro e w' ⟨rfl, rfl⟩) | ((with_reducible (go_at_call 16; refine (in_four _).mono ?_)); rintro e w' ⟨rfl, rfl⟩) | ((with_reducible (go_at_call 16; refine (in_any _ _ b t (by omega) (by omega) ht _).mono ?_)); rintro e w' ⟨rfl, rfl⟩) | ((with_reducible (go_at_call 15; refine (add_any a _ ha (by omega) _).mono ?_)); rintro e w' ⟨rfl, rfl⟩))
    go_ret
    exact ⟨rfl, below_drewN (((Below.refl _ _).alloc (Nat.le_refl _) _).alloc (by simp) _) _⟩
theorem spans_ok (a n k : Int) (b t : Int) (w : World) (ha : 0 ≤ a) (ha' : a < 18446744073709551616) (hn : 0 ≤ n) (hn' : n < 18446744073709551616) (hk : 0 ≤ k) (hk' : k < 18446744073709551616) (ht0 : 0 ≤ t) (ht : t < 18446744073709551616) :
    Calls Try.prog 4 #[.agg #[.int .u64 a, .int .u64 n, .int .u64 k], .agg #[.int .u64 b, .int .u64 t]] w fun e w' => e = .returned (.bool true) ∧ Below w.heap.size w w' := by
  by_cases h : 0 < n
  · exact spans_pos a n k (k % n) b t w rfl h (Int.emod_nonneg _ (by omega)) (Int.le_of_lt (Int.emod_lt_of_pos _ h)) ha ha' hn' hk hk' ht0 ht
  · obtain rfl : n = 0 := by omega
    exact spans_zero a k b t w ha ha' ht0 ht
end Go.Proofs.Ytdnhjkmcogbaoaa
