/-
  The walk of the law ScaleTells: it returns true, for any number of 64 bits and any exponent.
-/
import Derived.Test.YtdnhjkmcogbaoaaScaleC
namespace Go.Proofs.Ytdnhjkmcogbaoaa
open Go.RowKit
theorem log_page (w : World) : Calls Try.prog 25 #[.int .u64 4096] w fun e w' => e = .returned (.int .i64 12) ∧ w = w' := log_any 4096 (by decide) w
theorem tells_nat (x : Nat) (e : Int) (hx : x < 18446744073709551616) (w : World) :
    Calls Try.prog 11 #[.int .u64 x, .int .i64 e] w fun e w' => e = .returned (.bool true) ∧ Below w.heap.size w w' := by
  go_enter Try.func11, Try.ntmps11
  go_wp2_with (first | ((with_reducible (go_at_call 35; refine (up_any x e hx _).mono ?_)); rintro e1 w1 ⟨rfl, rfl⟩) | ((with_reducible (go_at_call 36; refine (refup_any x e hx _).mono ?_)); rintro e1 w1 ⟨rfl, rfl⟩) | ((with_reducible (go_at_call 25; refine (log_page _).mono ?_)); rintro e1 w1 ⟨rfl, rfl⟩) | ((with_reducible (go_at_call 25; refine (log_any x hx _).mono ?_)); rintro e1 w1 ⟨rfl, rfl⟩) | ((with_reducible (go_at_call 37; refine (reflog_any x hx _).mono ?_)); rintro e1 w1 ⟨rfl, rfl⟩) | ((with_reducible (go_at_call 24; refine (zeros_any x hx _).mono ?_)); rintro e1 w1 ⟨rfl, hb1⟩) | ((with_reducible (go_at_call 38; refine (refzeros_any x hx _).mono ?_)); rintro e1 w2 ⟨rfl, rfl⟩) | ((with_reducible (go_at_call 34; refine (down_any x e hx _).mono ?_)); rintro e1 w2 ⟨rfl, rfl⟩) | ((with_reducible (go_at_call 39; refine (refdown_any x e hx _).mono ?_)); rintro e1 w2 ⟨rfl, rfl⟩))
  go_ret
  exact ⟨rfl, hb1⟩
theorem tells_ok (x e : Int) (w : World) (h0 : 0 ≤ x) (hx : x < 18446744073709551616) :
    Calls Try.prog 11 #[.int .u64 x, .int .i64 e] w fun e w' => e = .returned (.bool true) ∧ Below w.heap.size w w' := by
  obtain ⟨x, rfl⟩ := Int.eq_ofNat_of_zero_le h0
  exact tells_nat x e (by omega) w
end Go.Proofs.Ytdnhjkmcogbaoaa
