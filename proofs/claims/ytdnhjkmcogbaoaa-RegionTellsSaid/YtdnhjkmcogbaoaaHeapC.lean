/-
  heap.Again, Settle's closure.
-/
import Derived.Test.YtdnhjkmcogbaoaaHeapB
import Derived.BigQuiet
namespace Go.Proofs.Ytdnhjkmcogbaoaa
open Go.RowKit
def againI (a : Int) : Int := a + 2 + a % 2
theorem again_any (a : Int) (h0 : 0 ≤ a) (h1 : a ≤ 1099511627776) (w : World) :
    Calls Try.prog 46 #[.int .i64 a] w fun e w' => e = .returned (.int .i64 (againI a)) ∧ w = w' := by
  rcases Int.emod_two_eq a with h | h
  · have e1 : (a % 2 != 0) = false := by rw [h]; rfl
    have HR := Lib.hid (show a + 2 = againI a from by unfold againI; omega)
    clear h
    go_enter Try.func46, Try.ntmps46
    go_wp2
    go_ret
    exact ⟨ret_i64 HR.out, rfl⟩
  · have e1 : (a % 2 != 0) = true := by rw [h]; rfl
    have HR := Lib.hid (show a + 3 = againI a from by unfold againI; omega)
    clear h
    go_enter Try.func46, Try.ntmps46
    go_wp2
    go_ret
    exact ⟨ret_i64 HR.out, rfl⟩
def goneB (now : Int) (k : Blk) : Bool := k.f && decide (againI k.a ≤ now)
theorem settle1_any (k : Blk) (cb : Nat) (now : Int) (W : World) (hc : HB W cb #[.int .i64 now] 3) (ha : 0 ≤ k.a ∧ k.a ≤ 1099511627776) :
    Calls Try.prog 72 #[blkV k, .pointer (some ⟨cb, 0, none⟩)] W fun e w' => e = .returned (.bool (goneB now k)) ∧ Below W.heap.size W w' := by
  obtain ⟨b, t, f, a⟩ := k
  have HA := Lib.hid (again_any a ha.1 ha.2)
  have hgo : goneB now ⟨b, t, f, a⟩ = (f && decide (againI a ≤ now)) := rfl
  rw [hgo]
  clear hgo
  generalize againI a = ag at HA ⊢
  have c0 := (hc.alloc (.cells #[.int .u64 (b : Int), .int .u64 (t : Int), .bool f, .int .i64 a] 103)).cell 0 _ rfl
  clear hc ha
  cases f with
  | false =>
    go_enter Try.func72, Try.ntmps72
    go_wp2
    go_quiet ((go_at_call 46; exact quietly (HA.out _)))
    go_wp2
    go_ret
    exact ⟨rfl, bn (ba (Below.refl _ _) _) _⟩
  | true =>
    rw [Bool.true_and]
    go_enter Try.func72, Try.ntmps72
    go_wp2
    go_quiet ((go_at_call 46; exact quietly (HA.out _)))
    go_wp2
    go_ret
    exact ⟨rfl, bn (ba (Below.refl _ _) _) _⟩
end Go.Proofs.Ytdnhjkmcogbaoaa
