/-
  Bounds that are kept: the contracts of bounds.may, kept, choose, shift, Rounded, Encode, Length and Align, for the spans that may be.
-/
import Derived.Test.YtdnhjkmcogbaoaaScaleB
import Derived.RegionTactic
import Derived.BigRegion
import Derived.Deep.RegionHeld3
namespace Go.Proofs.Ytdnhjkmcogbaoaa
open Go.RowKit
section
variable {a w : World}
theorem ba (h : Below a.heap.size a w) (o : Obj) : Below a.heap.size a (w.alloc o) := h.alloc h.size o
theorem bd (h : Below a.heap.size a w) : Below a.heap.size a w.drew := h.drew
theorem bn (h : Below a.heap.size a w) (n : Nat) : Below a.heap.size a (w.drewN n) := below_drewN h n
theorem bc {w' : World} (h : Below a.heap.size a w) (k : Below w.heap.size w w') : Below a.heap.size a w' := h.trans (k.mono h.size)
end
/-- A span, as a value. -/
abbrev spanV (b t : Nat) : Value := .agg #[.int .u64 (b : Int), .int .u64 (t : Int)]
def mayB (b t : Nat) : Bool := decide (b ≤ t ∧ t ≤ 281474976710656)
theorem may_any (b t : Nat) (w : World) :
    Calls Try.prog 77 #[.agg #[.int .u64 b, .int .u64 t]] w fun e w' => e = .returned (.bool (mayB b t)) ∧ Below w.heap.size w w' := by
  by_cases h : b ≤ t
  · have h1 : decide (b ≤ t) = true := decide_eq_true h
    go_enter Try.func77, Try.ntmps77
    go_wp2
    go_ret
    refine ⟨ret_bool ?_, (Below.refl _ _).alloc (Nat.le_refl _) _⟩
    unfold mayB; rw [Bool.eq_iff_iff]; simp only [decide_eq_true_eq]; omega
  · have h1 : decide (b ≤ t) = false := decide_eq_false h
    go_enter Try.func77, Try.ntmps77
    go_wp2
    go_ret
    refine ⟨ret_bool ?_, (Below.refl _ _).alloc (Nat.le_refl _) _⟩
    unfold mayB; symm; simp only [decide_eq_false_iff_not]; omega
theorem shift_any (e : Nat) (he : e < 9223372036854775808) (w : World) :
    Calls Try.prog 79 #[.int .u64 e] w fun e' w' => e' = .returned (.int .i64 ((e - 1 : Nat) : Int)) ∧ w = w' := by
  go_enter Try.func79, Try.ntmps79
  go_wp2
  go_ret
  exact ⟨ret_i64 (by omega), rfl⟩
theorem kept_walk (b t x d u q : Nat) (hx40 : x ≤ 40) (hb : b < 18446744073709551616) (ht : t < 18446744073709551616) (hd : dn b x = d) (hu : upV t x = u) (hub : upB t x = true) (hdu : d ≤ u) (hu64 : u < 18446744073709551616) (hq : (u - d) / 2 ^ x = q) (w : World) :
    Calls Try.prog 94 #[.agg #[.int .u64 b, .int .u64 t], .int .i64 x] w fun e w' => e = .returned (.tuple #[.agg #[.int .u64 d, .int .u64 u], .int .u64 q]) ∧ Below w.heap.size w w' := by
  have hdn := down_any b x hb
  have hup := up_any t x ht
  rw [show ce (x : Int) = x from by unfold ce; omega] at hdn hup
  rw [hd] at hdn
  rw [hu, hub] at hup
  have HD := Lib.hid hdn
  have HU := Lib.hid hup
  have HQ := Lib.hid hq
  clear hdn hup hd hu hub hq
  go_enter Try.func94, Try.ntmps94
  go_wp2_with (first | ((with_reducible (go_at_call 35; refine (HU.out _).mono ?_)); rintro e1 w1 ⟨rfl, rfl⟩) | ((with_reducible (go_at_call 34; refine (HD.out _).mono ?_)); rintro e1 w1 ⟨rfl, rfl⟩))
  go_region
  go_wp2
  refine bodyPost_ret (v := .tuple #[.agg #[.int .u64 d, .int .u64 u], .int .u64 (((u : Int) - d) / 2 ^ x)]) (by simp [results, Try.results94, go_sem]) rfl ⟨?_, ?_⟩
  · have e1 : ((u : Int) - d) / 2 ^ x = (q : Int) := by
      rw [← HQ.out]
      have : ((u : Int) - d) = ((u - d : Nat) : Int) := by omega
      rw [this]; simp
    rw [e1]
  · exact bd (ba (ba (ba (Below.refl _ _) _) _) _)
/-- The span that is kept in steps of 2^x, where the sums do not pass 2^64. -/
theorem kept_any (b t x : Nat) (hbt : b ≤ t) (ht : t ≤ 281474976710656) (hx40 : x ≤ 40) (w : World) :
    Calls Try.prog 94 #[.agg #[.int .u64 b, .int .u64 t], .int .i64 x] w fun e w' => e = .returned (.tuple #[.agg #[.int .u64 (dn b x), .int .u64 (up t x)], .int .u64 ((up t x - dn b x) / 2 ^ x : Nat)]) ∧ Below w.heap.size w w' := by
  have h1 := dn_mod b x
  have h2 := dn_mod t x
  have hp := pow_pos x
  have h3 : up t x ≤ dn t x + 2 ^ x ∧ t ≤ up t x := by
    by_cases h : t % 2 ^ x = 0
    · rw [up_zero h]; omega
    · rw [up_step h]; have := Nat.mod_lt t hp; omega
  have h4 : 2 ^ x ≤ 1099511627776 := by
    have := Nat.pow_le_pow_right (n := 2) (by decide) hx40
    rwa [show (2 : Nat) ^ 40 = 1099511627776 from by decide] at this
  have h5 : up t x < 18446744073709551616 := by omega
  exact kept_walk b t x (dn b x) (up t x) _ hx40 (by omega) (by omega) rfl (by simp [upV, h5]) (by simp [upB, h5]) (by omega) h5 rfl w
end Go.Proofs.Ytdnhjkmcogbaoaa
