/-
  Plain laws on powers of two; the contracts of scale.Log, unit, Down and Up, for any numbers.
-/
import Derived.Test.YtdnhjkmcogbaoaaSumA
import Derived.Test.YtdnhjkmcogbaoaaShelfA
import Derived.Laws.BitsAllLaws
namespace Go.Proofs.Ytdnhjkmcogbaoaa
open Go.RowKit
/-- An exponent, as the program takes it. -/
def ce (e : Int) : Nat := min e.toNat 64
theorem ce_le (e : Int) : ce e ≤ 64 := by unfold ce; omega
theorem pow_le64 {c : Nat} (h : c ≤ 64) : 2 ^ c ≤ 18446744073709551616 := by
  have := Nat.pow_le_pow_right (n := 2) (by decide) h
  rwa [show (2 : Nat) ^ 64 = 18446744073709551616 from by decide] at this
theorem pow_pos (c : Nat) : 0 < 2 ^ c := Nat.two_pow_pos c
/-- The greatest multiple below, the least above. -/
def dn (x c : Nat) : Nat := x / 2 ^ c * 2 ^ c
def up (x c : Nat) : Nat := (x + (2 ^ c - 1)) / 2 ^ c * 2 ^ c
def upV (x c : Nat) : Nat := if up x c < 18446744073709551616 then up x c else 0
def upB (x c : Nat) : Bool := decide (up x c < 18446744073709551616)
theorem dn_mod (x c : Nat) : dn x c + x % 2 ^ c = x := by unfold dn; rw [Nat.mul_comm]; exact Nat.div_add_mod x (2 ^ c)
theorem up_zero {x c : Nat} (h : x % 2 ^ c = 0) : up x c = x := by
  have hp := pow_pos c
  have h1 := Nat.div_add_mod x (2 ^ c)
  unfold up
  have e : (x + (2 ^ c - 1)) / 2 ^ c = x / 2 ^ c := by
    apply Nat.div_eq_of_lt_le
    · rw [Nat.mul_comm]; omega
    · rw [Nat.succ_mul, Nat.mul_comm]; omega
  rw [e, Nat.mul_comm]; omega
theorem up_step {x c : Nat} (h : ¬ x % 2 ^ c = 0) : up x c = dn x c + 2 ^ c := by
  have hp := pow_pos c
  have h1 := Nat.div_add_mod x (2 ^ c)
  have h2 := Nat.mod_lt x hp
  unfold up dn
  have e : (x + (2 ^ c - 1)) / 2 ^ c = x / 2 ^ c + 1 := by
    apply Nat.div_eq_of_lt_le
    · rw [Nat.succ_mul, Nat.mul_comm]; omega
    · rw [Nat.succ_mul, Nat.succ_mul, Nat.mul_comm]; omega
  rw [e, Nat.succ_mul]
/-- 2^64 is a multiple of each power up to it. -/
theorem whole_pow {c : Nat} (h : c ≤ 64) : ∃ m, 18446744073709551616 = m * 2 ^ c := ⟨2 ^ (64 - c), by rw [← Nat.pow_add, show 64 - c + c = 64 from by omega]⟩
/-- A multiple below 2^64 leaves a whole power's room. -/
theorem mult_room {c q : Nat} (h : c ≤ 64) (hq : q * 2 ^ c < 18446744073709551616) : q * 2 ^ c + 2 ^ c ≤ 18446744073709551616 := by
  obtain ⟨m, hm⟩ := whole_pow h
  rw [hm] at hq ⊢
  have : q < m := Nat.lt_of_mul_lt_mul_right hq
  have := Nat.mul_le_mul_right (2 ^ c) (show q + 1 ≤ m from this)
  rw [Nat.succ_mul] at this; exact this
/-- The sum that the program takes passes 2^64 just where the multiple above does. -/
theorem up_over {x c : Nat} (hc : c ≤ 64) (hx : x < 18446744073709551616) (h : ¬ x % 2 ^ c = 0) : (18446744073709551616 ≤ x + (2 ^ c - 1)) ↔ ¬ up x c < 18446744073709551616 := by
  rw [up_step h]
  have hp := pow_pos c
  have h1 := dn_mod x c
  have h2 := Nat.mod_lt x hp
  constructor
  · intro h3 h4
    have h5 : (x / 2 ^ c + 1) * 2 ^ c < 18446744073709551616 := by rw [Nat.succ_mul]; exact h4
    have h6 := mult_room hc h5
    rw [Nat.succ_mul] at h6
    have e : x / 2 ^ c * 2 ^ c = dn x c := rfl
    omega
  · intro h3; omega
theorem and_pow (x c : Nat) : x &&& (2 ^ c - 1) = x % 2 ^ c := Nat.and_two_pow_sub_one_eq_mod x c
theorem andnot_pow (x c : Nat) (hx : x < 18446744073709551616) (hc : c ≤ 64) : x &&& (18446744073709551615 - (2 ^ c - 1)) = dn x c := by
  have hp := pow_pos c
  have hpl := pow_le64 hc
  have e : (18446744073709551615 - (2 ^ c - 1)) = 2 ^ 64 - ((2 ^ c - 1) + 1) := by
    have : (2 : Nat) ^ 64 = 18446744073709551616 := by decide
    omega
  rw [e]
  apply Nat.eq_of_testBit_eq
  intro j
  have hlt : 2 ^ c - 1 < 2 ^ 64 := by
    have : (2 : Nat) ^ 64 = 18446744073709551616 := by decide
    omega
  rw [Nat.testBit_and, Nat.testBit_two_pow_sub_succ hlt, Nat.testBit_two_pow_sub_one]
  unfold dn
  rw [Nat.testBit_mul_two_pow, Nat.testBit_div_two_pow]
  by_cases h1 : j < c
  · have : ¬ c ≤ j := by omega
    simp [h1, this]
  · by_cases h2 : j < 64
    · simp [h1, h2, show c ≤ j from by omega, show j - c + c = j from by omega]
    · have : x.testBit j = false := Nat.testBit_lt_two_pow (Nat.lt_of_lt_of_le (show x < 2 ^ 64 from hx) (Nat.pow_le_pow_right (by decide) (by omega)))
      simp [h2, show c ≤ j from by omega, this, show j - c + c = j from by omega]
theorem bitLenAux_le : ∀ f x : Nat, Lib.bitLenAux f x ≤ f
  | 0, _ => Nat.le_refl _
  | f + 1, x => by
    unfold Lib.bitLenAux
    split
    · omega
    · have := bitLenAux_le f (x / 2); omega
theorem bitLen64 (x : Nat) : Lib.bitLen x ≤ 64 := bitLenAux_le 64 x
theorem wrap_pow (k : Nat) (hk : k < 64) : IntKind.u64.wrap (IntKind.u64.wrap (2 ^ k) - 1) = ((2 ^ k - 1 : Nat) : Int) := by
  have h1 := Nat.pow_le_pow_right (n := 2) (by decide) (show k ≤ 63 by omega)
  rw [show (2 : Nat) ^ 63 = 9223372036854775808 from by decide] at h1
  have hp := pow_pos k
  have e : ((2 : Int) ^ k) = ((2 ^ k : Nat) : Int) := by simp
  rw [IntKind.wrap_u64, IntKind.wrap_u64, e]
  generalize 2 ^ k = q at h1 hp
  omega
theorem ret_i64 {a b : Int} (h : a = b) : Ending.returned (.int .i64 a) = .returned (.int .i64 b) := by rw [h]
theorem ret_u64 {a b : Int} (h : a = b) : Ending.returned (.int .u64 a) = .returned (.int .u64 b) := by rw [h]
theorem ret_up {a b : Int} {c d : Bool} (h1 : a = b) (h2 : c = d) : Ending.returned (.tuple #[.int .u64 a, .bool c]) = .returned (.tuple #[.int .u64 b, .bool d]) := by rw [h1, h2]
theorem log_any (x : Nat) (hx : x < 18446744073709551616) (w : World) :
    Calls Try.prog 25 #[.int .u64 x] w fun e w' => e = .returned (.int .i64 ((Lib.bitLen x : Int) - 1)) ∧ w = w' := by
  have h := bitLen64 x
  go_enter Try.func25, Try.ntmps25
  go_wp2_with (go_at_call 62; refine (bits_Len64 x _ (by omega) (by omega)).mono ?_; rintro e w' ⟨rfl, rfl⟩)
  go_ret
  exact ⟨rfl, rfl⟩
theorem unit_any (e : Int) (w : World) :
    Calls Try.prog 63 #[.int .i64 e] w fun e' w' => e' = .returned (.int .u64 ((2 ^ ce e - 1 : Nat) : Int)) ∧ w = w' := by
  by_cases h0 : e ≤ 0
  · have hc : ce e = 0 := by unfold ce; omega
    have HC := Lib.hid hc
    clear hc
    go_enter Try.func63, Try.ntmps63
    go_wp2
    go_ret
    exact ⟨ret_u64 (by rw [HC.out]; rfl), rfl⟩
  · by_cases h1 : 64 ≤ e
    · have hc : ce e = 64 := by unfold ce; omega
      have HC := Lib.hid hc
      clear hc
      go_enter Try.func63, Try.ntmps63
      go_wp2
      go_ret
      exact ⟨ret_u64 (by rw [HC.out]; rfl), rfl⟩
    · obtain ⟨k, rfl⟩ := Int.eq_ofNat_of_zero_le (show 0 ≤ e by omega)
      have hc : ce k = k := by unfold ce; omega
      have HC := Lib.hid hc
      clear hc
      have hk : k < 64 := by omega
      have hk0 : 0 < k := by omega
      clear h0 h1
      go_enter Try.func63, Try.ntmps63
      go_wp2
      go_ret
      exact ⟨ret_u64 (by rw [HC.out]; exact wrap_pow k hk), rfl⟩
theorem unit_lt (c : Nat) (h : c ≤ 64) : 2 ^ c - 1 < 18446744073709551616 := by have := pow_le64 h; have := pow_pos c; omega
theorem unit_u (e : Int) (u : Nat) (hu : 2 ^ ce e - 1 = u) (w : World) :
    Calls Try.prog 63 #[.int .i64 e] w fun e' w' => e' = .returned (.int .u64 u) ∧ w = w' := by rw [← hu]; exact unit_any e w
theorem down_walk (x u d : Nat) (e : Int) (hu : 2 ^ ce e - 1 = u) (h : bits .andNot .u64 (x : Int) (u : Int) = (d : Int)) (w : World) :
    Calls Try.prog 34 #[.int .u64 x, .int .i64 e] w fun e' w' => e' = .returned (.int .u64 d) ∧ w = w' := by
  have HU := Lib.hid hu
  clear hu
  go_enter Try.func34, Try.ntmps34
  go_wp2_with ((with_reducible (go_at_call 63; refine (unit_u e u HU.out _).mono ?_)); rintro e w' ⟨rfl, rfl⟩)
  go_ret
  exact ⟨rfl, rfl⟩
theorem down_any (x : Nat) (e : Int) (hx : x < 18446744073709551616) (w : World) :
    Calls Try.prog 34 #[.int .u64 x, .int .i64 e] w fun e' w' => e' = .returned (.int .u64 (dn x (ce e))) ∧ w = w' := by
  refine down_walk x _ _ e rfl ?_ w
  rw [u64_andNot_nat x _ hx (unit_lt _ (ce_le e)), andnot_pow x _ hx (ce_le e)]
theorem up_walk0 (x u : Nat) (e : Int) (hu : 2 ^ ce e - 1 = u) (h : bits .and .u64 (x : Int) (u : Int) = 0) (w : World) :
    Calls Try.prog 35 #[.int .u64 x, .int .i64 e] w fun e' w' => e' = .returned (.tuple #[.int .u64 x, .bool true]) ∧ w = w' := by
  have HU := Lib.hid hu
  clear hu
  go_enter Try.func35, Try.ntmps35
  go_wp2_with ((with_reducible (go_at_call 63; refine (unit_u e u HU.out _).mono ?_)); rintro e w' ⟨rfl, rfl⟩)
  go_ret2
  exact ⟨rfl, rfl⟩
theorem up_walk1 (x u : Nat) (e : Int) (hu : 2 ^ ce e - 1 = u) (h : (bits .and .u64 (x : Int) (u : Int) == 0) = false) (ho : sumO x u = true) (w : World) :
    Calls Try.prog 35 #[.int .u64 x, .int .i64 e] w fun e' w' => e' = .returned (.tuple #[.int .u64 0, .bool false]) ∧ w = w' := by
  have HU := Lib.hid hu
  clear hu
  go_enter Try.func35, Try.ntmps35
  go_wp2_with (first | ((with_reducible (go_at_call 63; refine (unit_u e u HU.out _).mono ?_)); rintro e w' ⟨rfl, rfl⟩) | ((with_reducible (go_at_call 15; refine (add_any x u (by omega) (by omega) _).mono ?_)); rintro e w' ⟨rfl, rfl⟩))
  go_ret2
  exact ⟨rfl, rfl⟩
theorem up_walk2 (x u : Nat) (e r : Int) (hu : 2 ^ ce e - 1 = u) (h : (bits .and .u64 (x : Int) (u : Int) == 0) = false) (ho : sumO x u = false) (hr : bits .andNot .u64 (sumM x u) (u : Int) = r) (w : World) :
    Calls Try.prog 35 #[.int .u64 x, .int .i64 e] w fun e' w' => e' = .returned (.tuple #[.int .u64 r, .bool true]) ∧ w = w' := by
  have HU := Lib.hid hu
  clear hu
  go_enter Try.func35, Try.ntmps35
  go_wp2_with (first | ((with_reducible (go_at_call 63; refine (unit_u e u HU.out _).mono ?_)); rintro e w' ⟨rfl, rfl⟩) | ((with_reducible (go_at_call 15; refine (add_any x u (by omega) (by omega) _).mono ?_)); rintro e w' ⟨rfl, rfl⟩))
  go_ret2
  exact ⟨rfl, rfl⟩
theorem up_any (x : Nat) (e : Int) (hx : x < 18446744073709551616) (w : World) :
    Calls Try.prog 35 #[.int .u64 x, .int .i64 e] w fun e' w' => e' = .returned (.tuple #[.int .u64 (upV x (ce e)), .bool (upB x (ce e))]) ∧ w = w' := by
  have hc := ce_le e
  have hu := unit_lt _ hc
  have hand : bits .and .u64 (x : Int) ((2 ^ ce e - 1 : Nat) : Int) = ((x % 2 ^ ce e : Nat) : Int) := by rw [u64_and_nat x _ hx hu, and_pow]
  by_cases h0 : x % 2 ^ ce e = 0
  · refine (up_walk0 x _ e rfl (by rw [hand, h0]; rfl) w).mono ?_
    rintro e' w' ⟨rfl, rfl⟩
    exact ⟨ret_up (by simp [upV, up_zero h0, hx]) (by simp [upB, up_zero h0, hx]), rfl⟩
  · have h0' : (bits .and .u64 (x : Int) ((2 ^ ce e - 1 : Nat) : Int) == 0) = false := by rw [hand, beq_eq_false_iff_ne]; omega
    by_cases h1 : 18446744073709551616 ≤ x + (2 ^ ce e - 1)
    · have h2 := (up_over hc hx h0).1 h1
      refine (up_walk1 x _ e rfl h0' (by unfold sumO; rw [decide_eq_true_eq]; omega) w).mono ?_
      rintro e' w' ⟨rfl, rfl⟩
      exact ⟨ret_up (by simp [upV, h2]) (by simp [upB, h2]), rfl⟩
    · have h2 : up x (ce e) < 18446744073709551616 := Decidable.byContradiction fun h => h1 ((up_over hc hx h0).2 h)
      refine (up_walk2 x _ e (up x (ce e)) rfl h0' (by unfold sumO; rw [decide_eq_false_iff_not]; omega) ?_ w).mono ?_
      · have e1 : sumM x ((2 ^ ce e - 1 : Nat) : Int) = ((x + (2 ^ ce e - 1) : Nat) : Int) := by unfold sumM; omega
        rw [e1, u64_andNot_nat _ _ (by omega) hu, andnot_pow _ _ (by omega) hc]
        rfl
      · rintro e' w' ⟨rfl, rfl⟩
        exact ⟨ret_up (by simp [upV, h2]) (by simp [upB, h2]), rfl⟩
end Go.Proofs.Ytdnhjkmcogbaoaa
