/-
  The document's powers of two (the reference's Log, Zeros, Down, Up) answer as the program's; the walk of the law ScaleTells.
-/
import Derived.Test.YtdnhjkmcogbaoaaScaleB
import Derived.Test.YtdnhjkmcogbaoaaZeroA
namespace Go.Proofs.Ytdnhjkmcogbaoaa
open Go.RowKit
theorem bitLenAux_is : ∀ (f k x : Nat), k + 1 ≤ f → 2 ^ k ≤ x → x < 2 ^ (k + 1) → Lib.bitLenAux f x = k + 1
  | 0, k, x, h, _, _ => by omega
  | f + 1, 0, x, h, h1, h2 => by
    have : x = 1 := by simp at h1 h2; omega
    subst this
    unfold Lib.bitLenAux
    rw [if_neg (by decide)]
    cases f <;> simp [Lib.bitLenAux]
  | f + 1, k + 1, x, h, h1, h2 => by
    have hp := pow_pos k
    rw [Nat.pow_succ] at h1
    rw [Nat.pow_succ, Nat.pow_succ] at h2
    unfold Lib.bitLenAux
    rw [if_neg (by omega), bitLenAux_is f k (x / 2) (by omega) (by omega) (by rw [Nat.pow_succ]; omega)]
    omega
theorem bitLen_is {x k : Nat} (hk : k < 64) (h : x / 2 ^ k % 2 = 1) (hx : x < 2 ^ (k + 1)) : Lib.bitLen x = k + 1 := by
  refine bitLenAux_is 64 k x (by omega) ?_ hx
  refine Decidable.byContradiction fun hc => ?_
  rw [Nat.div_eq_of_lt (by omega)] at h
  omega
theorem below_next {x k : Nat} (h : ¬ x / 2 ^ k % 2 = 1) (hx : x < 2 ^ (k + 1)) : x < 2 ^ k := by
  refine Decidable.byContradiction fun hc => h ?_
  have hp := pow_pos k
  rw [Nat.pow_succ] at hx
  have : x / 2 ^ k = 1 := Nat.div_eq_of_lt_le (by omega) (by rw [Nat.succ_mul]; omega)
  rw [this]
theorem reflog_any (x : Nat) (hx : x < 18446744073709551616) (w : World) :
    Calls Try.prog 37 #[.int .u64 x] w fun e w' => e = .returned (.int .i64 ((Lib.bitLen x : Int) - 1)) ∧ w = w' := by
  go_enter Try.func37, Try.ntmps37
  go_wp2
  go_loop [3] (fun v3 => ∃ k : Nat, k ≤ 64 ∧ v3 = .int .i64 ((k : Int) - 1) ∧ x < 2 ^ k) (fun v3 => (intOf v3 + 1).toNat)
  case atStart => exact ⟨64, by decide, rfl, hx⟩
  case round =>
    obtain ⟨k, hk, rfl, hxk⟩ := hrel
    have HX := Lib.hid hxk
    clear hxk
    cases k with
    | zero =>
      have h0 : x = 0 := by have := HX.out; simp at this; exact this
      subst h0
      go_wp2
      go_ret
      exact ⟨rfl, rfl⟩
    | succ k =>
      have e0 : (((k + 1 : Nat) : Int) - 1) = (k : Int) := by omega
      rw [e0]
      clear e0
      have HB := Lib.hid (bit64 x k hx)
      by_cases hb : x / 2 ^ k % 2 = 1
      · have e1 : (bits .and .u64 ((x : Int) / 2 ^ k) 1 == 1) = true := by rw [HB.out, hb]; rfl
        go_wp2
        go_ret
        exact ⟨ret_i64 (by rw [bitLen_is (by omega) hb HX.out]; omega), rfl⟩
      · have e1 : (bits .and .u64 ((x : Int) / 2 ^ k) 1 == 1) = false := by rw [HB.out, beq_eq_false_iff_ne]; omega
        go_wp2
        go_round
        case rel => exact ⟨k, by omega, by go_num, below_next hb HX.out⟩
        case measure => simp [intOf]
theorem refzeros_any (x : Nat) (hx : x < 18446744073709551616) (w : World) :
    Calls Try.prog 38 #[.int .u64 x] w fun e w' => e = .returned (.int .i64 (zerosOf x)) ∧ w = w' := by
  go_enter Try.func38, Try.ntmps38
  go_wp2
  go_loop [3] (fun v3 => ∃ k : Nat, k ≤ 64 ∧ v3 = .int .i64 k ∧ onesTo x k = []) (fun v3 => (64 - intOf v3).toNat)
  case atStart => exact ⟨0, by decide, rfl, rfl⟩
  case round =>
    obtain ⟨k, hk, rfl, hxk⟩ := hrel
    have HX := Lib.hid hxk
    clear hxk
    by_cases hlt : k < 64
    · have HB := Lib.hid (bit64 x k hx)
      by_cases hb : x / 2 ^ k % 2 = 1
      · have e1 : (bits .and .u64 ((x : Int) / 2 ^ k) 1 == 1) = true := by rw [HB.out, hb]; rfl
        go_wp2
        go_ret
        have hz : zerosOf x = k := zerosOf_some (by
          have := onesTo_prefix x (show k + 1 ≤ 64 by omega)
          rw [onesTo_hit hb, HX.out] at this
          exact this)
        exact ⟨ret_i64 (by rw [hz]), rfl⟩
      · have e1 : (bits .and .u64 ((x : Int) / 2 ^ k) 1 == 1) = false := by rw [HB.out, beq_eq_false_iff_ne]; omega
        go_wp2
        go_round
        case rel => exact ⟨k + 1, by omega, by go_num, by rw [onesTo_miss hb]; exact HX.out⟩
        case measure => simp [intOf]; omega
    · obtain rfl : k = 64 := by omega
      go_wp2
      go_ret
      exact ⟨ret_i64 (by rw [zerosOf_none HX.out]; rfl), rfl⟩
theorem dn_testBit (x c j : Nat) : (dn x c).testBit j = (decide (c ≤ j) && x.testBit j) := by
  unfold dn
  rw [Nat.testBit_mul_two_pow, Nat.testBit_div_two_pow]
  by_cases h : c ≤ j
  · simp [h, show j - c + c = j from by omega]
  · simp [h]
theorem dn_le (x c : Nat) : dn x c ≤ x := by have := dn_mod x c; omega
theorem dn_step (x k : Nat) (hx : x < 18446744073709551616) (hk : k < 64) : bits .andNot .u64 (dn x k : Int) (IntKind.u64.wrap (2 ^ k)) = (dn x (k + 1) : Int) := by
  have h1 := Nat.pow_le_pow_right (n := 2) (by decide) (show k ≤ 63 by omega)
  rw [show (2 : Nat) ^ 63 = 9223372036854775808 from by decide] at h1
  have e : ((2 : Int) ^ k) = ((2 ^ k : Nat) : Int) := by simp
  have e2 : IntKind.u64.wrap ((2 : Int) ^ k) = ((2 ^ k : Nat) : Int) := by
    rw [IntKind.wrap_u64, e]; generalize 2 ^ k = q at h1; omega
  have hd := dn_le x k
  rw [e2, u64_andNot_nat _ _ (by omega) (by omega)]
  congr 1
  have e3 : 18446744073709551615 - 2 ^ k = 2 ^ 64 - (2 ^ k + 1) := by
    have : (2 : Nat) ^ 64 = 18446744073709551616 := by decide
    omega
  rw [e3]
  apply Nat.eq_of_testBit_eq
  intro j
  have hlt : 2 ^ k < 2 ^ 64 := by
    have : (2 : Nat) ^ 64 = 18446744073709551616 := by decide
    omega
  rw [Nat.testBit_and, Nat.testBit_two_pow_sub_succ hlt, Nat.testBit_two_pow, dn_testBit, dn_testBit]
  by_cases h2 : j < 64
  · by_cases h3 : k = j
    · simp [h3, show ¬ j + 1 ≤ j from by omega]
    · by_cases h4 : k ≤ j
      · simp [h2, h3, h4, show k + 1 ≤ j from by omega]
      · simp [h4, show ¬ k + 1 ≤ j from by omega]
  · have : x.testBit j = false := Nat.testBit_lt_two_pow (Nat.lt_of_lt_of_le (show x < 2 ^ 64 from hx) (Nat.pow_le_pow_right (by decide) (by omega)))
    simp [this]
theorem dn_zero (x : Nat) : dn x 0 = x := by simp [dn]
theorem refdown_any (x : Nat) (e : Int) (hx : x < 18446744073709551616) (w : World) :
    Calls Try.prog 39 #[.int .u64 x, .int .i64 e] w fun e' w' => e' = .returned (.int .u64 (dn x (ce e))) ∧ w = w' := by
  have he : ce e = min e.toNat 64 := rfl
  have HE := Lib.hid he
  clear he
  go_enter Try.func39, Try.ntmps39
  go_wp2
  go_loop [0, 5] (fun v0 v5 => ∃ k : Nat, k ≤ ce e ∧ v5 = .int .i64 k ∧ v0 = .int .u64 (dn x k)) (fun _ v5 => (64 - intOf v5).toNat)
  case atStart => exact ⟨0, Nat.zero_le _, rfl, by rw [dn_zero]⟩
  case round =>
    obtain ⟨k, hk, rfl, rfl⟩ := hrel
    by_cases h1 : k < ce e
    · have h2 : (k : Int) < e := by rw [HE.out] at h1; omega
      have h3 : k < 64 := by rw [HE.out] at h1; omega
      have HD := Lib.hid (dn_step x k hx h3)
      go_wp2
      go_round
      case rel => exact ⟨k + 1, by omega, by go_num, by rw [HD.out]⟩
      case measure => simp [intOf]; omega
    · obtain rfl : k = ce e := by omega
      have hce := ce_le e
      by_cases h2 : (ce e : Int) < e
      · have h3 : ce e = 64 := by have := HE.out; omega
        have h4 : ¬ ((ce e : Nat) : Int) < 64 := by omega
        clear h1 h3
        go_wp2
        go_ret
        exact ⟨rfl, rfl⟩
      · clear h1
        go_wp2
        go_ret
        exact ⟨rfl, rfl⟩
theorem refup_walk0 (x : Nat) (e : Int) (hx : x < 18446744073709551616) (hd : dn x (ce e) = x) (w : World) :
    Calls Try.prog 36 #[.int .u64 x, .int .i64 e] w fun e' w' => e' = .returned (.tuple #[.int .u64 x, .bool true]) ∧ w = w' := by
  have h := refdown_any x e hx
  rw [hd] at h
  clear hd
  have H := Lib.hid h
  clear h
  go_enter Try.func36, Try.ntmps36
  go_wp2_with ((with_reducible (go_at_call 39; refine (H.out _).mono ?_)); rintro e w' ⟨rfl, rfl⟩)
  go_ret2
  exact ⟨rfl, rfl⟩
theorem refup_walk1 (x d : Nat) (e : Int) (hx : x < 18446744073709551616) (hd : dn x (ce e) = d) (hne : ((d : Int) == x) = false) (he : 63 < e) (w : World) :
    Calls Try.prog 36 #[.int .u64 x, .int .i64 e] w fun e' w' => e' = .returned (.tuple #[.int .u64 0, .bool false]) ∧ w = w' := by
  have h := refdown_any x e hx
  rw [hd] at h
  clear hd
  have H := Lib.hid h
  clear h
  go_enter Try.func36, Try.ntmps36
  go_wp2_with ((with_reducible (go_at_call 39; refine (H.out _).mono ?_)); rintro e w' ⟨rfl, rfl⟩)
  go_ret2
  exact ⟨rfl, rfl⟩
theorem refup_walk2 (x d k : Nat) (u : Int) (hx : x < 18446744073709551616) (hd : dn x k = d) (hk : k < 64) (hne : ((d : Int) == x) = false) (hu : IntKind.u64.wrap ((d : Int) + IntKind.u64.wrap (2 ^ k)) = u) (hlt : u < d) (w : World) :
    Calls Try.prog 36 #[.int .u64 x, .int .i64 k] w fun e' w' => e' = .returned (.tuple #[.int .u64 0, .bool false]) ∧ w = w' := by
  have h := refdown_any x k hx
  rw [show ce (k : Int) = k from by unfold ce; omega, hd] at h
  clear hd
  have H := Lib.hid h
  clear h
  go_enter Try.func36, Try.ntmps36
  go_wp2_with ((with_reducible (go_at_call 39; refine (H.out _).mono ?_)); rintro e w' ⟨rfl, rfl⟩)
  go_ret2
  exact ⟨rfl, rfl⟩
theorem refup_walk3 (x d k : Nat) (u : Int) (hx : x < 18446744073709551616) (hd : dn x k = d) (hk : k < 64) (hne : ((d : Int) == x) = false) (hu : IntKind.u64.wrap ((d : Int) + IntKind.u64.wrap (2 ^ k)) = u) (hlt : ¬ u < d) (w : World) :
    Calls Try.prog 36 #[.int .u64 x, .int .i64 k] w fun e' w' => e' = .returned (.tuple #[.int .u64 u, .bool true]) ∧ w = w' := by
  have h := refdown_any x k hx
  rw [show ce (k : Int) = k from by unfold ce; omega, hd] at h
  clear hd
  have H := Lib.hid h
  clear h
  go_enter Try.func36, Try.ntmps36
  go_wp2_with ((with_reducible (go_at_call 39; refine (H.out _).mono ?_)); rintro e w' ⟨rfl, rfl⟩)
  go_ret2
  exact ⟨rfl, rfl⟩
theorem wrap_two (k : Nat) (hk : k < 64) : IntKind.u64.wrap ((2 : Int) ^ k) = ((2 ^ k : Nat) : Int) ∧ 2 ^ k ≤ 9223372036854775808 := by
  have h1 := Nat.pow_le_pow_right (n := 2) (by decide) (show k ≤ 63 by omega)
  rw [show (2 : Nat) ^ 63 = 9223372036854775808 from by decide] at h1
  have e : ((2 : Int) ^ k) = ((2 ^ k : Nat) : Int) := by simp
  rw [IntKind.wrap_u64, e]
  generalize 2 ^ k = q at h1
  omega
theorem refup_any (x : Nat) (e : Int) (hx : x < 18446744073709551616) (w : World) :
    Calls Try.prog 36 #[.int .u64 x, .int .i64 e] w fun e' w' => e' = .returned (.tuple #[.int .u64 (upV x (ce e)), .bool (upB x (ce e))]) ∧ w = w' := by
  have hc := ce_le e
  by_cases h0 : x % 2 ^ ce e = 0
  · have hd : dn x (ce e) = x := by have := dn_mod x (ce e); omega
    refine (refup_walk0 x e hx hd w).mono ?_
    rintro e' w' ⟨rfl, rfl⟩
    exact ⟨ret_up (by simp [upV, up_zero h0, hx]) (by simp [upB, up_zero h0, hx]), rfl⟩
  · have hne : ((dn x (ce e) : Int) == x) = false := by
      rw [beq_eq_false_iff_ne]; have := dn_mod x (ce e); omega
    by_cases h63 : 63 < e
    · have hce : ce e = 64 := by unfold ce; omega
      refine (refup_walk1 x _ e hx rfl hne h63 w).mono ?_
      rintro e' w' ⟨rfl, rfl⟩
      have h2 : ¬ up x (ce e) < 18446744073709551616 := by
        refine (up_over hc hx h0).1 ?_
        rw [hce] at h0 ⊢
        rw [show (2 : Nat) ^ 64 = 18446744073709551616 from by decide] at h0 ⊢
        omega
      exact ⟨ret_up (by simp [upV, h2]) (by simp [upB, h2]), rfl⟩
    · have hpos : 0 ≤ e := by
        refine Decidable.byContradiction fun hneg => h0 ?_
        have : ce e = 0 := by unfold ce; omega
        rw [this]; omega
      obtain ⟨k, rfl⟩ := Int.eq_ofNat_of_zero_le hpos
      have hk : k < 64 := by omega
      have hck : ce k = k := by unfold ce; omega
      rw [hck] at h0 hne ⊢
      obtain ⟨w1, w2⟩ := wrap_two k hk
      have hroom := mult_room (show k ≤ 64 by omega) (q := x / 2 ^ k) (by have := dn_le x k; unfold dn at this; omega)
      have hmod := dn_mod x k
      have hml := Nat.mod_lt x (pow_pos k)
      have hus := up_step h0
      have hdn : dn x k = x / 2 ^ k * 2 ^ k := rfl
      have hu : IntKind.u64.wrap ((dn x k : Int) + IntKind.u64.wrap (2 ^ k)) = ((dn x k + 2 ^ k : Nat) : Int) % 18446744073709551616 := by
        rw [w1, IntKind.wrap_u64]; omega
      by_cases h2 : up x k < 18446744073709551616
      · refine (refup_walk3 x _ k _ hx rfl hk hne hu (by rw [← hus]; omega) w).mono ?_
        rintro e' w' ⟨rfl, rfl⟩
        exact ⟨ret_up (by rw [← hus]; simp only [upV, h2, if_true]; omega) (by simp [upB, h2]), rfl⟩
      · refine (refup_walk2 x _ k _ hx rfl hk hne hu (by rw [← hus]; rw [hus] at h2; omega) w).mono ?_
        rintro e' w' ⟨rfl, rfl⟩
        exact ⟨ret_up (by simp [upV, h2]) (by simp [upB, h2]), rfl⟩
end Go.Proofs.Ytdnhjkmcogbaoaa
