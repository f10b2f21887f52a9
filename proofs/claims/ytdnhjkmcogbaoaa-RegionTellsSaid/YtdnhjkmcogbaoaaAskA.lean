/-
  What is asked: plain laws of the lengths that are kept, and the contracts of heap's and region's asked.
-/
import Derived.Test.YtdnhjkmcogbaoaaBoundB
namespace Go.Proofs.Ytdnhjkmcogbaoaa
open Go.RowKit
theorem up_spec (n c : Nat) : n ≤ up n c ∧ up n c < n + 2 ^ c ∧ up n c % 2 ^ c = 0 := by
  have hp := pow_pos c
  have hm := dn_mod n c
  by_cases h : n % 2 ^ c = 0
  · rw [up_zero h]; exact ⟨Nat.le_refl _, by omega, h⟩
  · have hl := Nat.mod_lt n hp
    refine ⟨?_, ?_, Nat.mul_mod_left _ _⟩
    · rw [up_step h]; omega
    · rw [up_step h]; omega
theorem dn_zero' (c : Nat) : dn 0 c = 0 := by simp [dn]
theorem dn_of_dvd {n c : Nat} (h : n % 2 ^ c = 0) : dn n c = n := by have := dn_mod n c; omega
theorem mod_pow_le {n a b : Nat} (hab : a ≤ b) (h : n % 2 ^ b = 0) : n % 2 ^ a = 0 :=
  Nat.mod_eq_zero_of_dvd (Nat.dvd_trans (Nat.pow_dvd_pow 2 hab) (Nat.dvd_of_mod_eq_zero h))
theorem bitLen_of {n x : Nat} (hx : x ≤ 36) (h1 : 2 ^ (x + 12) ≤ n) (h2 : n < 2 ^ (x + 13)) : Lib.bitLen n = x + 13 := bitLenAux_is 64 (x + 12) n (by omega) h1 h2
theorem log_ex {n : Nat} (h : 4096 ≤ n) : ∃ x, 2 ^ (x + 12) ≤ n ∧ n < 2 ^ (x + 13) := by
  have h0 : n ≠ 0 := by omega
  have h1 : 12 ≤ n.log2 := (Nat.le_log2 h0).mpr h
  refine ⟨n.log2 - 12, ?_, ?_⟩
  · rw [show n.log2 - 12 + 12 = n.log2 from by omega]; exact Nat.log2_self_le h0
  · rw [show n.log2 - 12 + 13 = n.log2 + 1 from by omega]; exact Nat.lt_log2_self
theorem pow36 {x : Nat} {n : Nat} (h : 2 ^ (x + 12) ≤ n) (hn : n ≤ 281474976710656) : x ≤ 36 := by
  rcases Nat.lt_or_ge 36 x with h1 | h1
  · have : (2 : Nat) ^ 49 ≤ 2 ^ (x + 12) := Nat.pow_le_pow_right (by decide) (by omega)
    rw [show (2 : Nat) ^ 49 = 562949953421312 from by decide] at this; omega
  · exact h1
theorem pow_split (x k : Nat) : 2 ^ (x + k) = 2 ^ k * 2 ^ x := by rw [Nat.pow_add, Nat.mul_comm]
/-- A span that is of whole steps, and of 2^12 of them or more, and fewer than 2^13, is kept as it is. -/
theorem choose_whole (b N y : Nat) (h : b + N ≤ 281474976710656) (h1 : 2 ^ (y + 12) ≤ N) (h2 : N < 2 ^ (y + 13)) (hN : N % 2 ^ y = 0) (hb : b % 2 ^ y = 0) : ChooseIs b (b + N) (y + 1) b (b + N) := by
  have hy := pow36 h1 (by omega)
  have hp := pow_pos y
  have e := pow_split y 12
  have e13 := pow_split y 13
  refine fun w => choose_once b (b + N) y b (b + N) (N / 2 ^ y) (by omega) h ?_ hy ?_ (dn_of_dvd hb) (up_zero ?_) (by rw [Nat.add_sub_cancel_left]) ?_ w
  · rw [Nat.add_sub_cancel_left]; have : 1 * 2 ^ 12 ≤ 2 ^ y * 2 ^ 12 := Nat.mul_le_mul_right _ hp; rw [Nat.mul_comm] at e; omega
  · rw [Nat.add_sub_cancel_left]; exact bitLen_of hy h1 h2
  · rw [Nat.add_mod, hN, hb]; simp
  · rw [e13] at h2; exact (Nat.div_lt_iff_lt_mul hp).mpr h2
/-- The least length that may be kept, and is not below another one. -/
theorem length_ex (n : Nat) (hn : 4096 ≤ n) (hm : n ≤ 274877906944) : ∃ N y e d, ChooseIs 0 n e d N ∧ n ≤ N ∧ N ≤ 274877906944 ∧ 2 ^ (y + 12) ≤ N ∧ N < 2 ^ (y + 13) ∧ N % 2 ^ y = 0 ∧ (n % 4096 = 0 → N % 4096 = 0) := by
  obtain ⟨x, h1, h2⟩ := log_ex hn
  have hx := pow36 h1 (by omega)
  have hp := pow_pos x
  have hbl := bitLen_of hx h1 h2
  obtain ⟨a1, a2, a3⟩ := up_spec n x
  have e12 := pow_split x 12
  have e13 := pow_split x 13
  have hN38 : ∀ c, c ≤ 38 → up n c ≤ 274877906944 := by
    intro c hc
    obtain ⟨b1, b2, b3⟩ := up_spec n c
    have hd : 274877906944 % 2 ^ c = 0 := mod_pow_le hc (by decide)
    have hq := pow_pos c
    rcases Nat.lt_or_ge 274877906944 (up n c) with h | h
    · exfalso
      obtain ⟨k, hk⟩ := Nat.dvd_of_mod_eq_zero b3
      obtain ⟨j, hj⟩ := Nat.dvd_of_mod_eq_zero hd
      rw [hk, hj] at h
      have : j < k := Nat.lt_of_mul_lt_mul_left h
      have : 2 ^ c * (j + 1) ≤ 2 ^ c * k := Nat.mul_le_mul_left _ this
      rw [Nat.mul_add, ← hj, ← hk] at this
      omega
    · exact h
  have hx26 : x ≤ 26 := by
    rcases Nat.lt_or_ge 26 x with h | h
    · have : (2 : Nat) ^ 39 ≤ 2 ^ (x + 12) := Nat.pow_le_pow_right (by decide) (by omega)
      rw [show (2 : Nat) ^ 39 = 549755813888 from by decide] at this; omega
    · exact h
  have h4 : n % 4096 = 0 → up n x % 4096 = 0 := by
    intro h
    rcases Nat.lt_or_ge x 12 with hl | hl
    · rw [up_zero (mod_pow_le (Nat.le_of_lt hl) h)]; exact h
    · exact mod_pow_le hl a3
  by_cases hu : up n x < 2 ^ (x + 13)
  · refine ⟨up n x, x, x + 1, 0, fun w => choose_once 0 n x 0 (up n x) (up n x / 2 ^ x) (Nat.zero_le _) (by omega) hn hx hbl (dn_zero' x) rfl rfl ?_ w, a1, hN38 x (by omega), Nat.le_trans h1 a1, hu, a3, h4⟩
    rw [e13] at hu; exact (Nat.div_lt_iff_lt_mul hp).mpr hu
  · have hd13 : (2 : Nat) ^ (x + 13) % 2 ^ x = 0 := by rw [e13]; exact Nat.mul_mod_left _ _
    have hue : up n x = 2 ^ (x + 13) := by
      obtain ⟨k, hk⟩ := Nat.dvd_of_mod_eq_zero a3
      rw [hk, e13, Nat.mul_comm (2 ^ 13)] at hu ⊢
      have : 2 ^ 13 ≤ k := Nat.le_of_mul_le_mul_left (Nat.le_of_not_lt hu) hp
      have h5 : k < 2 ^ 13 + 1 := by
        rw [hk] at a2
        have : 2 ^ x * k < 2 ^ x * (2 ^ 13 + 1) := by rw [Nat.mul_add]; rw [e13, Nat.mul_comm (2 ^ 13)] at h2; omega
        exact Nat.lt_of_mul_lt_mul_left this
      rw [show k = 2 ^ 13 from by omega]
    have hnz : ¬ n % 2 ^ x = 0 := by intro h; rw [up_zero h] at hue; omega
    have hue' : up n (x + 1) = 2 ^ (x + 13) := by
      obtain ⟨b1, b2, b3⟩ := up_spec n (x + 1)
      obtain ⟨k, hk⟩ := Nat.dvd_of_mod_eq_zero b3
      have e1 : (2 : Nat) ^ (x + 13) = 2 ^ (x + 1) * 4096 := by rw [show x + 13 = (x + 1) + 12 from by omega, Nat.pow_add]
      have e2 : (2 : Nat) ^ (x + 1) = 2 * 2 ^ x := by rw [Nat.pow_succ, Nat.mul_comm]
      have hq := pow_pos (x + 1)
      rw [hk, e1]
      have k1 : k < 4097 := by
        have : 2 ^ (x + 1) * k < 2 ^ (x + 1) * 4097 := by omega
        exact Nat.lt_of_mul_lt_mul_left this
      have k2 : 4095 < k := by
        have : 2 ^ (x + 1) * 4095 < 2 ^ (x + 1) * k := by omega
        exact Nat.lt_of_mul_lt_mul_left this
      rw [show k = 4096 from by omega]
    have e14 : (2 : Nat) ^ (x + 1 + 13) = 2 * 2 ^ (x + 13) := by rw [show x + 1 + 13 = (x + 13) + 1 from by omega, Nat.pow_succ, Nat.mul_comm]
    have hq13 := pow_pos (x + 13)
    refine ⟨2 ^ (x + 13), x + 1, x + 2, 0, fun w => choose_twice 0 n x 0 (up n x) (up n x / 2 ^ x) 0 (2 ^ (x + 13)) _ (Nat.zero_le _) (by omega) hn hx hbl (dn_zero' x) rfl rfl ?_ (dn_zero' _) hue' rfl w, by omega, ?_, ?_, by omega, ?_, ?_⟩
    · rw [hue, e13, Nat.mul_div_cancel _ hp]; decide
    · rw [← hue]; exact hN38 x (by omega)
    · rw [show x + 1 + 12 = x + 13 from by omega]; exact Nat.le_refl _
    · exact Nat.mod_eq_zero_of_dvd (Nat.pow_dvd_pow 2 (by omega))
    · intro h; rw [← hue]; exact h4 h
end Go.Proofs.Ytdnhjkmcogbaoaa
