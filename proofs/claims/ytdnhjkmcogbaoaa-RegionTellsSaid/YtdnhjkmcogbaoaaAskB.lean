/-
  The contracts of heap.asked and region.asked.
-/
import Derived.Test.YtdnhjkmcogbaoaaAskA
namespace Go.Proofs.Ytdnhjkmcogbaoaa
open Go.RowKit
/-- heap.asked, where the three roundings are known. -/
theorem askedH_walk (n a N e e0 d : Nat) (ha64 : n < 18446744073709551616) (ha : up n 4 = a) (hm : a ≤ 281474976710656) (hN : N ≤ 281474976710656) (hNN : up N 4 = N) (he : e < 64) (hc : ChooseIs 0 a e0 d N) (hx : ChooseIs 0 N e 0 N) (w : World) :
    Calls Try.prog 65 #[.int .u64 n] w fun r w' => r = .returned (.tuple #[.int .u64 N, .int .i64 ((max (e - 1) 4 : Nat) : Int)]) ∧ Below w.heap.size w w' := by
  have H1 := Lib.hid (up_any n 4 ha64)
  rw [show ce 4 = 4 from rfl, show upV n 4 = a from by rw [upV, ha, if_pos (by omega)]] at H1
  have H2 := Lib.hid (length_any a e0 d N hm hc)
  have H3 := Lib.hid (up_any N 4 (by omega))
  rw [show ce 4 = 4 from rfl, show upV N 4 = N from by rw [upV, hNN, if_pos (by omega)]] at H3
  have H4 := Lib.hid (align_exact N e hN he hx)
  generalize e - 1 = y at H4 ⊢
  clear hc hx ha hNN
  go_enter Try.func65, Try.ntmps65
  go_wp2_with (first | ((with_reducible (go_at_call 35; refine (H1.out _).mono ?_)); rintro e1 w1 ⟨rfl, rfl⟩) | ((with_reducible (go_at_call 90; refine (H2.out _).mono ?_)); rintro e1 w1 ⟨rfl, hb1⟩) | ((with_reducible (go_at_call 35; refine (H3.out _).mono ?_)); rintro e1 w2 ⟨rfl, rfl⟩) | ((with_reducible (go_at_call 91; refine (H4.out _).mono ?_)); rintro e1 w2 ⟨rfl, hb2⟩))
  refine bodyPost_ret (v := .tuple #[.int .u64 N, .int .i64 (max (y : Int) 4)]) (by simp [results, Try.results65, go_sem]) rfl ⟨?_, bc (bc (Below.refl _ _) hb1) hb2⟩
  rw [show ((max y 4 : Nat) : Int) = max (y : Int) 4 from by omega]
/-- region.asked, where the three roundings are known. -/
theorem askedR_walk (n a N e e0 d : Nat) (ha64 : n < 18446744073709551616) (ha : up n 12 = a) (hm : a ≤ 281474976710656) (hN : N ≤ 281474976710656) (hNN : up N 12 = N) (he : e < 64) (hc : ChooseIs 0 a e0 d N) (hx : ChooseIs 0 N e 0 N) (w : World) :
    Calls Try.prog 74 #[.int .u64 n] w fun r w' => r = .returned (.tuple #[.int .u64 N, .int .i64 ((max (e - 1) 12 : Nat) : Int)]) ∧ Below w.heap.size w w' := by
  have H1 := Lib.hid (up_any n 12 ha64)
  rw [show ce 12 = 12 from rfl, show upV n 12 = a from by rw [upV, ha, if_pos (by omega)]] at H1
  have H2 := Lib.hid (length_any a e0 d N hm hc)
  have H3 := Lib.hid (up_any N 12 (by omega))
  rw [show ce 12 = 12 from rfl, show upV N 12 = N from by rw [upV, hNN, if_pos (by omega)]] at H3
  have H4 := Lib.hid (align_exact N e hN he hx)
  generalize e - 1 = y at H4 ⊢
  clear hc hx ha hNN
  go_enter Try.func74, Try.ntmps74
  go_wp2_with (first | ((with_reducible (go_at_call 35; refine (H1.out _).mono ?_)); rintro e1 w1 ⟨rfl, rfl⟩) | ((with_reducible (go_at_call 90; refine (H2.out _).mono ?_)); rintro e1 w1 ⟨rfl, hb1⟩) | ((with_reducible (go_at_call 35; refine (H3.out _).mono ?_)); rintro e1 w2 ⟨rfl, rfl⟩) | ((with_reducible (go_at_call 91; refine (H4.out _).mono ?_)); rintro e1 w2 ⟨rfl, hb2⟩))
  refine bodyPost_ret (v := .tuple #[.int .u64 N, .int .i64 (max (y : Int) 12)]) (by simp [results, Try.results74, go_sem]) rfl ⟨?_, bc (bc (Below.refl _ _) hb1) hb2⟩
  rw [show ((max y 12 : Nat) : Int) = max (y : Int) 12 from by omega]

theorem askH_small (n : Nat) (h1 : 1 ≤ n) (h2 : n ≤ 4096) (w : World) :
    Calls Try.prog 65 #[.int .u64 n] w fun r w' => r = .returned (.tuple #[.int .u64 (up n 4 : Nat), .int .i64 4]) ∧ Below w.heap.size w w' := by
  obtain ⟨a1, a2, a3⟩ := up_spec n 4
  have a4 : up n 4 ≤ 4096 := by simp only [show (2 : Nat) ^ 4 = 16 from rfl] at a2 a3; omega
  have hz : up (up n 4) 4 = up n 4 := up_zero a3
  generalize hN : up n 4 = N at *
  have hc : ∃ e, e - 1 = 0 ∧ e < 64 ∧ ChooseIs 0 N e 0 N := by
    rcases Nat.lt_or_ge N 4096 with h | h
    · exact ⟨0, rfl, by decide, fun w => choose_short 0 N (Nat.zero_le _) (by omega) (by omega) w⟩
    · refine ⟨1, rfl, by decide, fun w => ?_⟩
      have := choose_whole 0 N 0 (by omega) (by simpa using h) (by simp; omega) (by simp [Nat.mod_one]) (by simp)
      rw [Nat.zero_add] at this
      exact this w
  obtain ⟨e, he0, he, hc⟩ := hc
  have := askedH_walk n N N e e 0 (by omega) hN (by omega) (by omega) hz he hc hc w
  rw [he0] at this
  exact this
/-- What region.asked tells of a length: a length that is kept, and a step. -/
theorem askR_ex (n : Nat) (h1 : 1 ≤ n) (h2 : n ≤ 274877906944) : ∃ N y, n ≤ N ∧ N ≤ 274877906944 ∧ N % 4096 = 0 ∧ 2 ^ (y + 12) ≤ N ∧ N < 2 ^ (y + 13) ∧ N % 2 ^ y = 0 ∧ y ≤ 26 ∧
    ∀ w : World, Calls Try.prog 74 #[.int .u64 n] w fun r w' => r = .returned (.tuple #[.int .u64 N, .int .i64 ((max y 12 : Nat) : Int)]) ∧ Below w.heap.size w w' := by
  obtain ⟨a1, a2, a3⟩ := up_spec n 12
  have e12 : (2 : Nat) ^ 12 = 4096 := by decide
  rw [e12] at a2 a3
  have a4 : 4096 ≤ up n 12 := by omega
  have a5 : up n 12 ≤ 274877906944 := by omega
  obtain ⟨N, y, e, d, hc, b1, b2, b3, b4, b5, b6⟩ := length_ex (up n 12) a4 a5
  have hy := pow36 b3 (by omega)
  have hy26 : y ≤ 26 := by
    rcases Nat.lt_or_ge 26 y with h | h
    · have : (2 : Nat) ^ 39 ≤ 2 ^ (y + 12) := Nat.pow_le_pow_right (by decide) (by omega)
      rw [show (2 : Nat) ^ 39 = 549755813888 from by decide] at this; omega
    · exact h
  have h0 := b6 a3
  have hx := choose_whole 0 N y (by omega) b3 b4 b5 (by simp)
  rw [Nat.zero_add] at hx
  refine ⟨N, y, by omega, b2, h0, b3, b4, b5, hy26, fun w => ?_⟩
  have := askedR_walk n (up n 12) N (y + 1) e d (by omega) rfl (by omega) (by omega) (up_zero (by rw [e12]; exact h0)) (by omega) hc hx w
  exact this
end Go.Proofs.Ytdnhjkmcogbaoaa
