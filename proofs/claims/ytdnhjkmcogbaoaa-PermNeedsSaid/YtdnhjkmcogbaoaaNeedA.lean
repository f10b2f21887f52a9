/-
  perm.Needs; the letters of some permissions, turned round or with one twice, parsed; the walk of the law PermNeeds.
-/
import Derived.Test.YtdnhjkmcogbaoaaBackA
import Derived.Deep.RegionHeld3
namespace Go.Proofs.Ytdnhjkmcogbaoaa
open Go.RowKit Go.Lib Go.Proofs.Ytdnhjkmcogbaoaa.Pure
/-- What a kind of access needs. -/
def nd (k : Int) : Nat := if k == 0 then 4 else if k == 1 then 1 else if k == 2 then 2 else if k == 3 then 9 else if k == 4 then 18 else 511
theorem nd_cases (k : Int) : nd k = 4 ∨ nd k = 1 ∨ nd k = 2 ∨ nd k = 9 ∨ nd k = 18 ∨ nd k = 511 := by
  unfold nd
  repeat' split
  all_goals simp
theorem needs_any (k : Int) (w : World) :
    Calls Try.prog 28 #[.int .i64 k] w fun e w' => e = .returned (.int .u64 (nd k)) ∧ w = w' := by
  go_enter Try.func28, Try.ntmps28
  go_wp2
  all_goals
    go_ret
    refine ⟨?_, rfl⟩
    simp only [nd, *, if_true, Bool.false_eq_true, if_false]
    rfl
theorem turn_txt : ∀ x, x < 512 → ∀ k, k < (textFrom x 9).length → prs ((textFrom x 9).drop k ++ (textFrom x 9).take k) 0 = some x ∧ prs (textFrom x 9 ++ ((textFrom x 9).take (k + 1)).drop k) 0 = none := by decide +kernel
theorem len_txt : ∀ x, x < 512 → (textFrom x 9).length ≤ 9 ∧ ((textFrom x 9).length = 0 → x = 0) := by decide +kernel
theorem nd_one (w : World) : Calls Try.prog 28 #[.int .i64 1] w fun e w' => e = .returned (.int .u64 1) ∧ w = w' := needs_any 1 w
theorem nd_two (w : World) : Calls Try.prog 28 #[.int .i64 2] w fun e w' => e = .returned (.int .u64 2) ∧ w = w' := needs_any 2 w
theorem nd_three (w : World) : Calls Try.prog 28 #[.int .i64 3] w fun e w' => e = .returned (.int .u64 9) ∧ w = w' := needs_any 3 w
theorem nd_four (w : World) : Calls Try.prog 28 #[.int .i64 4] w fun e w' => e = .returned (.int .u64 18) ∧ w = w' := needs_any 4 w
theorem wi_load (w : World) : Calls Try.prog 21 #[.int .u64 1, .int .u64 9] w fun e w' => e = .returned (.bool true) ∧ w = w' := within_any 1 9 (by decide) (by decide) w
theorem wi_store (w : World) : Calls Try.prog 21 #[.int .u64 2, .int .u64 18] w fun e w' => e = .returned (.bool true) ∧ w = w' := within_any 2 18 (by decide) (by decide) w
theorem wi_all (k : Int) (w : World) : Calls Try.prog 21 #[.int .u64 (nd k), .int .u64 511] w fun e w' => e = .returned (.bool true) ∧ w = w' := by
  rcases nd_cases k with h | h | h | h | h | h <;> rw [h]
  · exact within_any 4 511 (by decide) (by decide) w
  · exact within_any 1 511 (by decide) (by decide) w
  · exact within_any 2 511 (by decide) (by decide) w
  · exact within_any 9 511 (by decide) (by decide) w
  · exact within_any 18 511 (by decide) (by decide) w
  · exact within_any 511 511 (by decide) (by decide) w
theorem nd_pos (k : Int) : ((nd k : Int) == 0) = false := by
  have := nd_cases k
  rw [beq_eq_false_iff_ne]; omega
/-- The letters: how many. -/
theorem txt_size (x : Nat) : (txt x).size = (textFrom x 9).length := by simp [txt, ByteArray.size]
theorem parse_turn (x k : Nat) (hx : x < 512) (hk : k < (txt x).size) (w : World) :
    Calls Try.prog 18 #[.string ((txt x).extract k (txt x).size ++ (txt x).extract 0 k)] w fun e w' => e = .returned (.tuple #[.int .u64 x, .bool true]) ∧ Below w.heap.size w w' := by
  refine (parse_any _ w).mono ?_
  rintro e w' ⟨rfl, hd⟩
  rw [txt_size] at hk
  have h := (turn_txt x hx k hk).1
  have e1 : ((txt x).extract k (txt x).size ++ (txt x).extract 0 k).data.toList = (textFrom x 9).drop k ++ (textFrom x 9).take k := by
    have z : (textFrom x 9).length - k = ((textFrom x 9).drop k).length := by simp
    simp [txt, ByteArray.size]
    rw [z, List.take_length]
  exact ⟨ret_parse (by unfold prsI; rw [e1, h]; rfl) (by unfold prsB; rw [e1, h]; rfl), hd⟩
theorem parse_twice (x k : Nat) (hx : x < 512) (hk : k < (txt x).size) (w : World) :
    Calls Try.prog 18 #[.string (txt x ++ (txt x).extract k (k + 1))] w fun e w' => e = .returned (.tuple #[.int .u64 0, .bool false]) ∧ Below w.heap.size w w' := by
  refine (parse_any _ w).mono ?_
  rintro e w' ⟨rfl, hd⟩
  rw [txt_size] at hk
  have h := (turn_txt x hx k hk).2
  have e1 : (txt x ++ (txt x).extract k (k + 1)).data.toList = textFrom x 9 ++ ((textFrom x 9).take (k + 1)).drop k := by
    have z : k + 1 - k = 1 := by omega
    rw [ByteArray.data_append, ByteArray.data_extract, Array.toList_append, Array.toList_extract]
    simp [txt, List.drop_take, z]
  exact ⟨ret_parse (by unfold prsI; rw [e1, h]; rfl) (by unfold prsB; rw [e1, h]; rfl), hd⟩
set_option maxRecDepth 100000 in
theorem needs_walk (kd : Int) (x lo k : Nat) (t : Int) (w : World) (hlo : lo < 512)
    (e1 : bits .and .u64 x 511 = lo) (hz0 : 0 < (txt lo).size) (hz9 : (txt lo).size ≤ 9) (hem : (txt lo).toList.isEmpty = false) (hk : k < (txt lo).size)
    (e2 : (wrap64 (t.tmod ((txt lo).size : Int) + ((txt lo).size : Int))).tmod ((txt lo).size : Int) = k) :
    Calls Try.prog 9 #[.int .i64 kd, .int .u64 x, .int .i64 t] w fun e w' => e = .returned (.bool true) ∧ Below w.heap.size w w' := by
  have f1 := nd_pos kd
  have hk' : k ≤ (txt lo).size := by omega
  have ha1 := fun w : World => run_string_add_sum (P := Try.prog) w ((txt lo).extract k (txt lo).size) ((txt lo).extract 0 k) (by rw [ByteArray.size_extract, ByteArray.size_extract]; omega)
  have ha2 := fun w : World => run_string_add_sum (P := Try.prog) w (txt lo) ((txt lo).extract k (k + 1)) (by rw [ByteArray.size_extract]; omega)
  go_enter Try.func9, Try.ntmps9
  go_wp2_with (first | ((with_reducible (go_at_call 28; refine (nd_one _).mono ?_)); rintro e w1 ⟨rfl, rfl⟩) | ((with_reducible (go_at_call 28; refine (nd_two _).mono ?_)); rintro e w1 ⟨rfl, rfl⟩) | ((with_reducible (go_at_call 28; refine (nd_three _).mono ?_)); rintro e w1 ⟨rfl, rfl⟩) | ((with_reducible (go_at_call 28; refine (nd_four _).mono ?_)); rintro e w1 ⟨rfl, rfl⟩) | ((with_reducible (go_at_call 28; refine (needs_any kd _).mono ?_)); rintro e w1 ⟨rfl, rfl⟩) | ((with_reducible (go_at_call 21; refine (wi_load _).mono ?_)); rintro e w1 ⟨rfl, rfl⟩) | ((with_reducible (go_at_call 21; refine (wi_store _).mono ?_)); rintro e w1 ⟨rfl, rfl⟩) | ((with_reducible (go_at_call 21; refine (wi_all kd _).mono ?_)); rintro e w1 ⟨rfl, rfl⟩) | ((with_reducible (go_at_call 20; refine (text_any lo (by omega) _).mono ?_)); rintro e w1 ⟨rfl, hb1⟩))
  go_region_held3 (fun w' => Below w.heap.size w w') (first | exact hb1 | exact hb1.drew | exact hb1.drew.trans (hb2.mono hb1.size)) (first | ((with_reducible (go_at_call 18; refine (parse_turn lo k hlo hk _).mono ?_)); rintro e w2 ⟨rfl, hb2⟩))
  go_wp2_with (first | ((with_reducible (go_at_call 18; refine (parse_twice lo k hlo hk _).mono ?_)); rintro e w4 ⟨rfl, hb3⟩))
  go_ret
  exact ⟨rfl, (hb1.drew.trans (hb2.mono hb1.size)).trans (hb3.mono (Nat.le_trans hb1.size hb2.size))⟩
theorem text_zero (w : World) : Calls Try.prog 20 #[.int .u64 0] w fun e w' => e = .returned (.string ⟨#[]⟩) ∧ Below w.heap.size w w' := text_any 0 (by decide) w
theorem needs_zero (kd : Int) (x : Nat) (t : Int) (w : World) (e1 : bits .and .u64 x 511 = 0) :
    Calls Try.prog 9 #[.int .i64 kd, .int .u64 x, .int .i64 t] w fun e w' => e = .returned (.bool true) ∧ Below w.heap.size w w' := by
  have f1 := nd_pos kd
  go_enter Try.func9, Try.ntmps9
  go_wp2_with (first | ((with_reducible (go_at_call 28; refine (nd_one _).mono ?_)); rintro e w1 ⟨rfl, rfl⟩) | ((with_reducible (go_at_call 28; refine (nd_two _).mono ?_)); rintro e w1 ⟨rfl, rfl⟩) | ((with_reducible (go_at_call 28; refine (nd_three _).mono ?_)); rintro e w1 ⟨rfl, rfl⟩) | ((with_reducible (go_at_call 28; refine (nd_four _).mono ?_)); rintro e w1 ⟨rfl, rfl⟩) | ((with_reducible (go_at_call 28; refine (needs_any kd _).mono ?_)); rintro e w1 ⟨rfl, rfl⟩) | ((with_reducible (go_at_call 21; refine (wi_load _).mono ?_)); rintro e w1 ⟨rfl, rfl⟩) | ((with_reducible (go_at_call 21; refine (wi_store _).mono ?_)); rintro e w1 ⟨rfl, rfl⟩) | ((with_reducible (go_at_call 21; refine (wi_all kd _).mono ?_)); rintro e w1 ⟨rfl, rfl⟩) | ((with_reducible (go_at_call 20; refine (text_zero _).mono ?_)); rintro e w1 ⟨rfl, hb1⟩))
  go_ret
  exact ⟨rfl, hb1⟩
theorem turn_is (t : Int) (n : Nat) (h0 : 0 < n) (h9 : n ≤ 9) : ∃ k : Nat, k < n ∧ (wrap64 (t.tmod (n : Int) + (n : Int))).tmod (n : Int) = k := by
  have h1 := Int.tmod_lt_of_pos t (show (0 : Int) < n by omega)
  have h2 : -(n : Int) < t.tmod n := Int.lt_tmod_of_pos t (by omega)
  have e : wrap64 (t.tmod (n : Int) + (n : Int)) = t.tmod (n : Int) + (n : Int) := by unfold wrap64; omega
  rw [e, Int.tmod_eq_emod_of_nonneg (by omega)]
  have h3 := Int.emod_nonneg (t.tmod (n : Int) + (n : Int)) (show (n : Int) ≠ 0 by omega)
  have h4 := Int.emod_lt_of_pos (t.tmod (n : Int) + (n : Int)) (show (0 : Int) < n by omega)
  obtain ⟨k, hk⟩ := Int.eq_ofNat_of_zero_le h3
  exact ⟨k, by omega, hk⟩
theorem needs_ok (kd x t : Int) (w : World) (hx : 0 ≤ x) (hx' : x < 18446744073709551616) :
    Calls Try.prog 9 #[.int .i64 kd, .int .u64 x, .int .i64 t] w fun e w' => e = .returned (.bool true) ∧ Below w.heap.size w w' := by
  obtain ⟨x, rfl⟩ := Int.eq_ofNat_of_zero_le hx
  have e1 := u64_and_nat x 511 (by omega) (by decide)
  rw [nat_mask9] at e1
  generalize hlo : x % 512 = lo at e1
  have h512 : lo < 512 := by omega
  clear hlo
  by_cases hz : lo = 0
  · subst hz
    exact needs_zero kd x t w e1
  · obtain ⟨h9, h0⟩ := len_txt lo h512
    have hs := txt_size lo
    have hs0 : 0 < (txt lo).size := by
      by_cases c : (textFrom lo 9).length = 0
      · exact absurd (h0 c) hz
      · omega
    obtain ⟨k, hk, e2⟩ := turn_is t (txt lo).size hs0 (by omega)
    have hem : (txt lo).toList.isEmpty = false := by
      have hl : (txt lo).toList.length = (txt lo).size := by rw [ByteArray.toList_eq]; rfl
      cases h : (txt lo).toList with
      | nil => rw [h, List.length_nil] at hl; omega
      | cons a b => rfl
    exact needs_walk kd x lo k t w h512 e1 hs0 (by omega) hem hk e2
end Go.Proofs.Ytdnhjkmcogbaoaa
