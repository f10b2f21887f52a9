/-
  perm.Text, perm.Within and perm.Parse taken together, for any numbers of 64 bits; the walk of the law PermBack.
-/
import Derived.Test.YtdnhjkmcogbaoaaParseA
import Derived.Test.YtdnhjkmcogbaoaaPurePermTells
namespace Go.Proofs.Ytdnhjkmcogbaoaa
open Go.RowKit Go.Lib Go.Proofs.Ytdnhjkmcogbaoaa.PPermTells Go.Proofs.Ytdnhjkmcogbaoaa.Pure Go.Proofs.YtdnhjkmcogbaoaaW.PrintWords Go.Proofs.YtdnhjkmcogbaoaaW.PrintLast Go.Proofs.YtdnhjkmcogbaoaaW.PrintMore
/-- The letters of some permissions. -/
def txt (n : Nat) : ByteArray := ⟨(textFrom n 9).toArray⟩
theorem bytes_ext {s t : ByteArray} (h : s.toList = t.toList) : s = t := by
  rw [ByteArray.toList_eq, ByteArray.toList_eq] at h
  have h2 : s.data = t.data := Array.toList_inj.1 h
  cases s; cases t; simp_all
theorem text_is (n : Nat) (hn : n < 18446744073709551616) : perm_Text.f 65 n = some (txt n) := by
  obtain ⟨s, h1, h2⟩ := text_loop n hn 9 65 0 [] (by omega) (by omega) (by simp)
  have : s = txt n := by
    apply bytes_ext
    rw [h2]; simp [txt, strOfNums, ByteArray.toList_eq]
  rw [← this]; exact h1
theorem text_any (n : Nat) (hn : n < 18446744073709551616) (w : World) :
    Calls Try.prog 20 #[.int .u64 n] w fun e w' => e = .returned (.string (txt n)) ∧ Below w.heap.size w w' :=
  perm_Text.calls 65 n _ w (text_is n hn)
/-- Within, as the union tells it. -/
def wiB (x y : Nat) : Bool := x ||| y == y
theorem wi_or (x y : Nat) (hx : x < 2 ^ 64) : (∀ j, 0 ≤ j → j < 64 → x / 2 ^ j % 2 = 1 → y / 2 ^ j % 2 = 1) ↔ x ||| y = y := by
  have hb : ∀ n j : Nat, n / 2 ^ j % 2 = 1 ↔ n.testBit j = true := fun n j => by rw [Nat.testBit_eq_decide_div_mod_eq]; simp
  simp only [hb]
  constructor
  · intro h
    apply Nat.eq_of_testBit_eq
    intro j
    rw [Nat.testBit_or]
    by_cases h1 : j < 64
    · cases h2 : x.testBit j with
      | false => simp
      | true => rw [h j (by omega) h1 h2]; rfl
    · rw [Nat.testBit_lt_two_pow (Nat.lt_of_lt_of_le hx (Nat.pow_le_pow_right (by decide) (by omega)))]; simp
  · intro h j _ _ h2
    rw [← h, Nat.testBit_or, h2]; rfl
open Classical in
theorem within_is (x y : Nat) (hx : x < 18446744073709551616) (hy : y < 18446744073709551616) : (bits .andNot .u64 x y == 0) = wiB x y := by
  rw [within_bits x y hx hy]
  unfold wiB
  rw [Bool.eq_iff_iff, beq_iff_eq, decide_eq_true_eq]
  exact wi_or x y hx
theorem within_any (x y : Nat) (hx : x < 18446744073709551616) (hy : y < 18446744073709551616) (w : World) :
    Calls Try.prog 21 #[.int .u64 x, .int .u64 y] w fun e w' => e = .returned (.bool (wiB x y)) ∧ w = w' := by
  have H := Lib.hid (within_is x y hx hy)
  go_enter Try.func21, Try.ntmps21
  go_wp2
  go_ret
  exact ⟨by rw [← H.out]; rfl, rfl⟩
theorem wiB_and_left (x y : Nat) : wiB (x &&& y) x = true := by
  unfold wiB; rw [beq_iff_eq]; apply Nat.eq_of_testBit_eq; intro j; simp only [Nat.testBit_or, Nat.testBit_and]
  cases x.testBit j <;> simp
theorem wiB_and_right (x y : Nat) : wiB (x &&& y) y = true := by
  unfold wiB; rw [beq_iff_eq]; apply Nat.eq_of_testBit_eq; intro j; simp only [Nat.testBit_or, Nat.testBit_and]
  cases y.testBit j <;> simp
theorem wiB_or (x y : Nat) : wiB x (x ||| y) = true := by
  unfold wiB; rw [beq_iff_eq]; apply Nat.eq_of_testBit_eq; intro j; simp only [Nat.testBit_or]
  cases x.testBit j <;> simp
theorem prs_plus (l : List UInt8) : ∀ p, prs (l ++ [43]) p = none := by
  induction l with
  | nil => intro p; rfl
  | cons c cs ih =>
    intro p
    rw [List.cons_append, prs]
    cases plc (c.toNat : Int) with
    | none => rfl
    | some k =>
      simp only
      split
      · rfl
      · exact ih _
theorem textFrom_plus (x : Nat) (hx : 511 < x) (d : Nat) : ∃ l, textFrom x d = l ++ [43] := by
  induction d with
  | zero => exact ⟨[], by simp [textFrom, hx]⟩
  | succ d ih =>
    obtain ⟨l, hl⟩ := ih
    exact ⟨_ ++ l, by rw [textFrom, hl, List.append_assoc]⟩
theorem prs_txt : ∀ x, x < 512 → prs (textFrom x 9) 0 = some x := by decide +kernel
theorem parse_txt (x : Nat) (hx : x < 512) (w : World) :
    Calls Try.prog 18 #[.string (txt x)] w fun e w' => e = .returned (.tuple #[.int .u64 x, .bool true]) ∧ Below w.heap.size w w' := by
  refine (parse_any _ w).mono ?_
  rintro e w' ⟨rfl, hd⟩
  have h := prs_txt x hx
  exact ⟨ret_parse (by simp [prsI, txt, h]) (by simp [prsB, txt, h]), hd⟩
theorem parse_plus (x : Nat) (hx : 511 < x) (w : World) :
    Calls Try.prog 18 #[.string (txt x)] w fun e w' => e = .returned (.tuple #[.int .u64 0, .bool false]) ∧ Below w.heap.size w w' := by
  refine (parse_any _ w).mono ?_
  rintro e w' ⟨rfl, hd⟩
  obtain ⟨l, hl⟩ := textFrom_plus x hx 9
  have h : prs (textFrom x 9) 0 = none := by rw [hl]; exact prs_plus l 0
  exact ⟨ret_parse (by simp [prsI, txt, h]) (by simp [prsB, txt, h]), hd⟩
theorem within_one (w : World) : Calls Try.prog 21 #[.int .u64 1, .int .u64 3] w fun e w' => e = .returned (.bool true) ∧ w = w' := within_any 1 3 (by decide) (by decide) w
theorem within_four (w : World) : Calls Try.prog 21 #[.int .u64 4, .int .u64 3] w fun e w' => e = .returned (.bool false) ∧ w = w' := within_any 4 3 (by decide) (by decide) w
theorem back_walk (x y lo hi an un : Nat) (w : World) (hx : x < 18446744073709551616) (hy : y < 18446744073709551616) (hlo : lo < 512) (hhi : 511 < hi) (hhi' : hi < 18446744073709551616) (han : an < 18446744073709551616) (hun : un < 18446744073709551616)
    (e1 : bits .and .u64 x 511 = lo) (e2 : bits .or .u64 x 512 = hi) (e3 : bits .and .u64 x y = an) (e4 : bits .or .u64 x y = un)
    (f1 : wiB an x = true) (f2 : wiB an y = true) (f3 : wiB x un = true) (f4 : wiB x y = ((un : Int) == y)) :
    Calls Try.prog 6 #[.int .u64 x, .int .u64 y] w fun e w' => e = .returned (.bool true) ∧ Below w.heap.size w w' := by
  go_enter Try.func6, Try.ntmps6
  go_wp2_with (first | ((with_reducible (go_at_call 20; refine (text_any lo (by omega) _).mono ?_)); rintro e w1 ⟨rfl, hb1⟩) | ((with_reducible (go_at_call 20; refine (text_any hi (by omega) _).mono ?_)); rintro e w3 ⟨rfl, hb3⟩) | ((with_reducible (go_at_call 18; refine (parse_txt lo hlo _).mono ?_)); rintro e w2 ⟨rfl, hb2⟩) | ((with_reducible (go_at_call 18; refine (parse_plus hi hhi _).mono ?_)); rintro e w4 ⟨rfl, hb4⟩) | ((with_reducible (go_at_call 21; refine (within_any an x (by omega) (by omega) _).mono ?_)); rintro e w5 ⟨rfl, rfl⟩) | ((with_reducible (go_at_call 21; refine (within_any an y (by omega) (by omega) _).mono ?_)); rintro e w5 ⟨rfl, rfl⟩) | ((with_reducible (go_at_call 21; refine (within_any x un (by omega) (by omega) _).mono ?_)); rintro e w5 ⟨rfl, rfl⟩) | ((with_reducible (go_at_call 21; refine (within_any x y (by omega) (by omega) _).mono ?_)); rintro e w5 ⟨rfl, rfl⟩) | ((with_reducible (go_at_call 21; refine (within_one _).mono ?_)); rintro e w5 ⟨rfl, rfl⟩) | ((with_reducible (go_at_call 21; refine (within_four _).mono ?_)); rintro e w5 ⟨rfl, rfl⟩))
  go_ret
  exact ⟨rfl, ((hb1.trans (hb2.mono hb1.size)).trans (hb3.mono (Nat.le_trans hb1.size hb2.size))).trans (hb4.mono (Nat.le_trans hb1.size (Nat.le_trans hb2.size hb3.size)))⟩
theorem back_ok (x y : Int) (w : World) (hx : 0 ≤ x) (hx' : x < 18446744073709551616) (hy : 0 ≤ y) (hy' : y < 18446744073709551616) :
    Calls Try.prog 6 #[.int .u64 x, .int .u64 y] w fun e w' => e = .returned (.bool true) ∧ Below w.heap.size w w' := by
  obtain ⟨x, rfl⟩ := Int.eq_ofNat_of_zero_le hx
  obtain ⟨y, rfl⟩ := Int.eq_ofNat_of_zero_le hy
  have hx2 : x < 18446744073709551616 := by omega
  have hy2 : y < 18446744073709551616 := by omega
  have hand : x &&& y ≤ x := Nat.and_le_left
  have e1 := u64_and_nat x 511 hx2 (by decide)
  rw [nat_mask9] at e1
  exact back_walk x y (x % 512) (x ||| 512) (x &&& y) (x ||| y) w hx2 hy2 (by omega) (Nat.lt_of_lt_of_le (by decide) Nat.right_le_or) (Nat.or_lt_two_pow (n := 64) hx2 (by decide)) (by omega) (Nat.or_lt_two_pow (n := 64) hx2 hy2)
    e1 (u64_or_nat x 512 hx2 (by decide)) (u64_and_nat x y hx2 hy2) (u64_or_nat x y hx2 hy2) (wiB_and_left x y) (wiB_and_right x y) (wiB_or x y) (by unfold wiB; rw [Bool.eq_iff_iff, beq_iff_eq, beq_iff_eq]; omega)
end Go.Proofs.Ytdnhjkmcogbaoaa
