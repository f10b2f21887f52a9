/-
  The plain law of PermTells: the printed functions of the program and of the document answer alike, for any kind and any two numbers of 64 bits.
-/
import Derived.Test.YtdnhjkmcogbaoaaPPermTellsx1
import Derived.OpenShut
import Derived.Laws.BitsAllLaws
namespace Go.Proofs.Ytdnhjkmcogbaoaa.Pure
open Go.RowKit Go.Proofs.Ytdnhjkmcogbaoaa.PPermTells Go.Proofs.YtdnhjkmcogbaoaaW.PrintWords Go.Proofs.YtdnhjkmcogbaoaaW.PrintLast Go.Proofs.YtdnhjkmcogbaoaaW.PrintMore

/-- Bit i of a number of 64 bits, as Go asks for it. -/
theorem bit_one (x i : Nat) (hx : x < 18446744073709551616) (hi : i ≤ 64) : Go.bits .and .u64 (shr .u64 (x : Int) (i : Int)) 1 = ((x / 2 ^ i % 2 : Nat) : Int) := by
  unfold shr
  have e : min ((i : Int).toNat) IntKind.u64.bits = i := by
    have : IntKind.u64.bits = 64 := rfl
    simp; omega
  have e2 : ((x : Int) / 2 ^ i) = ((x / 2 ^ i : Nat) : Int) := by simp
  have h2 : x / 2 ^ i ≤ x := Nat.div_le_self _ _
  rw [e, e2]
  have := u64_and_nat (x / 2 ^ i) 1 (by omega) (by decide)
  rw [nat_mask1] at this
  exact this

theorem wrapU_small (i : Int) (h0 : 0 ≤ i) (h1 : i < 18446744073709551616) : IntKind.u64.wrap i = i := by
  rw [IntKind.wrap_u64]; omega
theorem wrap64_small (i : Int) (h0 : 0 ≤ i) (h1 : i < 1000) : wrap64 i = i := by unfold wrap64; omega

/-! ### Needs, Name -/
theorem needs_same (a : Int) : ∃ r, perm_Needs.f a = some r ∧ mintmarkref04_Needs.f a = some r := by
  unfold perm_Needs.f mintmarkref04_Needs.f
  simp only [Option.bind_some]
  by_cases h : 0 ≤ a ∧ a ≤ 4
  · have : a = 0 ∨ a = 1 ∨ a = 2 ∨ a = 3 ∨ a = 4 := by omega
    rcases this with rfl | rfl | rfl | rfl | rfl <;> exact ⟨_, rfl, rfl⟩
  · refine ⟨511, ?_, ?_⟩
    · rw [if_neg (by omega), if_neg (by omega), if_neg (by omega), if_neg (by omega), if_neg (by omega)]
    · by_cases h1 : a < 0
      · rw [if_pos h1]
      · rw [if_neg h1, if_pos (by omega)]
theorem name_same (a : Int) : ∃ r, perm_Name.f a = some r ∧ mintmarkref04_Name.f a = some r := by
  unfold perm_Name.f mintmarkref04_Name.f
  simp only [Option.bind_some]
  by_cases h : 0 ≤ a ∧ a ≤ 4
  · have : a = 0 ∨ a = 1 ∨ a = 2 ∨ a = 3 ∨ a = 4 := by omega
    rcases this with rfl | rfl | rfl | rfl | rfl <;> exact ⟨_, rfl, rfl⟩
  · refine ⟨⟨#[]⟩, ?_, ?_⟩
    · rw [if_neg (by omega), if_neg (by omega), if_neg (by omega), if_neg (by omega), if_neg (by omega)]
    · by_cases h1 : a < 0
      · rw [if_pos h1]
      · rw [if_neg h1, if_pos (by omega)]

/-! ### Within -/
open Classical in
theorem within_loop (x y : Nat) (hx : x < 18446744073709551616) (hy : y < 18446744073709551616) (d : Nat) : ∀ (k i : Nat), i + d = 64 → d < k →
    mintmarkref04_Within.l0 k x y (i : Int) = some (decide (∀ j, i ≤ j → j < 64 → x / 2 ^ j % 2 = 1 → y / 2 ^ j % 2 = 1)) := by
  induction d with
  | zero =>
    intro k i hi hk
    obtain ⟨k, rfl⟩ : ∃ m, k = m + 1 := ⟨k - 1, by omega⟩
    simp only [mintmarkref04_Within.l0]
    rw [if_neg (by omega)]
    congr 1; symm; rw [decide_eq_true_eq]; intro j h1 h2; omega
  | succ d ih =>
    intro k i hi hk
    obtain ⟨k, rfl⟩ : ∃ m, k = m + 1 := ⟨k - 1, by omega⟩
    have hn := ih k (i + 1) (by omega) (by omega)
    simp only [mintmarkref04_Within.l0]
    rw [if_pos (by omega), if_pos (by omega), bit_one x i hx (by omega), bit_one y i hy (by omega), wrapU_small _ (by omega) (by omega)]
    rw [show ((i : Int) + 1) = ((i + 1 : Nat) : Int) from by omega, hn]
    have b1 : x / 2 ^ i % 2 = 0 ∨ x / 2 ^ i % 2 = 1 := by omega
    have b2 : y / 2 ^ i % 2 = 0 ∨ y / 2 ^ i % 2 = 1 := by omega
    by_cases c1 : x / 2 ^ i % 2 = 1
    · rw [if_pos (by omega)]
      by_cases c2 : y / 2 ^ i % 2 = 1
      · rw [if_neg (by omega)]
        congr 1; rw [Bool.eq_iff_iff, decide_eq_true_eq, decide_eq_true_eq]
        constructor
        · intro h j h1 h2 h3
          by_cases e : j = i
          · rw [e]; exact c2
          · exact h j (by omega) h2 h3
        · intro h j h1 h2 h3; exact h j (by omega) h2 h3
      · rw [if_pos (by omega)]
        congr 1; symm; rw [decide_eq_false_iff_not]; intro h; exact c2 (h i (by omega) (by omega) c1)
    · rw [if_neg (by omega)]
      congr 1; rw [Bool.eq_iff_iff, decide_eq_true_eq, decide_eq_true_eq]
      constructor
      · intro h j h1 h2 h3
        by_cases e : j = i
        · rw [e] at h3; exact absurd h3 c1
        · exact h j (by omega) h2 h3
      · intro h j h1 h2 h3; exact h j (by omega) h2 h3

open Classical in
theorem within_bits (x y : Nat) (hx : x < 18446744073709551616) (hy : y < 18446744073709551616) :
    (Go.bits .andNot .u64 (x : Int) (y : Int) == 0) = decide (∀ j, 0 ≤ j → j < 64 → x / 2 ^ j % 2 = 1 → y / 2 ^ j % 2 = 1) := by
  rw [u64_andNot_nat x y hx hy]
  have hy2 : y < 2 ^ 64 := hy
  have e : (18446744073709551615 - y) = 2 ^ 64 - (y + 1) := by omega
  rw [e, Bool.eq_iff_iff, decide_eq_true_eq, beq_iff_eq]
  constructor
  · intro h j _ h1 h2
    have h0 : (x &&& (2 ^ 64 - (y + 1)) : Nat) = 0 := by omega
    have h3 := congrArg (fun n => n.testBit j) h0
    simp only [Nat.testBit_and, Nat.zero_testBit, Nat.testBit_two_pow_sub_succ hy2] at h3
    have hxj : x.testBit j = true := by rw [Nat.testBit_eq_decide_div_mod_eq]; simpa using h2
    rw [hxj] at h3
    simp [h1] at h3
    rw [Nat.testBit_eq_decide_div_mod_eq] at h3
    simpa using h3
  · intro h
    have h0 : (x &&& (2 ^ 64 - (y + 1)) : Nat) = 0 := by
      apply Nat.eq_of_testBit_eq
      intro j
      simp only [Nat.testBit_and, Nat.zero_testBit, Nat.testBit_two_pow_sub_succ hy2]
      by_cases h1 : j < 64
      · by_cases h2 : x / 2 ^ j % 2 = 1
        · have := h j (by omega) h1 h2
          have hyj : y.testBit j = true := by rw [Nat.testBit_eq_decide_div_mod_eq]; simpa using this
          simp [hyj]
        · have hxj : x.testBit j = false := by rw [Nat.testBit_eq_decide_div_mod_eq]; simpa using h2
          simp [hxj]
      · simp [h1]
    rw [h0]; rfl

open Classical in
theorem within_same (x y : Nat) (hx : x < 18446744073709551616) (hy : y < 18446744073709551616) : ∃ r, perm_Within.f x y = some r ∧ mintmarkref04_Within.f 65 x y = some r := by
  refine ⟨_, rfl, ?_⟩
  rw [within_bits x y hx hy]
  exact within_loop x y hx hy 64 65 0 (by omega) (by omega)

/-! ### Text -/
/-- The letters of the bits from i on, then a '+' for the others. -/
def textFrom (x : Nat) : Nat → List UInt8
  | 0 => if 511 < x then [43] else []
  | d + 1 => (if x / 2 ^ (8 - d) % 2 = 1 then [([114, 119, 120, 82, 87, 115, 117, 83, 103] : List UInt8).getD (8 - d) 0] else []) ++ textFrom x d
theorem text_app (xs ys : List Int) : (strOfNums (xs ++ ys)).toList = (strOfNums xs).toList ++ (ys.map fun n => UInt8.ofNat n.toNat) := by
  simp [strOfNums, ByteArray.toList_eq]
theorem text_loop (x : Nat) (hx : x < 18446744073709551616) (d : Nat) : ∀ (k i : Nat) (xs : List Int), i + d = 9 → d < k → xs.length ≤ i →
    ∃ s, perm_Text.l0 k x xs (i : Int) = some s ∧ s.toList = (strOfNums xs).toList ++ textFrom x d := by
  induction d with
  | zero =>
    intro k i xs hi hk hl
    obtain ⟨k, rfl⟩ : ∃ m, k = m + 1 := ⟨k - 1, by omega⟩
    simp only [perm_Text.l0, textFrom]
    rw [if_neg (by omega)]
    by_cases h : (x : Int) > 511
    · rw [if_pos h, if_pos (by omega), if_pos (by omega)]
      exact ⟨_, rfl, text_app _ _⟩
    · rw [if_neg h, if_neg (by omega)]
      exact ⟨_, rfl, by simp⟩
  | succ d ih =>
    intro k i xs hi hk hl
    obtain ⟨k, rfl⟩ : ∃ m, k = m + 1 := ⟨k - 1, by omega⟩
    obtain rfl : i = 8 - d := by omega
    have b1 : x / 2 ^ (8 - d) % 2 = 0 ∨ x / 2 ^ (8 - d) % 2 = 1 := by omega
    simp only [perm_Text.l0, textFrom]
    rw [if_pos (by omega), if_pos (by omega), bit_one x _ hx (by omega), wrap64_small _ (by omega) (by omega), show (((8 - d : Nat) : Int) + 1) = ((8 - d + 1 : Nat) : Int) from by omega]
    by_cases c : x / 2 ^ (8 - d) % 2 = 1
    · rw [if_neg (by omega), if_pos (by omega), if_pos c]
      obtain ⟨s, h1, h2⟩ := ih k (8 - d + 1) (xs ++ [bt (⟨#[114, 119, 120, 82, 87, 115, 117, 83, 103]⟩ : ByteArray) ((8 - d : Nat) : Int)]) (by omega) (by omega) (by simp; omega)
      refine ⟨s, h1, ?_⟩
      rw [h2, text_app, List.append_assoc]
      congr 2
      have : d = 0 ∨ d = 1 ∨ d = 2 ∨ d = 3 ∨ d = 4 ∨ d = 5 ∨ d = 6 ∨ d = 7 ∨ d = 8 := by omega
      rcases this with rfl | rfl | rfl | rfl | rfl | rfl | rfl | rfl | rfl <;> rfl
    · rw [if_pos (by omega), if_neg c]
      exact ih k (8 - d + 1) xs (by omega) (by omega) (by omega)
theorem ref_loop (x : Nat) (hx : x < 18446744073709551616) (d : Nat) : ∀ (k i : Nat) (t : ByteArray), i + d = 9 → d < k → t.size ≤ i →
    ∃ s, mintmarkref04_Text.l0 k x t (i : Int) = some s ∧ s.toList = t.toList ++ textFrom x d := by
  induction d with
  | zero =>
    intro k i xs hi hk hl
    obtain ⟨k, rfl⟩ : ∃ m, k = m + 1 := ⟨k - 1, by omega⟩
    simp only [mintmarkref04_Text.l0, textFrom]
    rw [if_neg (by omega)]
    by_cases h : (x : Int) > 511
    · rw [if_pos h, if_pos (by omega), if_pos (by omega)]
      exact ⟨_, rfl, by simp [ByteArray.toList_eq]⟩
    · rw [if_neg h, if_neg (by omega)]
      exact ⟨_, rfl, by simp⟩
  | succ d ih =>
    intro k i xs hi hk hl
    obtain ⟨k, rfl⟩ : ∃ m, k = m + 1 := ⟨k - 1, by omega⟩
    obtain rfl : i = 8 - d := by omega
    have b1 : x / 2 ^ (8 - d) % 2 = 0 ∨ x / 2 ^ (8 - d) % 2 = 1 := by omega
    simp only [mintmarkref04_Text.l0, textFrom]
    rw [if_pos (by omega), wrapU_small _ (by omega) (by omega), if_pos (by omega), bit_one x _ hx (by omega), wrap64_small _ (by omega) (by omega), show (((8 - d : Nat) : Int) + 1) = ((8 - d + 1 : Nat) : Int) from by omega]
    by_cases c : x / 2 ^ (8 - d) % 2 = 1
    · have e : ((⟨#[114, 119, 120, 82, 87, 115, 117, 83, 103]⟩ : ByteArray).extract (((8 - d : Nat) : Int)).toNat ((((8 - d + 1 : Nat) : Int)).toNat)) = ⟨#[([114, 119, 120, 82, 87, 115, 117, 83, 103] : List UInt8).getD (8 - d) 0]⟩ := by
        have : d = 0 ∨ d = 1 ∨ d = 2 ∨ d = 3 ∨ d = 4 ∨ d = 5 ∨ d = 6 ∨ d = 7 ∨ d = 8 := by omega
        rcases this with rfl | rfl | rfl | rfl | rfl | rfl | rfl | rfl | rfl <;> rfl
      rw [if_pos (by omega), if_pos (by omega), if_pos (by omega), if_pos (by omega), e]
      have z : (⟨#[([114, 119, 120, 82, 87, 115, 117, 83, 103] : List UInt8).getD (8 - d) 0]⟩ : ByteArray).size = 1 := rfl
      rw [if_pos (by omega), if_pos c]
      obtain ⟨s, h1, h2⟩ := ih k (8 - d + 1) (xs ++ ⟨#[([114, 119, 120, 82, 87, 115, 117, 83, 103] : List UInt8).getD (8 - d) 0]⟩) (by omega) (by omega) (by rw [ByteArray.size_append, z]; omega)
      refine ⟨s, h1, ?_⟩
      rw [h2, ← List.append_assoc]
      simp [ByteArray.toList_eq]
    · rw [if_neg (by omega), if_neg c]
      exact ih k (8 - d + 1) xs (by omega) (by omega) (by omega)
theorem text_same (x : Nat) (hx : x < 18446744073709551616) : ∃ r s, perm_Text.f 65 x = some r ∧ mintmarkref04_Text.f 65 x = some s ∧ r.toList = s.toList := by
  obtain ⟨r, h1, h2⟩ := text_loop x hx 9 65 0 [] (by omega) (by omega) (by simp)
  obtain ⟨s, h3, h4⟩ := ref_loop x hx 9 65 0 ⟨#[]⟩ (by omega) (by omega) (by decide)
  refine ⟨r, s, h1, h3, ?_⟩
  rw [h2, h4]; rfl
theorem text_eleven : ∃ r, perm_Text.f 65 11 = some r ∧ r.toList = [114, 119, 82] := by
  obtain ⟨r, h1, h2⟩ := text_loop 11 (by decide) 9 65 0 [] (by omega) (by omega) (by simp)
  refine ⟨r, h1, ?_⟩
  rw [h2, show textFrom 11 9 = [114, 119, 82] from by decide]; simp [strOfNums, ByteArray.toList_eq]
theorem PermTells : mintmarklaw04_PermTells.Pure := by
  intro a0 a1 a2 w0 w1 w2
  have b1 := bounds_u64 w1
  have b2 := bounds_u64 w2
  obtain ⟨x, rfl⟩ := Int.eq_ofNat_of_zero_le b1.1
  obtain ⟨y, rfl⟩ := Int.eq_ofNat_of_zero_le b2.1
  obtain ⟨n, hn1, hn2⟩ := needs_same a0
  obtain ⟨m, hm1, hm2⟩ := name_same a0
  obtain ⟨v, hv1, hv2⟩ := within_same x y (by omega) (by omega)
  obtain ⟨r, s, ht1, ht2, ht3⟩ := text_same x (by omega)
  obtain ⟨q, hq1, hq2⟩ := text_eleven
  refine ⟨65, ?_⟩
  unfold mintmarklaw04_PermTells.f
  simp only [hn1, hn2, hv1, hv2, ht1, ht2, hm1, hm2, hq1, hq2, ht3, Option.bind_some, if_true, beq_self_eq_true]
end Go.Proofs.Ytdnhjkmcogbaoaa.Pure
