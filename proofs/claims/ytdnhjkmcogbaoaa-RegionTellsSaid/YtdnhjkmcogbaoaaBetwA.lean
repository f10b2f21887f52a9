/-
  How many zeros stand behind a number's lowest bit; the walk of the law ScaleBetween: it returns true, for any number of 64 bits and any exponent.
-/
import Derived.Test.YtdnhjkmcogbaoaaScaleC
import Derived.Laws.Runes
namespace Go.Proofs.Ytdnhjkmcogbaoaa
open Go.RowKit
theorem mem_onesTo {x k j : Nat} : j ∈ onesTo x k ↔ j < k ∧ x / 2 ^ j % 2 = 1 := by simp [onesTo]
theorem onesTo_nil (x k : Nat) : onesTo x k = [] ↔ x % 2 ^ k = 0 := by
  induction k with
  | zero => simp [onesTo, Nat.mod_one]
  | succ k ih =>
    rw [Nat.mod_pow_succ]
    have hp := pow_pos k
    by_cases h : x / 2 ^ k % 2 = 1
    · rw [onesTo_hit h, h]; simp
    · have h0 : x / 2 ^ k % 2 = 0 := by omega
      rw [onesTo_miss h, ih, h0]; simp
theorem zerosOf_ge (x k : Nat) (hk : k ≤ 64) : k ≤ zerosOf x ↔ x % 2 ^ k = 0 := by
  rw [← onesTo_nil]
  constructor
  · intro h
    cases hl : onesTo x k with
    | nil => rfl
    | cons j t =>
      exfalso
      obtain ⟨r, hr⟩ := onesTo_prefix x hk
      rw [hl] at hr
      have hz : zerosOf x = j := by unfold zerosOf; rw [← hr]; rfl
      have hj := (mem_onesTo.1 (show j ∈ onesTo x k by rw [hl]; simp)).1
      omega
  · intro h
    cases hl : onesTo x 64 with
    | nil => rw [zerosOf_none hl]; exact hk
    | cons j t =>
      have hz : zerosOf x = j := by unfold zerosOf; rw [hl]; rfl
      rw [hz]
      refine Decidable.byContradiction fun hc => ?_
      have hj := (mem_onesTo.1 (show j ∈ onesTo x 64 by rw [hl]; simp)).2
      have : j ∈ onesTo x k := mem_onesTo.2 ⟨by omega, hj⟩
      rw [h] at this
      cases this
theorem zerosOf_le (x : Nat) : zerosOf x ≤ 64 := by
  cases hl : onesTo x 64 with
  | nil => rw [zerosOf_none hl]; exact Nat.le_refl _
  | cons j t =>
    have hz : zerosOf x = j := by unfold zerosOf; rw [hl]; rfl
    have hj := (mem_onesTo.1 (show j ∈ onesTo x 64 by rw [hl]; simp)).1
    omega
theorem dn_mult (x c : Nat) : dn x c % 2 ^ c = 0 := by unfold dn; exact Nat.mul_mod_left _ _
theorem up_mult (x c : Nat) : up x c % 2 ^ c = 0 := by unfold up; exact Nat.mul_mod_left _ _
theorem dn_self {x c : Nat} (h : x % 2 ^ c = 0) : dn x c = x := by have := dn_mod x c; omega
theorem up_ge (x c : Nat) : x ≤ up x c ∧ up x c ≤ dn x c + 2 ^ c ∧ (dn x c = x → up x c = x) := by
  have hp := pow_pos c
  have h1 := dn_mod x c
  have h2 := Nat.mod_lt x hp
  by_cases h : x % 2 ^ c = 0
  · rw [up_zero h]; omega
  · rw [up_step h]; omega
/-- An int's lowest six bits. -/
theorem low6 (e : Int) : bits .and .i64 e 63 = e % 64 := by
  have h63 : (BitVec.ofInt IntKind.i64.bits 63).toNat = 63 := by decide
  have he : (BitVec.ofInt IntKind.i64.bits e).toNat = (e % 18446744073709551616).toNat := by
    simp only [BitVec.toNat_ofInt]; rfl
  have h1 : (BitVec.ofInt IntKind.i64.bits e &&& BitVec.ofInt IntKind.i64.bits 63).toNat = (e % 18446744073709551616).toNat % 64 := by
    rw [BitVec.toNat_and, h63, he, nat_mask6]
  show IntKind.i64.wrap ((BitVec.ofInt IntKind.i64.bits e &&& BitVec.ofInt IntKind.i64.bits 63).toNat : Int) = e % 64
  rw [h1]
  have : (((e % 18446744073709551616).toNat % 64 : Nat) : Int) = e % 64 := by omega
  rw [this]
  exact wrap_small _ (by omega) (by omega)
theorem down_five (w : World) : Calls Try.prog 34 #[.int .u64 5, .int .i64 2] w fun e w' => e = .returned (.int .u64 4) ∧ w = w' := down_any 5 2 (by decide) w
theorem between_no (x k d p : Nat) (e : Int) (w : World) (hx : x < 18446744073709551616) (hk : k < 64) (e1 : bits .and .i64 e 63 = k) (hd : dn x k = d) (hup : upV x k = 0) (hupb : upB x k = false)
    (hw : IntKind.u64.wrap (2 ^ k) = p) (f1 : d ≤ x) (f2 : k ≤ zerosOf d) (f3 : x < d + p) (f5 : ((d : Int) != x) = true) :
    Calls Try.prog 10 #[.int .u64 x, .int .i64 e] w fun e w' => e = .returned (.bool true) ∧ Below w.heap.size w w' := by
  have hdn := down_any x k hx
  have hu := up_any x k hx
  rw [show ce (k : Int) = k from by unfold ce; omega] at hdn hu
  rw [hd] at hdn
  rw [hup, hupb] at hu
  have HD := Lib.hid hdn
  have HU := Lib.hid hu
  clear hdn hu hd hup hupb
  have hz := zerosOf_le d
  have g1 : decide (x < d) = false := decide_eq_false (by omega)
  have g2 : decide (zerosOf d < k) = false := decide_eq_false (by omega)
  have g3 : decide ((p : Int) ≤ (x : Int) - d) = false := decide_eq_false (by omega)
  go_enter Try.func10, Try.ntmps10
  go_wp2_with (first | ((with_reducible (go_at_call 34; refine (down_five _).mono ?_)); rintro e1 w1 ⟨rfl, rfl⟩) | ((with_reducible (go_at_call 35; refine (HU.out _).mono ?_)); rintro e1 w1 ⟨rfl, rfl⟩) | ((with_reducible (go_at_call 34; refine (HD.out _).mono ?_)); rintro e1 w1 ⟨rfl, rfl⟩) | ((with_reducible (go_at_call 24; refine (zeros_any d (by omega) _).mono ?_)); rintro e1 w1 ⟨rfl, hb1⟩))
  go_ret
  exact ⟨rfl, hb1⟩
theorem between_yes (x k d u p : Nat) (e : Int) (w : World) (hx : x < 18446744073709551616) (hu64 : u < 18446744073709551616) (hk : k < 64) (e1 : bits .and .i64 e 63 = k) (hd : dn x k = d) (hup : upV x k = u) (hupb : upB x k = true)
    (hw : IntKind.u64.wrap (2 ^ k) = p) (f1 : d ≤ x) (f2 : k ≤ zerosOf d) (f3 : x < d + p) (g : x ≤ u) (g4 : u ≤ d + p) (f6 : k ≤ zerosOf u) (hdu : dn u k = u) (huu : upV u k = u) (huub : upB u k = true) (hdx : ((d : Int) != x) = true ∨ (u = x ∧ d = x)) :
    Calls Try.prog 10 #[.int .u64 x, .int .i64 e] w fun e w' => e = .returned (.bool true) ∧ Below w.heap.size w w' := by
  have hdn := down_any x k hx
  have hu := up_any x k hx
  have hdn2 := down_any u k hu64
  have hu2 := up_any u k hu64
  rw [show ce (k : Int) = k from by unfold ce; omega] at hdn hu hdn2 hu2
  rw [hd] at hdn
  rw [hup, hupb] at hu
  rw [hdu] at hdn2
  rw [huu, huub] at hu2
  have HD := Lib.hid hdn
  have HU := Lib.hid hu
  have HD2 := Lib.hid hdn2
  have HU2 := Lib.hid hu2
  clear hdn hu hd hup hupb hdn2 hu2 hdu huu huub
  have hz := zerosOf_le d
  have hz2 := zerosOf_le u
  have g1 : decide (x < d) = false := decide_eq_false (by omega)
  have g2 : decide (zerosOf d < k) = false := decide_eq_false (by omega)
  have g3 : decide ((p : Int) ≤ (x : Int) - d) = false := decide_eq_false (by omega)
  have g5 : decide (x ≤ u) = true := decide_eq_true g
  have g6 : decide ((u : Int) - d ≤ p) = true := decide_eq_true (by omega)
  have g7 : decide (k ≤ zerosOf u) = true := decide_eq_true f6
  rcases hdx with h5 | ⟨rfl, rfl⟩
  · go_enter Try.func10, Try.ntmps10
    go_wp2_with (first | ((with_reducible (go_at_call 34; refine (down_five _).mono ?_)); rintro e1 w1 ⟨rfl, rfl⟩) | ((with_reducible (go_at_call 35; refine (HU.out _).mono ?_)); rintro e1 w1 ⟨rfl, rfl⟩) | ((with_reducible (go_at_call 34; refine (HD.out _).mono ?_)); rintro e1 w1 ⟨rfl, rfl⟩) | ((with_reducible (go_at_call 24; refine (zeros_any d (by omega) _).mono ?_)); rintro e1 w1 ⟨rfl, hb1⟩) | ((with_reducible (go_at_call 35; refine (HU2.out _).mono ?_)); rintro e1 w1 ⟨rfl, rfl⟩) | ((with_reducible (go_at_call 34; refine (HD2.out _).mono ?_)); rintro e1 w1 ⟨rfl, rfl⟩) | ((with_reducible (go_at_call 24; refine (zeros_any u (by omega) _).mono ?_)); rintro e1 w2 ⟨rfl, hb2⟩))
    go_ret
    exact ⟨rfl, hb1.trans (hb2.mono hb1.size)⟩
  · have tok1 : True := trivial
    go_enter Try.func10, Try.ntmps10
    go_wp2_with (first | ((with_reducible (go_at_call 34; refine (down_five _).mono ?_)); rintro e1 w1 ⟨rfl, rfl⟩) | ((with_reducible (go_at_call 35; refine (HU.out _).mono ?_)); rintro e1 w1 ⟨rfl, rfl⟩) | ((with_reducible (go_at_call 34; refine (HD.out _).mono ?_)); rintro e1 w1 ⟨rfl, rfl⟩) | (have _t := tok1; (with_reducible (go_at_call 24; refine (zeros_any _ (by omega) _).mono ?_)); rintro e1 w1 ⟨rfl, hb1⟩; clear tok1) | ((with_reducible (go_at_call 24; refine (zeros_any _ (by omega) _).mono ?_)); rintro e1 w2 ⟨rfl, hb2⟩))
    go_ret
    exact ⟨rfl, hb1.trans (hb2.mono hb1.size)⟩
theorem between_nat (x : Nat) (e : Int) (w : World) (hx : x < 18446744073709551616) :
    Calls Try.prog 10 #[.int .u64 x, .int .i64 e] w fun e w' => e = .returned (.bool true) ∧ Below w.heap.size w w' := by
  obtain ⟨k, hke⟩ := Int.eq_ofNat_of_zero_le (Int.emod_nonneg e (show (64 : Int) ≠ 0 by decide))
  have hk : k < 64 := by omega
  have e1 : bits .and .i64 e 63 = (k : Int) := by rw [low6, hke]
  obtain ⟨w1, w2⟩ := wrap_two k hk
  have hp := pow_pos k
  have hdm := dn_mod x k
  have hml := Nat.mod_lt x hp
  have hdl := dn_le x k
  have f2 : k ≤ zerosOf (dn x k) := (zerosOf_ge _ _ (by omega)).2 (dn_mult x k)
  obtain ⟨g1, g2, g3⟩ := up_ge x k
  by_cases hu : up x k < 18446744073709551616
  · have f6 : k ≤ zerosOf (up x k) := (zerosOf_ge _ _ (by omega)).2 (up_mult x k)
    have huu := up_zero (up_mult x k)
    refine between_yes x k _ (up x k) _ e w hx hu hk e1 rfl (by simp [upV, hu]) (by simp [upB, hu]) w1 hdl f2 (by omega) g1 g2 f6 (dn_self (up_mult x k)) (by simp [upV, huu, hu]) (by simp [upB, huu, hu]) ?_
    by_cases hd : dn x k = x
    · exact .inr ⟨g3 hd, hd⟩
    · exact .inl (by rw [bne_iff_ne]; omega)
  · refine between_no x k _ _ e w hx hk e1 rfl (by simp [upV, hu]) (by simp [upB, hu]) w1 hdl f2 (by omega) ?_
    rw [bne_iff_ne]
    intro hc
    have : dn x k = x := by omega
    rw [g3 this] at hu
    omega
theorem between_ok (x e : Int) (w : World) (h0 : 0 ≤ x) (hx : x < 18446744073709551616) :
    Calls Try.prog 10 #[.int .u64 x, .int .i64 e] w fun e w' => e = .returned (.bool true) ∧ Below w.heap.size w w' := by
  obtain ⟨x, rfl⟩ := Int.eq_ofNat_of_zero_le h0
  exact between_nat x e w (by omega)
end Go.Proofs.Ytdnhjkmcogbaoaa
