/-
  The document's Parse, printed: it answers what the letters sum up to, or nothing, for any text; the walk of the law PermParses.
-/
import Derived.Test.YtdnhjkmcogbaoaaParseA
import Derived.Test.YtdnhjkmcogbaoaaPPermParsesx1
namespace Go.Proofs.Ytdnhjkmcogbaoaa
open Go.RowKit Go.Lib Go.Proofs.Ytdnhjkmcogbaoaa.PPermParses Go.Proofs.YtdnhjkmcogbaoaaW.PrintWords Go.Proofs.YtdnhjkmcogbaoaaW.PrintLast Go.Proofs.YtdnhjkmcogbaoaaW.PrintMore
theorem bt_nine (j : Nat) (h : j < 9) : bt (⟨#[114, 119, 120, 82, 87, 115, 117, 83, 103]⟩ : ByteArray) (j : Int) = let9 j := by
  have : j = 0 ∨ j = 1 ∨ j = 2 ∨ j = 3 ∨ j = 4 ∨ j = 5 ∨ j = 6 ∨ j = 7 ∨ j = 8 := by omega
  rcases this with rfl | rfl | rfl | rfl | rfl | rfl | rfl | rfl | rfl <;> rfl
theorem wrapU9 (j : Nat) (h : j ≤ 9) : IntKind.u64.wrap (j : Int) = j := by rw [IntKind.wrap_u64]; omega
theorem wrap9 (j : Nat) (h : j < 9) : wrap64 ((j : Int) + 1) = ((j + 1 : Nat) : Int) := by unfold wrap64; omega
/-- What stands behind the search in a round. -/
def bodyR (n : Nat) (s : ByteArray) (p : Nat) (pos : Nat) (kk : Nat) : Option (Int × Bool) :=
  if p / 2 ^ kk % 2 = 1 then some (0, false) else mintmarkref04_Parse.l0 n s ((p + 2 ^ kk : Nat) : Int) (wrap64 ((pos : Int) + 1))
theorem shr_is (p k : Nat) (hk : k < 9) : shr .u64 (p : Int) (k : Int) = (p : Int) / 2 ^ k := by
  unfold shr
  have : min ((k : Int).toNat) IntKind.u64.bits = k := by
    have : IntKind.u64.bits = 64 := rfl
    simp; omega
  rw [this]
theorem add_is (p k : Nat) (hp : p < 512) (hk : k < 9) : IntKind.u64.wrap ((p : Int) + shl .u64 1 (k : Int)) = ((p + 2 ^ k : Nat) : Int) := by
  have h8 := pow_lt9 k hk
  unfold shl
  have : min ((k : Int).toNat) IntKind.u64.bits = k := by
    have : IntKind.u64.bits = 64 := rfl
    simp; omega
  rw [this, IntKind.wrap_u64, IntKind.wrap_u64]
  have : ((1 : Int) * 2 ^ k) = ((2 ^ k : Nat) : Int) := by simp
  rw [this]; generalize 2 ^ k = q at h8; omega
theorem search (s : ByteArray) (p pos : Nat) (hp9 : p < 512) (hp : pos < s.size) (d : Nat) : ∀ (k j : Nat), j + d = 9 → d < k → NotYet (bt s pos) j →
    (plc (bt s pos) = none → mintmarkref04_Parse.l1 k s p pos j = some (0, false)) ∧
    (∀ kk, plc (bt s pos) = some kk → ∃ n, n + d ≥ k ∧ mintmarkref04_Parse.l1 k s p pos j = bodyR n s p pos kk) := by
  induction d with
  | zero =>
    intro k j hj hk hn
    obtain ⟨k, rfl⟩ : ∃ m, k = m + 1 := ⟨k - 1, by omega⟩
    obtain rfl : j = 9 := by omega
    have hpl := notYet_end hn
    refine ⟨fun _ => ?_, fun kk hkk => ?_⟩
    · simp only [mintmarkref04_Parse.l1]; rw [if_neg (by omega), if_pos (by omega)]
    · rw [hpl] at hkk; cases hkk
  | succ d ih =>
    intro k j hj hk hn
    obtain ⟨k, rfl⟩ : ∃ m, k = m + 1 := ⟨k - 1, by omega⟩
    have e : mintmarkref04_Parse.l1 (k + 1) s p pos j = if let9 j = bt s pos then bodyR k s p pos j else mintmarkref04_Parse.l1 k s p pos ((j + 1 : Nat) : Int) := by
      simp only [mintmarkref04_Parse.l1]
      rw [if_pos (by omega), if_pos (by omega), if_pos (by omega), if_pos (by omega), bt_nine j (by omega), wrap9 j (by omega), wrapU9 j (by omega), shr_is p j (by omega), bit_is p j hp9, add_is p j hp9 (by omega)]
      by_cases c : let9 j = bt s pos
      · rw [if_pos c, if_pos c, if_neg (by omega), if_pos (by omega)]
        unfold bodyR
        by_cases b : p / 2 ^ j % 2 = 1
        · rw [if_pos (by omega), if_pos b]
        · rw [if_neg (by omega), if_neg b]
      · rw [if_neg c, if_neg c]
    by_cases c : let9 j = bt s pos
    · rw [if_pos c] at e
      have hpl : plc (bt s pos) = some j := by rw [← c]; exact plc_let9 j (by omega)
      refine ⟨fun h => ?_, fun kk hkk => ?_⟩
      · rw [hpl] at h; cases h
      · rw [hpl] at hkk; cases hkk
        exact ⟨k, by omega, e⟩
    · rw [if_neg c] at e
      obtain ⟨h1, h2⟩ := ih k (j + 1) (by omega) (by omega) (notYet_step hn (fun h => c h.symm))
      refine ⟨fun h => by rw [e]; exact h1 h, fun kk hkk => ?_⟩
      obtain ⟨n, hn1, hn2⟩ := h2 kk hkk
      exact ⟨n, by omega, by rw [e]; exact hn2⟩
theorem bt_get (s : ByteArray) (pos : Nat) (hp : pos < s.size) : bt s (pos : Int) = ((s[pos]'hp).toNat : Int) := by
  unfold bt; rw [dif_pos (by simpa using hp)]; rfl
theorem refparse_loop (s : ByteArray) (hs : s.size ≤ 140737488351232) (d : Nat) : ∀ (k pos p : Nat), pos + d = s.size → p < 512 → d * 12 + 1 ≤ k →
    mintmarkref04_Parse.l0 k s p pos = some ((((prs (s.data.toList.drop pos) p).getD 0 : Nat) : Int), (prs (s.data.toList.drop pos) p).isSome) := by
  induction d with
  | zero =>
    intro k pos p hd hp9 hk
    obtain ⟨k, rfl⟩ : ∃ m, k = m + 1 := ⟨k - 1, by omega⟩
    simp only [mintmarkref04_Parse.l0]
    rw [if_neg (by omega), List.drop_eq_nil_of_le (by simp; omega)]
    rfl
  | succ d ih =>
    intro k pos p hd hp9 hk
    obtain ⟨k, rfl⟩ : ∃ m, k = m + 1 := ⟨k - 1, by omega⟩
    have hp : pos < s.size := by omega
    simp only [mintmarkref04_Parse.l0]
    rw [if_pos (by omega)]
    obtain ⟨h1, h2⟩ := search s p pos hp9 hp 9 k 0 (by omega) (by omega) (fun j hj => by omega)
    rw [bt_get s pos hp] at h1 h2
    rw [drop_at s pos hp, prs]
    cases hpl : plc ((s[pos]'hp).toNat : Int) with
    | none =>
      have := h1 hpl
      exact this
    | some kk =>
      have hk9 := plc_lt hpl
      obtain ⟨n, hn1, hn2⟩ := h2 kk hpl
      have e0 : ((0 : Nat) : Int) = 0 := rfl
      rw [e0] at hn2
      rw [hn2]
      unfold bodyR
      simp only
      by_cases b : p / 2 ^ kk % 2 = 1
      · rw [if_pos b, if_pos b]; rfl
      · rw [if_neg b, if_neg b]
        have hw : wrap64 ((pos : Int) + 1) = ((pos + 1 : Nat) : Int) := by unfold wrap64; omega
        rw [hw]
        exact ih n (pos + 1) (p + 2 ^ kk) (by omega) (or_is p kk hp9 hk9 (by omega)).2 (by omega)
theorem refparse_is (s : ByteArray) (hs : s.size ≤ 140737488351232) : mintmarkref04_Parse.f (s.size * 12 + 1) s = some (prsI s, prsB s) :=
  refparse_loop s hs s.size _ 0 0 (by omega) (by decide) (Nat.le_refl _)
theorem refparse_any (s : ByteArray) (hs : s.size ≤ 140737488351232) (w : World) :
    Calls Try.prog 19 #[.string s] w fun e w' => e = .returned (.tuple #[.int .u64 (prsI s), .bool (prsB s)]) ∧ Below w.heap.size w w' := by
  refine (mintmarkref04_Parse.calls _ s _ _ w (refparse_is s hs)).mono ?_
  rintro e w' ⟨rfl, hd⟩
  exact ⟨rfl, hd.below⟩
theorem xr_I : prsI ⟨#[120, 114]⟩ = 5 := by decide
theorem xr_B : prsB ⟨#[120, 114]⟩ = true := by decide
theorem parse_xr (w : World) :
    Calls Try.prog 18 #[.string ⟨#[120, 114]⟩] w fun e w' => e = .returned (.tuple #[.int .u64 5, .bool true]) ∧ Below w.heap.size w w' := by
  refine (parse_any _ w).mono ?_
  rintro e w' ⟨rfl, hd⟩
  exact ⟨ret_parse xr_I xr_B, hd⟩
theorem parses_ok (s : ByteArray) (w : World) (hs : s.size ≤ 140737488351232) :
    Calls Try.prog 5 #[.string s] w fun e w' => e = .returned (.bool true) ∧ Below w.heap.size w w' := by
  by_cases h : s.size ≤ 300
  · go_enter Try.func5, Try.ntmps5
    go_wp2_with (first | ((with_reducible (go_at_call 18; refine (parse_xr _).mono ?_)); rintro e w3 ⟨rfl, hb3⟩) | ((with_reducible (go_at_call 18; refine (parse_any s _).mono ?_)); rintro e w1 ⟨rfl, hb1⟩) | ((with_reducible (go_at_call 19; refine (refparse_any s hs _).mono ?_)); rintro e w2 ⟨rfl, hb2⟩))
    go_ret
    exact ⟨rfl, (hb1.trans (hb2.mono hb1.size)).trans (hb3.mono (Nat.le_trans hb1.size hb2.size))⟩
  · have h3 : 300 < s.size := by omega
    clear h
    go_enter Try.func5, Try.ntmps5
    go_wp2_with (first | ((with_reducible (go_at_call 18; refine (parse_xr _).mono ?_)); rintro e w3 ⟨rfl, hb3⟩) | ((with_reducible (go_at_call 18; refine (parse_any (s.extract 0 300) _).mono ?_)); rintro e w1 ⟨rfl, hb1⟩) | ((with_reducible (go_at_call 19; refine (refparse_any (s.extract 0 300) (by rw [ByteArray.size_extract]; omega) _).mono ?_)); rintro e w2 ⟨rfl, hb2⟩))
    go_ret
    exact ⟨rfl, (hb1.trans (hb2.mono hb1.size)).trans (hb3.mono (Nat.le_trans hb1.size hb2.size))⟩
end Go.Proofs.Ytdnhjkmcogbaoaa
