/-
  perm.Parse: what it answers is what the bytes' letters sum up to, or nothing, for any text.
-/
import Derived.Test.YtdnhjkmcogbaoaaPlaceA
import Derived.Laws.BitsAllLaws
import Derived.Lib.OthersKept
namespace Go.Proofs.Ytdnhjkmcogbaoaa
open Go.RowKit Go.Lib
theorem place_some (r : Int) (k : Nat) (h : plc r = some k) (w : World) :
    Calls Try.prog 59 #[.int .i32 r] w fun e w' => e = .returned (.tuple #[.int .i64 k, .bool true]) ∧ Below w.heap.size w w' := by
  refine (place_any r w).mono ?_
  rintro e w' ⟨rfl, hb⟩
  exact ⟨ret_place (by simp [plcI, h]) (by simp [plcB, h]), hb⟩
theorem place_none (r : Int) (h : plc r = none) (w : World) :
    Calls Try.prog 59 #[.int .i32 r] w fun e w' => e = .returned (.tuple #[.int .i64 0, .bool false]) ∧ Below w.heap.size w w' := by
  refine (place_any r w).mono ?_
  rintro e w' ⟨rfl, hb⟩
  exact ⟨ret_place (by simp [plcI, h]) (by simp [plcB, h]), hb⟩
/-- The sum of the letters' permissions, from some on; none: there is another byte, or one twice. -/
def prs : List UInt8 → Nat → Option Nat
  | [], p => some p
  | c :: cs, p => match plc c.toNat with
    | none => none
    | some k => if p / 2 ^ k % 2 = 1 then none else prs cs (p + 2 ^ k)
def prsI (s : ByteArray) : Int := ((prs s.data.toList 0).getD 0 : Nat)
def prsB (s : ByteArray) : Bool := (prs s.data.toList 0).isSome
theorem plc_lt {r : Int} {k : Nat} (h : plc r = some k) : k < 9 := by
  unfold plc at h
  repeat' split at h
  all_goals simp at h
  all_goals omega
theorem plc_high (r : Nat) (h : 128 ≤ r) : plc (r : Int) = none := by
  unfold plc
  rw [if_neg (by omega), if_neg (by omega), if_neg (by omega), if_neg (by omega), if_neg (by omega), if_neg (by omega), if_neg (by omega), if_neg (by omega), if_neg (by omega)]
theorem plc_decode (s : ByteArray) (pos : Nat) (hp : pos < s.size) : plc ((Utf8.decode s pos).1 : Int) = plc ((s[pos]'hp).toNat : Int) ∧ (∀ k, plc ((Utf8.decode s pos).1 : Int) = some k → (Utf8.decode s pos).2 = 1) := by
  by_cases ha : (s[pos]'hp).toNat < 128
  · rw [decode_ascii s pos hp ha]; exact ⟨rfl, fun _ _ => rfl⟩
  · have h1 := (decode_high s pos hp (by omega)).1
    rw [plc_high _ h1, plc_high _ (by omega)]
    exact ⟨rfl, fun k h => by cases h⟩
theorem drop_at (s : ByteArray) (pos : Nat) (hp : pos < s.size) : s.data.toList.drop pos = (s[pos]'hp) :: s.data.toList.drop (pos + 1) := by
  rw [List.drop_eq_getElem_cons (by simpa using hp)]; rfl
theorem bit_is (p k : Nat) (hp : p < 512) : bits .and .u64 ((p : Int) / 2 ^ k) 1 = ((p / 2 ^ k % 2 : Nat) : Int) := by
  have e2 : ((p : Int) / 2 ^ k) = ((p / 2 ^ k : Nat) : Int) := by simp
  have h2 : p / 2 ^ k ≤ p := Nat.div_le_self _ _
  rw [e2]
  have := u64_and_nat (p / 2 ^ k) 1 (by omega) (by decide)
  rw [nat_mask1] at this
  exact this
theorem pow_lt9 (k : Nat) (hk : k < 9) : 2 ^ k ≤ 256 := Nat.pow_le_pow_right (by decide) (show k ≤ 8 by omega)
theorem or_add : ∀ p, p < 512 → ∀ k, k < 9 → p / 2 ^ k % 2 = 0 → p ||| 2 ^ k = p + 2 ^ k := by decide +kernel
theorem or_is (p k : Nat) (hp : p < 512) (hk : k < 9) (h : p / 2 ^ k % 2 = 0) : bits .or .u64 (p : Int) (IntKind.u64.wrap (2 ^ k)) = ((p + 2 ^ k : Nat) : Int) ∧ p + 2 ^ k < 512 := by
  have h8 := pow_lt9 k hk
  have e1 : IntKind.u64.wrap (2 ^ k) = ((2 ^ k : Nat) : Int) := by
    rw [IntKind.wrap_u64]
    have : ((2 : Int) ^ k) = ((2 ^ k : Nat) : Int) := by simp
    rw [this]; generalize 2 ^ k = q at h8; omega
  have := u64_or_nat p (2 ^ k) (by omega) (by omega)
  rw [e1, this, or_add p hp k hk h]
  refine ⟨rfl, ?_⟩
  rw [← or_add p hp k hk h]
  exact Nat.or_lt_two_pow (n := 9) hp (by omega)
theorem prs_none {s : ByteArray} {pos p : Nat} (hp : pos < s.size) (h : plc ((Utf8.decode s pos).1 : Int) = none) (hprs : prs (s.data.toList.drop pos) p = prs s.data.toList 0) : prs s.data.toList 0 = none := by
  rw [← hprs, drop_at s pos hp, prs, ← (plc_decode s pos hp).1, h]
theorem prs_twice {s : ByteArray} {pos p k : Nat} (hp : pos < s.size) (h : plc ((Utf8.decode s pos).1 : Int) = some k) (hprs : prs (s.data.toList.drop pos) p = prs s.data.toList 0) (hb : p / 2 ^ k % 2 = 1) : prs s.data.toList 0 = none := by
  rw [← hprs, drop_at s pos hp, prs, ← (plc_decode s pos hp).1, h]; simp only; rw [if_pos hb]
theorem prs_on {s : ByteArray} {pos p k : Nat} (hp : pos < s.size) (h : plc ((Utf8.decode s pos).1 : Int) = some k) (hprs : prs (s.data.toList.drop pos) p = prs s.data.toList 0) (hb : ¬ p / 2 ^ k % 2 = 1) :
    prs (s.data.toList.drop (pos + (Utf8.decode s pos).2)) (p + 2 ^ k) = prs s.data.toList 0 := by
  rw [(plc_decode s pos hp).2 k h, ← hprs, drop_at s pos hp, prs, ← (plc_decode s pos hp).1, h]; simp only; rw [if_neg hb]
theorem prs_end {s : ByteArray} {pos p : Nat} (hp : ¬ pos < s.size) (hprs : prs (s.data.toList.drop pos) p = prs s.data.toList 0) : prs s.data.toList 0 = some p := by
  rw [← hprs, List.drop_eq_nil_of_le (by simpa using hp)]; rfl
theorem ret_parse {a b : Int} {c d : Bool} (h1 : a = b) (h2 : c = d) : Ending.returned (.tuple #[.int .u64 a, .bool c]) = .returned (.tuple #[.int .u64 b, .bool d]) := by rw [h1, h2]
theorem iter_kept {w w2 : World} {k : Nat} {s : ByteArray} {pos pos' : Nat} (h : w.heap[k]? = some (.stringIter s pos)) (hb : Below (w.iterAt k s pos').heap.size (w.iterAt k s pos') w2) : w2.heap[k]? = some (.stringIter s pos') := by
  have hk : k < w.heap.size := (Array.getElem?_eq_some_iff.1 h).1
  rw [hb.block k (by rw [iterAt_size]; exact hk)]
  exact iterAt_heap w k s pos pos' h
set_option maxRecDepth 100000 in
theorem parse_any (s : ByteArray) (w : World) :
    Calls Try.prog 18 #[.string s] w fun e w' => e = .returned (.tuple #[.int .u64 (prsI s), .bool (prsB s)]) ∧ Below w.heap.size w w' := by
  go_enter Try.func18, Try.ntmps18
  go_wp2
  go_loopw [4] (fun v4 wr => ∃ pos p : Nat, p < 512 ∧ v4 = .int .u64 p ∧ prs (s.data.toList.drop pos) p = prs s.data.toList 0 ∧ Below w.heap.size w wr ∧ wr.heap[w.heap.size]? = some (.stringIter s pos)) (fun _ wr => s.size - wr.iterPos w.heap.size)
  case atStart => exact ⟨0, 0, by decide, rfl, rfl, (Below.refl _ _).alloc (Nat.le_refl _) _, World.iter_heap _ _ _⟩
  case round =>
    obtain ⟨pos, p, hp9, rfl, hprs, hbel, hit⟩ := hrel
    have HP := Lib.hid hprs
    have HI := Lib.hid hit
    clear hprs hit
    by_cases hp : pos < s.size
    · have hnx := fun ty => run_next_any_at (P := Try.prog) wr w.heap.size s pos ty HI.out hp
      have hwpos : 1 ≤ (Utf8.decode s pos).2 := by
        by_cases ha : (s[pos]'hp).toNat < 128
        · rw [decode_ascii s pos hp ha]; exact Nat.le_refl _
        · exact (decode_high s pos hp (by omega)).2
      cases hpl : plc ((Utf8.decode s pos).1 : Int) with
      | none =>
        have HL := Lib.hid hpl
        clear hpl
        go_wp2_with (first | ((with_reducible (go_at_call 59; refine (place_none _ HL.out _).mono ?_)); rintro e w2 ⟨rfl, hb2⟩))
        go_ret2
        have hn := prs_none hp HL.out HP.out
        exact ⟨ret_parse (by simp [prsI, hn]) (by simp [prsB, hn]), (below_iterAt hbel (Nat.le_refl _) _ _).trans (hb2.mono (by rw [iterAt_size]; exact hbel.size))⟩
      | some k =>
        have HL := Lib.hid hpl
        have hk := plc_lt hpl
        have HB := Lib.hid (bit_is p k hp9)
        clear hpl
        go_wp2_with (first | ((with_reducible (go_at_call 59; refine (place_some _ k HL.out _).mono ?_)); rintro e w2 ⟨rfl, hb2⟩))
        · go_ret2
          have h1 : (bits BinOp.and IntKind.u64 (↑p / 2 ^ k) 1 != 0) = true := by assumption
          rw [HB.out] at h1
          have h2 : p / 2 ^ k % 2 = 1 := by
            rw [bne_iff_ne] at h1; omega
          have hn := prs_twice hp HL.out HP.out h2
          exact ⟨ret_parse (by simp [prsI, hn]) (by simp [prsB, hn]), (below_iterAt hbel (Nat.le_refl _) _ _).trans (hb2.mono (by rw [iterAt_size]; exact hbel.size))⟩
        · have h1 : (bits BinOp.and IntKind.u64 (↑p / 2 ^ k) 1 != 0) = false := by assumption
          rw [HB.out] at h1
          have h2 : ¬ p / 2 ^ k % 2 = 1 := by
            rw [bne_eq_false_iff_eq] at h1; omega
          obtain ⟨o1, o2⟩ := or_is p k hp9 hk (by omega)
          go_roundw
          case rel => exact ⟨pos + (Utf8.decode s pos).2, p + 2 ^ k, o2, by rw [o1], prs_on hp HL.out HP.out h2, (below_iterAt hbel (Nat.le_refl _) _ _).trans (hb2.mono (by rw [iterAt_size]; exact hbel.size)), iter_kept HI.out hb2⟩
          case measure =>
            rw [iterPos_of (iter_kept HI.out hb2), iterPos_of HI.out]
            omega
    · have hnx := fun ty => run_next_end_at (P := Try.prog) wr w.heap.size s pos ty HI.out hp
      go_wp2
      go_ret2
      have hn := prs_end hp HP.out
      exact ⟨ret_parse (by simp [prsI, hn]) (by simp [prsB, hn]), hbel⟩
end Go.Proofs.Ytdnhjkmcogbaoaa
