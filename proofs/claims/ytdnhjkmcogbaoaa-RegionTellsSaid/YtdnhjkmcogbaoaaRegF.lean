/-
  slices.BinarySearchFunc at []region.Region: some place.
-/
import Derived.Test.YtdnhjkmcogbaoaaRegE
namespace Go.Proofs.Ytdnhjkmcogbaoaa
open Go.RowKit
theorem bsearchR (base : Nat) (a : Option Addr) (cap : Nat) (L : List Rg) (w : World) (hL : CellsR w a L) (hLn : L.length ≤ 1000) :
    Calls Try.prog 83 #[.slice a L.length cap, .int .u64 base, .func (.func 84) #[] #[]] w fun e w' => (∃ (k : Nat) (b : Bool), e = .returned (.tuple #[.int .i64 (k : Int), .bool b]) ∧ k ≤ L.length) ∧ Below w.heap.size w w' := by
  have HC := Lib.hid hL
  clear hL
  go_enter Try.func83, Try.ntmps83
  go_wp2
  go_loopg [9, 10] L.length (fun g s9 s10 wx => ∃ i j : Nat, s9 = .int .i64 (i : Int) ∧ s10 = .int .i64 (j : Int) ∧ i ≤ j ∧ j ≤ L.length ∧ g = j - i ∧ Below w.heap.size w wx)
  case atStart => exact ⟨0, L.length, rfl, rfl, by omega, by omega, by omega, Below.refl _ _⟩
  case round =>
    obtain ⟨i, j, rfl, rfl, hij, hjn, hg, hbx⟩ := hrel
    by_cases h : i < j
    · have h1 : decide ((i : Int) < (j : Int)) = true := decide_eq_true (by omega)
      obtain ⟨m, hm⟩ : ∃ m : Nat, m = (i + j) / 2 := ⟨_, rfl⟩
      have hmi : i ≤ m ∧ m < j := by omega
      have hmI : ((i : Int) + (j : Int)) / 2 = (m : Int) := by omega
      obtain ⟨k, hk⟩ : ∃ k, L[m]? = some k := ⟨_, List.getElem?_eq_getElem (by omega)⟩
      obtain ⟨gb, rfl, hgb, p0, p1, p2⟩ := HC.out.below (hbx) m k hk
      have HK := Lib.hid (add2_any k base wr)
      have hml : (m : Int) < (L.length : Int) := by omega
      clear hm hk
      go_wp2
      · go_roundg (j - (m + 1))
        case measure => omega
        case rel => exact ⟨m + 1, j, by go_num, rfl, by omega, by omega, rfl, ba hbx _⟩
      · go_roundg (m - i)
        case measure => omega
        case rel => exact ⟨i, m, rfl, rfl, by omega, by omega, rfl, ba hbx _⟩
    · have h1 : decide (i < j) = false := decide_eq_false h
      have hij2 : i = j := by omega
      subst hij2
      by_cases h2 : i < L.length
      · have h3 : (i : Int) < (L.length : Int) := by omega
        obtain ⟨k, hk⟩ : ∃ k, L[i]? = some k := ⟨_, List.getElem?_eq_getElem h2⟩
        obtain ⟨gb, rfl, hgb, p0, p1, p2⟩ := HC.out.below (hbx) i k hk
        clear hk
        go_wp2
        all_goals refine bodyPost_ret (v := .tuple #[.int .i64 (i : Int), .bool false]) (by simp [results, Try.results83, go_sem]) rfl ⟨⟨i, false, rfl, hjn⟩, ba hbx _⟩
      · have h3 : decide (i < L.length) = false := decide_eq_false h2
        go_wp2
        refine bodyPost_ret (v := .tuple #[.int .i64 (i : Int), .bool false]) (by simp [results, Try.results83, go_sem]) rfl ⟨⟨i, false, rfl, hjn⟩, hbx⟩
end Go.Proofs.Ytdnhjkmcogbaoaa
