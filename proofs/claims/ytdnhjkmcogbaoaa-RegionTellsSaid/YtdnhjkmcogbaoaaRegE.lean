/-
  slices.Index, BinarySearchFunc, Delete at []region.Region.
-/
import Derived.Test.YtdnhjkmcogbaoaaRegD
namespace Go.Proofs.Ytdnhjkmcogbaoaa
open Go.RowKit
theorem eqR_run (k r : Rg) (W : World) : (binOp .eql 82 (.agg #[.int .u64 (r.b : Int), .int .u64 (r.t : Int), .int .i64 r.k]) (.agg #[.int .u64 (k.b : Int), .int .u64 (k.t : Int), .int .i64 k.k])).run Try.prog W = .ok (.bool (decide (k = r))) W := by
  obtain ⟨b, t, x⟩ := k
  obtain ⟨c, u, y⟩ := r
  by_cases h1 : c = b
  · by_cases h2 : u = t
    · by_cases h3 : y = x
      · subst h1; subst h2; subst h3
        go_simp
      · have e : decide ((⟨b, t, x⟩ : Rg) = ⟨c, u, y⟩) = false := by simp [h1, h2]; exact fun h => h3 h.symm
        rw [e]
        subst h1; subst h2
        have h3' : ¬ (y = x) := h3
        go_simp
    · have e : decide ((⟨b, t, x⟩ : Rg) = ⟨c, u, y⟩) = false := by simp; exact fun _ h => absurd h.symm h2
      rw [e]
      subst h1
      have h2' : ¬ ((u : Int) = (t : Int)) := by omega
      go_simp
  · have e : decide ((⟨b, t, x⟩ : Rg) = ⟨c, u, y⟩) = false := by simp; exact fun h => absurd h.symm h1
    rw [e]
    have h1' : ¬ ((c : Int) = (b : Int)) := by omega
    go_simp
theorem indexEqR (r : Rg) (a : Option Addr) (cap : Nat) (L : List Rg) (w : World) (hL : CellsR w a L) (hLn : L.length ≤ 1000) :
    Calls Try.prog 86 #[.slice a L.length cap, rgV r] w fun e w' => e = .returned (.int .i64 (idxI (fun k => decide (k = r)) L)) ∧ Below w.heap.size w w' := by
  have HC := Lib.hid hL
  clear hL
  go_enter Try.func86, Try.ntmps86
  go_wp2
  go_loopg [8] L.length (fun g s8 wx => ∃ j : Nat, j + g = L.length ∧ s8 = .int .i64 (j : Int) ∧ Aside (∀ i q, i < j → L[i]? = some q → decide (q = r) = false) ∧ Below w.heap.size w wx ∧ HB wx w.heap.size #[.int .u64 (r.b : Int), .int .u64 (r.t : Int), .int .i64 r.k] 82)
  case atStart => exact ⟨0, by omega, rfl, fun i q h => by omega, ba (Below.refl _ _) _, HB.new w _ _⟩
  case round =>
    obtain ⟨j, hjg, rfl, HN, hbx, B0⟩ := hrel
    cases gk with
    | zero =>
      have hj : j = L.length := by omega
      subst hj
      clear B0
      go_wp2
      go_ret
      exact ⟨by rw [idxI_no _ L HN.out]; rfl, hbx⟩
    | succ g =>
      have hjl : (j : Int) < (L.length : Int) := by omega
      obtain ⟨k, hk⟩ : ∃ k, L[j]? = some k := ⟨_, List.getElem?_eq_getElem (by omega)⟩
      obtain ⟨gb, rfl, hg, p0, p1, p2⟩ := HC.out.below (hbx) j k hk
      have b0 := B0.cell 0 _ rfl
      have b1 := B0.cell 1 _ rfl
      have b2 := B0.cell 2 _ rfl
      have HB0 := Lib.hid B0
      clear B0
      have hq := eqR_run k r
      cases hp : decide (k = r) with
      | true =>
        rw [hp] at hq
        have HP := Lib.hid hp
        clear hp
        go_wp2
        go_quiet (fail)
        go_wp2
        go_ret
        exact ⟨by rw [idxI_at _ L j k hk HP.out HN.out]; rfl, bn hbx _⟩
      | false =>
        rw [hp] at hq
        have HP := Lib.hid hp
        clear hp
        go_wp2
        go_quiet (fail)
        go_wp2
        go_roundg g
        case measure => omega
        case rel => exact ⟨j + 1, by omega, by go_num, fun i q hi hq => by
          rcases Nat.lt_or_ge i j with h | h
          · exact HN.out i q h hq
          · have : i = j := by omega
            subst this; rw [hk] at hq; cases hq; exact HP.out, bn hbx _, HB0.out.drewN _⟩
end Go.Proofs.Ytdnhjkmcogbaoaa
