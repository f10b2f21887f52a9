/-
  heap's closures, and slices.IndexFunc, at []heap.Block.
-/
import Derived.Test.YtdnhjkmcogbaoaaHeapA
namespace Go.Proofs.Ytdnhjkmcogbaoaa
open Go.RowKit
abbrev blkV (k : Blk) : Value := .agg #[.int .u64 (k.b : Int), .int .u64 (k.t : Int), .bool k.f, .int .i64 k.a]
theorem give1_any (k : Blk) (cb base : Nat) (W : World) (hc : HB W cb #[.int .u64 (base : Int)] 22) :
    Calls Try.prog 69 #[blkV k, .pointer (some ⟨cb, 0, none⟩)] W fun e w' => e = .returned (.bool (decide (k.b = base ∧ k.f = false))) ∧ Below W.heap.size W w' := by
  have c0 := (hc.alloc (.cells #[.int .u64 (k.b : Int), .int .u64 (k.t : Int), .bool k.f, .int .i64 k.a] 103)).cell 0 _ rfl
  by_cases h1 : k.b = base
  · have e1 : ((k.b : Int) == (base : Int)) = true := by simp [h1]
    have e2 : decide (k.b = base ∧ k.f = false) = !k.f := by simp [h1]
    rw [e2]
    clear h1 e2 hc
    go_enter Try.func69, Try.ntmps69
    go_wp2
    go_ret
    exact ⟨rfl, ba (Below.refl _ _) _⟩
  · have e1 : ((k.b : Int) == (base : Int)) = false := by simp; omega
    have e2 : decide (k.b = base ∧ k.f = false) = false := by simp [h1]
    rw [e2]
    clear h1 e2 hc
    go_enter Try.func69, Try.ntmps69
    go_wp2
    go_ret
    exact ⟨rfl, ba (Below.refl _ _) _⟩
/-- The first index, or -1. -/
def idxI {α : Type} (p : α → Bool) (L : List α) : Int := match L.findIdx? p with | some i => (i : Int) | none => -1
theorem idxI_at {α : Type} (p : α → Bool) (L : List α) (j : Nat) (k : α) (h : L[j]? = some k) (hk : p k = true) (hn : ∀ i q, i < j → L[i]? = some q → p q = false) : idxI p L = j := by
  obtain ⟨hj1, hj2⟩ := (List.getElem?_eq_some_iff.mp h)
  have : L.findIdx? p = some j := by
    rw [List.findIdx?_eq_some_iff_getElem]
    refine ⟨hj1, by rw [hj2]; exact hk, fun i hi => ?_⟩
    have := hn i L[i] hi (List.getElem?_eq_getElem (by omega))
    simp [this]
  simp [idxI, this]
theorem idxI_no {α : Type} (p : α → Bool) (L : List α) (hn : ∀ i q, i < L.length → L[i]? = some q → p q = false) : idxI p L = -1 := by
  have : L.findIdx? p = none := by
    rw [List.findIdx?_eq_none_iff]
    intro q hq
    obtain ⟨i, hi⟩ := List.mem_iff_getElem?.mp hq
    exact hn i q (List.getElem?_eq_some_iff.mp hi).1 hi
  simp [idxI, this]
theorem indexB69 (cb : Nat) (cc : Array Value) (ct : TypeId) (p : Blk → Bool) (a : Option Addr) (cap : Nat) (L : List Blk) (w : World) (hL : CellsB w a L) (hLn : L.length ≤ 1000) (hcb : HB w cb cc ct)
    (hcl : ∀ k ∈ L, ∀ W, HB W cb cc ct → Calls Try.prog 69 #[blkV k, .pointer (some ⟨cb, 0, none⟩)] W fun e w' => e = .returned (.bool (p k)) ∧ Below W.heap.size W w') :
    Calls Try.prog 68 #[.slice a L.length cap, .func (.func 69) #[] #[.pointer (some ⟨cb, 0, none⟩)]] w fun e w' => e = .returned (.int .i64 (idxI p L)) ∧ Below w.heap.size w w' := by
  have HC := Lib.hid hL
  have HCB := Lib.hid hcb
  have HCL := Lib.hid hcl
  clear hL hcb hcl
  go_enter Try.func68, Try.ntmps68
  go_wp2
  go_loopg [8] L.length (fun g s8 wx => ∃ j : Nat, j + g = L.length ∧ s8 = .int .i64 (j : Int) ∧ Aside (∀ i q, i < j → L[i]? = some q → p q = false) ∧ Below w.heap.size w wx)
  case atStart => exact ⟨0, by omega, rfl, fun i q h => by omega, Below.refl _ _⟩
  case round =>
    obtain ⟨j, hjg, rfl, HN, hbx⟩ := hrel
    cases gk with
    | zero =>
      have hj : j = L.length := by omega
      subst hj
      go_wp2
      go_ret
      exact ⟨by rw [idxI_no p L HN.out]; rfl, hbx⟩
    | succ g =>
      have hjl : (j : Int) < (L.length : Int) := by omega
      obtain ⟨k, hk⟩ : ∃ k, L[j]? = some k := ⟨_, List.getElem?_eq_getElem (by omega)⟩
      obtain ⟨gb, rfl, hg, p0, p1, p2, p3⟩ := HC.out.below (hbx) j k hk
      have HK := Lib.hid (HCL.out k (List.mem_of_getElem? hk) wr (HCB.out.callee hbx))
      cases hp : p k with
      | true =>
        rw [hp] at HK
        go_wp2_with (first | ((with_reducible (go_at_call 69; refine (HK.out).mono ?_)); rintro e1 w1 ⟨rfl, hb1⟩))
        go_ret
        exact ⟨by rw [idxI_at p L j k hk hp HN.out]; rfl, bc hbx hb1⟩
      | false =>
        rw [hp] at HK
        go_wp2_with (first | ((with_reducible (go_at_call 69; refine (HK.out).mono ?_)); rintro e1 w1 ⟨rfl, hb1⟩))
        go_roundg g
        case measure => omega
        case rel => exact ⟨j + 1, by omega, by go_num, fun i q hi hq => by
          rcases Nat.lt_or_ge i j with h | h
          · exact HN.out i q h hq
          · have : i = j := by omega
            subst this; rw [hk] at hq; cases hq; exact hp, bc hbx hb1⟩
theorem indexB72 (cb : Nat) (cc : Array Value) (ct : TypeId) (p : Blk → Bool) (a : Option Addr) (cap : Nat) (L : List Blk) (w : World) (hL : CellsB w a L) (hLn : L.length ≤ 1000) (hcb : HB w cb cc ct)
    (hcl : ∀ k ∈ L, ∀ W, HB W cb cc ct → Calls Try.prog 72 #[blkV k, .pointer (some ⟨cb, 0, none⟩)] W fun e w' => e = .returned (.bool (p k)) ∧ Below W.heap.size W w') :
    Calls Try.prog 68 #[.slice a L.length cap, .func (.func 72) #[] #[.pointer (some ⟨cb, 0, none⟩)]] w fun e w' => e = .returned (.int .i64 (idxI p L)) ∧ Below w.heap.size w w' := by
  have HC := Lib.hid hL
  have HCB := Lib.hid hcb
  have HCL := Lib.hid hcl
  clear hL hcb hcl
  go_enter Try.func68, Try.ntmps68
  go_wp2
  go_loopg [8] L.length (fun g s8 wx => ∃ j : Nat, j + g = L.length ∧ s8 = .int .i64 (j : Int) ∧ Aside (∀ i q, i < j → L[i]? = some q → p q = false) ∧ Below w.heap.size w wx)
  case atStart => exact ⟨0, by omega, rfl, fun i q h => by omega, Below.refl _ _⟩
  case round =>
    obtain ⟨j, hjg, rfl, HN, hbx⟩ := hrel
    cases gk with
    | zero =>
      have hj : j = L.length := by omega
      subst hj
      go_wp2
      go_ret
      exact ⟨by rw [idxI_no p L HN.out]; rfl, hbx⟩
    | succ g =>
      have hjl : (j : Int) < (L.length : Int) := by omega
      obtain ⟨k, hk⟩ : ∃ k, L[j]? = some k := ⟨_, List.getElem?_eq_getElem (by omega)⟩
      obtain ⟨gb, rfl, hg, p0, p1, p2, p3⟩ := HC.out.below (hbx) j k hk
      have HK := Lib.hid (HCL.out k (List.mem_of_getElem? hk) wr (HCB.out.callee hbx))
      cases hp : p k with
      | true =>
        rw [hp] at HK
        go_wp2_with (first | ((with_reducible (go_at_call 72; refine (HK.out).mono ?_)); rintro e1 w1 ⟨rfl, hb1⟩))
        go_ret
        exact ⟨by rw [idxI_at p L j k hk hp HN.out]; rfl, bc hbx hb1⟩
      | false =>
        rw [hp] at HK
        go_wp2_with (first | ((with_reducible (go_at_call 72; refine (HK.out).mono ?_)); rintro e1 w1 ⟨rfl, hb1⟩))
        go_roundg g
        case measure => omega
        case rel => exact ⟨j + 1, by omega, by go_num, fun i q hi hq => by
          rcases Nat.lt_or_ge i j with h | h
          · exact HN.out i q h hq
          · have : i = j := by omega
            subst this; rw [hk] at hq; cases hq; exact hp, bc hbx hb1⟩
end Go.Proofs.Ytdnhjkmcogbaoaa
