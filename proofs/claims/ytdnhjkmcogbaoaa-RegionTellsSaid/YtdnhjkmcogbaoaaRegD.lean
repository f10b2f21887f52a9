/-
  region: its closures; slices.IndexFunc, ContainsFunc, Index, BinarySearchFunc at []region.Region.
-/
import Derived.Test.YtdnhjkmcogbaoaaRegC
import Derived.Test.YtdnhjkmcogbaoaaHeapB
import Derived.BigQuiet
namespace Go.Proofs.Ytdnhjkmcogbaoaa
open Go.RowKit
abbrev rgV (r : Rg) : Value := .agg #[.int .u64 (r.b : Int), .int .u64 (r.t : Int), .int .i64 r.k]
theorem add1_any (k : Rg) (cb s u : Nat) (W : World) (hc : HB W cb #[.int .u64 (s : Int), .int .u64 (u : Int)] 51) :
    Calls Try.prog 82 #[rgV k, .pointer (some ⟨cb, 0, none⟩)] W fun e w' => e = .returned (.bool (hitR s u k)) ∧ Below W.heap.size W w' := by
  obtain ⟨⟨c0, c1⟩, -⟩ := (hc.alloc (.cells #[.int .u64 (k.b : Int), .int .u64 (k.t : Int), .int .i64 k.k] 82)).two
  have HM := Lib.hid (meet_any k.b k.t s u)
  have HR := Lib.hid (show hitR s u k = meetN k.b k.t s u from rfl)
  clear hc
  go_enter Try.func82, Try.ntmps82
  go_wp2_with (first | ((with_reducible (go_at_call 76; refine (HM.out _).mono ?_)); rintro e1 w1 ⟨rfl, hb1⟩))
  go_ret
  exact ⟨by rw [HR.out]; rfl, bc (ba (Below.refl _ _) _) hb1⟩
theorem add2_any (k : Rg) (base : Nat) (W : World) :
    Calls Try.prog 84 #[rgV k, .int .u64 base] W fun e w' => e = .returned (.int .i64 (if k.b < base then -1 else 1)) ∧ Below W.heap.size W w' := by
  by_cases h : k.b < base
  · have h1 : decide (k.b < base) = true := decide_eq_true h
    rw [if_pos h]
    go_enter Try.func84, Try.ntmps84
    go_wp2
    go_ret
    exact ⟨rfl, ba (Below.refl _ _) _⟩
  · have h1 : decide (k.b < base) = false := decide_eq_false h
    rw [if_neg h]
    go_enter Try.func84, Try.ntmps84
    go_wp2
    go_ret
    exact ⟨rfl, ba (Below.refl _ _) _⟩
def atR (addr : Nat) (k : Rg) : Bool := decide (k.b ≤ addr ∧ addr < k.t)
theorem at1_any (k : Rg) (cb addr : Nat) (W : World) (hc : HB W cb #[.int .u64 (addr : Int)] 22) :
    Calls Try.prog 89 #[rgV k, .pointer (some ⟨cb, 0, none⟩)] W fun e w' => e = .returned (.bool (atR addr k)) ∧ Below W.heap.size W w' := by
  have c0 := (hc.alloc (.cells #[.int .u64 (k.b : Int), .int .u64 (k.t : Int), .int .i64 k.k] 82)).cell 0 _ rfl
  clear hc
  by_cases h : k.b ≤ addr
  · have h1 : decide (k.b ≤ addr) = true := decide_eq_true h
    rw [show atR addr k = decide (addr < k.t) from by unfold atR; simp [h]]
    go_enter Try.func89, Try.ntmps89
    go_wp2
    go_ret
    exact ⟨rfl, ba (Below.refl _ _) _⟩
  · have h1 : decide (k.b ≤ addr) = false := decide_eq_false h
    rw [show atR addr k = false from by unfold atR; simp [h]]
    go_enter Try.func89, Try.ntmps89
    go_wp2
    go_ret
    exact ⟨rfl, ba (Below.refl _ _) _⟩
theorem indexR82 (cb : Nat) (cc : Array Value) (ct : TypeId) (p : Rg → Bool) (a : Option Addr) (cap : Nat) (L : List Rg) (w : World) (hL : CellsR w a L) (hLn : L.length ≤ 1000) (hcb : HB w cb cc ct)
    (hcl : ∀ k ∈ L, ∀ W, HB W cb cc ct → Calls Try.prog 82 #[rgV k, .pointer (some ⟨cb, 0, none⟩)] W fun e w' => e = .returned (.bool (p k)) ∧ Below W.heap.size W w') :
    Calls Try.prog 88 #[.slice a L.length cap, .func (.func 82) #[] #[.pointer (some ⟨cb, 0, none⟩)]] w fun e w' => e = .returned (.int .i64 (idxI p L)) ∧ Below w.heap.size w w' := by
  have HC := Lib.hid hL
  have HCB := Lib.hid hcb
  have HCL := Lib.hid hcl
  clear hL hcb hcl
  go_enter Try.func88, Try.ntmps88
  go_wp2
  go_loopg [8] L.length (fun g s8 wx => ∃ j : Nat, j + g = L.length ∧ s8 = .int .i64 (j : Int) ∧ Aside (∀ i q, i < j → L[i]? = some q → p q = false) ∧ Below w.heap.size w wx)
  case atStart => exact ⟨0, by omega, rfl, fun i q h => by omega, Below.refl _ _⟩
  case round =>
    obtain ⟨j, hjg, rfl, HN, hbx⟩ := hrel
    cases gk with
    | zero =>
      have hj : j = L.length := by omega
      subst hj
      go_wp2
      go_ret
      exact ⟨by rw [idxI_no p L HN.out]; rfl, hbx⟩
    | succ g =>
      have hjl : (j : Int) < (L.length : Int) := by omega
      obtain ⟨k, hk⟩ : ∃ k, L[j]? = some k := ⟨_, List.getElem?_eq_getElem (by omega)⟩
      obtain ⟨gb, rfl, hg, p0, p1, p2⟩ := HC.out.below (hbx) j k hk
      have HK := Lib.hid (HCL.out k (List.mem_of_getElem? hk) wr (HCB.out.callee hbx))
      cases hp : p k with
      | true =>
        rw [hp] at HK
        go_wp2_with (first | ((with_reducible (go_at_call 82; refine (HK.out).mono ?_)); rintro e1 w1 ⟨rfl, hb1⟩))
        go_ret
        exact ⟨by rw [idxI_at p L j k hk hp HN.out]; rfl, bc hbx hb1⟩
      | false =>
        rw [hp] at HK
        go_wp2_with (first | ((with_reducible (go_at_call 82; refine (HK.out).mono ?_)); rintro e1 w1 ⟨rfl, hb1⟩))
        go_roundg g
        case measure => omega
        case rel => exact ⟨j + 1, by omega, by go_num, fun i q hi hq => by
          rcases Nat.lt_or_ge i j with h | h
          · exact HN.out i q h hq
          · have : i = j := by omega
            subst this; rw [hk] at hq; cases hq; exact hp, bc hbx hb1⟩
theorem idxI_ge {α : Type} (p : α → Bool) (L : List α) : decide ((0 : Int) ≤ idxI p L) = L.any p := by
  unfold idxI
  cases h : L.findIdx? p with
  | none =>
    have : L.any p = false := by
      rw [List.any_eq_false]
      intro x hx
      have := (List.findIdx?_eq_none_iff.mp h) x hx
      simp [this]
    rw [this]; rfl
  | some i =>
    obtain ⟨k, hk, hp, -⟩ : ∃ k, L[i]? = some k ∧ p k = true ∧ True := by
      rw [List.findIdx?_eq_some_iff_getElem] at h
      obtain ⟨h1, h2, -⟩ := h
      exact ⟨L[i], List.getElem?_eq_getElem h1, h2, trivial⟩
    have : L.any p = true := List.any_eq_true.mpr ⟨k, List.mem_of_getElem? hk, hp⟩
    rw [this]; simp
theorem containsR (cb : Nat) (s u : Nat) (a : Option Addr) (cap : Nat) (L : List Rg) (w : World) (hL : CellsR w a L) (hLn : L.length ≤ 1000) (hcb : HB w cb #[.int .u64 (s : Int), .int .u64 (u : Int)] 51) :
    Calls Try.prog 81 #[.slice a L.length cap, .func (.func 82) #[] #[.pointer (some ⟨cb, 0, none⟩)]] w fun e w' => e = .returned (.bool (L.any (hitR s u))) ∧ Below w.heap.size w w' := by
  have HI := Lib.hid (indexR82 cb _ 51 (hitR s u) a cap L w hL hLn hcb (fun k _ W hW => add1_any k cb s u W hW))
  have HG := Lib.hid (idxI_ge (hitR s u) L)
  generalize idxI (hitR s u) L = z at HI HG
  clear hL hcb
  go_enter Try.func81, Try.ntmps81
  go_wp2_with (first | ((with_reducible (go_at_call 88; refine (HI.out).mono ?_)); rintro e1 w1 ⟨rfl, hb1⟩))
  go_ret
  exact ⟨by rw [← HG.out]; rfl, hb1⟩
end Go.Proofs.Ytdnhjkmcogbaoaa
