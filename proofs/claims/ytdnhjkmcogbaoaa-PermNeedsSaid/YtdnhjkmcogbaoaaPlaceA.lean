/-
  perm.place: the place of a letter among the nine, and whether it is one; for any rune.
-/
import Derived.Test.YtdnhjkmcogbaoaaRows
import Derived.WalkKit
import Derived.WalkSpells
import Derived.WalkLawsBesides
import Derived.Deep.QuietTactic
import Derived.BigQuiet
import Derived.Outline
import Derived.Below
import Derived.Lib.Hide
import Derived.Lib.OthersKept
import Derived.WalkSmall
namespace Go.Proofs.Ytdnhjkmcogbaoaa
open Go.RowKit
/-- The nine letters. -/
def nine : ByteArray := ⟨#[114, 119, 120, 82, 87, 115, 117, 83, 103]⟩
def let9 (j : Nat) : Int := ([114, 119, 120, 82, 87, 115, 117, 83, 103] : List Int).getD j 0
def plc (r : Int) : Option Nat :=
  if r = 114 then some 0 else if r = 119 then some 1 else if r = 120 then some 2 else if r = 82 then some 3 else if r = 87 then some 4
  else if r = 115 then some 5 else if r = 117 then some 6 else if r = 83 then some 7 else if r = 103 then some 8 else none
def plcI (r : Int) : Int := ((plc r).getD 0 : Nat)
def plcB (r : Int) : Bool := (plc r).isSome
/-- None of the first letters is it. -/
def NotYet (r : Int) (pos : Nat) : Prop := ∀ j, j < pos → ¬ r = let9 j
theorem notYet_step {r : Int} {pos : Nat} (h : NotYet r pos) (hn : ¬ r = let9 pos) : NotYet r (pos + 1) := by
  intro j hj
  by_cases e : j = pos
  · rw [e]; exact hn
  · exact h j (by omega)
theorem notYet_end {r : Int} (h : NotYet r 9) : plc r = none := by
  have h0 := h 0 (by decide); have h1 := h 1 (by decide); have h2 := h 2 (by decide); have h3 := h 3 (by decide); have h4 := h 4 (by decide)
  have h5 := h 5 (by decide); have h6 := h 6 (by decide); have h7 := h 7 (by decide); have h8 := h 8 (by decide)
  simp [let9] at h0 h1 h2 h3 h4 h5 h6 h7 h8
  simp [plc, *]
theorem plc_let9 : ∀ pos, pos < 9 → plc (let9 pos) = some pos := by decide
theorem nine_at : ∀ pos, (h : pos < 9) → ((nine[pos]'h).toNat : Int) = let9 pos ∧ (nine[pos]'h).toNat < 128 := by
  intro pos h
  have : pos = 0 ∨ pos = 1 ∨ pos = 2 ∨ pos = 3 ∨ pos = 4 ∨ pos = 5 ∨ pos = 6 ∨ pos = 7 ∨ pos = 8 := by omega
  rcases this with rfl | rfl | rfl | rfl | rfl | rfl | rfl | rfl | rfl <;> exact ⟨rfl, by decide +revert⟩
theorem ret_place {a b : Int} {c d : Bool} (h1 : a = b) (h2 : c = d) : Ending.returned (.tuple #[.int .i64 a, .bool c]) = .returned (.tuple #[.int .i64 b, .bool d]) := by rw [h1, h2]
theorem place_any (r : Int) (w : World) :
    Calls Try.prog 59 #[.int .i32 r] w fun e w' => e = .returned (.tuple #[.int .i64 (plcI r), .bool (plcB r)]) ∧ Below w.heap.size w w' := by
  go_enter Try.func59, Try.ntmps59
  go_wp2
  go_loopw [4] (fun _ w' => ∃ pos : Nat, pos ≤ 9 ∧ w' = w.iter nine pos ∧ NotYet r pos) (fun _ w' => 9 - w'.iterPos w.heap.size)
  case atStart => exact ⟨0, by decide, rfl, fun j hj => by omega⟩
  case round =>
    obtain ⟨pos, hp9, rfl, hny⟩ := hrel
    have HN := Lib.hid hny
    clear hny
    by_cases hp : pos < 9
    · obtain ⟨hc, h128⟩ := nine_at pos hp
      have hnx : ∀ ty, (Instr.next (.pointer (some ⟨w.heap.size, 0, none⟩)) true ty).run Try.prog (w.iter nine pos) = .ok (.tuple #[.bool true, .int .i64 pos, .int .i32 (let9 pos)]) (w.iter nine (pos + 1)) := fun ty => by rw [← hc]; exact run_next_ascii w nine pos ty hp h128
      clear hc h128
      by_cases he : let9 pos = r
      · have hb : (let9 pos == r) = true := by simpa using he
        go_wp2
        go_ret2
        have hpl : plc r = some pos := by rw [← he]; exact plc_let9 pos hp
        exact ⟨ret_place (by simp [plcI, hpl]) (by simp [plcB, hpl]), (Below.refl _ _).alloc (Nat.le_refl _) _⟩
      · have hb : (let9 pos == r) = false := by simpa using he
        go_wp2
        go_roundw
        case rel => exact ⟨pos + 1, by omega, rfl, notYet_step HN.out (fun e => he e.symm)⟩
        case measure => simp; omega
    · obtain rfl : pos = 9 := by omega
      have hnx : ∀ ty, (Instr.next (.pointer (some ⟨w.heap.size, 0, none⟩)) true ty).run Try.prog (w.iter nine 9) = .ok (.tuple #[.bool false]) (w.iter nine 9) := fun ty => run_next_end w nine 9 ty (by decide)
      go_wp2
      go_ret2
      have hpl : plc r = none := notYet_end HN.out
      exact ⟨ret_place (by simp [plcI, hpl]) (by simp [plcB, hpl]), (Below.refl _ _).alloc (Nat.le_refl _) _⟩
end Go.Proofs.Ytdnhjkmcogbaoaa
