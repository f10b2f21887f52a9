/-
  A span by value, a slice of numbers, a slice of steps, as the reader reads them.
-/
import Derived.Test.YtdnhjkmcogbaoaaOpenA
import Derived.Test.YtdnhjkmcogbaoaaRegL
import Derived.ChangeSlices
import Derived.Deep.Slices
import Derived.Lib.SmallJoins
namespace Go.Proofs.Ytdnhjkmcogbaoaa
open Go.ChangeShapes Go.WideShapes Go.ChangeAt Go.RowKit
theorem cells51 : Try.prog.cellsOf 51 = 2 := by kernel_rfl
theorem cells86 : Try.prog.cellsOf 86 = 5 := by kernel_rfl
theorem cells3 : Try.prog.cellsOf 3 = 1 := by kernel_rfl
theorem cell_lt {W : World} {p : Addr} {v : Value} (h : W.cell? p = some v) : p.block < W.heap.size := by
  rcases Nat.lt_or_ge p.block W.heap.size with h1 | h1
  · exact h1
  · have : W.heap[p.block]? = none := Array.getElem?_eq_none h1
    simp [World.cell?, this] at h
theorem nat_of {n : Int} (h : (Lit.int .u64 n).wf = true) : ∃ m : Nat, n = m ∧ m < 18446744073709551616 := by
  have := bounds_u64 h
  exact ⟨n.toNat, by omega, by omega⟩
section
variable {H : Type} {enc : TypeId × Value → H} {W : World} {base : Nat} {held : Bool}
set_option maxRecDepth 100000 in
theorem open_span {spare : Nat → Bool} {v : Value} {d : DataW H} {p : List MemPlace} (hv : Value.okWide Try.prog W .any base 51 v) (h : DataW.Trod enc Try.prog W 0 spare held 51 v d p) :
    ∃ a b : Nat, v = .agg #[.int .u64 (a : Int), .int .u64 (b : Int)] ∧ a < 18446744073709551616 ∧ b < 18446744073709551616 := by
  obtain ⟨cs, rfl, hsz⟩ := okWide_struct Try.underlying51 hv
  rw [cells51] at hsz
  obtain ⟨l⟩ := cs
  obtain ⟨c0, c1, rfl⟩ := list2 l hsz
  obtain ⟨fuel, hf⟩ := h
  obtain ⟨y0, y1, n, _, _, h0, h1⟩ := trod_struct2 Try.underlying51 (by simpa [Value.cells] using hf)
  simp only [cells22] at h0 h1
  simp at h0 h1
  obtain ⟨a, e0, _, wa⟩ := DataW.trod_int Try.underlying22 h0
  obtain ⟨b, e1, _, wb⟩ := DataW.trod_int Try.underlying22 h1
  simp at e0 e1
  subst e0 e1
  obtain ⟨m, rfl, hm⟩ := nat_of wa
  obtain ⟨k, rfl, hk⟩ := nat_of wb
  exact ⟨m, k, rfl, hm, hk⟩
set_option maxRecDepth 100000 in
theorem open_u64s {v : Value} {d : DataW H} {p : List MemPlace} (hv : Value.okWide Try.prog W .any base 68 v) (h : DataW.Trod enc Try.prog W 0 (fun _ => true) held 68 v d p) :
    ∃ (a : Option Addr) (n cap : Nat), v = .slice a n cap ∧ n ≤ 9223372036854775807 ∧ U64s W a n := by
  obtain ⟨a0, n0, c0, rfl⟩ := okWide_slice Try.underlying68 hv
  obtain ⟨fuel, hf⟩ := h
  rcases open_ints Try.underlying68 Try.underlying22 cells22 hf with ⟨hcs, hx⟩ | ⟨a, len, cap, zs, hcs, _, hl, hm, hz, hx, hcell, hwz⟩
  · simp [Value.cells] at hcs
    obtain ⟨rfl, rfl, rfl⟩ := hcs
    exact ⟨_, _, _, rfl, by omega, fun j hj => by omega⟩
  · simp [Value.cells] at hcs
    obtain ⟨rfl, rfl, rfl⟩ := hcs
    unfold maxLen at hm
    rw [if_pos rfl] at hz
    refine ⟨_, _, _, rfl, by omega, fun j hj => ?_⟩
    have hc := hcell j (by omega)
    have hg : zs.getD j 0 ∈ zs := by
      rw [List.getD_eq_getElem?_getD, List.getElem?_eq_getElem (by omega)]
      exact List.getElem_mem _
    obtain ⟨m, he, hm'⟩ := nat_of (hwz _ hg)
    rw [he] at hc
    have hlt := cell_lt hc
    rw [add_block] at hlt
    exact ⟨a, m, rfl, hlt, hm', hc⟩
end
end Go.Proofs.Ytdnhjkmcogbaoaa
