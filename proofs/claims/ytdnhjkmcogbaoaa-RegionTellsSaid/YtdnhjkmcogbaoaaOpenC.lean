/-
  A slice of steps, as the reader reads it.
-/
import Derived.Test.YtdnhjkmcogbaoaaOpenB
import Derived.Test.YtdnhjkmcogbaoaaRegN
namespace Go.Proofs.Ytdnhjkmcogbaoaa
open Go.ChangeShapes Go.WideShapes Go.ChangeAt Go.RowKit Go.Joins Go.Deep
theorem list5 {α : Type} (l : List α) (h : l.length = 5) : ∃ a b c d e, l = [a, b, c, d, e] := by
  match l, h with
  | [a, b, c, d, e], _ => exact ⟨a, b, c, d, e, rfl⟩
theorem cell_spot {W : World} {p : Addr} {v : Value} (h : W.cell? p = some v) : p.spot = none := by
  cases hs : p.spot with
  | none => rfl
  | some s =>
    exfalso
    unfold World.cell? at h
    split at h
    · rw [hs] at h; simp at h
    · cases h
section
variable {H : Type} {enc : TypeId × Value → H} {W : World} {base : Nat} {held : Bool}
set_option maxRecDepth 100000 in
theorem open_act {spare : Nat → Bool} {n : Nat} {cs : List Value} {y : DataW H × List MemPlace} (h : DataW.trod enc Try.prog W 0 spare held n 86 cs = some y) :
    ∃ (kd pk : Int) (x b t : Nat), cs = [.int .i64 kd, .int .i64 pk, .int .u64 (x : Int), .int .u64 (b : Int), .int .u64 (t : Int)] ∧ pk ≤ 9223372036854775807 := by
  obtain ⟨y0, y1, y2, y3, m, _, hl, h0, h1, h2, h3⟩ := trod_struct4 Try.underlying86 h
  rw [cells86] at hl
  obtain ⟨v0, v1, v2, v3, v4, rfl⟩ := list5 cs hl
  simp only [cells22, cells3, cells51] at h0 h1 h2 h3
  simp at h0 h1 h2 h3
  obtain ⟨kd, e0, _, w0⟩ := DataW.trod_int Try.underlying3 h0
  obtain ⟨pk, e1, _, w1⟩ := DataW.trod_int Try.underlying3 h1
  obtain ⟨x, e2, _, w2⟩ := DataW.trod_int Try.underlying22 h2
  obtain ⟨z0, z1, k, _, _, g0, g1⟩ := trod_struct2 Try.underlying51 h3
  simp only [cells22] at g0 g1
  simp at g0 g1
  obtain ⟨b, e3, _, w3⟩ := DataW.trod_int Try.underlying22 g0
  obtain ⟨t, e4, _, w4⟩ := DataW.trod_int Try.underlying22 g1
  simp at e0 e1 e2 e3 e4
  subst e0 e1 e2 e3 e4
  obtain ⟨x', rfl, _⟩ := nat_of w2
  obtain ⟨b', rfl, _⟩ := nat_of w3
  obtain ⟨t', rfl, _⟩ := nat_of w4
  exact ⟨kd, pk, x', b', t', rfl, (bounds_i64 w1).2⟩
set_option maxRecDepth 100000 in
theorem open_acts {v : Value} {d : DataW H} {p : List MemPlace} (hv : Value.okWide Try.prog W .any base 84 v) (h : DataW.Trod enc Try.prog W 0 (fun _ => true) held 84 v d p) :
    ∃ (a : Option Addr) (n cap : Nat), v = .slice a n cap ∧ n ≤ 9223372036854775807 ∧ ActsAt W a n := by
  obtain ⟨a0, n0, c0, rfl⟩ := okWide_slice Try.underlying84 hv
  obtain ⟨fuel, hf⟩ := h
  rcases open_slice Try.underlying84 hf with ⟨hcs, hx⟩ | ⟨a, len, cap, m, k, D, Pl, hcs, _, hl, hm, hz, hx, hel⟩
  · simp [Value.cells] at hcs
    obtain ⟨rfl, rfl, rfl⟩ := hcs
    exact ⟨_, _, _, rfl, by omega, fun j hj => by omega⟩
  · simp [Value.cells] at hcs
    obtain ⟨rfl, rfl, rfl⟩ := hcs
    unfold maxLen at hm
    rw [if_pos rfl] at hz
    rw [cells86] at hel
    refine ⟨_, _, _, rfl, by omega, fun j hj => ?_⟩
    have each : ∀ i, i < n0 → ∃ (kd pk : Int) (x b t : Nat), pk ≤ 9223372036854775807 ∧ W.cell? ((a.add (i * 5)).add 0) = some (.int .i64 kd) ∧ W.cell? ((a.add (i * 5)).add 1) = some (.int .i64 pk) ∧ W.cell? ((a.add (i * 5)).add 2) = some (.int .u64 (x : Int)) ∧ W.cell? ((a.add (i * 5)).add 3) = some (.int .u64 (b : Int)) ∧ W.cell? ((a.add (i * 5)).add 4) = some (.int .u64 (t : Int)) := by
      intro i hi
      obtain ⟨cs', hc, hd⟩ := hel i (by omega)
      obtain ⟨kd, pk, x, b, t, rfl, hpk⟩ := open_act hd
      have hcell := (World.cells?_some hc).2.2
      exact ⟨kd, pk, x, b, t, hpk, hcell 0 (by decide), hcell 1 (by decide), hcell 2 (by decide), hcell 3 (by decide), hcell 4 (by decide)⟩
    have hsp : a.spot = none := by
      obtain ⟨_, _, _, _, _, _, h0, _⟩ := each 0 (by omega)
      exact cell_spot (p := a) h0
    obtain ⟨g, o, sp⟩ := a
    have hsp' : sp = none := hsp
    subst hsp'
    obtain ⟨kd, pk, x, b, t, hpk, h0, h1, h2, h3, h4⟩ := each j hj
    have hadd : ∀ (q c : Nat), (⟨g, q, none⟩ : Addr).add c = ⟨g, q + c, none⟩ := fun q c => by unfold Addr.add; split <;> simp_all
    rw [hadd, hadd] at h0 h1 h2 h3 h4
    exact ⟨g, o, kd, pk, x, b, t, rfl, cell_lt h0, hpk, h0, h1, h2, h3, h4⟩
end
end Go.Proofs.Ytdnhjkmcogbaoaa
