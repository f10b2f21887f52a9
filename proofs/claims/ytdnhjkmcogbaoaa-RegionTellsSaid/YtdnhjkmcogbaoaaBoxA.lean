/-
  A box of cells, whole, and how it is kept: behind a callee, another box, a store.
-/
import Derived.Test.YtdnhjkmcogbaoaaBoundA
namespace Go.Proofs.Ytdnhjkmcogbaoaa
open Go.RowKit
/-- Block g is the cells cs of type t, all open. -/
def HB (W : World) (g : Nat) (cs : Array Value) (t : TypeId) : Prop := W.heap[g]? = some (.cells cs t (0, 0))
namespace HB
variable {W W' : World} {g : Nat} {cs : Array Value} {t : TypeId}
theorem lt (h : HB W g cs t) : g < W.heap.size := (Array.getElem?_eq_some_iff.mp h).1
theorem new (W : World) (cs : Array Value) (t : TypeId) : HB (W.alloc (.cells cs t)) W.heap.size cs t := by
  show (W.heap.push _)[W.heap.size]? = _; exact Array.getElem?_push_size
theorem new' (W : World) (cs : Array Value) (t : TypeId) (g : Nat) (hg : W.heap.size = g) : HB (W.alloc (.cells cs t)) g cs t := hg ▸ new W cs t
theorem alloc (h : HB W g cs t) (o : Obj) : HB (W.alloc o) g cs t := (Below.heap_alloc W o g h.lt).trans h
theorem below {B : Nat} (h : HB W g cs t) (k : Below B W W') (hB : W.heap.size ≤ B) : HB W' g cs t := (k.block g (Nat.lt_of_lt_of_le h.lt hB)).trans h
theorem callee (h : HB W g cs t) (k : Below W.heap.size W W') : HB W' g cs t := h.below k (Nat.le_refl _)
theorem drew (h : HB W g cs t) : HB W.drew g cs t := h
theorem drewN (h : HB W g cs t) (n : Nat) : HB (W.drewN n) g cs t := h
theorem set_other (h : HB W g cs t) (p : Addr) (v : Value) (hp : g ≠ p.block) : HB (W.setCell p v) g cs t := (Below.heap_setCell W p v g hp).trans h
theorem cell (h : HB W g cs t) (i : Nat) (v : Value) (hi : cs[i]? = some v) : W.cell? ⟨g, i, none⟩ = some v := by
  unfold HB at h; simp only [World.cell?, h]; exact hi
theorem frozen (h : HB W g cs t) (i : Nat) : W.frozen? ⟨g, i, none⟩ = false := by unfold HB at h; simp [World.frozen?, h]
theorem set (h : HB W g cs t) (i : Nat) (v : Value) : HB (W.setCell ⟨g, i, none⟩ v) g (cs.setIfInBounds i v) t := by
  unfold HB at h ⊢
  simp only [World.setCell, Array.getElem?_modify, if_pos, h, Option.map_some]
  rfl
theorem two {x y : Value} (h : HB W g #[x, y] t) : (W.cell? ⟨g, 0, none⟩ = some x ∧ W.cell? ⟨g, 1, none⟩ = some y) ∧ W.frozen? ⟨g, 0, none⟩ = false ∧ W.frozen? ⟨g, 1, none⟩ = false := ⟨⟨h.cell 0 _ rfl, h.cell 1 _ rfl⟩, h.frozen 0, h.frozen 1⟩
theorem set20 {x y : Value} (h : HB W g #[x, y] t) (d : Value) : HB (W.setCell ⟨g, 0, none⟩ d) g #[d, y] t := h.set 0 d
theorem set21 {x y : Value} (h : HB W g #[x, y] t) (d : Value) : HB (W.setCell ⟨g, 1, none⟩ d) g #[x, d] t := h.set 1 d
/-- All that a store of two cells into a box of two wants, and leaves. -/
theorem store2 {x y : Value} (h : HB W g #[x, y] t) (d u : Value) : ((W.cell? ⟨g, 0, none⟩ = some x ∧ W.cell? ⟨g, 1, none⟩ = some y) ∧ W.frozen? ⟨g, 0, none⟩ = false ∧ W.frozen? ⟨g, 1, none⟩ = false) ∧ (W.setCell ⟨g, 0, none⟩ d).cell? ⟨g, 0, none⟩ = some d ∧ ((W.setCell ⟨g, 0, none⟩ d).setCell ⟨g, 1, none⟩ u).cell? ⟨g, 1, none⟩ = some u ∧ HB ((W.setCell ⟨g, 0, none⟩ d).setCell ⟨g, 1, none⟩ u) g #[d, u] t :=
  ⟨h.two, (h.set20 d).two.1.1, ((h.set20 d).set21 u).two.1.2, (h.set20 d).set21 u⟩
theorem store3 {x y z : Value} (h : HB W g #[x, y, z] t) (d u v : Value) : ((W.cell? ⟨g, 0, none⟩ = some x ∧ W.cell? ⟨g, 1, none⟩ = some y ∧ W.cell? ⟨g, 2, none⟩ = some z) ∧ W.frozen? ⟨g, 0, none⟩ = false ∧ W.frozen? ⟨g, 1, none⟩ = false ∧ W.frozen? ⟨g, 2, none⟩ = false) ∧ (W.setCell ⟨g, 0, none⟩ d).cell? ⟨g, 0, none⟩ = some d ∧ ((W.setCell ⟨g, 0, none⟩ d).setCell ⟨g, 1, none⟩ u).cell? ⟨g, 1, none⟩ = some u ∧ (((W.setCell ⟨g, 0, none⟩ d).setCell ⟨g, 1, none⟩ u).setCell ⟨g, 2, none⟩ v).cell? ⟨g, 2, none⟩ = some v ∧ HB (((W.setCell ⟨g, 0, none⟩ d).setCell ⟨g, 1, none⟩ u).setCell ⟨g, 2, none⟩ v) g #[d, u, v] t :=
  have h1 : HB (W.setCell ⟨g, 0, none⟩ d) g #[d, y, z] t := h.set 0 d
  have h2 : HB ((W.setCell ⟨g, 0, none⟩ d).setCell ⟨g, 1, none⟩ u) g #[d, u, z] t := h1.set 1 u
  have h3 : HB (((W.setCell ⟨g, 0, none⟩ d).setCell ⟨g, 1, none⟩ u).setCell ⟨g, 2, none⟩ v) g #[d, u, v] t := h2.set 2 v
  ⟨⟨⟨h.cell 0 _ rfl, h.cell 1 _ rfl, h.cell 2 _ rfl⟩, h.frozen 0, h.frozen 1, h.frozen 2⟩, h1.cell 0 _ rfl, h2.cell 1 _ rfl, h3.cell 2 _ rfl, h3⟩
end HB
theorem set3_below {a X : World} {g : Nat} (h : Below a.heap.size a X) (hg : a.heap.size ≤ g) (d u v : Value) : Below a.heap.size a (((X.setCell ⟨g, 0, none⟩ d).setCell ⟨g, 1, none⟩ u).setCell ⟨g, 2, none⟩ v) := ((h.setCell hg _).setCell hg _).setCell hg _
end Go.Proofs.Ytdnhjkmcogbaoaa
