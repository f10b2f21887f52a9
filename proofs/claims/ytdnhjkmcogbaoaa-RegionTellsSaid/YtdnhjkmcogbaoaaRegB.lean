/-
  region: the reservations as a list; Find, walked.
-/
import Derived.Test.YtdnhjkmcogbaoaaRegA
namespace Go.Proofs.Ytdnhjkmcogbaoaa
open Go.RowKit
structure Rg where
  b : Nat
  t : Nat
  k : Int
deriving DecidableEq
def Rg.vals (r : Rg) : List Value := [.int .u64 (r.b : Int), .int .u64 (r.t : Int), .int .i64 r.k]
def flatR (L : List Rg) : List Value := L.flatMap Rg.vals
theorem flatR_length (L : List Rg) : (flatR L).length = L.length * 3 := by
  induction L with
  | nil => rfl
  | cons k L ih => simp [flatR, Rg.vals] at ih ⊢; omega
theorem flatR_cons (k : Rg) (L : List Rg) : flatR (k :: L) = k.vals ++ flatR L := rfl
theorem flatR_append (L M : List Rg) : flatR (L ++ M) = flatR L ++ flatR M := by simp [flatR]
theorem flatR_get (L : List Rg) (j : Nat) (k : Rg) (h : L[j]? = some k) : ∀ c v, k.vals[c]? = some v → (flatR L)[j * 3 + c]? = some v := by
  induction L generalizing j with
  | nil => simp at h
  | cons q L ih =>
    intro c v hv
    cases j with
    | zero =>
      simp at h; subst h
      rw [flatR_cons, Nat.zero_mul, Nat.zero_add]
      have : c < q.vals.length := (List.getElem?_eq_some_iff.mp hv).1
      rw [List.getElem?_append_left this]; exact hv
    | succ j =>
      rw [flatR_cons, List.getElem?_append_right (by simp [Rg.vals]; omega)]
      have := ih j (by simpa using h) c v hv
      rw [show (j + 1) * 3 + c - q.vals.length = j * 3 + c from by simp [Rg.vals]; omega]
      exact this
theorem flatR_one (L : List Rg) : ∀ u ∈ flatR L, u.oneCell' = true := by
  intro u hu
  obtain ⟨k, _, hk⟩ := List.mem_flatMap.mp hu
  simp [Rg.vals] at hk
  rcases hk with rfl | rfl | rfl <;> rfl
theorem flatR_take : ∀ (M : List Rg) (i : Nat), (flatR M).take (i * 3) = flatR (M.take i)
  | [], i => by simp [flatR]
  | q :: M, 0 => by simp [flatR]
  | q :: M, i + 1 => by
    rw [List.take_succ_cons, flatR_cons, flatR_cons, ← flatR_take M i, show (i + 1) * 3 = q.vals.length + i * 3 from by simp [Rg.vals]; omega, List.take_length_add_append]
theorem flatR_drop : ∀ (M : List Rg) (i : Nat), (flatR M).drop (i * 3) = flatR (M.drop i)
  | [], i => by simp [flatR]
  | q :: M, 0 => by simp [flatR]
  | q :: M, i + 1 => by
    rw [List.drop_succ_cons, flatR_cons, ← flatR_drop M i, show (i + 1) * 3 = q.vals.length + i * 3 from by simp [Rg.vals]; omega, List.drop_length_add_append]
def RowR (W : World) (v : Value) (L : List Rg) : Prop := W.ownsRow 0 82 3 v L.length (flatR L)
def CellsR (W : World) (a : Option Addr) (L : List Rg) : Prop := ∀ j k, L[j]? = some k → ∃ g, a = some ⟨g, 0, none⟩ ∧ g < W.heap.size ∧ W.cell? ⟨g, j * 3, none⟩ = some (.int .u64 (k.b : Int)) ∧ W.cell? ⟨g, j * 3 + 1, none⟩ = some (.int .u64 (k.t : Int)) ∧ W.cell? ⟨g, j * 3 + 2, none⟩ = some (.int .i64 k.k)
theorem RowR.open {W : World} {v : Value} {L : List Rg} (h : RowR W v L) : ∃ a cap, v = .slice a L.length cap ∧ CellsR W a L ∧ L.length ≤ cap := by
  rcases h.2 with ⟨rfl, h0⟩ | ⟨g, cap, cur, rfl, _, hg, hnc, hcm, hcs, htake⟩
  · refine ⟨none, 0, by rw [h0], fun j k hk => ?_, by omega⟩
    have : L = [] := List.eq_nil_of_length_eq_zero h0
    subst this; simp at hk
  · refine ⟨_, cap, rfl, fun j k hk => ⟨g, rfl, (Array.getElem?_eq_some_iff.1 hg).1, ?_⟩, hnc⟩
    have hc : ∀ c v, k.vals[c]? = some v → W.cell? ⟨g, j * 3 + c, none⟩ = some v := fun c v hv => by
      have := h.cells (g := g) rfl _ _ (flatR_get L j k hk c v hv)
      rwa [Addr.add_lit, Nat.zero_add] at this
    exact ⟨hc 0 _ rfl, hc 1 _ rfl, hc 2 _ rfl⟩
theorem CellsR.below {W W' : World} {a : Option Addr} {L : List Rg} (h : CellsR W a L) (k : Below W.heap.size W W') : CellsR W' a L := by
  intro j q hq
  obtain ⟨g, rfl, hg, h0, h1, h2⟩ := h j q hq
  have hc : ∀ o v, W.cell? ⟨g, o, none⟩ = some v → W'.cell? ⟨g, o, none⟩ = some v := fun o v hv => (k.cell (p := ⟨g, o, none⟩) hg).trans hv
  exact ⟨g, rfl, Nat.lt_of_lt_of_le hg k.size, hc _ _ h0, hc _ _ h1, hc _ _ h2⟩
theorem RowR.below {W W' : World} {v : Value} {L : List Rg} (h : RowR W v L) (k : Below W.heap.size W W') : RowR W' v L :=
  World.ownsRow.kept h (row := none) ⟨k.os, k.tape, k.output, k.size, fun i hi _ => k.block i hi⟩ (by cases v.ownBlock <;> simp)
theorem own_rowR {w : World} {B : Nat} {v : Value} {n : Nat} {M : List Rg} (h : w.ownsRow B 82 3 v n (flatR M)) (hn : n = M.length) : RowR w v M := by
  subst hn
  obtain ⟨h1, h2⟩ := h
  exact ⟨h1, h2.imp id fun ⟨g, cap, cur, he, hb, hr⟩ => ⟨g, cap, cur, he, Nat.zero_le _, hr⟩⟩
def hitR (s u : Nat) (k : Rg) : Bool := meetN k.b k.t s u
/-- What Find tells, from a base on. -/
inductive FLow (L : List Rg) (N x rb T : Nat) : Nat → Nat → Nat → Bool → Prop
  | over {b : Nat} (h : inN b (b + N) rb T = false) : FLow L N x rb T b 0 0 false
  | hit {b s u : Nat} {ok : Bool} (k : Rg) (h : inN b (b + N) rb T = true) (hk : L.find? (hitR b (b + N)) = some k) (r : FLow L N x rb T (up k.t x) s u ok) : FLow L N x rb T b s u ok
  | free {b : Nat} (h : inN b (b + N) rb T = true) (hk : L.find? (hitR b (b + N)) = none) : FLow L N x rb T b b (b + N) true
theorem FLow.det {L : List Rg} {N x rb T b s u s' u' : Nat} {ok ok' : Bool} (h : FLow L N x rb T b s u ok) (h' : FLow L N x rb T b s' u' ok') : s = s' ∧ u = u' ∧ ok = ok' := by
  induction h with
  | over h1 => cases h' with
    | over _ => exact ⟨rfl, rfl, rfl⟩
    | hit _ h2 _ _ => rw [h1] at h2; cases h2
    | free h2 _ => rw [h1] at h2; cases h2
  | hit k h1 hk r ih => cases h' with
    | over h2 => rw [h1] at h2; cases h2
    | hit k' h2 hk' r' => rw [hk] at hk'; cases hk'; exact ih r'
    | free h2 hk' => rw [hk] at hk'; cases hk'
  | free h1 hk => cases h' with
    | over h2 => rw [h1] at h2; cases h2
    | hit k' h2 hk' r' => rw [hk] at hk'; cases hk'
    | free h2 hk' => exact ⟨rfl, rfl, rfl⟩
/-- Whatever is found is of whole steps, in the room, and meets nothing. -/
theorem FLow.sound {L : List Rg} {N x rb T b s u : Nat} {ok : Bool} (h : FLow L N x rb T b s u ok) (hok : ok = true) (hb : b % 2 ^ x = 0) : u = s + N ∧ s % 2 ^ x = 0 ∧ rb ≤ s ∧ s + N ≤ T ∧ ∀ k ∈ L, meetN k.b k.t s (s + N) = false := by
  induction h with
  | over _ => cases hok
  | hit k h1 hk r ih => exact ih hok (up_spec k.t x).2.2
  | @free b' h1 hk =>
    have h2 := of_decide_eq_true h1
    refine ⟨rfl, hb, h2.1, h2.2, fun k hk' => ?_⟩
    have := List.find?_eq_none.mp hk k hk'
    simpa [hitR] using this
end Go.Proofs.Ytdnhjkmcogbaoaa
