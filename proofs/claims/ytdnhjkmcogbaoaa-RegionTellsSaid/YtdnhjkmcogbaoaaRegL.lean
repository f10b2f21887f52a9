/-
  region: a map's box, a span's box; numbers that came in; RegionApart's plain facts.
-/
import Derived.Test.YtdnhjkmcogbaoaaRegK
namespace Go.Proofs.Ytdnhjkmcogbaoaa
open Go.RowKit
theorem hbx_ne {W : World} {g g' : Nat} {cs cs' : Array Value} {t t' : TypeId} (h : HB W g cs t) (h' : HB W g' cs' t') (ht : t ≠ t') : g ≠ g' := by
  intro e; subst e
  unfold HB at h h'
  rw [h] at h'
  cases h'
  exact ht rfl
theorem RowR.set {W : World} {v : Value} {L : List Rg} {g : Nat} {cs : Array Value} {t : TypeId} (h : RowR W v L) (hb : HB W g cs t) (ht : t ≠ 82) (i : Nat) (u : Value) : RowR (W.setCell ⟨g, i, none⟩ u) v L := by
  refine World.ownsRow.kept h (row := some g) ⟨rfl, rfl, rfl, by simp, fun k _ hk => Below.heap_setCell W _ u k (fun e => hk (by rw [e]))⟩ ?_
  rcases h.2 with ⟨rfl, _⟩ | ⟨g', cap, cur, rfl, _, hg, _⟩
  · exact .inl rfl
  · refine .inr (fun e => ?_)
    have e2 : g' = g := Option.some.inj e
    subst e2
    unfold HB at hb
    rw [hb] at hg
    cases hg
    exact ht rfl
theorem RowR.alloc {W : World} {v : Value} {L : List Rg} (h : RowR W v L) (o : Obj) : RowR (W.alloc o) v L := h.below (ba (Below.refl _ _) o)
theorem RowR.drewN {W : World} {v : Value} {L : List Rg} (h : RowR W v L) (n : Nat) : RowR (W.drewN n) v L := h.below (bn (Below.refl _ _) n)
/-- A map's box. -/
def MP (W : World) (g : Nat) (b t : Nat) (L : List Rg) : Prop := ∃ s, HB W g #[.int .u64 (b : Int), .int .u64 (t : Int), s] 71 ∧ RowR W s L
/-- A span's box. -/
abbrev SB (W : World) (g : Nat) (b t : Nat) : Prop := HB W g #[.int .u64 (b : Int), .int .u64 (t : Int)] 51
theorem MP.store {W : World} {g b t : Nat} {L : List Rg} {s x y z : Value} (h : HB W g #[x, y, z] 71) (r : RowR W s L) : MP (((W.setCell ⟨g, 0, none⟩ (.int .u64 (b : Int))).setCell ⟨g, 1, none⟩ (.int .u64 (t : Int))).setCell ⟨g, 2, none⟩ s) g b t L := by
  have h1 : HB (W.setCell ⟨g, 0, none⟩ (.int .u64 (b : Int))) g #[.int .u64 (b : Int), y, z] 71 := h.set 0 _
  have h2 : HB ((W.setCell ⟨g, 0, none⟩ (.int .u64 (b : Int))).setCell ⟨g, 1, none⟩ (.int .u64 (t : Int))) g #[.int .u64 (b : Int), .int .u64 (t : Int), z] 71 := h1.set 1 _
  exact ⟨s, h2.set 2 s, ((r.set h (by decide) 0 _).set h1 (by decide) 1 _).set h2 (by decide) 2 _⟩
section
variable {W W' : World} {g b t : Nat} {L : List Rg}
theorem MP.lt (h : MP W g b t L) : g < W.heap.size := by obtain ⟨s, h1, _⟩ := h; exact h1.lt
theorem MP.alloc (h : MP W g b t L) (o : Obj) : MP (W.alloc o) g b t L := by
  obtain ⟨s, h1, h2⟩ := h
  exact ⟨s, h1.alloc o, h2.alloc o⟩
theorem MP.callee (h : MP W g b t L) (k : Below W.heap.size W W') : MP W' g b t L := by
  obtain ⟨s, h1, h2⟩ := h
  exact ⟨s, h1.callee k, h2.below k⟩
theorem MP.drew (h : MP W g b t L) : MP W.drew g b t L := h.callee (bd (Below.refl _ _))
theorem MP.drewN (h : MP W g b t L) (n : Nat) : MP (W.drewN n) g b t L := h.callee (bn (Below.refl _ _) n)
theorem MP.other (h : MP W g b t L) {g' : Nat} {cs : Array Value} {tt : TypeId} (hb : HB W g' cs tt) (ht : tt ≠ 82) (hne : g ≠ g') (i : Nat) (v : Value) : MP (W.setCell ⟨g', i, none⟩ v) g b t L := by
  obtain ⟨s, h1, h2⟩ := h
  exact ⟨s, h1.set_other _ _ hne, h2.set hb ht i v⟩
/-- Another map's box is stored into. -/
theorem MP.store_other (h : MP W g b t L) {g' : Nat} {x y z : Value} (hb : HB W g' #[x, y, z] 71) (hne : g ≠ g') (x' y' z' : Value) : MP (((W.setCell ⟨g', 0, none⟩ x').setCell ⟨g', 1, none⟩ y').setCell ⟨g', 2, none⟩ z') g b t L := by
  have h1 : HB (W.setCell ⟨g', 0, none⟩ x') g' #[x', y, z] 71 := hb.set 0 _
  have h2 : HB ((W.setCell ⟨g', 0, none⟩ x').setCell ⟨g', 1, none⟩ y') g' #[x', y', z] 71 := h1.set 1 _
  exact ((h.other hb (by decide) hne 0 _).other h1 (by decide) hne 1 _).other h2 (by decide) hne 2 _
theorem HB.store_other {cs : Array Value} {tt : TypeId} (h : HB W g cs tt) {g' : Nat} (hne : g ≠ g') (x' y' z' : Value) : HB (((W.setCell ⟨g', 0, none⟩ x').setCell ⟨g', 1, none⟩ y').setCell ⟨g', 2, none⟩ z') g cs tt :=
  ((h.set_other _ _ hne).set_other _ _ hne).set_other _ _ hne
end
/-- Numbers that came in, at an address. -/
def U64s (W : World) (a : Option Addr) (n : Nat) : Prop := ∀ j, j < n → ∃ (p : Addr) (x : Nat), a = some p ∧ p.block < W.heap.size ∧ x < 18446744073709551616 ∧ W.cell? (p.add j) = some (.int .u64 ((x : Nat) : Int))
theorem add_block (p : Addr) (j : Nat) : (p.add j).block = p.block := by unfold Addr.add; split <;> rfl
theorem U64s.below {W W' : World} {a : Option Addr} {n : Nat} (h : U64s W a n) (k : Below W.heap.size W W') : U64s W' a n := by
  intro j hj
  obtain ⟨p, x, rfl, hp, hx, hc⟩ := h j hj
  exact ⟨p, x, rfl, Nat.lt_of_lt_of_le hp k.size, hx, (k.cell (p := p.add j) (by rw [add_block]; exact hp)).trans hc⟩
/-- The map behind Add. -/
theorem MapOk.add {rb T : Nat} {L : List Rg} (h : MapOk rb T L) (k : Nat) {r : Rg} (hr : r.t ≤ T) : MapOk rb T (L.take k ++ r :: L.drop k) :=
  ⟨h.hrb, h.hT, fun q hq => by
    rcases List.mem_append.mp hq with hq | hq
    · exact h.hLT q (List.mem_of_mem_take hq)
    · rcases List.mem_cons.mp hq with rfl | hq
      · exact hr
      · exact h.hLT q (List.mem_of_mem_drop hq)⟩
theorem MapOk.set {rb T : Nat} {L : List Rg} (h : MapOk rb T L) (i : Nat) {r : Rg} (hr : r.t ≤ T) : MapOk rb T (L.set i r) :=
  ⟨h.hrb, h.hT, fun q hq => by
    rcases List.mem_or_eq_of_mem_set hq with hq | rfl
    · exact h.hLT q hq
    · exact hr⟩
theorem MapOk.drop {rb T : Nat} {L : List Rg} (h : MapOk rb T L) (i j : Nat) : MapOk rb T (L.take i ++ L.drop j) :=
  ⟨h.hrb, h.hT, fun q hq => by
    rcases List.mem_append.mp hq with hq | hq
    · exact h.hLT q (List.mem_of_mem_take hq)
    · exact h.hLT q (List.mem_of_mem_drop hq)⟩
theorem len_add {L : List Rg} {k : Nat} (hk : k ≤ L.length) (r : Rg) : (L.take k ++ r :: L.drop k).length = L.length + 1 := by
  rw [List.length_append, List.length_cons, List.length_take, List.length_drop]; omega
theorem len_drop_le (L : List Rg) (i : Nat) : (L.take i ++ L.drop (i + 1)).length ≤ L.length := by
  rw [List.length_append, List.length_take, List.length_drop]; omega
theorem idx_some {p : Rg → Bool} {L : List Rg} {k : Rg} (hk : k ∈ L) (hp : p k = true) : ∃ (i : Nat) (q : Rg), idxI p L = (i : Int) ∧ L[i]? = some q ∧ p q = true := by
  cases h : L.findIdx? p with
  | none =>
    have := List.findIdx?_eq_none_iff.mp h k hk
    rw [hp] at this; cases this
  | some i =>
    rw [List.findIdx?_eq_some_iff_getElem] at h
    obtain ⟨h1, h2, h3⟩ := h
    refine ⟨i, L[i], ?_, List.getElem?_eq_getElem h1, h2⟩
    rw [idxI_at p L i L[i] (List.getElem?_eq_getElem h1) h2 (fun j q hj hq => by
      have := h3 j hj
      rw [← (List.getElem?_eq_some_iff.mp hq).2]
      simpa using this)]
theorem idx_or (p : Rg → Bool) (L : List Rg) : idxI p L = -1 ∨ ∃ (i : Nat) (q : Rg), idxI p L = (i : Int) ∧ L[i]? = some q ∧ p q = true := by
  cases h : L.any p with
  | true =>
    obtain ⟨k, hk, hp⟩ := List.any_eq_true.mp h
    exact .inr (idx_some hk hp)
  | false =>
    refine .inl (idxI_no p L fun i q _ hq => ?_)
    have := List.any_eq_false.mp h q (List.mem_of_getElem? hq)
    simpa using this
/-- Hold, whatever the span. -/
theorem holdR_any (rb T s u : Nat) (v : Value) (L : List Rg) (w : World) (hs : RowR w v L) (hLn : L.length ≤ 100) :
    Calls Try.prog 54 #[mapV rb T v, spN s u] w fun e w' => (∃ (v' : Value) (er : Int) (M : List Rg), e = .returned (.tuple #[mapV rb T v', .int .i64 er]) ∧ RowR w' v' M ∧ ((er = 0 ∧ ∃ i : Nat, idxI (fun k => decide (k = (⟨s, u, 1⟩ : Rg))) L = (i : Int) ∧ L[i]? = some ⟨s, u, 1⟩ ∧ M = L.set i ⟨s, u, 2⟩) ∨ (er = 13 ∧ idxI (fun k => decide (k = (⟨s, u, 1⟩ : Rg))) L = -1 ∧ M = L))) ∧ Below w.heap.size w w' := by
  rcases idx_or (fun k => decide (k = (⟨s, u, 1⟩ : Rg))) L with h | ⟨i, q, h, hq, hp⟩
  · exact (hold_no rb T s u v L w hs hLn h).mono fun e w' ⟨he, hb⟩ => ⟨⟨v, 13, L, he, hs.below hb, .inr ⟨rfl, h, rfl⟩⟩, hb⟩
  · have hq' : q = ⟨s, u, 1⟩ := of_decide_eq_true hp
    subst hq'
    exact (hold_at rb T s u v L w hs hLn i h hq).mono fun e w' ⟨⟨v', he, hr⟩, hb⟩ => ⟨⟨v', 0, _, he, hr, .inl ⟨rfl, i, h, hq, rfl⟩⟩, hb⟩
theorem dropR_any (rb T s u : Nat) (v : Value) (L : List Rg) (w : World) (hs : RowR w v L) (hLn : L.length ≤ 100) :
    Calls Try.prog 55 #[mapV rb T v, spN s u] w fun e w' => (∃ (v' : Value) (er : Int) (M : List Rg), e = .returned (.tuple #[mapV rb T v', .int .i64 er]) ∧ RowR w' v' M ∧ ((er = 0 ∧ ∃ i : Nat, idxI (fun k => decide (k = (⟨s, u, 2⟩ : Rg))) L = (i : Int) ∧ L[i]? = some ⟨s, u, 2⟩ ∧ M = L.take i ++ L.drop (i + 1)) ∨ (er = 13 ∧ idxI (fun k => decide (k = (⟨s, u, 2⟩ : Rg))) L = -1 ∧ M = L))) ∧ Below w.heap.size w w' := by
  rcases idx_or (fun k => decide (k = (⟨s, u, 2⟩ : Rg))) L with h | ⟨i, q, h, hq, hp⟩
  · exact (drop_no rb T s u v L w hs hLn h).mono fun e w' ⟨he, hb⟩ => ⟨⟨v, 13, L, he, hs.below hb, .inr ⟨rfl, h, rfl⟩⟩, hb⟩
  · have hq' : q = ⟨s, u, 2⟩ := of_decide_eq_true hp
    subst hq'
    exact (drop_at rb T s u v L w hs hLn i h hq).mono fun e w' ⟨⟨v', he, hr⟩, hb⟩ => ⟨⟨v', 0, _, he, hr, .inl ⟨rfl, i, h, hq, rfl⟩⟩, hb⟩
theorem any_hit {L : List Rg} {s u : Nat} (h : ∀ k ∈ L, meetN k.b k.t s u = false) : L.any (hitR s u) = false := by
  rw [List.any_eq_false]
  intro k hk
  have := h k hk
  simp [hitR, this]
/-- M is L and one more. -/
def Added (L : List Rg) (s u : Nat) (M : List Rg) : Prop := ∃ k, k ≤ L.length ∧ M = L.take k ++ ⟨s, u, 1⟩ :: L.drop k
theorem Added.len {L M : List Rg} {s u : Nat} (h : Added L s u M) : M.length = L.length + 1 := by obtain ⟨k, hk, rfl⟩ := h; exact len_add hk _
theorem Added.mem {L M : List Rg} {s u : Nat} (h : Added L s u M) : (⟨s, u, 1⟩ : Rg) ∈ M := by obtain ⟨k, hk, rfl⟩ := h; exact List.mem_append_right _ List.mem_cons_self
theorem Added.ok {rb T : Nat} {L M : List Rg} {s u : Nat} (h : Added L s u M) (hm : MapOk rb T L) (hu : u ≤ T) : MapOk rb T M := by obtain ⟨k, hk, rfl⟩ := h; exact hm.add k hu
/-- Add, of what is found. -/
theorem addF (rb T n s u : Nat) (v : Value) (L : List Rg) (w : World) (hs : RowR w v L) (hLn : L.length ≤ 100) (hm : MapOk rb T L) (hf : Found rb T L n s u) :
    Calls Try.prog 53 #[mapV rb T v, spN s u] w fun e w' => (∃ v' M, e = .returned (.tuple #[mapV rb T v', .int .i64 0]) ∧ Added L s u M ∧ RowR w' v' M) ∧ Below w.heap.size w w' :=
  (addR_any rb T s u v L w hs hLn (decide_eq_true ⟨hf.hau, hf.ha, hf.hu⟩) (by have := hf.hT; have := hm.hT; omega) (decide_eq_true ⟨hf.hrb, hf.hT⟩) (any_hit hf.hm)).mono fun e w' ⟨⟨v', k, he, hk, hr⟩, hb⟩ => ⟨⟨v', _, he, ⟨k, hk, rfl⟩, hr⟩, hb⟩
/-- Hold, of what is there. -/
theorem holdF (rb T s u : Nat) (v : Value) (L : List Rg) (w : World) (hs : RowR w v L) (hLn : L.length ≤ 100) (hm : MapOk rb T L) (hu : u ≤ T) (hmem : (⟨s, u, 1⟩ : Rg) ∈ L) :
    Calls Try.prog 54 #[mapV rb T v, spN s u] w fun e w' => (∃ v' M, e = .returned (.tuple #[mapV rb T v', .int .i64 0]) ∧ RowR w' v' M ∧ M.length = L.length ∧ MapOk rb T M) ∧ Below w.heap.size w w' := by
  obtain ⟨i, q, hi, hq, hp⟩ := idx_some (p := fun k => decide (k = (⟨s, u, 1⟩ : Rg))) hmem (decide_eq_true rfl)
  have hq' : q = ⟨s, u, 1⟩ := of_decide_eq_true hp
  subst hq'
  exact (hold_at rb T s u v L w hs hLn i hi hq).mono fun e w' ⟨⟨v', he, hr⟩, hb⟩ => ⟨⟨v', _, he, hr, List.length_set, hm.set i hu⟩, hb⟩
theorem dropF (rb T s u : Nat) (v : Value) (L : List Rg) (w : World) (hs : RowR w v L) (hLn : L.length ≤ 100) (hm : MapOk rb T L) :
    Calls Try.prog 55 #[mapV rb T v, spN s u] w fun e w' => (∃ (v' : Value) (er : Int) (M : List Rg), e = .returned (.tuple #[mapV rb T v', .int .i64 er]) ∧ RowR w' v' M ∧ M.length ≤ L.length ∧ MapOk rb T M) ∧ Below w.heap.size w w' :=
  (dropR_any rb T s u v L w hs hLn).mono fun e w' ⟨⟨v', er, M, he, hr, h⟩, hb⟩ => by
    rcases h with ⟨_, i, _, _, rfl⟩ | ⟨_, _, rfl⟩
    · exact ⟨⟨v', er, _, he, hr, len_drop_le L i, hm.drop i (i + 1)⟩, hb⟩
    · exact ⟨⟨v', er, _, he, hr, Nat.le_refl _, hm⟩, hb⟩
theorem encF {rb T n s u : Nat} {L : List Rg} (hm : MapOk rb T L) (hf : Found rb T L n s u) (w : World) :
    Calls Try.prog 51 #[spN s u] w fun r w' => (∃ x y z : Int, r = .returned (.tuple #[.agg #[.int .u64 x, .int .u64 y, .int .u64 z], .bool true])) ∧ Below w.heap.size w w' := by
  obtain ⟨e, he, hc⟩ := hf.hc
  exact (encode_exact s u e (Nat.le_of_lt hf.hau) (by have := hf.hT; have := hm.hT; omega) he hc w).mono fun r w' ⟨⟨x, y, h⟩, hb⟩ => ⟨⟨x, y, e, h⟩, hb⟩
end Go.Proofs.Ytdnhjkmcogbaoaa
