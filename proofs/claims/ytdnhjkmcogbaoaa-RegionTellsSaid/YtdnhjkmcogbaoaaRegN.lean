/-
  region: reservations that do not meet; RegionTells' plain facts and contracts.
-/
import Derived.Test.YtdnhjkmcogbaoaaRegL
namespace Go.Proofs.Ytdnhjkmcogbaoaa
open Go.RowKit
/-- A map as RegionTells makes it. -/
structure Inv (L : List Rg) : Prop where
  ok : MapOk 4096 4194304 L
  pos : ∀ k ∈ L, k.b < k.t
  apart : L.Pairwise (fun p q => meetN p.b p.t q.b q.t = false)
theorem meetN_comm (a b c d : Nat) : meetN a b c d = meetN c d a b := by unfold meetN; rw [decide_eq_decide]; exact And.comm
theorem Inv.nil : Inv [] := ⟨⟨by decide, by decide, by simp⟩, by simp, List.Pairwise.nil⟩
/-- M is L and one more, of a kind. -/
def AddedK (L : List Rg) (s u : Nat) (x : Int) (M : List Rg) : Prop := ∃ k, k ≤ L.length ∧ M = L.take k ++ ⟨s, u, x⟩ :: L.drop k
theorem Added.toK {L M : List Rg} {s u : Nat} (h : Added L s u M) : AddedK L s u 1 M := h
theorem AddedK.len {L M : List Rg} {s u : Nat} {x : Int} (h : AddedK L s u x M) : M.length = L.length + 1 := by obtain ⟨k, hk, rfl⟩ := h; exact len_add hk _
theorem Inv.add {L M : List Rg} {n s u : Nat} (h : Inv L) (hf : Found 4096 4194304 L n s u) (ha : Added L s u M) : Inv M := by
  refine ⟨ha.ok h.ok hf.hT, ?_, ?_⟩
  · obtain ⟨k, hk, rfl⟩ := ha
    intro q hq
    rcases List.mem_append.mp hq with hq | hq
    · exact h.pos q (List.mem_of_mem_take hq)
    · rcases List.mem_cons.mp hq with rfl | hq
      · exact hf.hau
      · exact h.pos q (List.mem_of_mem_drop hq)
  · obtain ⟨k, hk, rfl⟩ := ha
    have hp : (L.take k ++ ⟨s, u, 1⟩ :: L.drop k).Perm (⟨s, u, 1⟩ :: L) := by
      have := (List.perm_middle (a := (⟨s, u, 1⟩ : Rg)) (l₁ := L.take k) (l₂ := L.drop k))
      rwa [List.take_append_drop] at this
    refine (hp.pairwise_iff (fun {x y} hxy => by rw [meetN_comm]; exact hxy)).mpr (List.pairwise_cons.mpr ⟨fun q hq => ?_, h.apart⟩)
    show meetN s u q.b q.t = false
    rw [meetN_comm]; exact hf.hm q hq
theorem Inv.set {L : List Rg} (h : Inv L) {i : Nat} {s u : Nat} {x : Int} (hi : L[i]? = some ⟨s, u, x⟩) (y : Int) : Inv (L.set i ⟨s, u, y⟩) := by
  have hm := List.mem_of_getElem? hi
  refine ⟨h.ok.set i (show u ≤ 4194304 from h.ok.hLT _ hm), ?_, ?_⟩
  · intro q hq
    rcases List.mem_or_eq_of_mem_set hq with hq | rfl
    · exact h.pos q hq
    · exact (show s < u from h.pos _ hm)
  · have e : (L.set i ⟨s, u, y⟩).map (fun k : Rg => (k.b, k.t)) = L.map (fun k : Rg => (k.b, k.t)) := by
      apply List.ext_getElem?
      intro j
      rw [List.getElem?_map, List.getElem?_map, List.getElem?_set]
      by_cases hj : i = j
      · subst hj
        rw [if_pos rfl, if_pos (List.getElem?_eq_some_iff.mp hi).1, hi]; rfl
      · rw [if_neg hj]
    have h1 : (L.map (fun k : Rg => (k.b, k.t))).Pairwise (fun p q => meetN p.1 p.2 q.1 q.2 = false) := List.pairwise_map.mpr h.apart
    rw [← e] at h1
    exact List.pairwise_map.mp h1
theorem Inv.drop {L : List Rg} (h : Inv L) (i : Nat) : Inv (L.take i ++ L.drop (i + 1)) := by
  have hs : (L.take i ++ L.drop (i + 1)).Sublist L := by rw [← List.eraseIdx_eq_take_drop_succ]; exact List.eraseIdx_sublist _ _
  exact ⟨h.ok.drop i (i + 1), fun q hq => h.pos q (hs.mem hq), h.apart.sublist hs⟩
/-- Of two that do not meet an address is in one alone. -/
theorem Inv.one_at {L : List Rg} (h : Inv L) {i j addr : Nat} {p q : Rg} (hi : L[i]? = some p) (hj : L[j]? = some q) (hp : atR addr p = true) (hq : atR addr q = true) : i = j := by
  obtain ⟨hp1, hp2⟩ := of_decide_eq_true hp
  obtain ⟨hq1, hq2⟩ := of_decide_eq_true hq
  obtain ⟨li, ei⟩ := List.getElem?_eq_some_iff.mp hi
  obtain ⟨lj, ej⟩ := List.getElem?_eq_some_iff.mp hj
  have key := List.pairwise_iff_getElem.mp h.apart
  rcases Nat.lt_trichotomy i j with hlt | heq | hgt
  · have := key i j li lj hlt
    rw [ei, ej, meetN, decide_eq_false_iff_not] at this
    exact absurd ⟨by omega, by omega⟩ this
  · exact heq
  · have := key j i lj li hgt
    rw [ei, ej, meetN, decide_eq_false_iff_not] at this
    exact absurd ⟨by omega, by omega⟩ this
/-- What At tells. -/
def Told (L : List Rg) (addr : Nat) (r : Rg) (is : Bool) : Prop :=
  (is = false ∧ (∀ k ∈ L, atR addr k = false) ∧ r = ⟨0, 0, 0⟩) ∨ (is = true ∧ ∃ p : Nat, L[p]? = some r ∧ atR addr r = true ∧ ∀ (j : Nat) (q : Rg), L[j]? = some q → atR addr q = true → j = p)
theorem Told.same {L : List Rg} {addr : Nat} {r : Rg} {is : Bool} (h : Told L addr r is) {j : Nat} {q : Rg} (hj : L[j]? = some q) (hq : atR addr q = true) : r = q := by
  rcases h with ⟨_, h, _⟩ | ⟨_, p, hp, _, h⟩
  · rw [h q (List.mem_of_getElem? hj)] at hq; cases hq
  · rw [h j q hj hq, hp] at hj; cases hj; rfl
theorem count_zero {L : List Rg} {p : Rg → Bool} (h : ∀ k ∈ L, p k = false) : L.countP p = 0 := List.countP_eq_zero.mpr fun k hk => by rw [h k hk]; simp
theorem count_one : ∀ (L : List Rg) (p : Rg → Bool) (i : Nat) (r : Rg), L[i]? = some r → p r = true → (∀ (j : Nat) (q : Rg), L[j]? = some q → p q = true → j = i) → L.countP p = 1
  | [], p, i, r, h, _, _ => by simp at h
  | q :: L, p, 0, r, h, hp, hu => by
    simp at h; subst h
    rw [List.countP_cons, if_pos hp, count_zero]
    intro k hk
    obtain ⟨j, hj⟩ := List.mem_iff_getElem?.mp hk
    cases hpk : p k with
    | false => rfl
    | true => have := hu (j + 1) k (by simpa using hj) hpk; omega
  | q :: L, p, i + 1, r, h, hp, hu => by
    have h0 : p q = false := by
      cases hpq : p q with
      | false => rfl
      | true => have := hu 0 q rfl hpq; omega
    rw [List.countP_cons, h0]
    simp only [Bool.false_eq_true, if_false, Nat.add_zero]
    exact count_one L p i r (by simpa using h) hp (fun j x hj hx => by have := hu (j + 1) x (by simpa using hj) hx; omega)
theorem Told.count {L : List Rg} {addr : Nat} {r : Rg} {is : Bool} (h : Told L addr r is) : L.countP (atR addr) = if is then 1 else 0 := by
  rcases h with ⟨rfl, h, _⟩ | ⟨rfl, p, hp, ha, h⟩
  · exact count_zero h
  · exact count_one L _ p r hp ha h
theorem count_step {L : List Rg} {p : Rg → Bool} {j : Nat} {k : Rg} (hk : L[j]? = some k) : (L.take (j + 1)).countP p = (L.take j).countP p + if p k then 1 else 0 := by
  rw [List.take_add_one, hk, List.countP_append]; simp [List.countP_cons]
theorem atR_tells (addr : Nat) (v : Value) (L : List Rg) (w : World) (hs : RowR w v L) (hLn : L.length ≤ 100) (hi : Inv L) :
    Calls Try.prog 57 #[.agg #[.int .u64 4096, .int .u64 4194304, v], .int .u64 addr] w fun e w' => (∃ r is, e = .returned (.tuple #[rgV r, .bool is]) ∧ Told L addr r is) ∧ Below w.heap.size w w' := by
  cases h : L.findIdx? (atR addr) with
  | none =>
    have hn := List.findIdx?_eq_none_iff.mp h
    exact (at_no 4096 4194304 addr v L w hs hLn (idxI_no _ L fun i q _ hq => hn q (List.mem_of_getElem? hq))).mono fun e w' ⟨he, hb⟩ => ⟨⟨⟨0, 0, 0⟩, false, he, .inl ⟨rfl, fun k hk => hn k hk, rfl⟩⟩, hb⟩
  | some i =>
    obtain ⟨q, hq, hp, hfirst⟩ := findIdx_facts h
    exact (at_ok 4096 4194304 addr v L w hs hLn i q (idxI_at _ L i q hq hp hfirst) hq).mono fun e w' ⟨he, hb⟩ => ⟨⟨q, true, he, .inr ⟨rfl, i, hq, hp, fun j x hj hx => hi.one_at hj hq hx hp⟩⟩, hb⟩
/-- Find's word on a map. -/
def Tells (n : Nat) (L : List Rg) (s u : Nat) : Prop := ∀ (W : World) (v : Value), RowR W v L → Calls Try.prog 50 #[.agg #[.int .u64 4096, .int .u64 4194304, v], .int .u64 n] W fun e w' => e = .returned (.tuple #[.agg #[.int .u64 (s : Int), .int .u64 (u : Int)], .int .i64 0]) ∧ Below W.heap.size W w'
theorem findT (n : Nat) (L : List Rg) (v : Value) (w : World) (hm : Inv L) (hLn : L.length ≤ 1000) (hs : RowR w v L) :
    Calls Try.prog 50 #[.agg #[.int .u64 4096, .int .u64 4194304, v], .int .u64 n] w fun e w' => (∃ (a u : Nat) (er : Int), e = .returned (.tuple #[.agg #[.int .u64 (a : Int), .int .u64 (u : Int)], .int .i64 er]) ∧ (er = 0 → Found 4096 4194304 L n a u ∧ Tells n L a u)) ∧ Below w.heap.size w w' := by
  by_cases h : 1 ≤ n ∧ n ≤ 274877906944
  · obtain ⟨N, y, b1, b2, b3, b4, b5, b6, b7, hf⟩ := find_ex n h.1 h.2
    refine (hf 4096 4194304 L v w hm.ok hLn hs).mono fun e w' ⟨⟨a, u, ok, he, hl⟩, hb⟩ => ⟨⟨a, u, if ok then 0 else 15, he, fun h0 => ?_⟩, hb⟩
    have hok : ok = true := by cases ok <;> simp_all
    refine ⟨flow_found hl hok h.1 b1 b3 b4 b5 b6 b7 hm.ok.hT, fun W x hx => (hf 4096 4194304 L x W hm.ok hLn hx).mono fun _ _ ⟨⟨a', u', ok', he', hl'⟩, hb'⟩ => ⟨?_, hb'⟩⟩
    obtain ⟨rfl, rfl, rfl⟩ := hl'.det hl
    rw [he', hok]; rfl
  · exact (find_none 4096 4194304 v n (by omega) w).mono fun e w' ⟨he, hb⟩ => ⟨⟨0, 0, 2, he, fun h0 => by omega⟩, hb⟩
theorem addI (n s u : Nat) (v : Value) (L : List Rg) (w : World) (hs : RowR w v L) (hLn : L.length ≤ 100) (hm : Inv L) (hf : Found 4096 4194304 L n s u) :
    Calls Try.prog 53 #[.agg #[.int .u64 4096, .int .u64 4194304, v], spN s u] w fun e w' => (∃ v' M, e = .returned (.tuple #[.agg #[.int .u64 4096, .int .u64 4194304, v'], .int .i64 0]) ∧ RowR w' v' M ∧ Inv M ∧ Added L s u M) ∧ Below w.heap.size w w' :=
  (addF 4096 4194304 n s u v L w hs hLn hm.ok hf).mono fun _ _ ⟨⟨v', M, he, ha, hr⟩, hb⟩ => ⟨⟨v', M, he, hr, hm.add hf ha, ha⟩, hb⟩
theorem holdI (s u : Nat) (v : Value) (L : List Rg) (w : World) (hs : RowR w v L) (hLn : L.length ≤ 100) (hm : Inv L) :
    Calls Try.prog 54 #[.agg #[.int .u64 4096, .int .u64 4194304, v], spN s u] w fun e w' => (∃ (v' : Value) (er : Int) (M : List Rg), e = .returned (.tuple #[.agg #[.int .u64 4096, .int .u64 4194304, v'], .int .i64 er]) ∧ RowR w' v' M ∧ Inv M ∧ M.length ≤ L.length) ∧ Below w.heap.size w w' :=
  (holdR_any 4096 4194304 s u v L w hs hLn).mono fun e w' ⟨⟨v', er, M, he, hr, h⟩, hb⟩ => by
    rcases h with ⟨_, i, _, hi, rfl⟩ | ⟨_, _, rfl⟩
    · exact ⟨⟨v', er, _, he, hr, hm.set hi 2, by rw [List.length_set]; exact Nat.le_refl _⟩, hb⟩
    · exact ⟨⟨v', er, _, he, hr, hm, Nat.le_refl _⟩, hb⟩
theorem dropI (s u : Nat) (v : Value) (L : List Rg) (w : World) (hs : RowR w v L) (hLn : L.length ≤ 100) (hm : Inv L) :
    Calls Try.prog 55 #[.agg #[.int .u64 4096, .int .u64 4194304, v], spN s u] w fun e w' => (∃ (v' : Value) (er : Int) (M : List Rg), e = .returned (.tuple #[.agg #[.int .u64 4096, .int .u64 4194304, v'], .int .i64 er]) ∧ RowR w' v' M ∧ Inv M ∧ M.length ≤ L.length) ∧ Below w.heap.size w w' :=
  (dropR_any 4096 4194304 s u v L w hs hLn).mono fun e w' ⟨⟨v', er, M, he, hr, h⟩, hb⟩ => by
    rcases h with ⟨_, i, _, hi, rfl⟩ | ⟨_, _, rfl⟩
    · exact ⟨⟨v', er, _, he, hr, hm.drop i, len_drop_le L i⟩, hb⟩
    · exact ⟨⟨v', er, _, he, hr, hm, Nat.le_refl _⟩, hb⟩
/-- Where the one more lies. -/
theorem added_idx {L : List Rg} {n s u k : Nat} {x : Int} (hf : Found 4096 4194304 L n s u) (hk : k ≤ L.length) :
    idxI (fun q => decide (q = (⟨s, u, x⟩ : Rg))) (L.take k ++ ⟨s, u, x⟩ :: L.drop k) = (k : Int) ∧ (L.take k ++ (⟨s, u, x⟩ : Rg) :: L.drop k)[k]? = some ⟨s, u, x⟩ := by
  have hl : (L.take k).length = k := by rw [List.length_take]; omega
  have e : (L.take k ++ (⟨s, u, x⟩ : Rg) :: L.drop k)[k]? = some ⟨s, u, x⟩ := by rw [List.getElem?_append_right (by omega), hl, Nat.sub_self]; rfl
  refine ⟨idxI_at _ _ k _ e (decide_eq_true rfl) fun i q hi hq => ?_, e⟩
  rw [List.getElem?_append_left (by omega)] at hq
  have hq' : q ∈ L := List.mem_of_mem_take (List.mem_of_getElem? hq)
  refine decide_eq_false fun h => ?_
  subst h
  have h1 := hf.hm _ hq'
  rw [meetN, decide_eq_false_iff_not] at h1
  exact h1 ⟨hf.hau, hf.hau⟩
theorem holdX (n s u : Nat) (v : Value) (L M : List Rg) (w : World) (hs : RowR w v M) (hLn : L.length ≤ 90) (hf : Found 4096 4194304 L n s u) (ha : AddedK L s u 1 M) :
    Calls Try.prog 54 #[.agg #[.int .u64 4096, .int .u64 4194304, v], spN s u] w fun e w' => (∃ v' M', e = .returned (.tuple #[.agg #[.int .u64 4096, .int .u64 4194304, v'], .int .i64 0]) ∧ RowR w' v' M' ∧ AddedK L s u 2 M') ∧ Below w.heap.size w w' := by
  have hl := ha.len
  obtain ⟨k, hk, rfl⟩ := ha
  obtain ⟨h1, h2⟩ := added_idx (x := 1) hf hk
  refine (hold_at 4096 4194304 s u v _ w hs (by omega) k h1 h2).mono fun e w' ⟨⟨v', he, hr⟩, hb⟩ => ⟨⟨v', _, he, hr, k, hk, ?_⟩, hb⟩
  have hl : (L.take k).length = k := by rw [List.length_take]; omega
  rw [List.set_append_right _ _ (by omega), hl, Nat.sub_self]; rfl
theorem dropX (n s u : Nat) (v : Value) (L M : List Rg) (w : World) (hs : RowR w v M) (hLn : L.length ≤ 90) (hf : Found 4096 4194304 L n s u) (ha : AddedK L s u 2 M) :
    Calls Try.prog 55 #[.agg #[.int .u64 4096, .int .u64 4194304, v], spN s u] w fun e w' => (∃ v', e = .returned (.tuple #[.agg #[.int .u64 4096, .int .u64 4194304, v'], .int .i64 0]) ∧ RowR w' v' L) ∧ Below w.heap.size w w' := by
  have hl := ha.len
  obtain ⟨k, hk, rfl⟩ := ha
  obtain ⟨h1, h2⟩ := added_idx (x := 2) hf hk
  refine (drop_at 4096 4194304 s u v _ w hs (by omega) k h1 h2).mono fun e w' ⟨⟨v', he, hr⟩, hb⟩ => ⟨⟨v', he, ?_⟩, hb⟩
  have hl : (L.take k).length = k := by rw [List.length_take]; omega
  have e : (L.take k ++ (⟨s, u, 2⟩ : Rg) :: L.drop k).take k ++ (L.take k ++ (⟨s, u, 2⟩ : Rg) :: L.drop k).drop (k + 1) = L := by
    rw [List.take_left' hl, ← List.drop_drop, List.drop_left' hl]
    exact List.take_append_drop k L
  rwa [e] at hr
/-- Steps that came in, at an address. -/
def ActsAt (W : World) (a : Option Addr) (n : Nat) : Prop := ∀ j, j < n → ∃ (g o : Nat) (kd pk : Int) (x b t : Nat), a = some ⟨g, o, none⟩ ∧ g < W.heap.size ∧ pk ≤ 9223372036854775807 ∧
  W.cell? ⟨g, o + j * 5, none⟩ = some (.int .i64 kd) ∧ W.cell? ⟨g, o + j * 5 + 1, none⟩ = some (.int .i64 pk) ∧ W.cell? ⟨g, o + j * 5 + 2, none⟩ = some (.int .u64 (x : Int)) ∧ W.cell? ⟨g, o + j * 5 + 3, none⟩ = some (.int .u64 (b : Int)) ∧ W.cell? ⟨g, o + j * 5 + 4, none⟩ = some (.int .u64 (t : Int))
end Go.Proofs.Ytdnhjkmcogbaoaa
