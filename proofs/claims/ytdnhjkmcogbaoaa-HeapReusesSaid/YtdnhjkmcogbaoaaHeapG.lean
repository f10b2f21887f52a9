/-
  heap.Held.
-/
import Derived.Test.YtdnhjkmcogbaoaaHeapF
namespace Go.Proofs.Ytdnhjkmcogbaoaa
open Go.RowKit
theorem info51 : ∃ i, Try.prog.info? 51 = some i ∧ i.zero = some (.agg #[.int .u64 0, .int .u64 0]) ∧ i.size = 2 ∧ i.bytes = 16 := by
  have h : (Try.prog.info? 51).map (fun i => (i.zero, i.size, i.bytes)) = some (some (.agg #[.int .u64 0, .int .u64 0]), 2, 16) := by kernel_rfl
  obtain ⟨i, hi, hx⟩ := Option.map_eq_some_iff.1 h
  simp only [Prod.mk.injEq] at hx
  exact ⟨i, hi, hx.1, hx.2.1, hx.2.2⟩
def heldN (L : List Blk) : Nat := (L.filter (fun k => k.f)).length
theorem hb_reads {W : World} {g : Nat} {xs : List Value} {t : TypeId} (h : HB W g xs.toArray t) : ∀ j u, xs[j]? = some u → W.cell? ((⟨g, 0, none⟩ : Addr).add j) = some u := fun j u hu => by
  rw [Addr.add_lit, Nat.zero_add]; exact h.cell j u (by simpa using hu)
def HeldAt (W : World) (cb n : Nat) : Prop := ∃ a c xs, HB W cb #[.slice a n c] 61 ∧ W.ownsRow (cb + 1) 51 2 (.slice a n c) n xs
set_option maxRecDepth 100000 in
theorem held1_any (k : Blk) (cb n : Nat) (W : World) (hc : HeldAt W cb n) (hn : n ≤ 1000) :
    Calls Try.prog 70 #[blkV k, .pointer (some ⟨cb, 0, none⟩)] W fun e w' => e = .returned (.tuple #[]) ∧ HeldAt w' cb (if k.f = true then n + 1 else n) ∧ Below cb W w' := by
  obtain ⟨b, t, f, a⟩ := k
  obtain ⟨i0, hi, hz0, hz1, hz2⟩ := info51
  obtain ⟨ax, cx, xs, hc, ho⟩ := hc
  have hlt := hc.lt
  have HCB := Lib.hid (hc.alloc (.cells #[.int .u64 (b : Int), .int .u64 (t : Int), .bool f, .int .i64 a] 103))
  have HO := Lib.hid ho
  have c0 := HCB.out.cell 0 _ rfl
  have HL := Lib.hid hlt
  cases f with
  | false =>
    clear hc ho hlt
    go_enter Try.func70, Try.ntmps70
    go_wp2
    go_end0
    exact ⟨rfl, ⟨_, _, xs, HCB.out, HO.out.alloc _⟩, (Below.refl _ _).alloc (Nat.le_of_lt HL.out) _⟩
  | true =>
    clear hc ho hlt
    go_enter Try.func70, Try.ntmps70
    go_wp2_with (first | (at_builtin; refine wpList_append_own _ rfl _ _ 61 rfl (cb + 1) 51 i0 _ 2 16 Try.underlying61 hi hz0 hz1 hz2 rfl (by decide) _ n xs rfl ((HO.out.alloc _).alloc _) ⟨W.heap.size + 1, 0, none⟩ 1 1 [.int .u64 (b : Int), .int .u64 (t : Int)] rfl rfl (hb_reads (HB.new' (W.alloc _) _ 51 (W.heap.size + 1) (by simp))) (by simp [Value.oneCell']) (by unfold maxLen; omega) (by omega) (by have := HL.out; simp; omega) ?_; intro v' w1 hown' hgrow _; obtain ⟨ay, cy, rfl⟩ := own_slice hown'; have C1 := (HCB.out.alloc (.cells #[.int .u64 (b : Int), .int .u64 (t : Int)] 51)).grown hgrow (fun e => by have := (HO.out.lt cb e.symm).1; omega); have c1 := C1.cell 0 _ rfl; have f1 := C1.frozen 0; have HC1 := Lib.hid C1; have HO1 := Lib.hid hown'; have HGR := Lib.hid hgrow; clear C1 hown' hgrow))
    go_end0
    refine ⟨rfl, ⟨_, _, _, HC1.out.set 0 _, own_set HO1.out _ _ (Nat.lt_succ_self _)⟩, ?_⟩
    have hl := HL.out
    exact ((((Below.refl cb W).alloc (Nat.le_of_lt hl) _).alloc (by simp; omega) _).grown HGR.out (by simp; omega) (fun q hq => by have := (HO.out.lt q hq).1; omega)).setCell (Nat.le_refl _) _
theorem heldN_step {L : List Blk} {j : Nat} {k : Blk} (hk : L[j]? = some k) : heldN (L.take (j + 1)) = if k.f = true then heldN (L.take j) + 1 else heldN (L.take j) := by
  have e1 : L.take (j + 1) = L.take j ++ [k] := by rw [List.take_add_one, hk]; rfl
  unfold heldN
  rw [e1, List.filter_append]
  cases hf : k.f <;> simp [hf]
theorem heldN_le (L : List Blk) : heldN L ≤ L.length := List.length_filter_le _ _
theorem heldH (b t : Nat) (s : Value) (L : List Blk) (w : World) (hs : RowB w s L) (hLn : L.length ≤ 1000) :
    Calls Try.prog 43 #[heapV b t s] w fun e w' => (∃ a c, e = .returned (.slice a (heldN L) c)) ∧ Below w.heap.size w w' := by
  obtain ⟨a, cap, rfl, hcells, hlc⟩ := hs.open
  have HC := Lib.hid hcells
  clear hs hcells
  go_enter Try.func43, Try.ntmps43
  go_wp2
  go_loopg [11] L.length (fun g s11 wx => ∃ j : Nat, j + g = L.length ∧ s11 = .int .i64 (j : Int) ∧ Aside (HeldAt wx (w.heap.size + 1) (heldN (L.take j))) ∧ Below w.heap.size w wx)
  case atStart => exact ⟨0, by omega, rfl, ⟨none, 0, [], HB.new' (w.alloc _) _ _ _ (by simp), by have := World.ownsRow_nil ((w.alloc (.cells #[.int .u64 (b : Int), .int .u64 (t : Int), .slice a L.length cap] 54)).alloc (.cells #[.slice none 0 0] 61)) (w.heap.size + 1 + 1) 51 2; simpa [heldN] using this⟩, ba (ba (Below.refl _ _) _) _⟩
  case round =>
    obtain ⟨j, hjg, rfl, HH, hbx⟩ := hrel
    cases gk with
    | zero =>
      have hj : j = L.length := by omega
      subst hj
      obtain ⟨ax, cx, xs, hcb, hox⟩ := HH.out
      have c0 := hcb.cell 0 _ rfl
      clear hcb hox
      go_wp2
      go_ret
      exact ⟨⟨ax, cx, rfl⟩, hbx⟩
    | succ g =>
      have hjl : (j : Int) < (L.length : Int) := by omega
      have hjn : j < L.length := by omega
      obtain ⟨k, hk⟩ : ∃ k, L[j]? = some k := ⟨_, List.getElem?_eq_getElem hjn⟩
      obtain ⟨gb, rfl, hg, p0, p1, p2, p3⟩ := HC.out.below (hbx) j k hk
      have hle := heldN_le (L.take j)
      have hln : heldN (L.take j) ≤ 1000 := by have := List.length_take_le j L; omega
      have HK := Lib.hid hk
      have hHa : HeldAt (wr.alloc (.cells #[.int .u64 (k.b : Int), .int .u64 (k.t : Int), .bool k.f, .int .i64 k.a] 103)) (w.heap.size + 1) (heldN (L.take j)) := by
        obtain ⟨ax, cx, xs, h1, h2⟩ := HH.out
        exact ⟨ax, cx, xs, h1.alloc _, h2.alloc _⟩
      have HCL := Lib.hid (held1_any k (w.heap.size + 1) (heldN (L.take j)) _ hHa hln)
      rw [← heldN_step hk] at HCL
      clear hk hHa hle hln HH
      go_wp2_with (first | ((with_reducible (go_at_call 70; refine HCL.out.mono ?_)); rintro e1 w1 ⟨rfl, hh1, hb1⟩; have HH1 := Lib.hid hh1; have HB1 := Lib.hid hb1; clear hh1 hb1))
      go_roundg g
      case measure => omega
      case rel => exact ⟨j + 1, by omega, by go_num, HH1.out, (ba hbx _).trans (HB1.out.mono (by omega))⟩
end Go.Proofs.Ytdnhjkmcogbaoaa
