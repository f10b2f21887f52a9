/-
  copy, append of a make, as laws for the walk: the world behind them is a variable.
-/
import Derived.Test.YtdnhjkmcogbaoaaCopyA
import Derived.Shelf.RegionOpenPlain
namespace Go.Proofs.Ytdnhjkmcogbaoaa
open Go.RowKit
variable {P : Program}
theorem HB.grown {W W' : World} {g : Nat} {cs : Array Value} {t : TypeId} {row : Option Nat} (h : HB W g cs t) (k : W.grownBy W' row) (hne : some g ≠ row) : HB W' g cs t := (k.block g h.lt hne).trans h
theorem grown_setRow (w : World) (g : Nat) (cs : Array Value) : w.grownBy (w.setRow g cs) (some g) :=
  ⟨rfl, rfl, rfl, by simp, fun k _ hk => setRow_other w g k cs (fun e => hk (by rw [e]))⟩
theorem run_copy_ex (w : World) (dT sT ty elem : TypeId) (size g o dLen dCap : Nat) (a : Addr) (sLen sCap : Nat) (cur : List Value) (t : TypeId) (cs : List Value)
    (hu : P.underlying dT = some (.slice elem)) (hs : (P.info? elem).map (·.size) = some size)
    (hg : HB w g cur.toArray t) (hn : cs.length = Nat.min sLen dLen * size)
    (hsrc : ∀ j v, cs[j]? = some v → w.cell? (a.add j) = some v) (hfit : o + cs.length ≤ cur.length) (h1 : ∀ v ∈ cs, v.oneCell' = true) :
    ∃ w', (Builtin.copy_ #[dT, sT] ty #[.slice (some ⟨g, o, none⟩) dLen dCap, .slice (some a) sLen sCap]).run P w = .ok (goInt (Nat.min sLen dLen)) w' ∧ HB w' g (splice cur o cs).toArray t ∧ w.grownBy w' (some g) := by
  refine ⟨_, run_copyN w dT sT ty elem size g o dLen dCap a sLen sCap cur.toArray t cs hu hs hg hn hsrc (by simpa using hfit) h1, ?_, grown_setRow _ _ _⟩
  unfold HB
  rw [setRow_heap w g _ _ t _ hg]
  simp [splice]
theorem step_copy_spliceN {ops : Array Oper} {o : Oper} {a : Act} {w : World} {K : Act → World → Prop} {Q : Exit → Act → World → Prop} {E : Prop} (hgd : o.guard = none) (d s : Operand) (dT sT : TypeId)
    (ho : o.op = .call { callee := .builtin .copy, args := #[d, s], argTypes := #[dT, sT] }) (elem : TypeId) (hu : P.underlying dT = some (.slice elem)) (size : Nat) (hsz : (P.info? elem).map (·.size) = some size)
    (g off dLen dCap : Nat) (ad : Addr) (sLen sCap : Nat) (hd : a.eval d = .slice (some ⟨g, off, none⟩) dLen dCap) (hs : a.eval s = .slice (some ad) sLen sCap)
    (cur : List Value) (t : TypeId) (hg : HB w g cur.toArray t) (cs : List Value) (hn : cs.length = Nat.min sLen dLen * size)
    (hsrc : ∀ j v, cs[j]? = some v → w.cell? (ad.add j) = some v) (hfit : off + cs.length ≤ cur.length) (h1 : ∀ v ∈ cs, v.oneCell' = true)
    (h : ∀ w', Hid (HB w' g (splice cur off cs).toArray t) → Hid (w.grownBy w' (some g)) → K (a.put o.dst (goInt (Nat.min sLen dLen))) w') :
    if Region.wanted o (yielded ops a.tmps) = true then Oper.wp P o a w K Q else E := by
  obtain ⟨w', hr, k1, k2⟩ := run_copy_ex w dT sT o.type elem size g off dLen dCap ad sLen sCap cur t cs hu hsz hg hn hsrc hfit h1
  exact step_copyN hgd d s dT sT ho _ _ hd hs hr (h w' k1 k2)
theorem wpList_copy_spliceN {ops : Array Oper} {rest : List Oper} {o : Oper} {a : Act} {w : World} {Q : Exit → Act → World → Prop} (hgd : o.guard = none) (d s : Operand) (dT sT : TypeId)
    (ho : o.op = .call { callee := .builtin .copy, args := #[d, s], argTypes := #[dT, sT] }) (elem : TypeId) (hu : P.underlying dT = some (.slice elem)) (size : Nat) (hsz : (P.info? elem).map (·.size) = some size)
    (g off dLen dCap : Nat) (ad : Addr) (sLen sCap : Nat) (hd : a.eval d = .slice (some ⟨g, off, none⟩) dLen dCap) (hs : a.eval s = .slice (some ad) sLen sCap)
    (cur : List Value) (t : TypeId) (hg : HB w g cur.toArray t) (cs : List Value) (hn : cs.length = Nat.min sLen dLen * size)
    (hsrc : ∀ j v, cs[j]? = some v → w.cell? (ad.add j) = some v) (hfit : off + cs.length ≤ cur.length) (h1 : ∀ v ∈ cs, v.oneCell' = true)
    (h : ∀ w', Hid (HB w' g (splice cur off cs).toArray t) → Hid (w.grownBy w' (some g)) → wpList P ops Q rest (a.put o.dst (goInt (Nat.min sLen dLen))) w') : wpList P ops Q (o :: rest) a w := by
  obtain ⟨w', hr, k1, k2⟩ := run_copy_ex w dT sT o.type elem size g off dLen dCap ad sLen sCap cur t cs hu hsz hg hn hsrc hfit h1
  exact wpList_copyN w hgd d s dT sT ho _ _ hd hs hr (h w' k1 k2)
/-- An element laid between others: the rest is shifted first, or last. -/
theorem splice_ins1 {α : Type} (L x xs : List α) (a : Nat) (hL : L.take a = xs.take a) (ha : a ≤ xs.length) :
    (splice (splice L a x) (a + x.length) (xs.drop a)).take (xs.length + x.length) = xs.take a ++ (x ++ xs.drop a) := by
  have e1 : splice L a x = (xs.take a ++ x) ++ L.drop (a + x.length) := by unfold splice; rw [hL, List.append_assoc]
  have l1 : (xs.take a ++ x).length = a + x.length := by simp; omega
  have e2 : splice (splice L a x) (a + x.length) (xs.drop a) = ((xs.take a ++ x) ++ xs.drop a) ++ (splice L a x).drop (a + x.length + (xs.drop a).length) := by
    conv => lhs; unfold splice
    rw [show List.take a L ++ (x ++ List.drop (a + x.length) L) = splice L a x from rfl, e1, List.take_append_of_le_length (by omega), List.take_of_length_le (by omega)]
    simp only [List.append_assoc]
  have l2 : ((xs.take a ++ x) ++ xs.drop a).length = xs.length + x.length := by rw [List.length_append, l1, List.length_drop]; omega
  rw [e2, ← l2, List.take_left, List.append_assoc]
theorem splice_ins2 {α : Type} (L x xs : List α) (a : Nat) (hL : L.take a = xs.take a) (ha : a ≤ xs.length) (hlen : xs.length + x.length ≤ L.length) :
    (splice (splice L (a + x.length) (xs.drop a)) a x).take (xs.length + x.length) = xs.take a ++ (x ++ xs.drop a) := by
  have l0 : (L.take (a + x.length)).length = a + x.length := by simp; omega
  have e1 : splice L (a + x.length) (xs.drop a) = L.take (a + x.length) ++ (xs.drop a ++ L.drop (a + x.length + (xs.drop a).length)) := rfl
  have e2 : (splice L (a + x.length) (xs.drop a)).take a = xs.take a := by
    rw [e1, List.take_append_of_le_length (by omega), List.take_take, show min a (a + x.length) = a from by omega, hL]
  have e3 : (splice L (a + x.length) (xs.drop a)).drop (a + x.length) = xs.drop a ++ L.drop (a + x.length + (xs.drop a).length) := by
    rw [e1, List.drop_append, List.drop_of_length_le (by omega), l0, Nat.sub_self, List.nil_append, List.drop_zero]
  have e4 : splice (splice L (a + x.length) (xs.drop a)) a x = ((xs.take a ++ x) ++ xs.drop a) ++ L.drop (a + x.length + (xs.drop a).length) := by
    conv => lhs; unfold splice
    rw [show List.take (a + x.length) L ++ (List.drop a xs ++ List.drop (a + x.length + (List.drop a xs).length) L) = splice L (a + x.length) (xs.drop a) from rfl, e2, e3]
    simp only [List.append_assoc]
  have l2 : ((xs.take a ++ x) ++ xs.drop a).length = xs.length + x.length := by simp; omega
  rw [e4, ← l2, List.take_left, List.append_assoc]
theorem wpList_append_zerosN {ops : Array Oper} {rest : List Oper} {o : Oper} {a : Act} {w : World} {Q : Exit → Act → World → Prop} (hgd : o.guard = none) (s x : Operand) (t tn : TypeId)
    (ho : o.op = .call { callee := .builtin .append, args := #[s, x], argTypes := #[t, tn] }) (e : TypeId) (kn : IntKind) (ht : P.underlying t = some (.slice e)) (htn : P.underlying tn = some (.int kn))
    (i : TypeInfo) (z : Value) (size bytes : Nat) (hi : P.info? e = some i) (hz : i.zero = some z) (hsize : i.size = size) (hby : i.bytes = bytes) (hzs : z.cells.size = size) (hsz : 0 < size)
    (ad : Addr) (sLen sCap k : Nat) (kq : IntKind) (hs : a.eval s = .slice (some ad) sLen sCap) (hx : a.eval x = .int kq k)
    (olds : List Value) (hl : olds.length = sLen * size) (hold : ∀ j v, olds[j]? = some v → w.cell? (ad.add j) = some v) (m : Nat) (hmk : sLen + k = m) (h0 : 0 < k) (hg : sCap < m) (hm : m ≤ maxLen) (hb : m * bytes ≤ 140737488355328)
    (h : ∀ w' cap' cur, Hid (HB w' w.heap.size (olds ++ cur).toArray e) → Hid (w.grownBy w' none) → Hid (cur.length = (cap' - sLen) * size) → Hid (m ≤ cap') → Hid (cap' ≤ maxLen) → wpList P ops Q rest (a.put o.dst (.slice (some ⟨w.heap.size, 0, none⟩) m cap')) w') : wpList P ops Q (o :: rest) a w := by
  subst hmk
  subst hsize
  subst hby
  have hold' := run_firstCells_some (P := P) w.drew i.size sLen ad sLen sCap olds hl hold
  have hm' : ((sLen + k : Nat) : Int) ≤ 9223372036854775807 := by unfold maxLen at hm; omega
  have hk48 : k * i.bytes ≤ 281474976710656 := by
    have : k * i.bytes ≤ (sLen + k) * i.bytes := Nat.mul_le_mul_right _ (by omega)
    omega
  have hrz := Lib.run_append_grow_zeros w t tn o.type e i z kq kn ht htn hi hz (some ad) sLen sCap olds hold' k h0 hsz hg hm' hk48 (growslice_fits hg hb)
  have hge := grownCap_ge w (sLen + k) sCap e
  have hcm := grownCap_le_maxLen w (sLen + k) sCap e hm
  generalize grownCap w (sLen + k) sCap e = G at hrz hge hcm
  refine wpList_plain hgd fun K hK => ?_
  have hrow : HB (w.drew.alloc (.cells (olds.toArray ++ Builtin.zeroCells z.cells k ++ Builtin.zeroCells z.cells (G - (sLen + k))) e)) w.heap.size (olds ++ ((Builtin.zeroCells z.cells k).toList ++ (Builtin.zeroCells z.cells (G - (sLen + k))).toList)).toArray e := by
    have := HB.new w.drew (olds.toArray ++ Builtin.zeroCells z.cells k ++ Builtin.zeroCells z.cells (G - (sLen + k))) e
    have e1 : olds.toArray ++ Builtin.zeroCells z.cells k ++ Builtin.zeroCells z.cells (G - (sLen + k)) = (olds ++ ((Builtin.zeroCells z.cells k).toList ++ (Builtin.zeroCells z.cells (G - (sLen + k))).toList)).toArray := by
      apply Array.ext'; simp
    rw [e1] at this ⊢
    exact this
  have hlen : ((Builtin.zeroCells z.cells k).toList ++ (Builtin.zeroCells z.cells (G - (sLen + k))).toList).length = (G - sLen) * i.size := by
    rw [List.length_append, Array.length_toList, Array.length_toList, size_zeroCells, size_zeroCells, hzs, ← Nat.add_mul]
    congr 1; omega
  have hgb : ∀ ob, w.grownBy (w.drew.alloc ob) none := fun ob => ⟨rfl, rfl, rfl, by simp, fun k' hk' _ => Below.heap_alloc w.drew ob k' hk'⟩
  have := h _ G _ hrow (hgb _) hlen hge hcm
  unfold Oper.wp
  simp [execOp, ho, resolve, invoke, builtin, hs, hx, hrz, Result.andThen]
  rw [Array.append_assoc] at this
  exact hK _ _ this
end Go.Proofs.Ytdnhjkmcogbaoaa
