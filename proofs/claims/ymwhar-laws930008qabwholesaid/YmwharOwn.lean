/-
  'make', 'copy', 'append' at this program's item type (22: the slice; 28: the item: two cells, sixteen bytes), in the words of 'Own', 'Src', 'Keeps'. No walk here.
-/
import Derived.Test.YmwharMem
import Derived.Deep.AppendLies
namespace Go.Proofs.Ymwhar
open Go.RowKit

theorem info28 : (Yarv.prog.info? 28).map (fun i => (i.zero, i.size, i.bytes)) = some (some (.agg #[.int .i64 0, .int .u32 0]), 2, 16) := by kernel_rfl

/-- What a slice value of items is as a source: its items, cell by cell. -/
def Src (w : World) (ao : Option Addr) (n c : Nat) (xs : List It) : Prop :=
  xs.length = n ∧ (ao = none → n = 0 ∧ c = 0) ∧ ∀ ad, ao = some ad → ∀ j u, (flat xs)[j]? = some u → w.cell? (ad.add j) = some u

theorem Src.below {w w' : World} {ao : Option Addr} {n c : Nat} {xs : List It} (h : Src w ao n c xs) (hb : Below w.heap.size w w') : Src w' ao n c xs :=
  ⟨h.1, h.2.1, fun ad had j u hu => keepc hb (h.2.2 ad had j u hu)⟩
theorem Src.keep {w w' : World} {T : List Nat} {ao : Option Addr} {n c : Nat} {xs : List It} (h : Src w ao n c xs) (hk : Keeps T w w') (hT : ∀ k ∈ T, w.heap.size ≤ k) : Src w' ao n c xs :=
  h.below (hk.below (Nat.le_refl _) hT)
theorem Src.of_own {w : World} {g n cap : Nat} {xs : List It} (h : Own w g n cap xs) : Src w (some ⟨g, 0, none⟩) n cap xs :=
  ⟨h.len, by simp, fun ad had j u hu => by
    injection had with had
    subst had
    exact World.ownsRow.cells h rfl j u hu⟩

theorem Own.mk_of {w : World} {g n cap : Nat} {cs : List Value} {xs : List It} (h : w.ownsRow 0 28 2 (.slice (some ⟨g, 0, none⟩) n cap) n cs) (he : cs = flat xs) : Own w g n cap xs := by
  subst he; exact h

theorem madeItems : ∀ n : Nat, (madeCells (Value.agg #[.int .i64 0, .int .u32 0]).cells (n * 2)).toList = flat (List.replicate n (0, 0)) := by
  intro n
  apply List.ext_getElem?
  intro j
  by_cases hj : j < n * 2
  · have hz : (Value.agg #[.int .i64 0, .int .u32 0]).cells = #[.int .i64 0, .int .u32 0] := by rfl
    rw [hz]
    have e1 : (madeCells #[Value.int .i64 0, .int .u32 0] (n * 2)).toList[j]? = some (#[Value.int .i64 0, .int .u32 0][j % 2]!) := by
      simp [madeCells, hj]
    rw [e1]
    by_cases he : j % 2 = 0
    · have e : j = j / 2 * 2 := by omega
      rw [he, e, flat_0 _ _ (by simp; omega)]
      simp [ats, show j / 2 < n from by omega]
    · have e : j = j / 2 * 2 + 1 := by omega
      rw [show j % 2 = 1 from by omega, e, flat_1 _ _ (by simp; omega)]
      simp [ats, show j / 2 < n from by omega]
  · rw [List.getElem?_eq_none (by rw [Array.length_toList, size_madeCells]; omega), List.getElem?_eq_none (by rw [flat_length]; simp; omega)]

section
variable {w : World} {ops : Array Oper} {rest : List Oper} {o : Oper} {a : Act} {Q : Exit → Act → World → Prop}

/-- 'make([]Item, n)'. -/
theorem wpList_make_items (hg : o.guard = none) (l c : Operand) (hop : o.op = Op.makeSlice 22 l c) (L C : Int) (n : Nat) (hl : a.eval l = .int .i64 L) (hc : a.eval c = .int .i64 C) (hL : L = (n : Int)) (hC : C = (n : Int)) (hn : n ≤ 1000000) (H : Nat) (hH : w.heap.size = H)
    (hK : ∀ w', Own w' H n n (List.replicate n (0, 0)) → Keeps [] w w' → H < w'.heap.size → wpList Yarv.prog ops Q rest (a.put o.dst (.slice (some ⟨H, 0, none⟩) n n)) w') :
    wpList Yarv.prog ops Q (o :: rest) a w := by
  subst hH
  obtain ⟨i, hi, hz0, hz1, hz2⟩ := info_parts info28
  refine wpList_make_full w hg l c 22 hop 0 28 i _ 2 Yarv.underlying22 hi hz0 hz1 .i64 .i64 L C n hl hc hL hC (by rw [hz2]; omega) (by unfold maxLen; omega) (Nat.zero_le _) ?_
  intro w' hown hgr
  have hO : Own w' w.heap.size n n (List.replicate n (0, 0)) := Own.mk_of hown (madeItems n)
  exact hK w' hO (Keeps.of_grown_none hgr) hO.lt

/-- 'make([]Item, 0, n)'. -/
theorem wpList_make_room (hg : o.guard = none) (l c : Operand) (hop : o.op = Op.makeSlice 22 l c) (C : Int) (n : Nat) (hl : a.eval l = .int .i64 0) (hc : a.eval c = .int .i64 C) (hC : C = (n : Int)) (hn : n ≤ 1000000) (H : Nat) (hH : w.heap.size = H)
    (hK : ∀ w', Own w' H 0 n [] → Keeps [] w w' → H < w'.heap.size → wpList Yarv.prog ops Q rest (a.put o.dst (.slice (some ⟨H, 0, none⟩) 0 n)) w') :
    wpList Yarv.prog ops Q (o :: rest) a w := by
  subst hH
  obtain ⟨i, hi, hz0, hz1, hz2⟩ := info_parts info28
  refine wpList_make_own w hg l c 22 hop 0 28 i _ 2 Yarv.underlying22 hi hz0 hz1 .i64 .i64 C n hl hc hC (by rw [hz2]; omega) (by unfold maxLen; omega) (Nat.zero_le _) ?_
  intro w' hown hgr
  have hO : Own w' w.heap.size 0 n [] := Own.mk_of hown rfl
  exact hK w' hO (Keeps.of_grown_none hgr) hO.lt

theorem run_copy_items (ty : TypeId) (g n cap : Nat) (ao : Option Addr) (m c : Nat) (xs ys : List It) (hown : Own w g n cap ys) (hsrc : Src w ao m c xs) (hmn : m ≤ n) :
    ∃ w', (Builtin.copy_ #[22, 22] ty #[.slice (some ⟨g, 0, none⟩) n cap, .slice ao m c]).run Yarv.prog w = .ok (goInt m) w' ∧ Own w' g n cap (xs ++ ys.drop m) ∧ Keeps [g] w w' := by
  obtain ⟨i, hi, hz0, hz1, hz2⟩ := info_parts info28
  have hlen := hown.len
  have hmin : Nat.min m n = m := Nat.min_eq_left hmn
  cases ao with
  | none =>
    obtain ⟨rfl, rfl⟩ := hsrc.2.1 rfl
    have hx : xs = [] := List.eq_nil_of_length_eq_zero hsrc.1
    subst hx
    refine ⟨w, ?_, by simpa using hown, Keeps.refl _ _⟩
    have := run_copy_nil Yarv.prog w 22 22 ty 28 ⟨g, 0, none⟩ n cap Yarv.underlying22 (by simp [hi])
    simpa using this
  | some ad =>
    have hsl : (flat xs).length = m * 2 := by rw [flat_length, hsrc.1]
    rcases hown.2 with ⟨h', _⟩ | ⟨g', cap', cur, h', hb, hgg, hc', hcm, hcs, ht⟩
    · simp at h'
    simp only [Value.slice.injEq, Option.some.injEq, Addr.mk.injEq, and_true, true_and] at h'
    obtain ⟨rfl, rfl⟩ := h'
    have hl := run_loadCells_list (P := Yarv.prog) w ad (flat xs) (hsrc.2.2 ad rfl)
    have hst := run_storeCells_at Yarv.prog g 0 28 (flat xs) 0 cur w hgg (by rw [hsl]; omega) (flat_one xs)
    rw [hsl] at hl hst
    simp only [Nat.add_zero, Nat.zero_add, List.take_zero, List.nil_append] at hst
    refine ⟨w.setRow g (flat xs ++ cur.toList.drop (m * 2)).toArray, ?_, ?_, ?_⟩
    · simp [Builtin.copy_, run_underlying Yarv.underlying22, Builtin.lenOf, Builtin.firstCells, sizeOf, typeInfo, hi, hz1, hmin, hl, hst]
    · have hlen2 : (xs ++ ys.drop m).length = n := by simp [hsrc.1]; omega
      refine ⟨by rw [flat_length, hlen2], .inr ⟨g, cap, _, rfl, hb, setRow_heap w g cur _ 28 _ hgg, hc', hcm, ?_, ?_⟩⟩
      · simp [hsl]; omega
      · have e0 : flat ys = flat (ys.take m) ++ flat (ys.drop m) := by rw [← flat_append, List.take_append_drop]
        have e1 : cur.toList.drop (m * 2) = flat (ys.drop m) ++ cur.toList.drop (n * 2) := by
          have h1 : cur.toList = flat ys ++ cur.toList.drop (n * 2) := by rw [← ht]; exact (List.take_append_drop _ _).symm
          have h2 : (flat (ys.take m)).length = m * 2 := by rw [flat_length, List.length_take]; congr 1; omega
          have h3 : cur.toList = flat (ys.take m) ++ (flat (ys.drop m) ++ cur.toList.drop (n * 2)) := by rw [← List.append_assoc, ← e0]; exact h1
          have h4 := congrArg (List.drop (m * 2)) h3
          rw [h4]
          exact List.drop_left' h2
        rw [flat_append]
        simp only [e1]
        rw [← List.append_assoc]
        refine List.take_left' ?_
        rw [List.length_append, flat_length, flat_length, hsrc.1, List.length_drop, hlen]
        omega
    · exact ⟨rfl, rfl, rfl, by simp [World.setRow], fun k _ hk => setRow_other w g k _ (fun e => hk (by simp [e]))⟩

/-- 'copy(dst, src)', dst a row of the call's own, at least as long as src. -/
theorem wpList_copy_items (hgd : o.guard = none) (d s : Operand) (ho : o.op = .call { callee := .builtin .copy, args := #[d, s], argTypes := #[22, 22] })
    (g n cap : Nat) (ao : Option Addr) (m c : Nat) (hd : a.eval d = .slice (some ⟨g, 0, none⟩) n cap) (hs : a.eval s = .slice ao m c) (xs ys : List It) (hown : Own w g n cap ys) (hsrc : Src w ao m c xs) (hmn : m ≤ n)
    (hK : ∀ w', Own w' g n cap (xs ++ ys.drop m) → Keeps [g] w w' → wpList Yarv.prog ops Q rest (a.put o.dst (goInt m)) w') :
    wpList Yarv.prog ops Q (o :: rest) a w := by
  obtain ⟨w', hrun, h1, h2⟩ := run_copy_items (w := w) o.type g n cap ao m c xs ys hown hsrc hmn
  refine wpList_plain hgd fun K hK' => ?_
  unfold Oper.wp
  simp [execOp, ho, resolve, invoke, builtin, hd, hs, hrun, Result.andThen]
  exact hK' _ _ (hK w' h1 h2)

/-- 'dst = append(dst, src...)' within the room. -/
theorem wpList_append_items (hgd : o.guard = none) (s x : Operand) (ho : o.op = .call { callee := .builtin .append, args := #[s, x], argTypes := #[22, 22] })
    (g n cap : Nat) (ao : Option Addr) (m c : Nat) (hs : a.eval s = .slice (some ⟨g, 0, none⟩) n cap) (hx : a.eval x = .slice ao m c) (ys xs : List It) (hown : Own w g n cap ys) (hsrc : Src w ao m c xs) (hfit : n + m ≤ cap)
    (hK : ∀ w', Own w' g (n + m) cap (ys ++ xs) → Keeps [g] w w' → wpList Yarv.prog ops Q rest (a.put o.dst (.slice (some ⟨g, 0, none⟩) (n + m) cap)) w') :
    wpList Yarv.prog ops Q (o :: rest) a w := by
  obtain ⟨i, hi, hz0, hz1, hz2⟩ := info_parts info28
  refine wpList_append_fits_any w hgd s x 22 ho 0 28 i 2 Yarv.underlying22 hi hz1 g n cap (flat ys) hs hown ao m c (flat xs) hx (by rw [flat_length, hsrc.1]) hsrc.2.1 hsrc.2.2 (flat_one xs) hfit ?_
  intro w' h1 h2
  exact hK w' (Own.mk_of h1 (flat_append ys xs).symm) (Keeps.of_grown h2 (by simp))

/-- 'h.Items = append(h.Items, it)', a step of a region that draws its order: it may grow. -/
theorem step_append_item {K : Act → World → Prop} {E : Prop} (hgd : o.guard = none) (s x : Operand) (ho : o.op = .call { callee := .builtin .append, args := #[s, x], argTypes := #[22, 22] })
    (g n cap : Nat) (ys : List It) (hs : a.eval s = .slice (some ⟨g, 0, none⟩) n cap) (hown : Own w g n cap ys) (ad : Addr) (c : Nat) (y : It) (hx : a.eval x = .slice (some ad) 1 c) (hsrc : Src w (some ad) 1 c [y])
    (hn : n ≤ 1000000) (H : Nat) (hH : w.heap.size = H)
    (h : ∀ g' cap' w', Own w' g' (n + 1) cap' (ys ++ [y]) → Keeps [g] w w' → (g' = g ∨ g' = H) → K (a.put o.dst (.slice (some ⟨g', 0, none⟩) (n + 1) cap')) w') :
    if Region.wanted o (yielded ops a.tmps) = true then Oper.wp Yarv.prog o a w K Q else E := by
  obtain ⟨i, hi, hz0, hz1, hz2⟩ := info_parts info28
  refine step_append_lies w hgd s x 22 ho 0 28 i _ 2 16 Yarv.underlying22 hi hz0 hz1 hz2 rfl (by decide) _ n (flat ys) hs hown ad 1 c (flat [y]) hx (by rw [flat_length]; rfl) (hsrc.2.2 ad rfl) (flat_one _) (by decide) (by unfold maxLen; omega) (by omega) (Nat.zero_le _) H hH ?_
  intro g' cap' w' h1 h2 h3 _
  refine h g' cap' w' (Own.mk_of h1 (flat_append ys [y]).symm) (Keeps.of_grown h2 (by simp)) ?_
  rcases h3 with h3 | h3
  · simp [Value.ownBlock] at h3
    exact Or.inl h3.symm
  · exact Or.inr h3

end
end Go.Proofs.Ymwhar
