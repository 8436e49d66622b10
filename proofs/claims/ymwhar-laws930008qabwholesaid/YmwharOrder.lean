/-
  The plain laws behind law B: the order, the heap. No Go in sight.
-/
import Derived.Test.YmwharHole
namespace Go.Proofs.Ymwhar
open List

/-! ### The order -/
theorem less_iff (x y : It) : less x y = true ↔ (x.1 < y.1 ∨ (x.1 = y.1 ∧ x.2 < y.2)) := by
  unfold less
  split
  · rename_i h; simp [h]
  · rename_i h; simp [h]
theorem less_no (x y : It) : less x y = false ↔ ¬ (x.1 < y.1 ∨ (x.1 = y.1 ∧ x.2 < y.2)) := by
  rw [← less_iff]; simp
theorem less_irrefl (x : It) : less x x = false := by rw [less_no]; omega
theorem less_asym {x y : It} (h : less x y = true) : less y x = false := by rw [less_no]; rw [less_iff] at h; omega
theorem less_negtrans {x y z : It} (h : less x y = false) (k : less y z = false) : less x z = false := by
  rw [less_no] at *; omega
/-- x is not before z, y is before z: x is not before y. -/
theorem less_below {x y z : It} (h : less x z = false) (k : less y z = true) : less x y = false := by
  rw [less_no] at *; rw [less_iff] at k; omega
theorem less_antisymm {x y : It} (h : less x y = false) (k : less y x = false) : x = y := by
  rw [less_no] at *
  exact Prod.ext (by omega) (by omega)

/-! ### Exchange -/
theorem ats_getElem (xs : List It) (i : Nat) (h : i < xs.length) : ats xs i = xs[i] := by simp [ats, h]
theorem swp_perm (xs : List It) (i j : Nat) (hi : i < xs.length) (hj : j < xs.length) : swp xs i j ~ xs := by
  unfold swp
  rw [ats_getElem xs i hi, ats_getElem xs j hj]
  exact set_set_perm hi hj
theorem ats_swp_l (xs : List It) (i j : Nat) (hi : i < xs.length) (hne : i ≠ j) : ats (swp xs i j) i = ats xs j := by
  unfold swp
  rw [ats_set_other _ j i _ (Ne.symm hne), ats_set_same _ i _ hi]
theorem ats_swp_r (xs : List It) (i j : Nat) (hj : j < xs.length) : ats (swp xs i j) j = ats xs i := by
  unfold swp
  rw [ats_set_same _ j _ (by simpa using hj)]
theorem ats_swp_o (xs : List It) (i j k : Nat) (hi : k ≠ i) (hj : k ≠ j) : ats (swp xs i j) k = ats xs k := by
  unfold swp
  rw [ats_set_other _ j k _ (Ne.symm hj), ats_set_other _ i k _ (Ne.symm hi)]

theorem up_perm : ∀ (f : Nat) (xs : List It) (i : Nat), i < xs.length → (up f xs i).1 ~ xs
  | 0, _, _, _ => Perm.refl _
  | f + 1, xs, i, hi => by
    simp only [up]
    split
    · exact (up_perm f _ _ (by rw [length_swp]; omega)).trans (swp_perm xs i _ hi (by omega))
    · exact Perm.refl _
theorem chi_lt (xs : List It) (i : Nat) (h : 2 * i + 1 < xs.length) : chi xs i < xs.length := by
  unfold chi; split <;> omega
theorem chi_gt (xs : List It) (i : Nat) : i < chi xs i ∧ (chi xs i - 1) / 2 = i := by
  unfold chi; split <;> omega
theorem down_perm : ∀ (f : Nat) (xs : List It) (i : Nat), i < xs.length → (down f xs i).1 ~ xs
  | 0, _, _, _ => Perm.refl _
  | f + 1, xs, i, hi => by
    simp only [down]
    split
    · rename_i h
      exact (down_perm f _ _ (by rw [length_swp]; exact chi_lt xs i h.1)).trans (swp_perm xs i _ hi (chi_lt xs i h.1))
    · exact Perm.refl _

/-! ### Valid from place s on -/
def ValidFrom (s : Nat) (L : List It) : Prop := ∀ j, 0 < j → j < L.length → s ≤ (j - 1) / 2 → less (ats L j) (ats L ((j - 1) / 2)) = false

theorem up_valid : ∀ (f : Nat) (L : List It) (i : Nat), i ≤ f → i < L.length →
    (∀ j, 0 < j → j < L.length → j ≠ i → less (ats L j) (ats L ((j - 1) / 2)) = false) →
    (∀ j, 0 < j → j < L.length → (j - 1) / 2 = i → 0 < i → less (ats L j) (ats L ((i - 1) / 2)) = false) → ValidFrom 0 (up f L i).1
  | 0, L, i, hf, hi, h1, _ => by
    intro j h0 hj _
    exact h1 j h0 hj (by omega)
  | f + 1, L, i, hf, hi, h1, h2 => by
    by_cases hc : 0 < i ∧ less (ats L i) (ats L ((i - 1) / 2)) = true
    · obtain ⟨h0, hl⟩ := hc
      rw [up_go (f + 1) L i _ rfl (by omega) h0 hl]
      have hpi : (i - 1) / 2 < i := by omega
      obtain ⟨p, hp⟩ : ∃ p, (i - 1) / 2 = p := ⟨_, rfl⟩
      rw [hp] at hl hpi ⊢
      have hpl : p < L.length := by omega
      have e1 : ats (swp L i p) i = ats L p := ats_swp_l L i p hi (by omega)
      have e2 : ats (swp L i p) p = ats L i := ats_swp_r L i p hpl
      have e3 : ∀ k, k ≠ i → k ≠ p → ats (swp L i p) k = ats L k := fun k a b => ats_swp_o L i p k a b
      refine up_valid f (swp L i p) p (by omega) (by rw [length_swp]; exact hpl) ?_ ?_
      · intro j j0 hj hjp
        rw [length_swp] at hj
        by_cases hji : j = i
        · subst hji
          rw [hp, e1, e2]
          exact less_asym hl
        · rw [e3 j hji hjp]
          by_cases hq : (j - 1) / 2 = i
          · rw [hq, e1]
            have := h2 j j0 hj hq h0
            rwa [hp] at this
          · by_cases hq2 : (j - 1) / 2 = p
            · rw [hq2, e2]
              have := h1 j j0 hj hji
              rw [hq2] at this
              exact less_below this hl
            · rw [e3 _ hq hq2]
              exact h1 j j0 hj hji
      · intro j j0 hj hjp p0
        rw [length_swp] at hj
        have hpp : (p - 1) / 2 < p := by omega
        rw [e3 ((p - 1) / 2) (by omega) (by omega)]
        have hA := h1 p p0 hpl (by omega)
        by_cases hji : j = i
        · subst hji
          rw [e1]; exact hA
        · rw [e3 j hji (by omega)]
          have hB := h1 j j0 hj hji
          rw [hjp] at hB
          exact less_negtrans hB hA
    · rw [up_stop (f + 1) L i hc]
      intro j h0 hj _
      by_cases hji : j = i
      · subst hji
        cases hl : less (ats L j) (ats L ((j - 1) / 2)) with
        | true => exact absurd ⟨h0, hl⟩ hc
        | false => rfl
      · exact h1 j h0 hj hji

theorem push_valid (L : List It) (x : It) (n : Nat) (hn : L.length = n) (h : ValidFrom 0 L) : ValidFrom 0 (up n (L ++ [x]) n).1 := by
  have e : ∀ k, k < n → ats (L ++ [x]) k = ats L k := by
    intro k hk
    simp [ats, getElem?_append_left (show k < L.length by omega)]
  refine up_valid n (L ++ [x]) n (Nat.le_refl _) (by simp; omega) ?_ ?_
  · intro j j0 hj hjn
    simp at hj
    rw [e j (by omega), e _ (by omega)]
    exact h j j0 (by omega) (by omega)
  · intro j j0 hj hjn _
    simp at hj
    omega
theorem push_perm (L : List It) (x : It) (n : Nat) (hn : L.length = n) : (up n (L ++ [x]) n).1 ~ L ++ [x] := up_perm n _ n (by simp; omega)

/-- The other child is not before the one that was chosen. -/
theorem chi_least (L : List It) (i j : Nat) (j0 : 0 < j) (hj : j < L.length) (hji : (j - 1) / 2 = i) : less (ats L j) (ats L (chi L i)) = false := by
  have hc : j = 2 * i + 1 ∨ j = 2 * i + 2 := by omega
  unfold chi
  split
  · rename_i hcond
    rcases hc with rfl | rfl
    · exact less_asym hcond.2
    · exact less_irrefl _
  · rename_i hcond
    rcases hc with rfl | rfl
    · exact less_irrefl _
    · cases hl : less (ats L (2 * i + 2)) (ats L (2 * i + 1)) with
      | true => exact absurd ⟨hj, hl⟩ hcond
      | false => rfl

theorem down_valid : ∀ (f : Nat) (L : List It) (s i : Nat), L.length - i ≤ f → i < L.length → s ≤ i →
    (∀ j, 0 < j → j < L.length → s ≤ (j - 1) / 2 → (j - 1) / 2 ≠ i → less (ats L j) (ats L ((j - 1) / 2)) = false) →
    (∀ j, 0 < j → j < L.length → (j - 1) / 2 = i → 0 < i → s ≤ (i - 1) / 2 → less (ats L j) (ats L ((i - 1) / 2)) = false) → ValidFrom s (down f L i).1
  | 0, L, s, i, hf, hi, _, _, _ => by omega
  | f + 1, L, s, i, hf, hi, hs, h1, h2 => by
    by_cases hc : 2 * i + 1 < L.length ∧ less (ats L (chi L i)) (ats L i) = true
    · obtain ⟨h0, hl⟩ := hc
      rw [down_go (f + 1) L i _ rfl (by omega) h0 hl]
      have hcl := chi_lt L i h0
      have hcg := chi_gt L i
      have hleast := fun j a b d => chi_least L i j a b d
      obtain ⟨c, hcc⟩ : ∃ c, chi L i = c := ⟨_, rfl⟩
      rw [hcc] at hl hcl hcg hleast ⊢
      have e1 : ats (swp L i c) i = ats L c := ats_swp_l L i c hi (by omega)
      have e2 : ats (swp L i c) c = ats L i := ats_swp_r L i c hcl
      have e3 : ∀ k, k ≠ i → k ≠ c → ats (swp L i c) k = ats L k := fun k a b => ats_swp_o L i c k a b
      refine down_valid f (swp L i c) s c (by rw [length_swp]; omega) (by rw [length_swp]; exact hcl) (by omega) ?_ ?_
      · intro j j0 hj hsj hjc
        rw [length_swp] at hj
        by_cases hji : (j - 1) / 2 = i
        · rw [hji, e1]
          by_cases hjc2 : j = c
          · subst hjc2
            rw [e2]; exact less_asym hl
          · rw [e3 j (by omega) hjc2]
            exact hleast j j0 hj hji
        · by_cases hj2 : j = i
          · subst hj2
            rw [e1, e3 _ (by omega) hjc]
            exact h2 c (by omega) hcl hcg.2 j0 hsj
          · rw [e3 j hj2 (by omega), e3 _ hji hjc]
            exact h1 j j0 hj hsj hji
      · intro j j0 hj hjc c0 hsc
        rw [length_swp] at hj
        rw [hcg.2, e1, e3 j (by omega) (by omega)]
        have := h1 j j0 hj (by omega) (by omega)
        rwa [hjc] at this
    · rw [down_stop (f + 1) L i hc]
      intro j j0 hj hsj
      replace hj : j < L.length := hj
      by_cases hji : (j - 1) / 2 = i
      · rw [hji]
        have h0 : 2 * i + 1 < L.length := by omega
        have hA := chi_least L i j j0 hj hji
        have hB : less (ats L (chi L i)) (ats L i) = false := by
          cases hl : less (ats L (chi L i)) (ats L i) with
          | true => exact absurd ⟨h0, hl⟩ hc
          | false => rfl
        exact less_negtrans hA hB
      · exact h1 j j0 hj hsj hji

/-! ### FromItems -/
theorem heapify_perm : ∀ (k : Nat) (xs : List It), k ≤ xs.length → heapify k xs ~ xs
  | 0, _, _ => Perm.refl _
  | k + 1, xs, h => by
    simp only [heapify]
    exact (heapify_perm k _ (by rw [length_down]; omega)).trans (down_perm _ xs k (by omega))
theorem heapify_valid : ∀ (k : Nat) (xs : List It), k ≤ xs.length / 2 → ValidFrom k xs → ValidFrom 0 (heapify k xs)
  | 0, _, _, hv => hv
  | k + 1, xs, h, hv => by
    simp only [heapify]
    refine heapify_valid k _ (by rw [length_down]; omega) ?_
    refine down_valid xs.length xs k k (by omega) (by omega) (Nat.le_refl _) ?_ ?_
    · intro j j0 hj hkj hne
      exact hv j j0 hj (by omega)
    · intro j j0 hj hjk k0 hk
      omega
theorem built_valid (xs : List It) (n : Nat) (hn : xs.length = n) : ValidFrom 0 (heapify (n / 2) xs) := by
  subst hn
  refine heapify_valid _ xs (Nat.le_refl _) ?_
  intro j j0 hj hs
  omega
theorem built_perm (xs : List It) (n : Nat) (hn : xs.length = n) : heapify (n / 2) xs ~ xs := heapify_perm _ xs (by omega)

/-! ### Pushes one behind the other -/
def pushOne (L : List It) (x : It) : List It := (up L.length (L ++ [x]) L.length).1
def pushAll (L : List It) (ys : List It) : List It := ys.foldl pushOne L
theorem pushAll_snoc (L ys : List It) (y : It) : pushAll L (ys ++ [y]) = pushOne (pushAll L ys) y := by simp [pushAll]
theorem pushAll_ok : ∀ (ys L : List It), ValidFrom 0 L → ValidFrom 0 (pushAll L ys) ∧ pushAll L ys ~ L ++ ys
  | [], L, h => ⟨h, by simp [pushAll]⟩
  | y :: ys, L, h => by
    have h1 := push_valid L y _ rfl h
    have h2 := push_perm L y _ rfl
    obtain ⟨h3, h4⟩ := pushAll_ok ys (pushOne L y) h1
    refine ⟨h3, ?_⟩
    have h5 : pushOne L y ++ ys ~ L ++ [y] ++ ys := h2.append_right ys
    rw [append_assoc] at h5
    exact h4.trans h5

/-! ### The root; Pop -/
theorem root_least (L : List It) (h : ValidFrom 0 L) : ∀ i, i < L.length → less (ats L i) (ats L 0) = false := by
  intro i
  induction i using Nat.strongRecOn with
  | _ i ih =>
    intro hi
    by_cases h0 : i = 0
    · subst h0; exact less_irrefl _
    · exact less_negtrans (h i (by omega) hi (by omega)) (ih _ (by omega) (by omega))

/-- What Pop leaves of a list of n items. -/
def popL (n : Nat) (L : List It) : List It := (down (n - 1) ((L.set 0 (ats L (n - 1))).take (n - 1)) 0).1

theorem take_set_perm (L : List It) (n : Nat) (hn : L.length = n) (h0 : 0 < n) : ats L 0 :: (L.set 0 (ats L (n - 1))).take (n - 1) ~ L := by
  match L, hn with
  | [], hn => simp at hn; omega
  | [x], hn =>
    simp at hn
    subst hn
    simp [ats]
  | x :: y :: r, hn =>
    have hl : (y :: r).length = n - 1 := by simp at hn ⊢; omega
    obtain ⟨m, rfl⟩ : ∃ m, n = m + 2 := ⟨n - 2, by simp at hn; omega⟩
    have e1 : ats (x :: y :: r) (m + 2 - 1) = ats (y :: r) m := by simp [ats]
    rw [e1]
    have hm : m < (y :: r).length := by omega
    have e2 : ((x :: y :: r).set 0 (ats (y :: r) m)).take (m + 2 - 1) = ats (y :: r) m :: (y :: r).take m := by simp
    rw [e2]
    have e3 : ats (x :: y :: r) 0 = x := by simp [ats]
    rw [e3]
    refine Perm.cons x ?_
    have e4 : (y :: r).take m ++ [ats (y :: r) m] = y :: r := by
      rw [ats_getElem _ m hm, take_append_getElem hm]
      exact take_of_length_le (by omega)
    have e5 := (perm_append_comm (l₁ := [ats (y :: r) m]) (l₂ := (y :: r).take m))
    rw [e4] at e5
    exact e5

theorem popL_length (n : Nat) (L : List It) (hn : L.length = n) : (popL n L).length = n - 1 := by
  unfold popL
  rw [length_down]
  simp
  omega
theorem popL_perm (n : Nat) (L : List It) (hn : L.length = n) (h0 : 0 < n) : ats L 0 :: popL n L ~ L := by
  refine Perm.trans (Perm.cons _ ?_) (take_set_perm L n hn h0)
  by_cases h1 : n = 1
  · subst h1; exact Perm.refl _
  · exact down_perm _ _ _ (by simp; omega)
theorem popL_valid (n : Nat) (L : List It) (hn : L.length = n) (h : ValidFrom 0 L) : ValidFrom 0 (popL n L) := by
  by_cases h1 : n ≤ 1
  · intro j j0 hj _
    rw [popL_length n L hn] at hj
    omega
  have hlen : ((L.set 0 (ats L (n - 1))).take (n - 1)).length = n - 1 := by simp; omega
  have e : ∀ k, 0 < k → k < n - 1 → ats ((L.set 0 (ats L (n - 1))).take (n - 1)) k = ats L k := by
    intro k k0 hk
    simp [ats, hk, show ¬ 0 = k from by omega]
  refine down_valid (n - 1) _ 0 0 (by omega) (by omega) (Nat.le_refl _) ?_ ?_
  · intro j j0 hj _ hne
    rw [hlen] at hj
    rw [e j j0 hj, e _ (by omega) (by omega)]
    exact h j j0 (by omega) (by omega)
  · intro j _ _ _ h0
    omega

/-! ### What law B asks -/
theorem mem_ats {L : List It} {x : It} (h : x ∈ L) : ∃ i, i < L.length ∧ ats L i = x := by
  obtain ⟨i, hi, e⟩ := getElem_of_mem h
  exact ⟨i, hi, by rw [ats_getElem L i hi]; exact e⟩
theorem ats_mem {L : List It} {i : Nat} (h : i < L.length) : ats L i ∈ L := by rw [ats_getElem L i h]; exact getElem_mem h

theorem root_is (L A : List It) (m : Nat) (hv : ValidFrom 0 L) (hp : L ~ A) (hm : m < A.length) (hmin : ∀ j, j < A.length → less (ats A j) (ats A m) = false) : ats L 0 = ats A m := by
  have hlen := hp.length_eq
  refine less_antisymm ?_ ?_
  · obtain ⟨j, hj, e⟩ := mem_ats (hp.mem_iff.1 (ats_mem (L := L) (i := 0) (by omega)))
    rw [← e]; exact hmin j hj
  · obtain ⟨j, hj, e⟩ := mem_ats (hp.mem_iff.2 (ats_mem hm))
    rw [← e]; exact root_least L hv j hj

theorem erase_perm : ∀ (A : List It) (m : Nat), m < A.length → ats A m :: A.eraseIdx m ~ A
  | [], m, h => by simp at h
  | x :: A, 0, _ => by simp [ats]
  | x :: A, m + 1, h => by
    have ih := erase_perm A m (by simpa using h)
    have e : ats (x :: A) (m + 1) = ats A m := by simp [ats]
    rw [e, eraseIdx_cons_succ]
    exact (Perm.swap x (ats A m) _).trans (Perm.cons x ih)

theorem rest_perm (L A : List It) (n m : Nat) (hn : L.length = n) (hv : ValidFrom 0 L) (hp : L ~ A) (hm : m < A.length) (hmin : ∀ j, j < A.length → less (ats A j) (ats A m) = false) : A.eraseIdx m ~ popL n L := by
  have h1 := erase_perm A m hm
  have h2 := popL_perm n L hn (by have := hp.length_eq; omega)
  rw [root_is L A m hv hp hm hmin] at h2
  exact Perm.cons_inv (h1.trans (hp.symm.trans h2.symm))

end Go.Proofs.Ymwhar
