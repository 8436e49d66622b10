/-
  Push: append, then siftUp.
-/
import Derived.Test.YmwharFrom
import Derived.Deep.RegionLaw
namespace Go.Proofs.Ymwhar
open Go.RowKit
attribute [local go_sem ↓] Go.wp_at_zero Go.wp_at_succ

def HeapAt (w : World) (hb g n cap : Nat) (xs : List It) : Prop :=
  w.cell? ⟨hb, 0, none⟩ = some (.slice (some ⟨g, 0, none⟩) n cap) ∧ w.frozen? ⟨hb, 0, none⟩ = false ∧ Own w g n cap xs ∧ hb ≠ g

theorem HeapAt.keep {w w' : World} {T : List Nat} {hb g n cap : Nat} {xs : List It} (h : HeapAt w hb g n cap xs) (hk : Keeps T w w') (h1 : hb ∉ T) (h2 : g ∉ T) : HeapAt w' hb g n cap xs :=
  ⟨hk.cell h.1 h1, by rw [hk.frozen (World.block_lt_of_cell? w _ h.1) h1]; exact h.2.1, h.2.2.1.keep hk h2, h.2.2.2⟩

theorem bel_keeps {w a b : World} {T : List Nat} (h : Below w.heap.size w a) (hk : Keeps T a b) (hT : ∀ k ∈ T, w.heap.size ≤ k) : Below w.heap.size w b := h.trans (hk.below h.size hT)

theorem bel_store {w W : World} (h : Below w.heap.size w W) (eg i j : Nat) (x y : Value) (he : w.heap.size ≤ eg) : Below w.heap.size w ((W.setCell ⟨eg, i, none⟩ x).setCell ⟨eg, j, none⟩ y) :=
  (h.setCell (p := ⟨eg, i, none⟩) he x).setCell (p := ⟨eg, j, none⟩) he y

theorem siftUp_calls' (g n cap : Nat) (xs : List It) (i : Nat) (z : Int) (hz : z = (i : Int)) (hi : i < n) (hn : n ≤ 1000000) (w : World) (hown : Own w g n cap xs) :
    Calls Yarv.prog 12 #[.slice (some ⟨g, 0, none⟩) n cap, .int .i64 z] w fun e w' => e = .returned (.int .i64 (up i xs i).2) ∧ Own w' g n cap (up i xs i).1 ∧ Keeps [g] w w' := by
  subst hz
  exact siftUp_calls g n cap xs i hi hn w hown

theorem keeps_new {w w2 w3 : World} {hb g g' : Nat} (h : Keeps [hb, g, g'] w w2) (k : Keeps [hb, g, g'] w2 w3) (hg : g' = g ∨ g' = w.heap.size + 2) : Keeps [hb, g] w w3 := by
  refine (h.trans k).drop ?_
  intro k hk hlt
  simp only [List.mem_cons, List.not_mem_nil, or_false] at hk ⊢
  rcases hk with rfl | rfl | rfl
  · exact Or.inl rfl
  · exact Or.inr rfl
  · rcases hg with h | h
    · exact Or.inr h
    · omega

theorem new2 (w : World) (a b : Obj) : Keeps [] w ((w.alloc a).alloc b).drew := (((Keeps.refl _ _).alloc _).alloc _).drew

theorem src_new (w : World) (p q : Int) : Src ((w.alloc (.cells #[.int .i64 p, .int .u32 q] 28)).alloc (.cells #[.int .i64 p, .int .u32 q] 28)).drew (some ⟨w.heap.size + 1, 0, none⟩) 1 1 [(p, q)] := by
  refine ⟨rfl, by simp, ?_⟩
  intro ad had j u hu
  injection had with had
  subst had
  have hb : ((w.alloc (.cells #[.int .i64 p, .int .u32 q] 28)).alloc (.cells #[.int .i64 p, .int .u32 q] 28)).drew.heap[w.heap.size + 1]? = some (.cells #[.int .i64 p, .int .u32 q] 28 (0, 0)) := by
    have h1 := heap_alloc_new (w.alloc (.cells #[.int .i64 p, .int .u32 q] 28)) (.cells #[.int .i64 p, .int .u32 q] 28)
    have h2 : (w.alloc (.cells #[.int .i64 p, .int .u32 q] 28)).heap.size = w.heap.size + 1 := by simp
    rw [h2] at h1
    exact h1
  exact World.news_of_block hb j u hu

set_option maxHeartbeats 1000000 in
theorem push_calls (hb g n cap : Nat) (xs : List It) (p q : Int) (hn : n ≤ 100000) (w : World) (hH : HeapAt w hb g n cap xs) :
    Calls Yarv.prog 7 #[.pointer (some ⟨hb, 0, none⟩), .agg #[.int .i64 p, .int .u32 q]] w fun e w' => ∃ g' cap', e = .returned (.int .i64 (up n (xs ++ [(p, q)]) n).2) ∧ HeapAt w' hb g' (n + 1) cap' (up n (xs ++ [(p, q)]) n).1 ∧ Keeps [hb, g] w w' ∧ (g' = g ∨ w.heap.size ≤ g') := by
  obtain ⟨hc, hf, hO, hne⟩ := hH
  have hlt : hb < w.heap.size := World.block_lt_of_cell? w _ hc
  have hc1 : ∀ o, (w.alloc o).cell? ⟨hb, 0, none⟩ = some (.slice (some ⟨g, 0, none⟩) n cap) := fun o => keepc ((Below.refl _ _).alloc (Nat.le_refl _) o) hc
  have hf1 : ∀ o, (w.alloc o).frozen? ⟨hb, 0, none⟩ = false := fun o => by rw [((Below.refl _ _).alloc (Nat.le_refl _) o).frozen (w := w) (B := w.heap.size) (by exact hlt)]; exact hf
  have hne' : hb ∉ [g] := by simpa using hne
  go_enter Yarv.func7, Yarv.ntmps7
  go_wp2
  go_region_law ((refine step_append_item (by rfl) (.tmp 9) (.tmp 11) (by rfl) g n cap xs (by simp [Act.eval]) (hO.keep (T := []) (((Keeps.refl _ _).alloc _).alloc _).drew (by simp)) ⟨w.heap.size + 1, 0, none⟩ 1 (p, q) (by simp [Act.eval]) (src_new _ _ _) (by omega) (w.heap.size + 2) (by simp) ?_; intro g' cap' w1 hO1 hKa hg'; have hcA : w1.cell? ⟨hb, 0, none⟩ = some (.slice (some ⟨g, 0, none⟩) n cap) := (Keeps.mono (new2 w _ _) (by simp)).trans hKa |>.cell hc hne'; have hfA : w1.frozen? ⟨hb, 0, none⟩ = false := (((Keeps.mono (new2 w _ _) (by simp)).trans hKa).frozen hlt hne').trans hf))
  all_goals
    have hg2 : hb ≠ g' := by rcases hg' with rfl | rfl <;> omega
    have hlt2 : hb < w1.heap.size := World.block_lt_of_cell? w1 _ hcA
    have hwn : IntKind.i64.wrap (n : Int) = (n : Int) := wrap_small _ (by omega) (by omega)
    go_wp2_with fail
    have hK2 : Keeps [hb, g] w (w1.setCell ⟨hb, 0, none⟩ (.slice (some ⟨g', 0, none⟩) (n + 1) cap')) := ((Keeps.mono (new2 w _ _) (by simp)).trans (hKa.mono (by simp))).setCell (by simp) _
    have hO2 : Own (w1.setCell ⟨hb, 0, none⟩ (.slice (some ⟨g', 0, none⟩) (n + 1) cap')) g' (n + 1) cap' (xs ++ [(p, q)]) := hO1.keep (T := [hb]) ((Keeps.refl _ _).setCell (by simp) _) (by simp; omega)
    have hc2 : (w1.setCell ⟨hb, 0, none⟩ (.slice (some ⟨g', 0, none⟩) (n + 1) cap')).cell? ⟨hb, 0, none⟩ = some (.slice (some ⟨g', 0, none⟩) (n + 1) cap') := World.cell?_setCell_same _ _ _ hcA
    have hf2 : (w1.setCell ⟨hb, 0, none⟩ (.slice (some ⟨g', 0, none⟩) (n + 1) cap')).frozen? ⟨hb, 0, none⟩ = false := by rw [World.frozen?_setCell]; exact hfA
    generalize w1.setCell ⟨hb, 0, none⟩ (.slice (some ⟨g', 0, none⟩) (n + 1) cap') = w2 at *
    clear hO hO1 hKa hcA hfA hc hf hc1 hf1
    go_region_held3 (fun w' => w'.cell? ⟨hb, 0, none⟩ = some (.slice (some ⟨g', 0, none⟩) (n + 1) cap')) (first | (go_keep; done) | exact hK3.cell (by assumption) (by simpa using hg2)) (first | (go_at_call 12; refine (siftUp_calls' g' (n + 1) cap' (xs ++ [(p, q)]) n _ (by omega) (by omega) (by omega) _ ?_).mono ?_; (first | exact hO2.drew | exact hO2); rintro e w3 ⟨rfl, hO3, hK3⟩))
    go_wp2
    go_ret
    refine ⟨g', cap', rfl, ⟨by assumption, ?_, hO3, hg2⟩, ?_, ?_⟩
    · rw [hK3.frozen (World.block_lt_of_cell? w2 _ hc2) (by simpa using hg2)]; exact hf2
    · exact keeps_new (hK2.mono (T' := [hb, g, g']) (by simp)) (hK3.of_drew.mono (by simp)) hg'
    · rcases hg' with h | h <;> omega

end Go.Proofs.Ymwhar
