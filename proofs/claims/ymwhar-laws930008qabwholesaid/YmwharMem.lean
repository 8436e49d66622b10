/-
  Memory of the call's own: a row of items, what a step keeps. No walk here.
-/
import Derived.Test.YmwharRows
import Derived.Test.YmwharPlain
import Derived.WalkKit
import Derived.WalkSpells
namespace Go.Proofs.Ymwhar
open Go.RowKit

/-- The cells of a row of items: two an item. -/
def flat : List It → List Value
  | [] => []
  | x :: xs => .int .i64 x.1 :: .int .u32 x.2 :: flat xs

theorem flat_length : ∀ xs : List It, (flat xs).length = xs.length * 2
  | [] => rfl
  | x :: xs => by simp [flat, flat_length xs]; omega

theorem flat_append : ∀ (xs ys : List It), flat (xs ++ ys) = flat xs ++ flat ys
  | [], _ => rfl
  | x :: xs, ys => by simp [flat, flat_append xs ys]

theorem flat_0 : ∀ (xs : List It) (i : Nat), i < xs.length → (flat xs)[i * 2]? = some (.int .i64 (ats xs i).1)
  | x :: xs, 0, _ => rfl
  | x :: xs, i + 1, h => by
    have := flat_0 xs i (by simpa using h)
    rw [show (i + 1) * 2 = i * 2 + 1 + 1 from by omega]
    simpa [flat, ats] using this

theorem flat_1 : ∀ (xs : List It) (i : Nat), i < xs.length → (flat xs)[i * 2 + 1]? = some (.int .u32 (ats xs i).2)
  | x :: xs, 0, _ => rfl
  | x :: xs, i + 1, h => by
    have := flat_1 xs i (by simpa using h)
    rw [show (i + 1) * 2 + 1 = i * 2 + 1 + 1 + 1 from by omega]
    simpa [flat, ats] using this

theorem flat_set : ∀ (xs : List It) (i : Nat) (x : It), ((flat xs).set (i * 2) (.int .i64 x.1)).set (i * 2 + 1) (.int .u32 x.2) = flat (xs.set i x)
  | [], _, _ => rfl
  | y :: xs, 0, x => rfl
  | y :: xs, i + 1, x => by
    have := flat_set xs i x
    rw [show (i + 1) * 2 = i * 2 + 1 + 1 from by omega]
    simpa [flat] using this

theorem flat_one : ∀ (xs : List It), ∀ v ∈ flat xs, v.oneCell' = true
  | [], v, h => by simp [flat] at h
  | x :: xs, v, h => by
    simp only [flat, List.mem_cons] at h
    rcases h with rfl | rfl | h
    · rfl
    · rfl
    · exact flat_one xs v h

theorem flat_take : ∀ (xs : List It) (k : Nat), (flat xs).take (k * 2) = flat (xs.take k)
  | [], k => by simp [flat]
  | x :: xs, 0 => by simp [flat]
  | x :: xs, k + 1 => by
    rw [show (k + 1) * 2 = k * 2 + 1 + 1 from by omega]
    simp [flat, flat_take xs k]

theorem flat_get (xs : List It) (j : Nat) (u : Value) (h : (flat xs)[j]? = some u) :
    ∃ i, i < xs.length ∧ ((j = i * 2 ∧ u = .int .i64 (ats xs i).1) ∨ (j = i * 2 + 1 ∧ u = .int .u32 (ats xs i).2)) := by
  have hj : j < (flat xs).length := (List.getElem?_eq_some_iff.1 h).1
  rw [flat_length] at hj
  refine ⟨j / 2, by omega, ?_⟩
  by_cases he : j % 2 = 0
  · left
    have e : j = j / 2 * 2 := by omega
    refine ⟨e, ?_⟩
    have := flat_0 xs (j / 2) (by omega)
    rw [← e, h] at this
    exact Option.some.inj this
  · right
    have e : j = j / 2 * 2 + 1 := by omega
    refine ⟨e, ?_⟩
    have := flat_1 xs (j / 2) (by omega)
    rw [← e, h] at this
    exact Option.some.inj this

/-- From w to w' nothing of what was there has turned but the blocks T. -/
structure Keeps (T : List Nat) (w w' : World) : Prop where
  os : w'.os = w.os
  tape : w'.tape = w.tape
  output : w'.output = w.output
  size : w.heap.size ≤ w'.heap.size
  block : ∀ k, k < w.heap.size → k ∉ T → w'.heap[k]? = w.heap[k]?

theorem Keeps.refl (T : List Nat) (w : World) : Keeps T w w := ⟨rfl, rfl, rfl, Nat.le_refl _, fun _ _ _ => rfl⟩
theorem Keeps.trans {T : List Nat} {a b c : World} (h : Keeps T a b) (k : Keeps T b c) : Keeps T a c :=
  ⟨k.os.trans h.os, k.tape.trans h.tape, k.output.trans h.output, Nat.le_trans h.size k.size, fun i hi hn => (k.block i (Nat.lt_of_lt_of_le hi h.size) hn).trans (h.block i hi hn)⟩
theorem Keeps.mono {T T' : List Nat} {a b : World} (h : Keeps T a b) (hs : ∀ k ∈ T, k ∈ T') : Keeps T' a b :=
  ⟨h.os, h.tape, h.output, h.size, fun i hi hn => h.block i hi fun hm => hn (hs i hm)⟩
/-- What was made behind w may be dropped from the list. -/
theorem Keeps.drop {T T' : List Nat} {a b : World} (h : Keeps T a b) (hs : ∀ k ∈ T, k < a.heap.size → k ∈ T') : Keeps T' a b :=
  ⟨h.os, h.tape, h.output, h.size, fun i hi hn => h.block i hi fun hm => hn (hs i hm hi)⟩
theorem Keeps.drew {T : List Nat} {a b : World} (h : Keeps T a b) : Keeps T a b.drew := ⟨h.os, h.tape, h.output, h.size, h.block⟩
theorem Keeps.of_drew {T : List Nat} {a b : World} (h : Keeps T a.drew b) : Keeps T a b := ⟨h.os, h.tape, h.output, h.size, h.block⟩
theorem Keeps.of_below {T : List Nat} {a b : World} (h : Below a.heap.size a b) : Keeps T a b := ⟨h.os, h.tape, h.output, h.size, fun k hk _ => h.block k hk⟩
theorem Keeps.of_grown {g : Nat} {T : List Nat} {a b : World} (h : a.grownBy b (some g)) (hg : g ∈ T) : Keeps T a b :=
  ⟨h.os, h.tape, h.output, h.size, fun k hk hn => h.block k hk fun e => hn (by injection e with e; rw [e]; exact hg)⟩
theorem Keeps.of_grown_none {T : List Nat} {a b : World} (h : a.grownBy b none) : Keeps T a b :=
  ⟨h.os, h.tape, h.output, h.size, fun k hk _ => h.block k hk (by simp)⟩
theorem Keeps.alloc {T : List Nat} {a b : World} (h : Keeps T a b) (o : Obj) : Keeps T a (b.alloc o) :=
  h.trans ⟨rfl, rfl, rfl, by simp, fun k hk _ => Below.heap_alloc _ _ _ hk⟩
theorem Keeps.setCell {T : List Nat} {a b : World} (h : Keeps T a b) {p : Addr} (hp : p.block ∈ T) (u : Value) : Keeps T a (b.setCell p u) :=
  h.trans ⟨rfl, rfl, rfl, by simp [World.setCell], fun k _ hk => Below.heap_setCell _ _ _ _ (fun e => hk (e ▸ hp))⟩
theorem Keeps.below {T : List Nat} {a b : World} (h : Keeps T a b) {B : Nat} (hB : B ≤ a.heap.size) (hT : ∀ k ∈ T, B ≤ k) : Below B a b :=
  ⟨h.os, h.tape, h.output, h.size, fun k hk => h.block k (by omega) fun hm => by have := hT k hm; omega⟩
theorem Keeps.cell {T : List Nat} {a b : World} (h : Keeps T a b) {p : Addr} {v : Value} (hv : a.cell? p = some v) (hp : p.block ∉ T) : b.cell? p = some v :=
  (World.cell?_of_block (h.block p.block (World.block_lt_of_cell? a p hv) hp)).trans hv
theorem Keeps.frozen {T : List Nat} {a b : World} (h : Keeps T a b) {p : Addr} (hl : p.block < a.heap.size) (hp : p.block ∉ T) : b.frozen? p = a.frozen? p :=
  World.frozen?_of_block (h.block p.block hl hp)

/-- The slice at the head of block g, n items long, room for cap, holds xs. -/
def Own (w : World) (g n cap : Nat) (xs : List It) : Prop :=
  w.ownsRow 0 28 2 (.slice (some ⟨g, 0, none⟩) n cap) n (flat xs)

section
variable {w w' : World} {g n cap : Nat} {xs : List It}

theorem Own.len (h : Own w g n cap xs) : xs.length = n := by
  have := h.1; rw [flat_length] at this; omega
theorem Own.lt (h : Own w g n cap xs) : g < w.heap.size := (World.ownsRow.lt h g rfl).2
theorem Own.capLe (h : Own w g n cap xs) : n ≤ cap := by
  rcases h.2 with ⟨h', _⟩ | ⟨g', cap', cur, h', _, _, hc, _⟩
  · simp at h'
  · simp only [Value.slice.injEq, Option.some.injEq, Addr.mk.injEq, and_true, true_and] at h'
    omega
theorem Own.cell0 (h : Own w g n cap xs) {i : Nat} (hi : i < n) : w.cell? ⟨g, i * 2, none⟩ = some (.int .i64 (ats xs i).1) := by
  rw [World.ownsRow.cellAt h (i * 2) (by omega), flat_0 xs i (by rw [h.len]; exact hi)]
theorem Own.cell1 (h : Own w g n cap xs) {i : Nat} (hi : i < n) : w.cell? ⟨g, i * 2 + 1, none⟩ = some (.int .u32 (ats xs i).2) := by
  rw [World.ownsRow.cellAt h (i * 2 + 1) (by omega), flat_1 xs i (by rw [h.len]; exact hi)]
theorem Own.free (h : Own w g n cap xs) (j : Nat) : w.frozen? ⟨g, j, none⟩ = false := World.ownsRow.frozenAt h j
theorem Own.keep {T : List Nat} (h : Own w g n cap xs) (hk : Keeps T w w') (hg : g ∉ T) : Own w' g n cap xs := by
  refine ⟨h.1, ?_⟩
  rcases h.2 with ⟨h', _⟩ | ⟨g', cap', cur, h', hb, hgg, rest⟩
  · simp at h'
  · simp only [Value.slice.injEq, Option.some.injEq, Addr.mk.injEq, and_true, true_and] at h'
    obtain ⟨rfl, rfl⟩ := h'
    exact .inr ⟨_, _, cur, rfl, hb, by rw [hk.block _ (Array.getElem?_eq_some_iff.1 hgg).1 hg]; exact hgg, rest⟩
theorem Own.drew (h : Own w g n cap xs) : Own w.drew g n cap xs := h.keep (T := []) (Keeps.refl _ _).drew (by simp)
theorem Own.set (h : Own w g n cap xs) (i : Nat) (x : It) : Own ((w.setCell ⟨g, i * 2, none⟩ (.int .i64 x.1)).setCell ⟨g, i * 2 + 1, none⟩ (.int .u32 x.2)) g n cap (xs.set i x) := by
  have h1 := (World.ownsRow.stored h (i * 2) (.int .i64 x.1)).1
  have h2 := (World.ownsRow.stored h1 (i * 2 + 1) (.int .u32 x.2)).1
  rw [flat_set] at h2
  exact h2
/-- The slice cut at its end: 's[:m]'. -/
theorem Own.cut (h : Own w g n cap xs) (m : Nat) (hm : m ≤ n) : Own w g m cap (xs.take m) := by
  have hl := h.len
  refine ⟨by rw [flat_length, List.length_take]; congr 1; omega, ?_⟩
  rcases h.2 with ⟨h', _⟩ | ⟨g', cap', cur, h', hb, hgg, hc, hcm, hcs, ht⟩
  · simp at h'
  · simp only [Value.slice.injEq, Option.some.injEq, Addr.mk.injEq, and_true, true_and] at h'
    obtain ⟨rfl, rfl⟩ := h'
    refine .inr ⟨_, _, cur, rfl, hb, hgg, by omega, hcm, hcs, ?_⟩
    rw [← flat_take, ← ht, List.take_take]
    congr 1
    omega
end

/-- Four cells behind a step that makes memory alone. -/
theorem keepc {w w' : World} {a : Addr} {v : Value} (hb : Below w.heap.size w w') (h : w.cell? a = some v) : w'.cell? a = some v := by
  rw [hb.cell (World.block_lt_of_cell? w a h)]; exact h
theorem keep4 {w w' : World} {a b c d : Addr} {x y z u : Value} (hb : Below w.heap.size w w') (h : w.cell? a = some x ∧ w.cell? b = some y ∧ w.cell? c = some z ∧ w.cell? d = some u) :
    w'.cell? a = some x ∧ w'.cell? b = some y ∧ w'.cell? c = some z ∧ w'.cell? d = some u :=
  ⟨keepc hb h.1, keepc hb h.2.1, keepc hb h.2.2.1, keepc hb h.2.2.2⟩

end Go.Proofs.Ymwhar
