/- What a call may turn: a set of blocks, and what is new. -/
import Derived.Test.YtonndofbnhnkpaaStatW
import Derived.StillTailTactics
namespace Go.Proofs.Ytonndofbnhnkpaa.Blk
open Go.RowKit Num KeyM KeyW StatW
/-- But for the blocks of S, what was there is as it was. -/
structure Ch (S : Nat → Prop) (w w' : World) : Prop where
  os : w'.os = w.os
  tape : w'.tape = w.tape
  output : w'.output = w.output
  size : w.heap.size ≤ w'.heap.size
  block : ∀ k, k < w.heap.size → ¬ S k → w'.heap[k]? = w.heap[k]?
variable {S T : Nat → Prop} {a b w w' : World}
theorem Ch.refl (S : Nat → Prop) (w : World) : Ch S w w := ⟨rfl, rfl, rfl, Nat.le_refl _, fun _ _ _ => rfl⟩
theorem Ch.trans (h : Ch S a b) (k : Ch S b w) : Ch S a w :=
  ⟨k.os.trans h.os, k.tape.trans h.tape, k.output.trans h.output, Nat.le_trans h.size k.size, fun i hi hn => (k.block i (Nat.lt_of_lt_of_le hi h.size) hn).trans (h.block i hi hn)⟩
/-- What comes second may turn what is new, too. -/
theorem Ch.then (h : Ch S a b) (k : Ch T b w) (hT : ∀ i, i < a.heap.size → T i → S i) : Ch S a w :=
  ⟨k.os.trans h.os, k.tape.trans h.tape, k.output.trans h.output, Nat.le_trans h.size k.size, fun i hi hn => (k.block i (Nat.lt_of_lt_of_le hi h.size) (fun ht => hn (hT i hi ht))).trans (h.block i hi hn)⟩
theorem Ch.mono (h : Ch S a b) (hT : ∀ i, i < a.heap.size → S i → T i) : Ch T a b := ⟨h.os, h.tape, h.output, h.size, fun i hi hn => h.block i hi (fun hs => hn (hT i hi hs))⟩
theorem Ch.of_bl (h : Bl a b) : Ch S a b := ⟨h.os, h.tape, h.output, h.size, fun i hi _ => h.block i hi⟩
theorem Ch.bl (h : Ch S a b) (hs : ∀ i, i < a.heap.size → ¬ S i) : Bl a b := ⟨h.os, h.tape, h.output, h.size, fun i hi => h.block i hi (hs i hi)⟩
theorem Ch.below (h : Ch S a b) {B : Nat} (hB : B ≤ a.heap.size) (hs : ∀ i, i < B → ¬ S i) : Below B a b := ⟨h.os, h.tape, h.output, h.size, fun i hi => h.block i (Nat.lt_of_lt_of_le hi hB) (hs i hi)⟩
theorem Ch.alloc (h : Ch S a w) (o : Obj) : Ch S a (w.alloc o) :=
  ⟨h.os, h.tape, h.output, Nat.le_trans h.size (by simp), fun i hi hn => (Below.heap_alloc w o i (Nat.lt_of_lt_of_le hi h.size)).trans (h.block i hi hn)⟩
theorem Ch.drewN (h : Ch S a w) (n : Nat) : Ch S a (w.drewN n) := ⟨h.os, h.tape, h.output, h.size, h.block⟩
theorem Ch.drew (h : Ch S a w) : Ch S a w.drew := ⟨h.os, h.tape, h.output, h.size, h.block⟩
theorem Ch.set (h : Ch S a w) {p : Addr} (hp : S p.block ∨ a.heap.size ≤ p.block) (u : Value) : Ch S a (w.setCell p u) :=
  ⟨h.os, h.tape, h.output, by simpa [World.setCell] using h.size, fun i hi hn => (Below.heap_setCell w p u i (by
    rintro rfl
    rcases hp with hp | hp
    · exact hn hp
    · omega)).trans (h.block i hi hn)⟩
theorem lt_of_cell {w : World} {p : Addr} {v : Value} (h : w.cell? p = some v) : p.block < w.heap.size := by
  unfold World.cell? at h
  rcases Nat.lt_or_ge p.block w.heap.size with g | g
  · exact g
  · simp [Array.getElem?_eq_none g] at h
theorem Ch.cell (h : Ch S w w') {p : Addr} {v : Value} (hc : w.cell? p = some v) (hn : ¬ S p.block) : w'.cell? p = some v :=
  (World.cell?_of_block (h.block _ (lt_of_cell hc) hn)).trans hc
theorem Ch.row (h : Ch S w w') {B n : Nat} {t : TypeId} {f : Nat → Value} (hr : w.rowIs B t n f) (hn : ¬ S B) : w'.rowIs B t n f := hr.of_block (h.block B hr.lt hn)
theorem Ch.setB {B : Nat} (h : Ch (· = B) a w) {o : Nat} {sp : Option Nat} (u : Value) : Ch (· = B) a (w.setCell ⟨B, o, sp⟩ u) := h.set (Or.inl rfl) u
/-- A region whose first n operations read, and whose last ones come in one order. -/
theorem still_tail {P : Program} {id : Nat} {Q : Exit → Act → World → Prop} {a : Act} {w : World} {l : List Oper} (n : Nat) (hm : P.follows .mixedOrders = true) (hB : Region.lexTailB .any l.toArray n = true)
    (h : wpStill P l.toArray w.drew (fun a' => wpList P l.toArray Q (l.drop n) a' w.drew) (l.take n) a) : (Code.region id l.toArray true).wp P Q a w := wp_region_still_tail n hm hB h
def four (a b c d : Value) (j : Nat) : Value := if j = 0 then a else if j = 1 then b else if j = 2 then c else d
theorem row4_alloc (w : World) (a b c d : Value) (t : TypeId) : (w.alloc (.cells #[a, b, c, d] t)).rowIs w.heap.size t 4 (four a b c d) :=
  World.rowIs_alloc w #[a, b, c, d] t _ (fun i hi => by
    have hi : i < 4 := hi
    obtain rfl | rfl | rfl | rfl : i = 0 ∨ i = 1 ∨ i = 2 ∨ i = 3 := by omega
    all_goals rfl)
theorem row4_alloc1 (w : World) (o : Obj) (a b c d : Value) (t : TypeId) : ((w.alloc o).alloc (.cells #[a, b, c, d] t)).rowIs (w.heap.size + 1) t 4 (four a b c d) := by
  have h := row4_alloc (w.alloc o) a b c d t
  have hs : (w.alloc o).heap.size = w.heap.size + 1 := by simp
  rw [hs] at h
  exact h
theorem row4_cells {w : World} {B : Nat} {t : TypeId} {a b c d : Value} (h : w.rowIs B t 4 (four a b c d)) :
    (w.cell? ⟨B, 0, none⟩ = some a ∧ w.cell? ⟨B, 1, none⟩ = some b ∧ w.cell? ⟨B, 2, none⟩ = some c ∧ w.cell? ⟨B, 3, none⟩ = some d) ∧
    w.frozen? ⟨B, 0, none⟩ = false ∧ w.frozen? ⟨B, 1, none⟩ = false ∧ w.frozen? ⟨B, 2, none⟩ = false ∧ w.frozen? ⟨B, 3, none⟩ = false :=
  ⟨⟨h.cell (i := 0) (by omega), h.cell (i := 1) (by omega), h.cell (i := 2) (by omega), h.cell (i := 3) (by omega)⟩, h.frozen 0, h.frozen 1, h.frozen 2, h.frozen 3⟩
theorem Ch.setN (h : Ch S a w) {b o : Nat} {sp : Option Nat} (hb : a.heap.size ≤ b) (u : Value) : Ch S a (w.setCell ⟨b, o, sp⟩ u) := h.set (Or.inr hb) u
theorem row_setO {w : World} {B n : Nat} {t : TypeId} {f : Nat → Value} (h : w.rowIs B t n f) {b o : Nat} {sp : Option Nat} (hb : B ≠ b) (u : Value) : (w.setCell ⟨b, o, sp⟩ u).rowIs B t n f := h.setOther hb u
theorem row_drewN {w : World} {B n : Nat} {t : TypeId} {f : Nat → Value} (h : w.rowIs B t n f) (k : Nat) : (w.drewN k).rowIs B t n f := h
end Go.Proofs.Ytonndofbnhnkpaa.Blk
