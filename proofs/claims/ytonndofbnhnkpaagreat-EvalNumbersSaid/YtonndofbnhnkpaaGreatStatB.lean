/- What events tell, in plain Lean: counts by a fold; which orders are; ends, sorted by insertion. The contracts of package stats' counters. What a call may turn: a set of blocks, and what is new. -/
import Derived.Test.YtonndofbnhnkpaaGreatKeyB
import Derived.Deep.OwnRows
import Derived.Deep.RegionHeld3
import Derived.Deep.RegionWith
import Derived.WalkLawsBesides
import Derived.StillTailTactics
set_option linter.unusedSimpArgs false
namespace Go.Proofs.YtonndofbnhnkpaaGreat.StatM
open KeyM

structure Ev where
  kind : Int
  key : Int
  how : Int
  val : Int

structure St where
  st : Int
  fi : Int
  va : Int
  er : Int
  se : Int
  de : Int
  op : Int

def St.zero : St := ⟨0, 0, 0, 0, 0, 0, 0⟩

def step (s : St) (e : Ev) : St :=
  if e.kind = 1 then { s with st := s.st + 1, op := s.op + 1, de := max s.de (dep e.key) }
  else if e.kind = 2 then (if e.how = 1 then { s with fi := s.fi + 1, op := s.op - 1, va := s.va + 1 } else { s with fi := s.fi + 1, op := s.op - 1, er := s.er + 1 })
  else if e.kind = 3 then { s with se := s.se + 1 } else s

def ofM (es : List Ev) : St := es.foldl step St.zero

/-- What is known of counts behind so many events. -/
structure Bd (s : St) (n : Int) : Prop where
  a0 : 0 ≤ s.st
  a1 : s.st ≤ n
  b0 : 0 ≤ s.fi
  b1 : s.fi ≤ n
  c0 : 0 ≤ s.va
  c1 : s.va ≤ n
  d0 : 0 ≤ s.er
  d1 : s.er ≤ n
  e0 : 0 ≤ s.se
  e1 : s.se ≤ n
  f0 : 0 ≤ s.de
  f1 : s.de ≤ 5
  g : s.op = s.st - s.fi
  h : s.fi = s.va + s.er
  i : s.st + s.fi + s.se ≤ n

theorem bd_zero : Bd St.zero 0 := by constructor <;> decide
theorem bd_step {s : St} {n : Int} (h : Bd s n) (e : Ev) : Bd (step s e) (n + 1) := by
  obtain ⟨h1, h2, h3, h4, h5, h6, h7, h8, h9, h10, h11, h12, h13, h14, h15⟩ := h
  have l := dep_lo e.key
  have u := dep_hi e.key
  unfold step
  by_cases k1 : e.kind = 1
  · rw [if_pos k1]; constructor <;> (try simp only) <;> omega
  · rw [if_neg k1]
    by_cases k2 : e.kind = 2
    · rw [if_pos k2]; split <;> constructor <;> (try simp only) <;> omega
    · rw [if_neg k2]; split <;> constructor <;> (try simp only) <;> omega
theorem bd_foldl (es : List Ev) : ∀ {s : St} {n : Int}, Bd s n → Bd (es.foldl step s) (n + es.length) := by
  induction es with
  | nil => intro s n h; simpa using h
  | cons e es ih =>
    intro s n h
    have := ih (bd_step h e)
    rw [List.foldl_cons, List.length_cons]
    have e1 : n + 1 + (es.length : Int) = n + ((es.length + 1 : Nat) : Int) := by omega
    rw [← e1]; exact this
theorem bd_of (es : List Ev) : Bd (ofM es) es.length := by
  have := bd_foldl es bd_zero
  rw [Int.zero_add] at this
  exact this

/-- Two lists, one behind the other: the sums. -/
def add (a b : St) : St := ⟨a.st + b.st, a.fi + b.fi, a.va + b.va, a.er + b.er, a.se + b.se, max a.de b.de, a.op + b.op⟩
theorem step_add (a b : St) (e : Ev) : step (add a b) e = add a (step b e) := by
  unfold step
  by_cases k1 : e.kind = 1
  · rw [if_pos k1, if_pos k1]; simp only [add, Int.max_assoc, Int.add_assoc]
  · rw [if_neg k1, if_neg k1]
    by_cases k2 : e.kind = 2
    · rw [if_pos k2, if_pos k2]; split <;> simp only [add, Int.add_assoc, Int.add_sub_assoc]
    · rw [if_neg k2, if_neg k2]; split <;> simp only [add, Int.add_assoc, Int.add_sub_assoc]
theorem foldl_add (es : List Ev) : ∀ a b : St, es.foldl step (add a b) = add a (es.foldl step b) := by
  induction es with
  | nil => intro a b; rfl
  | cons e es ih => intro a b; rw [List.foldl_cons, List.foldl_cons, step_add, ih]
theorem ofM_append (a b : List Ev) : ofM (a ++ b) = add (ofM a) (ofM b) := by
  have h := bd_of a
  have e : ofM a = add (ofM a) St.zero := by
    have := h.f0
    cases hh : ofM a with
    | mk st fi va er se de op => rw [hh] at this; simp only [add, St.zero, St.mk.injEq] at *; omega
  have : ofM (a ++ b) = b.foldl step (ofM a) := by unfold ofM; rw [List.foldl_append]
  rw [this, e, foldl_add, ← e]; rfl
theorem ofM_snoc (es : List Ev) (e : Ev) : ofM (es ++ [e]) = step (ofM es) e := by unfold ofM; rw [List.foldl_append]; rfl

/-- The keys of tasks that finished. -/
def fins (es : List Ev) : List Int := (es.filter fun e => e.kind == 2).map (·.key)
theorem fins_snoc (es : List Ev) (e : Ev) : fins (es ++ [e]) = if e.kind = 2 then fins es ++ [e.key] else fins es := by
  unfold fins
  rw [List.filter_append, List.map_append]
  by_cases h : e.kind = 2 <;> simp [h]
/-- In order: of each two that finished the one that is ahead comes first. -/
def ordM (es : List Ev) : Bool := decide ((fins es).Pairwise fun a b => KeyM.ahead b a = false)
theorem ordM_true (es : List Ev) : ordM es = true ↔ (fins es).Pairwise fun a b => KeyM.ahead b a = false := by unfold ordM; exact decide_eq_true_iff
theorem ord_append {a b : List Ev} (h : ordM (a ++ b) = true) : ordM a = true ∧ ordM b = true := by
  rw [ordM_true] at *
  rw [ordM_true]
  have e : fins (a ++ b) = fins a ++ fins b := by unfold fins; rw [List.filter_append, List.map_append]
  rw [e, List.pairwise_append] at h
  exact ⟨h.1, h.2.1⟩

theorem ord_snoc (es : List Ev) (e : Ev) : ordM (es ++ [e]) = true ↔ (ordM es = true ∧ (e.kind = 2 → ∀ k ∈ fins es, KeyM.ahead e.key k = false)) := by
  rw [ordM_true, ordM_true, fins_snoc]
  by_cases h : e.kind = 2
  · rw [if_pos h, List.pairwise_append]
    constructor
    · rintro ⟨h1, _, h3⟩
      exact ⟨h1, fun _ k hk => h3 k hk e.key (by simp)⟩
    · rintro ⟨h1, h3⟩
      refine ⟨h1, by simp, fun k hk y hy => ?_⟩
      rw [List.mem_singleton] at hy
      subst hy
      exact h3 h k hk
  · rw [if_neg h]
    exact ⟨fun h1 => ⟨h1, fun h2 => absurd h2 h⟩, fun h1 => h1.1⟩
theorem ord_take {es : List Ev} (h : ordM es = true) (i : Nat) : ordM (es.take i) = true := by
  have : es.take i ++ es.drop i = es := List.take_append_drop i es
  rw [← this] at h
  exact (ord_append h).1

structure Ran where
  key : Int
  how : Int
  val : Int

/-- Inserted by key, behind all that are not greater. -/
def ins (x : Ran) : List Ran → List Ran
  | [] => [x]
  | y :: m => if x.key < y.key then x :: y :: m else y :: ins x m
def ran (e : Ev) : Ran := ⟨e.key, e.how, e.val⟩
def stepE (m : List Ran) (e : Ev) : List Ran := if e.kind = 2 then ins (ran e) m else m
def endsM (es : List Ev) : List Ran := es.foldl stepE []
theorem endsM_snoc (es : List Ev) (e : Ev) : endsM (es ++ [e]) = stepE (endsM es) e := by unfold endsM; rw [List.foldl_append]; rfl
def Sorted (m : List Ran) : Prop := m.Pairwise fun a b => a.key ≤ b.key
theorem ins_mem (x y : Ran) (m : List Ran) : y ∈ ins x m ↔ y = x ∨ y ∈ m := by
  induction m with
  | nil => simp [ins]
  | cons z m ih =>
    unfold ins
    split
    · simp
    · rw [List.mem_cons, ih, List.mem_cons]
      constructor
      · rintro (h | h | h) <;> simp [h]
      · rintro (h | h | h) <;> simp [h]
theorem ins_sorted (x : Ran) (m : List Ran) (h : Sorted m) : Sorted (ins x m) := by
  unfold Sorted at *
  induction m with
  | nil => simp [ins]
  | cons z m ih =>
    rw [List.pairwise_cons] at h
    unfold ins
    split
    · rename_i g
      rw [List.pairwise_cons, List.pairwise_cons]
      refine ⟨fun y hy => ?_, h⟩
      rw [List.mem_cons] at hy
      rcases hy with rfl | hy
      · omega
      · have := h.1 y hy; omega
    · rename_i g
      rw [List.pairwise_cons]
      refine ⟨fun y hy => ?_, ih h.2⟩
      rw [ins_mem] at hy
      rcases hy with rfl | hy
      · omega
      · exact h.1 y hy
theorem ins_len (x : Ran) (m : List Ran) : (ins x m).length = m.length + 1 := by
  induction m with
  | nil => rfl
  | cons z m ih => unfold ins; split <;> simp [ih]
theorem stepE_sorted (m : List Ran) (e : Ev) (h : Sorted m) : Sorted (stepE m e) := by
  unfold stepE; split
  · exact ins_sorted _ _ h
  · exact h
theorem endsM_sorted (es : List Ev) : Sorted (endsM es) := by
  unfold endsM
  have : ∀ (m : List Ran), Sorted m → Sorted (es.foldl stepE m) := by
    induction es with
    | nil => intro m h; exact h
    | cons e es ih => intro m h; exact ih _ (stepE_sorted m e h)
  exact this [] List.Pairwise.nil
/-- Where it goes in: behind i of them. -/
theorem ins_at (x : Ran) (m : List Ran) (i : Nat) (hi : i ≤ m.length) (h1 : ∀ j y, j < i → m[j]? = some y → ¬ x.key < y.key) (h2 : ∀ y, m[i]? = some y → x.key < y.key) : ins x m = m.take i ++ x :: m.drop i := by
  induction m generalizing i with
  | nil => simp at hi; subst hi; rfl
  | cons z m ih =>
    cases i with
    | zero => unfold ins; rw [if_pos (h2 z rfl)]; rfl
    | succ i =>
      unfold ins
      rw [if_neg (h1 0 z (by omega) rfl), ih i (by simpa using hi) (fun j y hj hy => h1 (j + 1) y (by omega) (by simpa using hy)) (fun y hy => h2 y (by simpa using hy))]
      rfl
theorem endsM_len (es : List Ev) : ((endsM es).length : Int) = (ofM es).fi := by
  unfold endsM ofM
  have : ∀ (m : List Ran) (s : St), (m.length : Int) = s.fi → ((es.foldl stepE m).length : Int) = (es.foldl step s).fi := by
    induction es with
    | nil => intro m s h; exact h
    | cons e es ih =>
      intro m s h
      rw [List.foldl_cons, List.foldl_cons]
      apply ih
      unfold stepE step
      by_cases k1 : e.kind = 1
      · rw [if_neg (by omega), if_pos k1]; exact h
      · by_cases k2 : e.kind = 2
        · rw [if_pos k2, if_neg k1, if_pos k2, ins_len]; split <;> simp only <;> omega
        · rw [if_neg k2, if_neg k1, if_neg k2]; split <;> exact h
  exact this [] St.zero rfl
end Go.Proofs.YtonndofbnhnkpaaGreat.StatM
namespace Go.Proofs.YtonndofbnhnkpaaGreat.StatW
open Go.RowKit Num KeyM KeyW StatM

/-- The counts' cells. -/
def stF (s : St) (j : Nat) : Value := .int .i64 (if j = 0 then s.st else if j = 1 then s.fi else if j = 2 then s.va else if j = 3 then s.er else if j = 4 then s.se else if j = 5 then s.de else s.op)
def evV (e : Ev) : Value := .agg #[.int .i64 e.kind, .int .i64 e.key, .int .i64 e.how, .int .i64 e.val]

/-- Only block B has turned, and what is new. -/
def On (B : Nat) (w w' : World) : Prop := w.grownBy w' (some B)
theorem on_refl (B : Nat) (w : World) : On B w w := ⟨rfl, rfl, rfl, Nat.le_refl _, fun _ _ _ => rfl⟩
theorem on_alloc {B : Nat} {a w : World} (h : On B a w) (o : Obj) : On B a (w.alloc o) :=
  ⟨h.os, h.tape, h.output, Nat.le_trans h.size (by simp), fun i hi hne => (Below.heap_alloc w o i (Nat.lt_of_lt_of_le hi h.size)).trans (h.block i hi hne)⟩
theorem on_drewN {B : Nat} {a w : World} (h : On B a w) (n : Nat) : On B a (w.drewN n) := ⟨h.os, h.tape, h.output, h.size, h.block⟩
theorem on_drew {B : Nat} {a w : World} (h : On B a w) : On B a w.drew := ⟨h.os, h.tape, h.output, h.size, h.block⟩
theorem on_bl {B : Nat} {a w w' : World} (h : On B a w) (k : Bl w w') : On B a w' :=
  ⟨k.os.trans h.os, k.tape.trans h.tape, k.output.trans h.output, Nat.le_trans h.size k.size, fun i hi hne => (k.block i (Nat.lt_of_lt_of_le hi h.size)).trans (h.block i hi hne)⟩
theorem on_set {B : Nat} {a w : World} (h : On B a w) {p : Addr} (hp : p.block = B ∨ a.heap.size ≤ p.block) (u : Value) : On B a (w.setCell p u) :=
  ⟨h.os, h.tape, h.output, by simpa [World.setCell] using h.size, fun i hi hne => (Below.heap_setCell w p u i (by
    rintro rfl
    rcases hp with hp | hp
    · exact hne (by rw [hp])
    · omega)).trans (h.block i hi hne)⟩

theorem on_setB {B : Nat} {a w : World} (h : On B a w) {o : Nat} {sp : Option Nat} (u : Value) : On B a (w.setCell ⟨B, o, sp⟩ u) := on_set h (Or.inl rfl) u

theorem Bl.drew {w w' : World} (h : Bl w w') : Bl w w'.drew := Bl.drewN h 1
theorem st_cell {w w' : World} {p : Addr} {v : Value} (hB : Bl w w') (h : w.cell? p = some v) : w'.cell? p = some v := by
  have hb : p.block < w.heap.size := by
    have hc := h
    unfold World.cell? at hc
    rcases Nat.lt_or_ge p.block w.heap.size with g | g
    · exact g
    · simp [Array.getElem?_eq_none g] at hc
  exact (Below.cell hB hb).trans h
theorem st_frozen {w w' : World} {p : Addr} {v : Value} (hB : Bl w w') (h : w.cell? p = some v) (hf : w.frozen? p = false) : w'.frozen? p = false := by
  have hb : p.block < w.heap.size := by
    have hc := h
    unfold World.cell? at hc
    rcases Nat.lt_or_ge p.block w.heap.size with g | g
    · exact g
    · simp [Array.getElem?_eq_none g] at hc
  exact (Below.frozen hB hb).trans hf

theorem row_bl {w w' : World} {b n : Nat} {t : TypeId} {f : Nat → Value} (h : w.rowIs b t n f) (hB : Bl w w') : w'.rowIs b t n f := h.of_block (hB.block b h.lt)

end Go.Proofs.YtonndofbnhnkpaaGreat.StatW
namespace Go.Proofs.YtonndofbnhnkpaaGreat.Blk
open Go.RowKit Num KeyM KeyW StatW
/-- But for the blocks of S, what was there is as it was. -/
structure Ch (S : Nat → Prop) (w w' : World) : Prop where
  os : w'.os = w.os
  tape : w'.tape = w.tape
  output : w'.output = w.output
  size : w.heap.size ≤ w'.heap.size
  block : ∀ k, k < w.heap.size → ¬ S k → w'.heap[k]? = w.heap[k]?
variable {S T : Nat → Prop} {a b w w' : World}
theorem Ch.refl (S : Nat → Prop) (w : World) : Ch S w w := ⟨rfl, rfl, rfl, Nat.le_refl _, fun _ _ _ => rfl⟩
theorem Ch.trans (h : Ch S a b) (k : Ch S b w) : Ch S a w :=
  ⟨k.os.trans h.os, k.tape.trans h.tape, k.output.trans h.output, Nat.le_trans h.size k.size, fun i hi hn => (k.block i (Nat.lt_of_lt_of_le hi h.size) hn).trans (h.block i hi hn)⟩
/-- What comes second may turn what is new, too. -/
theorem Ch.then (h : Ch S a b) (k : Ch T b w) (hT : ∀ i, i < a.heap.size → T i → S i) : Ch S a w :=
  ⟨k.os.trans h.os, k.tape.trans h.tape, k.output.trans h.output, Nat.le_trans h.size k.size, fun i hi hn => (k.block i (Nat.lt_of_lt_of_le hi h.size) (fun ht => hn (hT i hi ht))).trans (h.block i hi hn)⟩
theorem Ch.mono (h : Ch S a b) (hT : ∀ i, i < a.heap.size → S i → T i) : Ch T a b := ⟨h.os, h.tape, h.output, h.size, fun i hi hn => h.block i hi (fun hs => hn (hT i hi hs))⟩
theorem Ch.of_bl (h : Bl a b) : Ch S a b := ⟨h.os, h.tape, h.output, h.size, fun i hi _ => h.block i hi⟩
theorem Ch.bl (h : Ch S a b) (hs : ∀ i, i < a.heap.size → ¬ S i) : Bl a b := ⟨h.os, h.tape, h.output, h.size, fun i hi => h.block i hi (hs i hi)⟩
theorem Ch.below (h : Ch S a b) {B : Nat} (hB : B ≤ a.heap.size) (hs : ∀ i, i < B → ¬ S i) : Below B a b := ⟨h.os, h.tape, h.output, h.size, fun i hi => h.block i (Nat.lt_of_lt_of_le hi hB) (hs i hi)⟩
theorem Ch.alloc (h : Ch S a w) (o : Obj) : Ch S a (w.alloc o) :=
  ⟨h.os, h.tape, h.output, Nat.le_trans h.size (by simp), fun i hi hn => (Below.heap_alloc w o i (Nat.lt_of_lt_of_le hi h.size)).trans (h.block i hi hn)⟩
theorem Ch.drewN (h : Ch S a w) (n : Nat) : Ch S a (w.drewN n) := ⟨h.os, h.tape, h.output, h.size, h.block⟩
theorem Ch.drew (h : Ch S a w) : Ch S a w.drew := ⟨h.os, h.tape, h.output, h.size, h.block⟩
theorem Ch.set (h : Ch S a w) {p : Addr} (hp : S p.block ∨ a.heap.size ≤ p.block) (u : Value) : Ch S a (w.setCell p u) :=
  ⟨h.os, h.tape, h.output, by simpa [World.setCell] using h.size, fun i hi hn => (Below.heap_setCell w p u i (by
    rintro rfl
    rcases hp with hp | hp
    · exact hn hp
    · omega)).trans (h.block i hi hn)⟩
theorem lt_of_cell {w : World} {p : Addr} {v : Value} (h : w.cell? p = some v) : p.block < w.heap.size := by
  unfold World.cell? at h
  rcases Nat.lt_or_ge p.block w.heap.size with g | g
  · exact g
  · simp [Array.getElem?_eq_none g] at h
theorem Ch.cell (h : Ch S w w') {p : Addr} {v : Value} (hc : w.cell? p = some v) (hn : ¬ S p.block) : w'.cell? p = some v :=
  (World.cell?_of_block (h.block _ (lt_of_cell hc) hn)).trans hc
theorem Ch.row (h : Ch S w w') {B n : Nat} {t : TypeId} {f : Nat → Value} (hr : w.rowIs B t n f) (hn : ¬ S B) : w'.rowIs B t n f := hr.of_block (h.block B hr.lt hn)
theorem Ch.setB {B : Nat} (h : Ch (· = B) a w) {o : Nat} {sp : Option Nat} (u : Value) : Ch (· = B) a (w.setCell ⟨B, o, sp⟩ u) := h.set (Or.inl rfl) u
/-- A region whose first n operations read, and whose last ones come in one order. -/
theorem still_tail {P : Program} {id : Nat} {Q : Exit → Act → World → Prop} {a : Act} {w : World} {l : List Oper} (n : Nat) (hm : P.follows .mixedOrders = true) (hB : Region.lexTailB .any l.toArray n = true)
    (h : wpStill P l.toArray w.drew (fun a' => wpList P l.toArray Q (l.drop n) a' w.drew) (l.take n) a) : (Code.region id l.toArray true).wp P Q a w := wp_region_still_tail n hm hB h
def four (a b c d : Value) (j : Nat) : Value := if j = 0 then a else if j = 1 then b else if j = 2 then c else d
theorem row4_alloc (w : World) (a b c d : Value) (t : TypeId) : (w.alloc (.cells #[a, b, c, d] t)).rowIs w.heap.size t 4 (four a b c d) :=
  World.rowIs_alloc w #[a, b, c, d] t _ (fun i hi => by
    have hi : i < 4 := hi
    obtain rfl | rfl | rfl | rfl : i = 0 ∨ i = 1 ∨ i = 2 ∨ i = 3 := by omega
    all_goals rfl)
theorem row4_alloc1 (w : World) (o : Obj) (a b c d : Value) (t : TypeId) : ((w.alloc o).alloc (.cells #[a, b, c, d] t)).rowIs (w.heap.size + 1) t 4 (four a b c d) := by
  have h := row4_alloc (w.alloc o) a b c d t
  have hs : (w.alloc o).heap.size = w.heap.size + 1 := by simp
  rw [hs] at h
  exact h
theorem row4_cells {w : World} {B : Nat} {t : TypeId} {a b c d : Value} (h : w.rowIs B t 4 (four a b c d)) :
    (w.cell? ⟨B, 0, none⟩ = some a ∧ w.cell? ⟨B, 1, none⟩ = some b ∧ w.cell? ⟨B, 2, none⟩ = some c ∧ w.cell? ⟨B, 3, none⟩ = some d) ∧
    w.frozen? ⟨B, 0, none⟩ = false ∧ w.frozen? ⟨B, 1, none⟩ = false ∧ w.frozen? ⟨B, 2, none⟩ = false ∧ w.frozen? ⟨B, 3, none⟩ = false :=
  ⟨⟨h.cell (i := 0) (by omega), h.cell (i := 1) (by omega), h.cell (i := 2) (by omega), h.cell (i := 3) (by omega)⟩, h.frozen 0, h.frozen 1, h.frozen 2, h.frozen 3⟩
theorem Ch.setN (h : Ch S a w) {b o : Nat} {sp : Option Nat} (hb : a.heap.size ≤ b) (u : Value) : Ch S a (w.setCell ⟨b, o, sp⟩ u) := h.set (Or.inr hb) u
theorem row_setO {w : World} {B n : Nat} {t : TypeId} {f : Nat → Value} (h : w.rowIs B t n f) {b o : Nat} {sp : Option Nat} (hb : B ≠ b) (u : Value) : (w.setCell ⟨b, o, sp⟩ u).rowIs B t n f := h.setOther hb u
theorem row_drewN {w : World} {B n : Nat} {t : TypeId} {f : Nat → Value} (h : w.rowIs B t n f) (k : Nat) : (w.drewN k).rowIs B t n f := h
end Go.Proofs.YtonndofbnhnkpaaGreat.Blk
