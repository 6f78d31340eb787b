/- What events tell, in plain Lean: counts by a fold; which orders are; ends, sorted by insertion. -/
import Derived.Test.YtonndofbnhnkpaaKeyC
set_option linter.unusedSimpArgs false
namespace Go.Proofs.Ytonndofbnhnkpaa.StatM
open KeyM

structure Ev where
  kind : Int
  key : Int
  how : Int
  val : Int

structure St where
  st : Int
  fi : Int
  va : Int
  er : Int
  se : Int
  de : Int
  op : Int

def St.zero : St := ⟨0, 0, 0, 0, 0, 0, 0⟩

def step (s : St) (e : Ev) : St :=
  if e.kind = 1 then { s with st := s.st + 1, op := s.op + 1, de := max s.de (dep e.key) }
  else if e.kind = 2 then (if e.how = 1 then { s with fi := s.fi + 1, op := s.op - 1, va := s.va + 1 } else { s with fi := s.fi + 1, op := s.op - 1, er := s.er + 1 })
  else if e.kind = 3 then { s with se := s.se + 1 } else s

def ofM (es : List Ev) : St := es.foldl step St.zero

/-- What is known of counts behind so many events. -/
structure Bd (s : St) (n : Int) : Prop where
  a0 : 0 ≤ s.st
  a1 : s.st ≤ n
  b0 : 0 ≤ s.fi
  b1 : s.fi ≤ n
  c0 : 0 ≤ s.va
  c1 : s.va ≤ n
  d0 : 0 ≤ s.er
  d1 : s.er ≤ n
  e0 : 0 ≤ s.se
  e1 : s.se ≤ n
  f0 : 0 ≤ s.de
  f1 : s.de ≤ 5
  g : s.op = s.st - s.fi
  h : s.fi = s.va + s.er
  i : s.st + s.fi + s.se ≤ n

theorem bd_zero : Bd St.zero 0 := by constructor <;> decide
theorem bd_step {s : St} {n : Int} (h : Bd s n) (e : Ev) : Bd (step s e) (n + 1) := by
  obtain ⟨h1, h2, h3, h4, h5, h6, h7, h8, h9, h10, h11, h12, h13, h14, h15⟩ := h
  have l := dep_lo e.key
  have u := dep_hi e.key
  unfold step
  by_cases k1 : e.kind = 1
  · rw [if_pos k1]; constructor <;> (try simp only) <;> omega
  · rw [if_neg k1]
    by_cases k2 : e.kind = 2
    · rw [if_pos k2]; split <;> constructor <;> (try simp only) <;> omega
    · rw [if_neg k2]; split <;> constructor <;> (try simp only) <;> omega
theorem bd_foldl (es : List Ev) : ∀ {s : St} {n : Int}, Bd s n → Bd (es.foldl step s) (n + es.length) := by
  induction es with
  | nil => intro s n h; simpa using h
  | cons e es ih =>
    intro s n h
    have := ih (bd_step h e)
    rw [List.foldl_cons, List.length_cons]
    have e1 : n + 1 + (es.length : Int) = n + ((es.length + 1 : Nat) : Int) := by omega
    rw [← e1]; exact this
theorem bd_of (es : List Ev) : Bd (ofM es) es.length := by
  have := bd_foldl es bd_zero
  rw [Int.zero_add] at this
  exact this

/-- Two lists, one behind the other: the sums. -/
def add (a b : St) : St := ⟨a.st + b.st, a.fi + b.fi, a.va + b.va, a.er + b.er, a.se + b.se, max a.de b.de, a.op + b.op⟩
theorem step_add (a b : St) (e : Ev) : step (add a b) e = add a (step b e) := by
  unfold step
  by_cases k1 : e.kind = 1
  · rw [if_pos k1, if_pos k1]; simp only [add, Int.max_assoc, Int.add_assoc]
  · rw [if_neg k1, if_neg k1]
    by_cases k2 : e.kind = 2
    · rw [if_pos k2, if_pos k2]; split <;> simp only [add, Int.add_assoc, Int.add_sub_assoc]
    · rw [if_neg k2, if_neg k2]; split <;> simp only [add, Int.add_assoc, Int.add_sub_assoc]
theorem foldl_add (es : List Ev) : ∀ a b : St, es.foldl step (add a b) = add a (es.foldl step b) := by
  induction es with
  | nil => intro a b; rfl
  | cons e es ih => intro a b; rw [List.foldl_cons, List.foldl_cons, step_add, ih]
theorem ofM_append (a b : List Ev) : ofM (a ++ b) = add (ofM a) (ofM b) := by
  have h := bd_of a
  have e : ofM a = add (ofM a) St.zero := by
    have := h.f0
    cases hh : ofM a with
    | mk st fi va er se de op => rw [hh] at this; simp only [add, St.zero, St.mk.injEq] at *; omega
  have : ofM (a ++ b) = b.foldl step (ofM a) := by unfold ofM; rw [List.foldl_append]
  rw [this, e, foldl_add, ← e]; rfl
theorem ofM_snoc (es : List Ev) (e : Ev) : ofM (es ++ [e]) = step (ofM es) e := by unfold ofM; rw [List.foldl_append]; rfl

/-- The keys of tasks that finished. -/
def fins (es : List Ev) : List Int := (es.filter fun e => e.kind == 2).map (·.key)
theorem fins_snoc (es : List Ev) (e : Ev) : fins (es ++ [e]) = if e.kind = 2 then fins es ++ [e.key] else fins es := by
  unfold fins
  rw [List.filter_append, List.map_append]
  by_cases h : e.kind = 2 <;> simp [h]
/-- In order: of each two that finished the one that is ahead comes first. -/
def ordM (es : List Ev) : Bool := decide ((fins es).Pairwise fun a b => KeyM.ahead b a = false)
theorem ordM_true (es : List Ev) : ordM es = true ↔ (fins es).Pairwise fun a b => KeyM.ahead b a = false := by unfold ordM; exact decide_eq_true_iff
theorem ord_append {a b : List Ev} (h : ordM (a ++ b) = true) : ordM a = true ∧ ordM b = true := by
  rw [ordM_true] at *
  rw [ordM_true]
  have e : fins (a ++ b) = fins a ++ fins b := by unfold fins; rw [List.filter_append, List.map_append]
  rw [e, List.pairwise_append] at h
  exact ⟨h.1, h.2.1⟩

theorem ord_snoc (es : List Ev) (e : Ev) : ordM (es ++ [e]) = true ↔ (ordM es = true ∧ (e.kind = 2 → ∀ k ∈ fins es, KeyM.ahead e.key k = false)) := by
  rw [ordM_true, ordM_true, fins_snoc]
  by_cases h : e.kind = 2
  · rw [if_pos h, List.pairwise_append]
    constructor
    · rintro ⟨h1, _, h3⟩
      exact ⟨h1, fun _ k hk => h3 k hk e.key (by simp)⟩
    · rintro ⟨h1, h3⟩
      refine ⟨h1, by simp, fun k hk y hy => ?_⟩
      rw [List.mem_singleton] at hy
      subst hy
      exact h3 h k hk
  · rw [if_neg h]
    exact ⟨fun h1 => ⟨h1, fun h2 => absurd h2 h⟩, fun h1 => h1.1⟩
theorem ord_take {es : List Ev} (h : ordM es = true) (i : Nat) : ordM (es.take i) = true := by
  have : es.take i ++ es.drop i = es := List.take_append_drop i es
  rw [← this] at h
  exact (ord_append h).1

structure Ran where
  key : Int
  how : Int
  val : Int

/-- Inserted by key, behind all that are not greater. -/
def ins (x : Ran) : List Ran → List Ran
  | [] => [x]
  | y :: m => if x.key < y.key then x :: y :: m else y :: ins x m
def ran (e : Ev) : Ran := ⟨e.key, e.how, e.val⟩
def stepE (m : List Ran) (e : Ev) : List Ran := if e.kind = 2 then ins (ran e) m else m
def endsM (es : List Ev) : List Ran := es.foldl stepE []
theorem endsM_snoc (es : List Ev) (e : Ev) : endsM (es ++ [e]) = stepE (endsM es) e := by unfold endsM; rw [List.foldl_append]; rfl
def Sorted (m : List Ran) : Prop := m.Pairwise fun a b => a.key ≤ b.key
theorem ins_mem (x y : Ran) (m : List Ran) : y ∈ ins x m ↔ y = x ∨ y ∈ m := by
  induction m with
  | nil => simp [ins]
  | cons z m ih =>
    unfold ins
    split
    · simp
    · rw [List.mem_cons, ih, List.mem_cons]
      constructor
      · rintro (h | h | h) <;> simp [h]
      · rintro (h | h | h) <;> simp [h]
theorem ins_sorted (x : Ran) (m : List Ran) (h : Sorted m) : Sorted (ins x m) := by
  unfold Sorted at *
  induction m with
  | nil => simp [ins]
  | cons z m ih =>
    rw [List.pairwise_cons] at h
    unfold ins
    split
    · rename_i g
      rw [List.pairwise_cons, List.pairwise_cons]
      refine ⟨fun y hy => ?_, h⟩
      rw [List.mem_cons] at hy
      rcases hy with rfl | hy
      · omega
      · have := h.1 y hy; omega
    · rename_i g
      rw [List.pairwise_cons]
      refine ⟨fun y hy => ?_, ih h.2⟩
      rw [ins_mem] at hy
      rcases hy with rfl | hy
      · omega
      · exact h.1 y hy
theorem ins_len (x : Ran) (m : List Ran) : (ins x m).length = m.length + 1 := by
  induction m with
  | nil => rfl
  | cons z m ih => unfold ins; split <;> simp [ih]
theorem stepE_sorted (m : List Ran) (e : Ev) (h : Sorted m) : Sorted (stepE m e) := by
  unfold stepE; split
  · exact ins_sorted _ _ h
  · exact h
theorem endsM_sorted (es : List Ev) : Sorted (endsM es) := by
  unfold endsM
  have : ∀ (m : List Ran), Sorted m → Sorted (es.foldl stepE m) := by
    induction es with
    | nil => intro m h; exact h
    | cons e es ih => intro m h; exact ih _ (stepE_sorted m e h)
  exact this [] List.Pairwise.nil
/-- Where it goes in: behind i of them. -/
theorem ins_at (x : Ran) (m : List Ran) (i : Nat) (hi : i ≤ m.length) (h1 : ∀ j y, j < i → m[j]? = some y → ¬ x.key < y.key) (h2 : ∀ y, m[i]? = some y → x.key < y.key) : ins x m = m.take i ++ x :: m.drop i := by
  induction m generalizing i with
  | nil => simp at hi; subst hi; rfl
  | cons z m ih =>
    cases i with
    | zero => unfold ins; rw [if_pos (h2 z rfl)]; rfl
    | succ i =>
      unfold ins
      rw [if_neg (h1 0 z (by omega) rfl), ih i (by simpa using hi) (fun j y hj hy => h1 (j + 1) y (by omega) (by simpa using hy)) (fun y hy => h2 y (by simpa using hy))]
      rfl
theorem endsM_len (es : List Ev) : ((endsM es).length : Int) = (ofM es).fi := by
  unfold endsM ofM
  have : ∀ (m : List Ran) (s : St), (m.length : Int) = s.fi → ((es.foldl stepE m).length : Int) = (es.foldl step s).fi := by
    induction es with
    | nil => intro m s h; exact h
    | cons e es ih =>
      intro m s h
      rw [List.foldl_cons, List.foldl_cons]
      apply ih
      unfold stepE step
      by_cases k1 : e.kind = 1
      · rw [if_neg (by omega), if_pos k1]; exact h
      · by_cases k2 : e.kind = 2
        · rw [if_pos k2, if_neg k1, if_pos k2, ins_len]; split <;> simp only <;> omega
        · rw [if_neg k2, if_neg k1, if_neg k2]; split <;> exact h
  exact this [] St.zero rfl
end Go.Proofs.Ytonndofbnhnkpaa.StatM
