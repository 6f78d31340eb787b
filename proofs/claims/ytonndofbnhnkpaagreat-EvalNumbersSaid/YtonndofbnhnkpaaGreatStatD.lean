/- The contract of stats.Order. The contract of stats.Ends. The awake of the statements of package stats. How tasks ended, key by key: the plain side of StatsEnds. The contract of the laws' Place. StatsEnds: the walk. -/
import Derived.Test.YtonndofbnhnkpaaGreatMapO
import Derived.Test.YtonndofbnhnkpaaGreatKeyD
import Derived.BigRegion
import Derived.Deep.AppendLies
import Derived.BigQuiet
import Derived.Test.YtonndofbnhnkpaaGreatStatB
import Derived.Test.YtonndofbnhnkpaaGreatKeyB
set_option linter.unusedVariables false
set_option linter.unusedSimpArgs false
set_option linter.unusedSectionVars false
namespace Go.Proofs.YtonndofbnhnkpaaGreat.StatR
open Go.RowKit Num KeyM KeyW StatM StatW StatO KeyT
theorem ord_no {es : List Ev} {j : Nat} {e : Ev} {k : Int} (he : es[j]? = some e) (h2 : e.kind = 2) (hk : k ∈ fins (es.take j)) (ha : KeyM.ahead e.key k = true) : ordM es = false := by
  cases h : ordM es
  · rfl
  · have h1 := ord_take h (j + 1)
    have hT : es.take (j + 1) = es.take j ++ [e] := by rw [List.take_add_one, he]; rfl
    rw [hT, ord_snoc] at h1
    have := h1.2 h2 k hk
    rw [ha] at this
    exact absurd this (by decide)
end Go.Proofs.YtonndofbnhnkpaaGreat.StatR
namespace Go.Proofs.YtonndofbnhnkpaaGreat.StatE
open Go.RowKit Num KeyM KeyW StatM StatW StatO KeyT
def rc (r : Ran) : List Value := [.int .i64 r.key, .int .i64 0, .int .i64 0, .int .i64 r.how, .int .i64 r.val]
def rcs (m : List Ran) : List Value := m.flatMap rc
theorem rcs_len (m : List Ran) : (rcs m).length = m.length * 5 := by
  induction m with
  | nil => rfl
  | cons r m ih => unfold rcs at *; rw [List.flatMap_cons, List.length_append, ih, List.length_cons]; simp [rc]; omega
theorem rcs_get (m : List Ran) (i f : Nat) (r : Ran) (h : m[i]? = some r) (hf : f < 5) : (rcs m)[i * 5 + f]? = (rc r)[f]? := by
  induction m generalizing i with
  | nil => simp at h
  | cons s m ih =>
    unfold rcs at *
    rw [List.flatMap_cons]
    cases i with
    | zero =>
      simp at h; subst h
      rw [List.getElem?_append_left (by simp [rc]; omega)]; simp
    | succ i =>
      rw [List.getElem?_append_right (by simp [rc]; omega)]
      have : (i + 1) * 5 + f - (rc s).length = i * 5 + f := by simp [rc]; omega
      rw [this]
      exact ih i (by simpa using h)
theorem rcs_set (m : List Ran) (i : Nat) (r : Ran) (h : i < m.length) :
    rcs (m.set i r) = (((((rcs m).set (i * 5) (.int .i64 r.key)).set (i * 5 + 1) (.int .i64 0)).set (i * 5 + 2) (.int .i64 0)).set (i * 5 + 3) (.int .i64 r.how)).set (i * 5 + 4) (.int .i64 r.val) := by
  induction m generalizing i with
  | nil => simp at h
  | cons s m ih =>
    cases i with
    | zero => rfl
    | succ i =>
      have := ih i (by simpa using h)
      unfold rcs at *
      rw [List.set_cons_succ, List.flatMap_cons, List.flatMap_cons, this]
      have e : ∀ (k : Nat) (xs : List Value) (v : Value), (rc s ++ xs).set ((i + 1) * 5 + k) v = rc s ++ xs.set (i * 5 + k) v := by
        intro k xs v
        rw [List.set_append_right _ _ (by simp [rc]; omega)]
        congr 2
        simp [rc]; omega
      have e0 := e 0
      simp only [Nat.add_zero] at e0
      rw [e0, e 1, e 2, e 3, e 4]
theorem info64 : (Tryz.prog.info? 67).map (fun i => (i.zero, i.size, i.bytes)) = some (some (.agg #[.int .i64 0, .int .i64 0, .int .i64 0, .int .i64 0, .int .i64 0]), 5, 40) := by kernel_rfl
/-- The list with x at place p. -/
def at_ (x : Ran) (m : List Ran) (p : Nat) : List Ran := m.take p ++ x :: m.drop p
theorem at_len (x : Ran) (m : List Ran) (p : Nat) (h : p ≤ m.length) : (at_ x m p).length = m.length + 1 := by
  unfold at_; rw [List.length_append, List.length_cons, List.length_take, List.length_drop]; omega
theorem at_end (x : Ran) (m : List Ran) : at_ x m m.length = m ++ [x] := by unfold at_; rw [List.take_length, List.drop_length]
theorem at_here (x : Ran) (m : List Ran) (p : Nat) (h : p ≤ m.length) : (at_ x m p)[p]? = some x := by
  unfold at_; rw [List.getElem?_append_right (by rw [List.length_take]; omega)]
  rw [List.length_take, Nat.min_eq_left h, Nat.sub_self]; rfl
theorem at_below (x : Ran) (m : List Ran) (p q : Nat) (h : q < p) (h' : p ≤ m.length) : (at_ x m p)[q]? = m[q]? := by
  unfold at_; rw [List.getElem?_append_left (by rw [List.length_take]; omega), List.getElem?_take_of_lt h]
theorem at_swap (x y : Ran) (m : List Ran) (q : Nat) (hy : m[q]? = some y) : ((at_ x m (q + 1)).set (q + 1) y).set q x = at_ x m q := by
  have hq : q < m.length := (List.getElem?_eq_some_iff.1 hy).1
  have hT : m.take (q + 1) = m.take q ++ [y] := by rw [List.take_add_one, hy]; rfl
  have hD : m.drop q = y :: m.drop (q + 1) := by
    rw [List.drop_eq_getElem_cons hq]
    congr 1
    exact (List.getElem?_eq_some_iff.1 hy).2
  unfold at_
  rw [hT, hD]
  have l1 : (m.take q).length = q := by rw [List.length_take]; omega
  rw [List.append_assoc, List.set_append_right _ _ (by omega), l1]
  have e1 : q + 1 - q = 1 := by omega
  rw [e1]
  rw [List.set_append_right _ _ (by omega), l1, Nat.sub_self]
  rfl
theorem sorted_get {m : List Ran} (h : Sorted m) {k q : Nat} {z y : Ran} (hk : k ≤ q) (hz : m[k]? = some z) (hy : m[q]? = some y) : z.key ≤ y.key := by
  obtain ⟨h1, rfl⟩ := List.getElem?_eq_some_iff.1 hz
  obtain ⟨h2, rfl⟩ := List.getElem?_eq_some_iff.1 hy
  rcases Nat.lt_or_ge k q with g | g
  · exact List.pairwise_iff_getElem.1 h k q h1 h2 g
  · obtain rfl : k = q := by omega
    exact Int.le_refl _
theorem own_shape5 {base n : Nat} {e : TypeId} {v : Value} {xs : List Value} {w : World} (h : w.ownsRow base e 5 v n xs) : ∃ a cap, v = .slice a n cap ∧ (0 < n → ∃ g, a = some ⟨g, 0, none⟩ ∧ base ≤ g ∧ g < w.heap.size) := by
  have hlt := World.ownsRow.lt h
  obtain ⟨h1, h2⟩ := h
  rcases h2 with ⟨rfl, rfl⟩ | ⟨g, cap, cur, hv, _⟩
  · exact ⟨none, 0, rfl, fun h => by omega⟩
  · subst hv
    exact ⟨some ⟨g, 0, none⟩, cap, rfl, fun _ => ⟨g, rfl, hlt g rfl⟩⟩
end Go.Proofs.YtonndofbnhnkpaaGreat.StatE
namespace Go.Proofs.YtonndofbnhnkpaaGreat.StatA
open Go.RowKit Num KeyM KeyW StatM StatW StatO KeyT StatE StatR
theorem rd_nil (w : World) (A : Option Addr) : RdEv w A [] := fun h => absurd h (by decide)
theorem of_root : ofM [⟨1, 1125899906842624, 0, 0⟩] = ⟨1, 0, 0, 0, 0, 0, 1⟩ := by kernel_rfl
theorem calls_eq {P : Program} {f : FuncId} {a b : Array Value} {w : World} {Q} (h : a = b) (c : Calls P f a w Q) : Calls P f b w Q := h ▸ c
end Go.Proofs.YtonndofbnhnkpaaGreat.StatA
namespace Go.Proofs.YtonndofbnhnkpaaGreat.StatP
open StatM
def grp (c : Int) (es : List Ev) : List Ev := es.filter fun e => decide (e.kind = 2 ∧ e.key = c)
def flat (cs : List Int) (es : List Ev) : List Ran := cs.flatMap fun c => (grp c es).map ran
theorem grp_snoc (c : Int) (es : List Ev) (e : Ev) : grp c (es ++ [e]) = if e.kind = 2 ∧ e.key = c then grp c es ++ [e] else grp c es := by
  unfold grp; rw [List.filter_append]
  by_cases h : e.kind = 2 ∧ e.key = c
  · rw [if_pos h]; simp [h]
  · rw [if_neg h]; simp [h]
theorem grp_key {c : Int} {es : List Ev} {y : Ran} (h : y ∈ (grp c es).map ran) : y.key = c := by
  unfold grp at h
  simp only [List.mem_map, List.mem_filter, decide_eq_true_iff] at h
  obtain ⟨e, ⟨_, _, h2⟩, rfl⟩ := h
  exact h2
theorem flat_key {cs : List Int} {es : List Ev} {y : Ran} (h : y ∈ flat cs es) : y.key ∈ cs := by
  unfold flat at h
  rw [List.mem_flatMap] at h
  obtain ⟨c, hc, hy⟩ := h
  rw [grp_key hy]; exact hc
theorem ins_app (x : Ran) (G F : List Ran) (h : ∀ y ∈ G, ¬ x.key < y.key) : ins x (G ++ F) = G ++ ins x F := by
  induction G with
  | nil => rfl
  | cons g G ih =>
    have h1 := h g (by simp)
    have h2 := ih (fun y hy => h y (by simp [hy]))
    show ins x (g :: (G ++ F)) = g :: (G ++ ins x F)
    rw [← h2]
    show (if x.key < g.key then x :: g :: (G ++ F) else g :: ins x (G ++ F)) = _
    rw [if_neg h1]
theorem ins_lt (x : Ran) (F : List Ran) (h : ∀ y ∈ F, x.key < y.key) : ins x F = x :: F := by
  cases F with
  | nil => rfl
  | cons y F => unfold ins; rw [if_pos (h y (by simp))]
theorem flat_same {cs : List Int} {es : List Ev} {e : Ev} (h : ∀ c ∈ cs, ¬ (e.kind = 2 ∧ e.key = c)) : flat cs (es ++ [e]) = flat cs es := by
  unfold flat
  induction cs with
  | nil => rfl
  | cons c cs ih =>
    rw [List.flatMap_cons, List.flatMap_cons, ih (fun d hd => h d (by simp [hd])), grp_snoc, if_neg (h c (by simp))]
theorem ins_flat {cs : List Int} (hs : cs.Pairwise (· < ·)) {es : List Ev} {e : Ev} (h2 : e.kind = 2) (hk : e.key ∈ cs) : ins (ran e) (flat cs es) = flat cs (es ++ [e]) := by
  induction cs with
  | nil => simp at hk
  | cons c cs ih =>
    rw [List.pairwise_cons] at hs
    obtain ⟨hc, hs⟩ := hs
    have e1 : ∀ es, flat (c :: cs) es = (grp c es).map ran ++ flat cs es := fun es => by unfold flat; rw [List.flatMap_cons]
    rw [e1, e1]
    by_cases hkc : e.key = c
    · rw [ins_app _ _ _ (fun y hy => by rw [grp_key hy]; show ¬ e.key < c; omega),
        ins_lt _ _ (fun y hy => by have := hc _ (flat_key hy); show e.key < y.key; omega),
        flat_same (fun d hd hh => by have := hc d hd; omega), grp_snoc, if_pos ⟨h2, hkc⟩]
      simp
    · have hk' : e.key ∈ cs := by
        rcases List.mem_cons.1 hk with h | h
        · exact absurd h hkc
        · exact h
      rw [ins_app _ _ _ (fun y hy => by rw [grp_key hy]; have := hc _ hk'; show ¬ e.key < c; omega), ih hs hk', grp_snoc, if_neg (fun h => hkc h.2)]
theorem ends_snoc_ind {p : List Ev → Prop} (h0 : p []) (h1 : ∀ es e, p es → p (es ++ [e])) (es : List Ev) : p es := by
  have : ∀ n, ∀ es : List Ev, es.length = n → p es := by
    intro n
    induction n with
    | zero => intro es h; rw [List.length_eq_zero_iff.1 h]; exact h0
    | succ n ih =>
      intro es h
      have hne : es ≠ [] := by intro hh; subst hh; simp at h
      rw [← List.dropLast_concat_getLast hne]
      exact h1 _ _ (ih _ (by rw [List.length_dropLast]; omega))
  exact this _ es rfl
theorem ends_flat {cs : List Int} (hs : cs.Pairwise (· < ·)) (es : List Ev) (hk : ∀ e ∈ es, e.key ∈ cs) : endsM es = flat cs es := by
  revert hk
  refine ends_snoc_ind (p := fun es => (∀ e ∈ es, e.key ∈ cs) → endsM es = flat cs es) ?_ ?_ es
  · intro _
    show [] = _
    unfold flat
    induction cs with
    | nil => rfl
    | cons c cs ih => rw [List.flatMap_cons, ← ih (List.pairwise_cons.1 hs).2 (fun e he => by simp at he)]; rfl
  · intro es e ih hk
    rw [endsM_snoc, ih (fun d hd => hk d (by simp [hd]))]
    unfold stepE
    by_cases h2 : e.kind = 2
    · rw [if_pos h2]; exact ins_flat hs h2 (hk e (by simp))
    · rw [if_neg h2, flat_same (fun c _ hh => h2 hh.1)]
theorem grp_take (c : Int) (es : List Ev) (i : Nat) : ∃ l, grp c es = grp c (es.take i) ++ l :=
  ⟨grp c (es.drop i), by unfold grp; rw [← List.filter_append, List.take_append_drop]⟩
theorem flat_at {cs : List Int} {es : List Ev} {q i : Nat} {c : Int} {e : Ev} (hq : cs[q]? = some c) (he : es[i]? = some e) (h : e.kind = 2 ∧ e.key = c) :
    (flat cs es)[(flat (cs.take q) es).length + (grp c (es.take i)).length]? = some (ran e) := by
  obtain ⟨hql, hqe⟩ := List.getElem?_eq_some_iff.1 hq
  have e1 : cs = cs.take q ++ c :: cs.drop (q + 1) := by
    conv => lhs; rw [← List.take_append_drop q cs, List.drop_eq_getElem_cons hql, hqe]
  have e2 : flat cs es = flat (cs.take q) es ++ ((grp c es).map ran ++ flat (cs.drop (q + 1)) es) := by
    conv => lhs; rw [e1]
    unfold flat; rw [List.flatMap_append, List.flatMap_cons]
  obtain ⟨l, hl⟩ := grp_take c es (i + 1)
  have hT : es.take (i + 1) = es.take i ++ [e] := by rw [List.take_add_one, he]; rfl
  rw [hT, grp_snoc, if_pos h] at hl
  rw [e2, List.getElem?_append_right (by omega), Nat.add_sub_cancel_left, hl]
  simp
theorem flat_next {cs : List Int} {es : List Ev} {q : Nat} {c : Int} (hq : cs[q]? = some c) : (flat (cs.take (q + 1)) es).length = (flat (cs.take q) es).length + (grp c es).length := by
  rw [List.take_add_one, hq]
  unfold flat; rw [List.flatMap_append, List.length_append]
  simp
theorem grp_step {c : Int} {es : List Ev} {i : Nat} {e : Ev} (he : es[i]? = some e) : (grp c (es.take (i + 1))).length = (grp c (es.take i)).length + if e.kind = 2 ∧ e.key = c then 1 else 0 := by
  have hT : es.take (i + 1) = es.take i ++ [e] := by rw [List.take_add_one, he]; rfl
  rw [hT, grp_snoc]
  split <;> simp
end Go.Proofs.YtonndofbnhnkpaaGreat.StatP
namespace Go.Proofs.YtonndofbnhnkpaaGreat.Plc
open Go.RowKit Num KeyM KeyW
theorem tmod_emod (v n : Int) (h : 0 < n) : v % n = if v.tmod n < 0 then v.tmod n + n else v.tmod n := by
  have h1 := Int.emod_nonneg v (b := n) (by omega)
  have h2 := Int.emod_lt_of_pos v h
  rw [Int.tmod_eq_emod]
  by_cases g : 0 ≤ v ∨ n ∣ v
  · rw [if_pos g]; rw [if_neg (by omega)]; omega
  · rw [if_neg g]
    have : (n.natAbs : Int) = n := by omega
    rw [this, if_pos (by omega)]; omega
set_option maxHeartbeats 1000000 in
theorem place_any (v n : Int) (w : World) (hv : (Lit.int .i64 v).wf = true) (h0 : 0 < n) (hn : n ≤ 1000000000000000) :
    Calls Tryz.prog 7 #[.int .i64 v, .int .i64 n] w fun e w' => e = .returned (.int .i64 (v % n)) ∧ w = w' := by
  have hk := tmod_emod v n h0
  have h1 := Int.emod_nonneg v (b := n) (by omega)
  have h2 := Int.emod_lt_of_pos v h0
  go_enter Tryz.func7, Tryz.ntmps7
  go_wp2_with fail
  all_goals (go_ret; exact ⟨ret_i (by omega), rfl⟩)
end Go.Proofs.YtonndofbnhnkpaaGreat.Plc
namespace Go.Proofs.YtonndofbnhnkpaaGreat.StatN
open Go.RowKit Num KeyM KeyW StatM StatW StatO KeyT StatE StatP Frm KeyL Plc
def ec (e : Ev) : List Value := [.int .i64 e.kind, .int .i64 e.key, .int .i64 e.how, .int .i64 e.val]
def ecs (m : List Ev) : List Value := m.flatMap ec
theorem ecs_len (m : List Ev) : (ecs m).length = m.length * 4 := by
  induction m with
  | nil => rfl
  | cons r m ih => unfold ecs at *; rw [List.flatMap_cons, List.length_append, ih, List.length_cons]; simp [ec]; omega
theorem ecs_get (m : List Ev) (i f : Nat) (r : Ev) (h : m[i]? = some r) (hf : f < 4) : (ecs m)[i * 4 + f]? = (ec r)[f]? := by
  induction m generalizing i with
  | nil => simp at h
  | cons s m ih =>
    unfold ecs at *
    rw [List.flatMap_cons]
    cases i with
    | zero =>
      simp at h; subst h
      rw [List.getElem?_append_left (by simp [ec]; omega)]; simp
    | succ i =>
      rw [List.getElem?_append_right (by simp [ec]; omega)]
      have : (i + 1) * 4 + f - (ec s).length = i * 4 + f := by simp [ec]; omega
      rw [this]
      exact ih i (by simpa using h)
theorem own_shape4 {base n : Nat} {e : TypeId} {v : Value} {xs : List Value} {w : World} (h : w.ownsRow base e 4 v n xs) : ∃ a cap, v = .slice a n cap ∧ (0 < n → ∃ g, a = some ⟨g, 0, none⟩ ∧ base ≤ g ∧ g < w.heap.size) := by
  have hlt := World.ownsRow.lt h
  obtain ⟨h1, h2⟩ := h
  rcases h2 with ⟨rfl, rfl⟩ | ⟨g, cap, cur, hv, _⟩
  · exact ⟨none, 0, rfl, fun h => by omega⟩
  · subst hv
    exact ⟨some ⟨g, 0, none⟩, cap, rfl, fun _ => ⟨g, rfl, hlt g rfl⟩⟩
theorem ran_cells {base g cap n : Nat} {m : List Ran} {w : World} (hn : m.length = n) (h : w.ownsRow base 67 5 (.slice (some ⟨g, 0, none⟩) n cap) n (rcs m)) {i : Nat} {e : Ran} (he : m[i]? = some e) :
    w.cell? ⟨g, i * 5, none⟩ = some (.int .i64 e.key) ∧ w.cell? ⟨g, i * 5 + 1, none⟩ = some (.int .i64 0) ∧ w.cell? ⟨g, i * 5 + 2, none⟩ = some (.int .i64 0) ∧ w.cell? ⟨g, i * 5 + 3, none⟩ = some (.int .i64 e.how) ∧ w.cell? ⟨g, i * 5 + 4, none⟩ = some (.int .i64 e.val) := by
  have hl := (List.getElem?_eq_some_iff.1 he).1
  exact ⟨(h.cellAt _ (by omega)).trans (rcs_get m i 0 e he (by omega)), (h.cellAt _ (by omega)).trans (rcs_get m i 1 e he (by omega)), (h.cellAt _ (by omega)).trans (rcs_get m i 2 e he (by omega)), (h.cellAt _ (by omega)).trans (rcs_get m i 3 e he (by omega)), (h.cellAt _ (by omega)).trans (rcs_get m i 4 e he (by omega))⟩
/-- The event by a number. -/
def evOf (i : Nat) (v : Int) : Ev := ⟨1 + v % 3, child 1125899906842624 (1 + v.tdiv 3 % 5), 1 + v.tdiv 15 % 4, i⟩
def evs (zs : List Int) (n : Nat) : List Ev := (List.range n).map fun i => evOf i (zs.getD i 0 % 1048576)
theorem evs_len (zs : List Int) (n : Nat) : (evs zs n).length = n := by simp [evs]
theorem evs_snoc (zs : List Int) (n : Nat) : evs zs (n + 1) = evs zs n ++ [evOf n (zs.getD n 0 % 1048576)] := by unfold evs; rw [List.range_succ, List.map_append]; rfl
theorem evs_get (zs : List Int) (n i : Nat) (h : i < n) : (evs zs n)[i]? = some (evOf i (zs.getD i 0 % 1048576)) := by unfold evs; simp [h]
def keys : List Int := (List.range 5).map fun (q : Nat) => child 1125899906842624 (1 + (q : Int))
theorem keys_get (q : Nat) (h : q < 5) : keys[q]? = some (child 1125899906842624 (1 + (q : Int))) := by unfold keys; simp [h]
theorem keys_sorted : keys.Pairwise (· < ·) := by
  have : keys = [1126999418470400, 1128098930098176, 1129198441725952, 1130297953353728, 1131397464981504] := by kernel_rfl
  rw [this]
  decide +kernel
theorem tm (v n : Int) (h : 0 ≤ v) (hn : 0 < n) : 0 ≤ v % n ∧ v % n < n := by
  exact ⟨Int.emod_nonneg _ (by omega), Int.emod_lt_of_pos _ hn⟩
theorem td (v n : Int) (h : 0 ≤ v) (hn : 0 < n) : 0 ≤ v.tdiv n ∧ v.tdiv n ≤ v := by
  rw [Int.tdiv_eq_ediv_of_nonneg h]
  exact ⟨Int.ediv_nonneg h (by omega), Int.ediv_le_self _ h⟩
theorem ev_key (i : Nat) (v : Int) (h : 0 ≤ v) : (evOf i v).key ∈ keys := by
  have h1 := tm (v.tdiv 3) 5 (td v 3 h (by decide)).1 (by decide)
  obtain ⟨q, hq⟩ : ∃ q : Nat, v.tdiv 3 % 5 = q := ⟨(v.tdiv 3 % 5).toNat, by omega⟩
  have := keys_get q (by omega)
  rw [← hq] at this
  exact List.mem_of_getElem? this
theorem evs_keys (zs : List Int) (n : Nat) : ∀ e ∈ evs zs n, e.key ∈ keys := by
  intro e he
  unfold evs at he
  rw [List.mem_map] at he
  obtain ⟨i, _, rfl⟩ := he
  exact ev_key i _ (Int.emod_nonneg _ (by decide))
end Go.Proofs.YtonndofbnhnkpaaGreat.StatN
