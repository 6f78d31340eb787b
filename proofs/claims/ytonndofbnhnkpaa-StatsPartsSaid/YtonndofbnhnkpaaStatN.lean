/- StatsEnds: the walk. -/
import Derived.Test.YtonndofbnhnkpaaStatA
import Derived.Test.YtonndofbnhnkpaaStatP
import Derived.Test.YtonndofbnhnkpaaPlc
namespace Go.Proofs.Ytonndofbnhnkpaa.StatN
open Go.RowKit Num KeyM KeyW StatM StatW StatO KeyT StatE StatP Frm KeyL Plc
def ec (e : Ev) : List Value := [.int .i64 e.kind, .int .i64 e.key, .int .i64 e.how, .int .i64 e.val]
def ecs (m : List Ev) : List Value := m.flatMap ec
theorem ecs_len (m : List Ev) : (ecs m).length = m.length * 4 := by
  induction m with
  | nil => rfl
  | cons r m ih => unfold ecs at *; rw [List.flatMap_cons, List.length_append, ih, List.length_cons]; simp [ec]; omega
theorem ecs_get (m : List Ev) (i f : Nat) (r : Ev) (h : m[i]? = some r) (hf : f < 4) : (ecs m)[i * 4 + f]? = (ec r)[f]? := by
  induction m generalizing i with
  | nil => simp at h
  | cons s m ih =>
    unfold ecs at *
    rw [List.flatMap_cons]
    cases i with
    | zero =>
      simp at h; subst h
      rw [List.getElem?_append_left (by simp [ec]; omega)]; simp
    | succ i =>
      rw [List.getElem?_append_right (by simp [ec]; omega)]
      have : (i + 1) * 4 + f - (ec s).length = i * 4 + f := by simp [ec]; omega
      rw [this]
      exact ih i (by simpa using h)
theorem info44 : (Try.prog.info? 44).map (fun i => (i.zero, i.size, i.bytes)) = some (some (.agg #[.int .i64 0, .int .i64 0, .int .i64 0, .int .i64 0]), 4, 32) := by kernel_rfl
theorem own_shape4 {base n : Nat} {e : TypeId} {v : Value} {xs : List Value} {w : World} (h : w.ownsRow base e 4 v n xs) : ∃ a cap, v = .slice a n cap ∧ (0 < n → ∃ g, a = some ⟨g, 0, none⟩ ∧ base ≤ g ∧ g < w.heap.size) := by
  have hlt := World.ownsRow.lt h
  obtain ⟨h1, h2⟩ := h
  rcases h2 with ⟨rfl, rfl⟩ | ⟨g, cap, cur, hv, _⟩
  · exact ⟨none, 0, rfl, fun h => by omega⟩
  · subst hv
    exact ⟨some ⟨g, 0, none⟩, cap, rfl, fun _ => ⟨g, rfl, hlt g rfl⟩⟩
theorem ev_cells {base g cap : Nat} {m : List Ev} {w : World} {n : Nat} (hn : m.length = n) (h : w.ownsRow base 44 4 (.slice (some ⟨g, 0, none⟩) n cap) n (ecs m)) {i : Nat} {e : Ev} (he : m[i]? = some e) :
    w.cell? ⟨g, i * 4, none⟩ = some (.int .i64 e.kind) ∧ w.cell? ⟨g, i * 4 + 1, none⟩ = some (.int .i64 e.key) ∧ w.cell? ⟨g, i * 4 + 2, none⟩ = some (.int .i64 e.how) ∧ w.cell? ⟨g, i * 4 + 3, none⟩ = some (.int .i64 e.val) := by
  have hl := (List.getElem?_eq_some_iff.1 he).1
  exact ⟨(h.cellAt _ (by omega)).trans (ecs_get m i 0 e he (by omega)), (h.cellAt _ (by omega)).trans (ecs_get m i 1 e he (by omega)), (h.cellAt _ (by omega)).trans (ecs_get m i 2 e he (by omega)), (h.cellAt _ (by omega)).trans (ecs_get m i 3 e he (by omega))⟩
theorem rd_own {base n : Nat} {v : Value} {m : List Ev} {w : World} (hn : m.length = n) (h : w.ownsRow base 44 4 v n (ecs m)) : ∃ a cap, v = .slice a n cap ∧ RdEv w a m ∧ (0 < n → ∃ g, a = some ⟨g, 0, none⟩ ∧ base ≤ g ∧ g < w.heap.size) := by
  obtain ⟨a, cap, rfl, hg⟩ := own_shape4 h
  refine ⟨a, cap, rfl, fun h0 => ?_, hg⟩
  obtain ⟨g, rfl, _, _⟩ := hg (by omega)
  refine ⟨g, 0, rfl, fun i e he => ?_⟩
  simp only [Nat.zero_add]
  exact ev_cells hn h he
theorem ran_cells {base g cap n : Nat} {m : List Ran} {w : World} (hn : m.length = n) (h : w.ownsRow base 37 5 (.slice (some ⟨g, 0, none⟩) n cap) n (rcs m)) {i : Nat} {e : Ran} (he : m[i]? = some e) :
    w.cell? ⟨g, i * 5, none⟩ = some (.int .i64 e.key) ∧ w.cell? ⟨g, i * 5 + 1, none⟩ = some (.int .i64 0) ∧ w.cell? ⟨g, i * 5 + 2, none⟩ = some (.int .i64 0) ∧ w.cell? ⟨g, i * 5 + 3, none⟩ = some (.int .i64 e.how) ∧ w.cell? ⟨g, i * 5 + 4, none⟩ = some (.int .i64 e.val) := by
  have hl := (List.getElem?_eq_some_iff.1 he).1
  exact ⟨(h.cellAt _ (by omega)).trans (rcs_get m i 0 e he (by omega)), (h.cellAt _ (by omega)).trans (rcs_get m i 1 e he (by omega)), (h.cellAt _ (by omega)).trans (rcs_get m i 2 e he (by omega)), (h.cellAt _ (by omega)).trans (rcs_get m i 3 e he (by omega)), (h.cellAt _ (by omega)).trans (rcs_get m i 4 e he (by omega))⟩
/-- The event by a number. -/
def evOf (i : Nat) (v : Int) : Ev := ⟨1 + v % 3, child 1125899906842624 (1 + v.tdiv 3 % 5), 1 + v.tdiv 15 % 4, i⟩
def evs (zs : List Int) (n : Nat) : List Ev := (List.range n).map fun i => evOf i (zs.getD i 0 % 1048576)
theorem evs_len (zs : List Int) (n : Nat) : (evs zs n).length = n := by simp [evs]
theorem evs_snoc (zs : List Int) (n : Nat) : evs zs (n + 1) = evs zs n ++ [evOf n (zs.getD n 0 % 1048576)] := by unfold evs; rw [List.range_succ, List.map_append]; rfl
theorem evs_get (zs : List Int) (n i : Nat) (h : i < n) : (evs zs n)[i]? = some (evOf i (zs.getD i 0 % 1048576)) := by unfold evs; simp [h]
def keys : List Int := (List.range 5).map fun (q : Nat) => child 1125899906842624 (1 + (q : Int))
theorem keys_get (q : Nat) (h : q < 5) : keys[q]? = some (child 1125899906842624 (1 + (q : Int))) := by unfold keys; simp [h]
theorem keys_sorted : keys.Pairwise (· < ·) := by
  have : keys = [1126999418470400, 1128098930098176, 1129198441725952, 1130297953353728, 1131397464981504] := by kernel_rfl
  rw [this]
  decide +kernel
theorem tm (v n : Int) (h : 0 ≤ v) (hn : 0 < n) : 0 ≤ v % n ∧ v % n < n := by
  exact ⟨Int.emod_nonneg _ (by omega), Int.emod_lt_of_pos _ hn⟩
theorem td (v n : Int) (h : 0 ≤ v) (hn : 0 < n) : 0 ≤ v.tdiv n ∧ v.tdiv n ≤ v := by
  rw [Int.tdiv_eq_ediv_of_nonneg h]
  exact ⟨Int.ediv_nonneg h (by omega), Int.ediv_le_self _ h⟩
theorem ev_key (i : Nat) (v : Int) (h : 0 ≤ v) : (evOf i v).key ∈ keys := by
  have h1 := tm (v.tdiv 3) 5 (td v 3 h (by decide)).1 (by decide)
  obtain ⟨q, hq⟩ : ∃ q : Nat, v.tdiv 3 % 5 = q := ⟨(v.tdiv 3 % 5).toNat, by omega⟩
  have := keys_get q (by omega)
  rw [← hq] at this
  exact List.mem_of_getElem? this
theorem evs_keys (zs : List Int) (n : Nat) : ∀ e ∈ evs zs n, e.key ∈ keys := by
  intro e he
  unfold evs at he
  rw [List.mem_map] at he
  obtain ⟨i, _, rfl⟩ := he
  exact ev_key i _ (Int.emod_nonneg _ (by decide))
end Go.Proofs.Ytonndofbnhnkpaa.StatN
