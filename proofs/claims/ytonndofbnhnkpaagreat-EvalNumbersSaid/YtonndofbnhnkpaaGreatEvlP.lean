/- The program's package eval: what a task's end leaves in the machine's map: plain laws. -/
import Derived.Test.YtonndofbnhnkpaaGreatEvlB
import Derived.Test.YtonndofbnhnkpaaGreatEvKJ
set_option linter.unusedVariables false
set_option linter.unusedSimpArgs false
set_option linter.unusedSectionVars false
namespace Go.Proofs.YtonndofbnhnkpaaGreat.Evl
open Go.RowKit Num KeyM KeyW StatW Blk VmA VmG Prg EvM Rf
theorem put_perm (x : FRan) : ∀ l : List FRan, (put l x).Perm (x :: l)
  | [] => List.Perm.refl _
  | y :: l => by
    unfold put
    split
    · exact ((put_perm x l).cons y).trans (List.Perm.swap x y l)
    · exact List.Perm.refl _
theorem mapIs_push {es : Array MapEntry} {clk : Nat} {l : List FRan} (h : MapIs es clk l) (x : FRan) : MapIs (es.push ⟨.int .i64 x.key, ranV x, clk⟩) (clk + 1) (put l x) := by
  obtain ⟨h, h1, h2⟩ := h
  unfold MapIs
  rw [Array.toList_push, List.map_append, List.map_append]
  refine ⟨?_, fun y hy => ?_, ?_⟩
  rotate_left
  · rcases List.mem_append.1 hy with hy | hy
    · have := h1 y hy; omega
    · obtain rfl := List.mem_singleton.1 hy
      show clk < clk + 1; omega
  · refine List.nodup_append.2 ⟨h2, by simp, fun a ha b hb => ?_⟩
    obtain ⟨y, hy, rfl⟩ := List.mem_map.1 ha
    obtain rfl : b = clk := by simpa using hb
    have := h1 y hy
    omega
  refine List.perm_append_comm.trans ?_
  refine List.Perm.trans ?_ ((put_perm x l).map _).symm
  exact h.cons _
theorem mapIs_fresh {es : Array MapEntry} {l : List FRan} {clk : Nat} {key : Int} (h : MapIs es clk l) (hn : ∀ x ∈ l, x.key ≠ key) : ∀ e ∈ es.toList, ∃ n, e.key = .int .i64 n ∧ n ≠ key := fun e he => by
  have h1 : (e.key, e.val) ∈ es.toList.map fun e => (e.key, e.val) := List.mem_map.2 ⟨e, he, rfl⟩
  obtain ⟨x, hx, e2⟩ := List.mem_map.1 (h.1.mem_iff.1 h1)
  injection e2 with e3 e4
  exact ⟨x.key, e3.symm, hn x hx⟩
/-- The machine once a task's end is kept. -/
theorem IsM.put {c : Mc} {w w' : World} {S : RS} {E : Nat} {f : Nat → Value} {x : FRan} {es : Array MapEntry} {clk : Nat} (h : IsM c w S) (hE : w.rowIs E 29 2 f) (hKE : c.K ≤ E) (hc : Ch (fun k => k = E ∨ k = c.R) w w')
    (hR : w'.heap[c.R]? = some (.map es clk)) (hm : MapIs es clk (EvM.put S.ran x)) : IsM c w' { S with ran := EvM.put S.ran x } := by
  obtain ⟨n1, n2, n3, n4, n5, n6⟩ := h.ne
  obtain ⟨g1, g2, g3, g4, g5, g7⟩ := h
  have ne : ∀ {b m : Nat} {t : TypeId} {g : Nat → Value}, w.rowIs b t m g → 29 ≠ t → ¬ b = E := fun hr ht' e => by
    obtain ⟨cur, hcur⟩ := row_type hr
    exact ty_ne hE hcur (fun e => ht' e.symm) e
  exact ⟨hc.row g1 (fun e => e.elim (ne g1 (by decide)) n1), hc.row g2 (fun e => e.elim (ne g2 (by decide)) (fun e => n4 e.symm)), hc.row g3 (fun e => e.elim (ne g3 (by decide)) (fun e => n5 e.symm)), g4.later hc (fun i hi e => by rcases e with e | e <;> omega), ⟨es, clk, hR, hm⟩, g7⟩
/-- What ran while a task was under way is not the task itself. -/
theorem fresh {fs : List (List Ins)} {depth fuel0 most : Int} (hdp : depth ≤ 5) {n : Nat} {t : RT} {S : RS} {r : RT × RS} (h : evLoop fs depth fuel0 most n t S = some r) (hk : chk t.key = true) (hf0 : 0 ≤ t.forks) (hf1 : t.forks ≤ 1000) (hp : ∀ x ∈ S.ran, x.key ≠ t.key) : ∀ x ∈ r.2.ran, x.key ≠ r.1.key := fun x hx => by
  obtain ⟨g1, g2, g3, g4⟩ := evLoop_keys hdp h hk hf0 hf1
  rw [g1]
  rcases g4 x hx with e | ⟨e1, e2⟩
  · exact hp x e
  · omega
end Go.Proofs.YtonndofbnhnkpaaGreat.Evl
