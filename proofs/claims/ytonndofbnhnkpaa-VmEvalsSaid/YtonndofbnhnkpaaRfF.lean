/- The reference's evaluator: forks. -/
import Derived.Test.YtonndofbnhnkpaaRfU
namespace Go.Proofs.Ytonndofbnhnkpaa.Rf
open Go.RowKit Num KeyM KeyW StatW Blk VmA VmG Prg EvM
set_option maxRecDepth 100000 in
set_option maxHeartbeats 4000000 in
theorem ot_fork_deep (c : Fx) (base B : Nat) (t : RT) (S : RS) (a b x : Int) (w : World) (h : IsT w B t) (hR : IsR c base w S) (hd : c.depth ≤ dep t.key) :
    Calls Try.prog 161 #[.pointer (some ⟨c.R, 0, none⟩), .pointer (some ⟨B, 0, none⟩), insV ⟨9, a, b, x⟩] w fun e w' => e = .returned (.tuple #[]) ∧ IsT w' B { t with how := 6 } ∧ Ch (· = B) w w' := by
  have HT : Hid (w.rowIs B 198 27 (rtF t)) := h
  have HR := Lib.hid hR
  have hlt := h.row.lt
  have hl1 : B < w.heap.size + 1 := by omega
  have hl2 : B < w.heap.size + 1 + 1 := by omega
  obtain ⟨e20, e21, e22, e23, e24, e25, e26⟩ := ct_nums h
  have f25 := h.row.frozen 25
  have f23 := h.row.frozen 23
  have hfar := hR.far_t h.row
  obtain ⟨⟨vr, r1, r2⟩, r3, r4, r5, r6⟩ := hR
  have lR := r1.lt
  have q2 : w.cell? ⟨c.R, 2, none⟩ = some (.int .i64 c.depth) := r1.cell (i := 2) (by omega)
  have nRB : ¬ c.R = B := fun e => hfar.1 e.symm
  have hdep := fun w => Ref6.depth_any t.key w
  clear h r1 r2 r3 r4 r5 r6
  unfold insV
  by_cases hm : 1000 ≤ t.forks
  all_goals
    go_enter Try.func161, Try.ntmps161
    go_wp2_with fail
    go_quiet ((go_at_call 55; exact Calls.quiet_of_same ((hdep _).mono fun _ _ ⟨p, q⟩ => ⟨p, q.symm⟩)))
    go_wp2_with fail
    refine bodyPost_ret (v := .tuple #[]) (by simp [results, Try.results161, go_sem]) rfl ⟨rfl, ?_, (by repeat (first | with_reducible exact Ch.refl _ _ | (with_reducible refine Ch.setN ?_ (by omega) _) | with_reducible apply Ch.setB | with_reducible apply Ch.alloc | with_reducible apply Ch.drew | with_reducible apply Ch.drewN | (with_reducible refine Ch.trans ?_ (by assumption))))⟩
  · exact World.rowIs.congr (t_how (t := { t with how := 9 }) (by repeat (first | with_reducible exact HT.out | with_reducible apply World.rowIs.alloc | with_reducible apply World.rowIs.drew | with_reducible apply row_drewN | with_reducible apply World.rowIs.set | (with_reducible refine IsT.row (t_how ?_)) | (with_reducible refine row_setO ?_ (by omega) _)))) (fun i _ => rfl)
  · exact t_how (by repeat (first | with_reducible exact HT.out | with_reducible apply World.rowIs.alloc | with_reducible apply World.rowIs.drew | with_reducible apply row_drewN | with_reducible apply World.rowIs.set | (with_reducible refine IsT.row (t_how ?_)) | (with_reducible refine row_setO ?_ (by omega) _)))
set_option maxRecDepth 100000 in
set_option maxHeartbeats 4000000 in
theorem ot_fork_many (c : Fx) (base B : Nat) (t : RT) (S : RS) (a b x : Int) (w : World) (h : IsT w B t) (hR : IsR c base w S) (hd : ¬ c.depth ≤ dep t.key) (hm : 1000 ≤ t.forks) :
    Calls Try.prog 161 #[.pointer (some ⟨c.R, 0, none⟩), .pointer (some ⟨B, 0, none⟩), insV ⟨9, a, b, x⟩] w fun e w' => e = .returned (.tuple #[]) ∧ IsT w' B { t with how := 9 } ∧ Ch (· = B) w w' := by
  have HT : Hid (w.rowIs B 198 27 (rtF t)) := h
  have HR := Lib.hid hR
  have hlt := h.row.lt
  have hl1 : B < w.heap.size + 1 := by omega
  have hl2 : B < w.heap.size + 1 + 1 := by omega
  obtain ⟨e20, e21, e22, e23, e24, e25, e26⟩ := ct_nums h
  have f25 := h.row.frozen 25
  have f23 := h.row.frozen 23
  have hfar := hR.far_t h.row
  obtain ⟨⟨vr, r1, r2⟩, r3, r4, r5, r6⟩ := hR
  have lR := r1.lt
  have q2 : w.cell? ⟨c.R, 2, none⟩ = some (.int .i64 c.depth) := r1.cell (i := 2) (by omega)
  have nRB : ¬ c.R = B := fun e => hfar.1 e.symm
  have hdep := fun w => Ref6.depth_any t.key w
  clear h r1 r2 r3 r4 r5 r6
  unfold insV
  go_enter Try.func161, Try.ntmps161
  go_wp2_with fail
  go_quiet ((go_at_call 55; exact Calls.quiet_of_same ((hdep _).mono fun _ _ ⟨p, q⟩ => ⟨p, q.symm⟩)))
  go_wp2_with fail
  exact bodyPost_ret (v := .tuple #[]) (by simp [results, Try.results161, go_sem]) rfl ⟨rfl, t_how (by repeat (first | with_reducible exact HT.out | with_reducible apply World.rowIs.alloc | with_reducible apply World.rowIs.drew | with_reducible apply row_drewN | with_reducible apply World.rowIs.set | (with_reducible refine IsT.row (t_how ?_)) | (with_reducible refine row_setO ?_ (by omega) _))), (by repeat (first | with_reducible exact Ch.refl _ _ | (with_reducible refine Ch.setN ?_ (by omega) _) | with_reducible apply Ch.setB | with_reducible apply Ch.alloc | with_reducible apply Ch.drew | with_reducible apply Ch.drewN | (with_reducible refine Ch.trans ?_ (by assumption))))⟩
end Go.Proofs.Ytonndofbnhnkpaa.Rf
