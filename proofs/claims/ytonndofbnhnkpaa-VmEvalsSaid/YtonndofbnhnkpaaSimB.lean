/- An evaluation by tasks of the machine: what its blocks hold; what a round does. An evaluation by tasks of the machine: a round, in plain Lean. An evaluation by tasks of the machine: what holds while a fork is done. -/
import Derived.Test.YtonndofbnhnkpaaEvB
import Derived.Test.YtonndofbnhnkpaaRfU
import Derived.Test.YtonndofbnhnkpaaVmN
import Derived.Test.YtonndofbnhnkpaaTabI
namespace Go.Proofs.Ytonndofbnhnkpaa.Sim
open Go.RowKit Num KeyM KeyW StatW Blk VmA VmG Prg EvM Rf
/-- What stays as it is. -/
structure Xc where
  K : Nat
  X : Nat
  FB : Nat
  WB : Nat
  pa : Option Addr
  pc : Nat
  fs : List (List Ins)
  futs : Nat
  depth : Int
  fuel : Int
  most : Int
def xL (c : Xc) (steps tasks : Int) : List Value :=
  [.slice c.pa c.fs.length c.pc, .int .i64 c.futs, .int .i64 c.depth, .int .i64 c.fuel, .slice (some ⟨c.FB, 0, none⟩) c.futs c.futs, .slice (some ⟨c.WB, 0, none⟩) c.futs c.futs, .int .i64 steps, .int .i64 tasks]
/-- The evaluation as it lies in memory; so many tasks are under way. -/
structure IsX (c : Xc) (w : World) (S : RS) (k : Nat) : Prop where
  row : w.rowIs c.X 73 8 (ofL (xL c S.steps ((S.ran.length : Int) + (k : Int))))
  fut : w.rowIs c.FB 3 c.futs (fun j => .int .i64 (S.futs j))
  was : w.rowIs c.WB 4 c.futs (fun j => .bool (S.was j))
  code : CodeAt c.K w c.pa c.fs
  far : c.K ≤ c.X ∧ c.K ≤ c.FB ∧ c.K ≤ c.WB
  ft : ∀ j, wrap32 (S.futs j) = S.futs j
def Xvs (c : Xc) (k : Nat) : Prop := k = c.X ∨ k = c.FB ∨ k = c.WB
theorem IsX.bl {c : Xc} {k : Nat} {w w' : World} {S : RS} (h : IsX c w S k) (hb : Bl w w') : IsX c w' S k :=
  ⟨row_bl h.row hb, row_bl h.fut hb, row_bl h.was hb, h.code.later (S := fun _ => False) (Ch.of_bl hb) (fun _ _ h => h), h.far, h.ft⟩
theorem IsX.lts {c : Xc} {k : Nat} {w : World} {S : RS} (h : IsX c w S k) : c.X < w.heap.size ∧ c.FB < w.heap.size ∨ c.futs = 0 := Or.elim (Nat.eq_zero_or_pos c.futs) Or.inr fun _ => Or.inl ⟨h.row.lt, h.fut.lt⟩
/-- While a block of another type is turned, the rest stays. -/
theorem IsX.on {c : Xc} {k B n : Nat} {ty : TypeId} {w w' : World} {S : RS} {f : Nat → Value} (h : IsX c w S k) (ht : w.rowIs B ty n f) (h1 : ty ≠ 73) (h2 : ty ≠ 3) (h3 : ty ≠ 4) (hK : c.K ≤ B) (hc : Ch (· = B) w w') : IsX c w' S k := by
  have ne : ∀ {b m : Nat} {t : TypeId} {g : Nat → Value}, w.rowIs b t m g → ty ≠ t → ¬ b = B := fun hr ht' e => by
    obtain ⟨cur, hcur⟩ := row_type hr
    exact ty_ne ht hcur (fun e => ht' e.symm) e
  exact ⟨hc.row h.row (ne h.row h1), hc.row h.fut (ne h.fut h2), hc.row h.was (ne h.was h3), h.code.later hc (fun i hi e => by omega), h.far, h.ft⟩
theorem IsX.far_b {c : Xc} {k B n : Nat} {ty : TypeId} {w : World} {S : RS} {f : Nat → Value} (h : IsX c w S k) (ht : w.rowIs B ty n f) (h1 : ty ≠ 73) (h2 : ty ≠ 3) (h3 : ty ≠ 4) : B ≠ c.X ∧ B ≠ c.FB ∧ B ≠ c.WB := by
  have ne : ∀ {b m : Nat} {t : TypeId} {g : Nat → Value}, w.rowIs b t m g → ty ≠ t → ¬ B = b := fun hr ht' e => by
    obtain ⟨cur, hcur⟩ := row_type hr
    exact ty_ne ht hcur (fun e => ht' e.symm) e.symm
  exact ⟨ne h.row h1, ne h.fut h2, ne h.was h3⟩
theorem IsX.ne {c : Xc} {k : Nat} {w : World} {S : RS} (h : IsX c w S k) : c.X ≠ c.FB ∧ c.X ≠ c.WB ∧ c.FB ≠ c.WB := by
  have ne : ∀ {b m : Nat} {t : TypeId} {g : Nat → Value} {b' m' : Nat} {t' : TypeId} {g' : Nat → Value}, w.rowIs b t m g → w.rowIs b' t' m' g' → t ≠ t' → b ≠ b' := fun hr hr' ht' e => by
    obtain ⟨cur, hcur⟩ := row_type hr
    exact ty_ne hr' hcur ht' e
  exact ⟨ne h.row h.fut (by decide), ne h.row h.was (by decide), ne h.fut h.was (by decide)⟩
theorem isX_ran {c : Xc} {k k' : Nat} {w : World} {S S' : RS} (h : IsX c w S k) (hr : (S'.ran.length : Int) + (k' : Int) = (S.ran.length : Int) + (k : Int)) (hs : S'.steps = S.steps) (hf : S'.futs = S.futs) (hw : S'.was = S.was) : IsX c w S' k' :=
  ⟨by rw [hs, hr]; exact h.row, by rw [hf]; exact h.fut, by rw [hw]; exact h.was, h.code, h.far, by rw [hf]; exact h.ft⟩
theorem isX_steps {c : Xc} {k : Nat} {w : World} {S : RS} (h : IsX c w S k) (v : Int) : IsX c (w.setCell ⟨c.X, 6, none⟩ (.int .i64 v)) { S with steps := v } k := by
  obtain ⟨n1, n2, n3⟩ := h.ne
  have hch : Ch (fun k => k = c.X) w (w.setCell ⟨c.X, 6, none⟩ (.int .i64 v)) := Ch.set (S := fun k => k = c.X) (p := ⟨c.X, _, none⟩) (Ch.refl _ _) (Or.inl rfl) _
  have hf := h.far
  exact ⟨ofL_set (l := xL c S.steps _) 6 (.int .i64 v) (by show 6 < 8; omega) (h.row.set 6 _), row_setO h.fut (fun e => n1 e.symm) _, row_setO h.was (fun e => n2 e.symm) _, h.code.later hch (fun i hi e => by omega), h.far, h.ft⟩
theorem isX_tasks {c : Xc} {k : Nat} {w : World} {S : RS} (h : IsX c w S k) : IsX c (w.setCell ⟨c.X, 7, none⟩ (.int .i64 ((S.ran.length : Int) + (k : Int) + 1))) S (k + 1) := by
  obtain ⟨n1, n2, n3⟩ := h.ne
  have hch : Ch (fun k => k = c.X) w (w.setCell ⟨c.X, 7, none⟩ (.int .i64 ((S.ran.length : Int) + (k : Int) + 1))) := Ch.set (S := fun k => k = c.X) (p := ⟨c.X, _, none⟩) (Ch.refl _ _) (Or.inl rfl) _
  have hf := h.far
  have e : (S.ran.length : Int) + ((k + 1 : Nat) : Int) = (S.ran.length : Int) + (k : Int) + 1 := by omega
  exact ⟨by rw [e]; exact ofL_set (l := xL c S.steps ((S.ran.length : Int) + (k : Int))) 7 _ (by show 7 < 8; omega) (h.row.set 7 _), row_setO h.fut (fun e => n1 e.symm) _, row_setO h.was (fun e => n2 e.symm) _, h.code.later hch (fun i hi e => by omega), h.far, h.ft⟩
theorem isX_set1 {c : Xc} {k : Nat} {w : World} {S : RS} (h : IsX c w S k) (a : Nat) (v : Int) (hw : wrap32 v = v) :
    IsX c ((w.setCell ⟨c.WB, a, none⟩ (.bool true)).setCell ⟨c.FB, a, none⟩ (.int .i64 v)) { S with was := upd S.was a true, futs := upd S.futs a v } k := by
  obtain ⟨n1, n2, n3⟩ := h.ne
  have hf := h.far
  have hch : Ch (fun k => k = c.WB ∨ k = c.FB) w ((w.setCell ⟨c.WB, a, none⟩ (.bool true)).setCell ⟨c.FB, a, none⟩ (.int .i64 v)) := ((Ch.refl _ _).set (p := ⟨c.WB, _, none⟩) (Or.inl (Or.inl rfl)) _).set (p := ⟨c.FB, _, none⟩) (Or.inl (Or.inr rfl)) _
  refine ⟨row_setO (row_setO h.row n2 _) n1 _, ?_, ?_, h.code.later hch (fun i hi e => by omega), h.far, fun j => ?_⟩
  · exact World.rowIs.congr ((row_setO h.fut n3 _).set a (.int .i64 v)) (fun j _ => by show _ = Value.int _ (if j = a then v else S.futs j); split <;> rfl)
  · exact World.rowIs.congr (row_setO (h.was.set a (.bool true)) (fun e => n3 e.symm) _) (fun j _ => by show _ = Value.bool (if j = a then true else S.was j); split <;> rfl)
  · show wrap32 (if j = a then v else S.futs j) = if j = a then v else S.futs j
    split
    · exact hw
    · exact h.ft j
theorem isX_set2 {c : Xc} {k : Nat} {w : World} {S : RS} (h : IsX c w S k) (a : Nat) (v : Int) (hw : wrap32 v = v) :
    IsX c ((w.setCell ⟨c.FB, a, none⟩ (.int .i64 v)).setCell ⟨c.WB, a, none⟩ (.bool true)) { S with was := upd S.was a true, futs := upd S.futs a v } k := by
  obtain ⟨n1, n2, n3⟩ := h.ne
  have hf := h.far
  have hch : Ch (fun k => k = c.WB ∨ k = c.FB) w ((w.setCell ⟨c.FB, a, none⟩ (.int .i64 v)).setCell ⟨c.WB, a, none⟩ (.bool true)) := ((Ch.refl _ _).set (p := ⟨c.FB, _, none⟩) (Or.inl (Or.inr rfl)) _).set (p := ⟨c.WB, _, none⟩) (Or.inl (Or.inl rfl)) _
  refine ⟨row_setO (row_setO h.row n1 _) n2 _, ?_, ?_, h.code.later hch (fun i hi e => by omega), h.far, fun j => ?_⟩
  · exact World.rowIs.congr (row_setO (h.fut.set a (.int .i64 v)) n3 _) (fun j _ => by show _ = Value.int _ (if j = a then v else S.futs j); split <;> rfl)
  · exact World.rowIs.congr ((row_setO h.was (fun e => n3 e.symm) _).set a (.bool true)) (fun j _ => by show _ = Value.bool (if j = a then true else S.was j); split <;> rfl)
  · show wrap32 (if j = a then v else S.futs j) = if j = a then v else S.futs j
    split
    · exact hw
    · exact h.ft j
/-- A task to its end. -/
def XChild (c : Xc) (k : Nat) (fn : Nat) (arg key : Int) (S S' : RS) (how val : Int) : Prop := ∀ w : World, IsX c w S k →
  Calls Try.prog 38 #[.pointer (some ⟨c.X, 0, none⟩), .int .i64 fn, .int .i64 arg, .int .i64 key] w fun e w' => e = .returned (.agg #[.int .i64 how, .int .i64 val]) ∧ IsX c w' S' k ∧ Ch (Xvs c) w w' ∧ wrap32 val = val
structure XCfg (c : Xc) : Prop where
  pv : PV c.fs c.futs c.depth c.fuel
  most0 : 0 ≤ c.most
  most1 : c.most ≤ 1000
def XSays (c : Xc) (n : Nat) : Prop := ∀ (k fn : Nat) (arg key : Int) (S : RS) (u : RT) (S2 : RS), evLoop c.fs c.depth c.fuel c.most n (rt0 fn arg key c.fuel) S = some (u, S2) → S2.over = false → fn < c.fs.length → chk key = true → SOk k c.most S → XChild c k fn arg key S (finish u S2 arg) u.how u.val
/-- A task under way at the head of round i. -/
structure PI (c : Xc) (n k : Nat) (fn key : Int) (u : RT) (S2 : RS) (i : Nat) (t : Tk) (r : RT) (S : RS) : Prop where
  ev : ∃ m, m ≤ n ∧ evLoop c.fs c.depth c.fuel c.most m r S = some (u, S2)
  sim : Sim t r
  ok : ROk c.fs c.futs r
  key : r.key = key
  fn : r.fn = fn
  i1 : (i : Int) + r.fuel ≤ 501
  i0 : r.how = 0 → (i : Int) + r.fuel ≤ 500
  s : SOk k c.most S
  dep : t.depth = c.depth
  pa : t.pa = c.pa
  pl : t.pl = c.fs.length
end Go.Proofs.Ytonndofbnhnkpaa.Sim
namespace Go.Proofs.Ytonndofbnhnkpaa.Sim
open Go.RowKit Num KeyM KeyW StatW Blk VmA VmG Prg EvM Rf
/-- What a round finds. -/
inductive Rnd (c : Xc) (n k : Nat) (fn key : Int) (u : RT) (S2 : RS) (i : Nat) (S3 : RS) (a : VmA.Act) (t2 : Tk) : Prop
  | over : a = ⟨7, 0, 0, 0⟩ → S3 = S2 → t2.how = u.how → t2.val = u.val → wrap32 u.val = u.val → Rnd c n k fn key u S2 i S3 a t2
  | go : (a = Act.zero ∨ a = ⟨6, 0, 0, 0⟩) → (∃ r3, PI c n k fn key u S2 (i + 1) t2 r3 S3) → Rnd c n k fn key u S2 i S3 a t2
  | fork (x b : Nat) (v ck : Int) (S4 : RS) (how val : Int) : a = ⟨1, (b : Int) + 16 * (x : Int), v, ck⟩ → x < 4 → b < 12 → b < c.fs.length → key < ck → XChild c (k + 1) b v ck S3 S4 how val → (wrap32 val = val → ∃ r3, PI c n k fn key u S2 (i + 1) (t2.setHand x ⟨2, 0, how, val⟩) r3 S4) → Rnd c n k fn key u S2 i S3 a t2
  | set (x : Nat) (v : Int) : a = ⟨3, x, v, 0⟩ → x < c.futs → wrap32 v = v → (S3.was x = true → ∃ r3, PI c n k fn key u S2 (i + 1) (t2.stop 3) r3 S3) →
      (S3.was x = false → ∃ r3, PI c n k fn key u S2 (i + 1) t2 r3 { S3 with was := upd S3.was x true, futs := upd S3.futs x v }) → Rnd c n k fn key u S2 i S3 a t2
  | get (x b : Nat) : a = ⟨4, x, b, 0⟩ → x < 8 → b < c.futs → (S3.was b = false → ∃ r3, PI c n k fn key u S2 (i + 1) (t2.stop 4) r3 S3) →
      (S3.was b = true → ∃ r3, PI c n k fn key u S2 (i + 1) (t2.setReg x (wrap32 (S3.futs b))) r3 S3) → Rnd c n k fn key u S2 i S3 a t2
theorem XChild.forks {c : Xc} {k fn : Nat} {arg key : Int} {S S' : RS} {how val f : Int} (h : XChild c k fn arg key { S with forks := f } S' how val) : XChild c k fn arg key S S' how val :=
  fun w hI => h w (isX_ran hI rfl rfl rfl rfl)
theorem tk_stop_same (t : Tk) (how : Int) : (t.stop how).depth = t.depth ∧ (t.stop how).pa = t.pa ∧ (t.stop how).pl = t.pl ∧ (t.stop how).fuel = t.fuel := by unfold Tk.stop; split <;> exact ⟨rfl, rfl, rfl, rfl⟩
theorem sok_of {k : Nat} {most : Int} {S S' : RS} (h : SOk k most S) (h1 : S'.ran = S.ran) (h2 : S'.steps = S.steps) (h3 : S'.forks = S.forks) : SOk k most S' := ⟨by rw [h1, h3]; exact h.rf, by rw [h2, h3]; exact h.fs, by rw [h2]; exact h.sm⟩
theorem round_any (c : Xc) (hc : XCfg c) (n k : Nat) (fn key : Int) (u : RT) (S2 : RS) (i B : Nat) (t : Tk) (r : RT) (S : RS) (h : PI c n k fn key u S2 i t r S) (ho2 : S2.over = false) (hft : ∀ j, wrap32 (S.futs j) = S.futs j) (ih : ∀ m, m < n → XSays c m) (hK : c.K ≤ B) :
    ∃ (a : VmA.Act) (t2 : Tk), (0 ≤ t.fuel - t2.fuel ∧ t.fuel - t2.fuel ≤ 1) ∧ (S.steps + t.fuel - t2.fuel ≤ c.most) ∧
      (∀ w, Is w B t → CodeAt c.K w c.pa c.fs → Calls Try.prog 30 #[.pointer (some ⟨B, 0, none⟩)] w fun e w' => e = .returned (actV a) ∧ Is w' B t2 ∧ Ch (· = B) w w') ∧
      Rnd c n k fn key u S2 i { S with steps := S.steps + t.fuel - t2.fuel } a t2 := by
  obtain ⟨⟨m, hm, hev⟩, hs, hrk, hrkey, hrfn, hi1, hi0, hsk, hdep, hpa, hpl⟩ := h
  have hos : S.over = false := by
    cases e : S.over
    · rfl
    · have := evLoop_over hev e
      injection this with _ e2
      rw [e2, e] at ho2; cases ho2
  obtain ⟨m, rfl⟩ : ∃ m', m = m' + 1 := by
    cases m with
    | zero => simp [evLoop] at hev
    | succ m => exact ⟨m, rfl⟩
  have hSS : ∀ (t2 : Tk), t2.fuel = t.fuel → ({ S with steps := S.steps + t.fuel - t2.fuel } : RS) = S := fun t2 e => by rw [e, show S.steps + t.fuel - t.fuel = S.steps by omega]
  have hS1 : ∀ (t2 : Tk), t2.fuel = t.fuel - 1 → ({ S with steps := S.steps + t.fuel - t2.fuel } : RS) = { S with steps := S.steps + 1 } := fun t2 e => by rw [e, show S.steps + t.fuel - (t.fuel - 1) = S.steps + 1 by omega]
  have hfu0 := hrk.fuel
  have hftf := hs.fuel
  by_cases h1 : r.how ≠ 0
  · have hev' := hev
    unfold evLoop at hev'
    rw [if_pos (Or.inl h1)] at hev'
    cases hev'
    refine ⟨⟨7, 0, 0, 0⟩, t, by omega, by have := hsk.sm; omega, fun w hw _ => next_over B t w hw (by rw [hs.endB]; simp [h1]), ?_⟩
    rw [hSS t rfl]
    exact Rnd.over rfl rfl hs.how hs.val hs.wval
  have h0 : r.how = 0 := by
    rcases Decidable.em (r.how = 0) with e | e
    · exact e
    · exact absurd e h1
  have he : VmA.endB t = false := by rw [hs.endB, h0]; rfl
  unfold evLoop at hev
  rw [if_neg (by rw [hos]; simp [h0])] at hev
  by_cases h2 : r.fuel = 0
  · rw [if_pos h2] at hev
    cases hev
    have hst := tk_stop_same t 5
    refine ⟨Act.zero, t.stop 5, by omega, by have := hsk.sm; omega, fun w hw _ => next_fuel B t w hw he (by omega), ?_⟩
    rw [hSS _ hst.2.2.2]
    refine Rnd.go (Or.inl rfl) ⟨r.ends 5, ⟨1, by omega, by unfold evLoop; rw [if_pos (Or.inl (by show (5 : Int) ≠ 0; decide))]⟩, sim_stop hs h0 (by decide), ⟨hrk.key, hrk.forks, hrk.fuel, fun e => by change (5 : Int) = 0 at e; cases e⟩, hrkey, hrfn, ?_, fun e => (by change (5 : Int) = 0 at e; cases e), hsk, hst.1.trans hdep, hst.2.1.trans hpa, hst.2.2.1.trans hpl⟩
    show ((i + 1 : Nat) : Int) + r.fuel ≤ 501
    have := hi0 h0
    omega
  rw [if_neg h2] at hev
  by_cases h3 : c.most ≤ S.steps
  · rw [if_pos h3] at hev
    cases hev
    cases ho2
  rw [if_neg h3] at hev
  obtain ⟨nn, pp, f, hn1, hn2, hn3, hn4⟩ := hrk.place h0
  obtain ⟨x, hx⟩ := ins_here hc.pv hn2 hn4
  have hia := insAt_of hn1 hn2 hn3 hx.1
  rw [hia] at hev
  simp only at hev
  have hin := hx.2.2.1
  have hi := hi0 h0
  have hdp := hc.pv.dep1
  have hfl1 := hc.pv.fuel1
  have hN : ∀ w, Is w B t → CodeAt c.K w c.pa c.fs → Calls Try.prog 30 #[.pointer (some ⟨B, 0, none⟩)] w fun e w' => e = .returned (actV (stepM t x).1) ∧ Is w' B (stepM t x).2 ∧ Ch (· = B) w w' := fun w hw hcd =>
    next_step c.K B t c.fs f x nn pp w hw (by rw [hpa]; exact hcd) hK (hs.fn.trans hn1) hn2 hpl (hs.place.trans hn3) hx.1 (by have := hx.2.1; omega) he (by omega) (by omega) hin.1 (by rw [hs.key]; exact hrk.key) (by rw [hdep]; exact hdp) (by rw [hs.forks]; exact hrk.forks)
  obtain ⟨st, -, -, -⟩ := step_stay t x
  have hd2 : (stepM t x).2.depth = c.depth := st.depth.trans hdep
  have hp2 : (stepM t x).2.pa = c.pa := st.pa.trans hpa
  have hl2 : (stepM t x).2.pl = c.fs.length := st.pl.trans hpl
  have hs1 := sok_step hsk h3
  have hro : ∀ (r3 : RT), r3.key = r.key → r3.forks = r.forks → r3.fuel = r.fuel - 1 → r3.how ≠ 0 → ROk c.fs c.futs r3 := fun r3 g1 g2 g3 g4 => ⟨by rw [g1]; exact hrk.key, by rw [g2]; exact hrk.forks, by rw [g3]; omega, fun e => absurd e g4⟩
  refine ⟨(stepM t x).1, (stepM t x).2, by rw [st.fuel]; omega, by rw [st.fuel]; omega, hN, ?_⟩
  rw [hS1 _ st.fuel]
  by_cases h9 : x.op = 9
  · rw [if_pos h9] at hev
    have e9 := step_fork hs h9
    rw [hdep] at e9
    by_cases h5 : c.depth ≤ dep r.key
    · rw [if_pos h5] at hev e9
      rw [e9] at hd2 hp2 hl2 ⊢
      exact Rnd.go (Or.inl rfl) ⟨_, ⟨m, by omega, hev⟩, sim_stop (sim_begin hs) h0 (by decide), hro _ rfl rfl rfl (by show (6 : Int) ≠ 0; decide), hrkey, hrfn, by show ((i + 1 : Nat) : Int) + (r.fuel - 1) ≤ 501; omega, fun e => (by change (6 : Int) = 0 at e; cases e), hs1, hd2, hp2, hl2⟩
    rw [if_neg h5] at hev e9
    by_cases h6 : 1000 ≤ r.forks
    · rw [if_pos h6] at hev e9
      rw [e9] at hd2 hp2 hl2 ⊢
      exact Rnd.go (Or.inl rfl) ⟨_, ⟨m, by omega, hev⟩, sim_stop (sim_begin hs) h0 (by decide), hro _ rfl rfl rfl (by show (9 : Int) ≠ 0; decide), hrkey, hrfn, by show ((i + 1 : Nat) : Int) + (r.fuel - 1) ≤ 501; omega, fun e => (by change (9 : Int) = 0 at e; cases e), hs1, hd2, hp2, hl2⟩
    rw [if_neg h6] at hev e9
    cases hcc : evLoop c.fs c.depth c.fuel c.most m (rt0 x.b (r.reg x.c) (child r.key (r.forks + 1)) c.fuel) { S with steps := S.steps + 1, forks := S.forks + 1 } with
    | none => rw [hcc] at hev; cases hev
    | some q =>
      obtain ⟨u', S2'⟩ := q
      rw [hcc] at hev
      simp only at hev
      have hfk := hrk.forks
      have hbn := born (n := r.forks + 1) hrk.key (by omega) (by omega) (by omega)
      have ho' : S2'.over = false := by
        cases e : S2'.over
        · rfl
        · have e2 : finish u' S2' (r.reg x.c) = S2' := by unfold finish; rw [e]; rfl
          rw [e2] at hev
          have := evLoop_over hev e
          injection this with _ e3
          rw [e3, e] at ho2; cases ho2
      have hA : Rg x.a 4 ∧ Rg x.b 12 := by rcases hin.1 with g | g | g | g | g | g | g | g | g | g | g <;> first | exact ⟨g.2.1, g.2.2.1⟩ | (exfalso; omega)
      have hbl := hin.2.2.2.1 h9
      unfold Rg at hA
      have hu0 : u'.how ≠ 0 := by
        rcases evLoop_ends hcc with e | e
        · exact e
        · rw [ho'] at e; cases e
      have hb1 : (x.b.toNat : Int) = x.b := by omega
      have ha1 : (x.a.toNat : Int) = x.a := by omega
      have hch := ih m (by omega) (k + 1) x.b.toNat (r.reg x.c) (child r.key (r.forks + 1)) { S with steps := S.steps + 1, forks := S.forks + 1 } u' S2' (by rw [hb1]; exact hcc) ho' (by omega) hbn.1 (sok_fork hsk h3)
      rw [e9] at hd2 hp2 hl2 ⊢
      refine Rnd.fork x.a.toNat x.b.toNat (r.reg x.c) (child r.key (r.forks + 1)) (finish u' S2' (r.reg x.c)) u'.how u'.val (by rw [hb1, ha1]) (by omega) (by omega) (by omega) (by rw [← hrkey]; exact hbn.lt) (hch.forks (S := { S with steps := S.steps + 1 })) (fun hw => ?_)
      refine ⟨_, ⟨m, by omega, hev⟩, ?_, ⟨hrk.key, by show 0 ≤ r.forks + 1; omega, by show 0 ≤ r.fuel - 1; omega, fun _ => ?_⟩, hrkey, hrfn, by show ((i + 1 : Nat) : Int) + (r.fuel - 1) ≤ 501; omega, fun _ => by show ((i + 1 : Nat) : Int) + (r.fuel - 1) ≤ 500; omega, sok_finish (evLoop_sok hcc (sok_fork hsk h3)), hd2, hp2, hl2⟩
      · have hsb := sim_begin hs
        have hsf : Sim ({ tb t with forks := t.forks + 1 } : Tk) { rb r with forks := r.forks + 1 } := ⟨hsb.fn, hsb.place, hsb.fuel, by show t.forks + 1 = r.forks + 1; rw [hs.forks], hsb.key, hsb.how, hsb.val, hsb.regs, hsb.hands, hsb.wr, hsb.wv, hsb.hv0, hsb.hh0, hsb.wval⟩
        exact sim_hand hsf x.a.toNat hu0 hw
      · have hpl : pp + 1 < f.length := by
          rcases hx.2.2.2 with g | g | g
          · exact g
          · omega
          · omega
        exact ⟨nn, pp + 1, f, hn1, hn2, by show r.place + 1 = _; rw [hn3]; omega, hpl⟩
  · rw [if_neg h9] at hev
    have hrn := rok_next (S := { S with steps := S.steps + 1 }) hc.pv hrk (by omega) hn1 hn2 hn3 hx
    have hkp := one_keep (rb r) { S with steps := S.steps + 1 } x
    have hso := sok_one (t := rb r) (i := x) hs1
    by_cases h11 : x.op = 11
    · have e11 := step_set hs h11
      have eo : oneM (rb r) { S with steps := S.steps + 1 } x = if S.was x.a.toNat = true then ((rb r).ends 3, { S with steps := S.steps + 1 }) else (rb r, { { S with steps := S.steps + 1 } with was := upd S.was x.a.toNat true, futs := upd S.futs x.a.toNat (r.reg x.b) }) := by
        unfold oneM; simp only [h11]; rfl
      have hA : Rg x.a 16 := by rcases hin.1 with g | g | g | g | g | g | g | g | g | g | g <;> first | exact g.2.1 | (exfalso; omega)
      have hal := hin.2.2.2.2.1 h11
      unfold Rg at hA
      have ha1 : (x.a.toNat : Int) = x.a := by omega
      rw [e11] at hd2 hp2 hl2 ⊢
      change evLoop _ _ _ _ m (oneM (rb r) { S with steps := S.steps + 1 } x).1 (oneM (rb r) { S with steps := S.steps + 1 } x).2 = _ at hev
      change ROk c.fs c.futs (oneM (rb r) { S with steps := S.steps + 1 } x).1 ∧ _ at hrn
      rw [eo] at hev hrn hkp hso
      refine Rnd.set x.a.toNat (r.reg x.b) (by rw [ha1]) (by omega) (hs.wr _) (fun hw => ?_) (fun hw => ?_)
      · change S.was x.a.toNat = true at hw
        rw [if_pos hw] at hev hrn hkp hso
        have hst := tk_stop_same (tb t) 3
        exact ⟨_, ⟨m, by omega, hev⟩, sim_stop (sim_begin hs) h0 (by decide), hrn.1, hrkey, hrfn, by show ((i + 1 : Nat) : Int) + (r.fuel - 1) ≤ 501; omega, fun _ => by show ((i + 1 : Nat) : Int) + (r.fuel - 1) ≤ 500; omega, hso, hst.1.trans hd2, hst.2.1.trans hp2, hst.2.2.1.trans hl2⟩
      · change S.was x.a.toNat = false at hw
        rw [if_neg (by rw [hw]; decide)] at hev hrn hkp hso
        exact ⟨_, ⟨m, by omega, hev⟩, sim_begin hs, hrn.1, hrkey, hrfn, by show ((i + 1 : Nat) : Int) + (r.fuel - 1) ≤ 501; omega, fun _ => by show ((i + 1 : Nat) : Int) + (r.fuel - 1) ≤ 500; omega, hso, hd2, hp2, hl2⟩
    by_cases h12 : x.op = 12
    · have e12 := step_get (t := t) h12
      have eo : oneM (rb r) { S with steps := S.steps + 1 } x = if S.was x.b.toNat = false then ((rb r).ends 4, { S with steps := S.steps + 1 }) else ((rb r).setReg x.a (S.futs x.b.toNat), { S with steps := S.steps + 1 }) := by
        unfold oneM; simp only [h12]; rfl
      have hA : Rg x.a 8 ∧ Rg x.b 16 := by rcases hin.1 with g | g | g | g | g | g | g | g | g | g | g <;> first | exact ⟨g.2.1, g.2.2.1⟩ | (exfalso; omega)
      have hal := hin.2.2.2.2.2 h12
      unfold Rg at hA
      have ha1 : (x.a.toNat : Int) = x.a := by omega
      have hb1 : (x.b.toNat : Int) = x.b := by omega
      rw [e12] at hd2 hp2 hl2 ⊢
      change evLoop _ _ _ _ m (oneM (rb r) { S with steps := S.steps + 1 } x).1 (oneM (rb r) { S with steps := S.steps + 1 } x).2 = _ at hev
      change ROk c.fs c.futs (oneM (rb r) { S with steps := S.steps + 1 } x).1 ∧ _ at hrn
      rw [eo] at hev hrn hkp hso
      refine Rnd.get x.a.toNat x.b.toNat (by rw [ha1, hb1]) (by omega) (by omega) (fun hw => ?_) (fun hw => ?_)
      · change S.was x.b.toNat = false at hw
        rw [if_pos hw] at hev hrn hkp hso
        have hst := tk_stop_same (tb t) 4
        exact ⟨_, ⟨m, by omega, hev⟩, sim_stop (sim_begin hs) h0 (by decide), hrn.1, hrkey, hrfn, by show ((i + 1 : Nat) : Int) + (r.fuel - 1) ≤ 501; omega, fun _ => by show ((i + 1 : Nat) : Int) + (r.fuel - 1) ≤ 500; omega, hso, hst.1.trans hd2, hst.2.1.trans hp2, hst.2.2.1.trans hl2⟩
      · change S.was x.b.toNat = true at hw
        rw [if_neg (by rw [hw]; decide)] at hev hrn hkp hso
        refine ⟨_, ⟨m, by omega, hev⟩, sim_reg (sim_begin hs) (hft _) (hft _) x.a, hrn.1, hrkey, hrfn, by show ((i + 1 : Nat) : Int) + (r.fuel - 1) ≤ 501; omega, fun _ => by show ((i + 1 : Nat) : Int) + (r.fuel - 1) ≤ 500; omega, hso, hd2, hp2, hl2⟩
    · obtain ⟨g1, g2, g3⟩ := sim_local hs h0 hin.1 { S with steps := S.steps + 1 } h9 h11 h12
      change evLoop _ _ _ _ m (oneM (rb r) { S with steps := S.steps + 1 } x).1 (oneM (rb r) { S with steps := S.steps + 1 } x).2 = _ at hev
      change ROk c.fs c.futs (oneM (rb r) { S with steps := S.steps + 1 } x).1 ∧ _ at hrn
      rw [g3] at hev hso
      have hf2 : (oneM (rb r) { S with steps := S.steps + 1 } x).1.fuel = r.fuel - 1 := hrn.2.1
      exact Rnd.go g1 ⟨_, ⟨m, by omega, hev⟩, g2, hrn.1, hkp.1.trans hrkey, hkp.2.trans hrfn, by rw [hf2]; omega, fun _ => by rw [hf2]; omega, hso, hd2, hp2, hl2⟩
end Go.Proofs.Ytonndofbnhnkpaa.Sim
namespace Go.Proofs.Ytonndofbnhnkpaa.Sim
open Go.RowKit Num KeyM KeyW StatW Blk VmA VmG Prg EvM Rf
def idx20 : List (Nat × Nat) := [(0, 111), (1, 112), (2, 113), (3, 114), (4, 115), (5, 116), (6, 117), (7, 118), (8, 119), (9, 120), (10, 121), (11, 122), (12, 123)]
def V20 (X A B : Nat) (z q f v ck how val : Int) : Nat → Value := fun d => match d with
  | 111 => .pointer (some ⟨B, 0, none⟩)
  | 112 => .pointer (some ⟨A, 1, none⟩)
  | 113 => .int .i64 z
  | 114 => .int .i64 q
  | 115 => .pointer (some ⟨X, 0, none⟩)
  | 116 => .int .i64 f
  | 117 => .pointer (some ⟨A, 2, none⟩)
  | 118 => .int .i64 v
  | 119 => .pointer (some ⟨A, 3, none⟩)
  | 120 => .int .i64 ck
  | 121 => .agg #[.int .i64 how, .int .i64 val]
  | 122 => .agg #[.int .i64 2, .int .i64 0, .int .i64 how, .int .i64 val]
  | 123 => .tuple #[]
  | _ => undef
structure W20 (c : Xc) (k E A B : Nat) (R : Nat → Value) (w6 : World) (S3 S4 : RS) (t t' : Tk) (val : Int) (L : Array Bool) (w' : World) : Prop where
  act : w'.rowIs A 56 4 R
  ends : w'.rowIs E 35 2 (fun _ => .int .i64 0)
  ch : Ch (fun k => Xvs c k ∨ k = B) w6 w'
  ex : IsX c w' (if L[10]? = some true then S4 else S3) (k + 1)
  task : Is w' B (if L[12]? = some true then t' else t)
  val : L[10]? = some true → wrap32 val = val
variable {c : Xc} {k E A B : Nat} {R : Nat → Value} {w6 w' w'' : World} {S3 S4 : RS} {t t' : Tk} {val : Int} {L : Array Bool}
theorem W20.start (h1 : w6.rowIs A 56 4 R) (h2 : w6.rowIs E 35 2 (fun _ => .int .i64 0)) (h3 : IsX c w6 S3 (k + 1)) (h4 : Is w6 B t) : W20 c k E A B R w6 S3 S4 t t' val (Array.replicate 13 false) w6.drew := by
  have h10 : (Array.replicate 13 false)[10]? = some false := rfl
  have h12 : (Array.replicate 13 false)[12]? = some false := rfl
  refine ⟨World.rowIs.drew h1, World.rowIs.drew h2, (Ch.refl _ _).drew, ?_, ?_, fun h => by rw [h10] at h; cases h⟩
  · rw [if_neg (by rw [h10]; decide)]; exact h3.bl (Bl.drew (Bl.refl _))
  · rw [if_neg (by rw [h12]; decide)]; exact World.rowIs.drew h4
theorem W20.skip (h : W20 c k E A B R w6 S3 S4 t t' val L w') (i : Nat) (h1 : i ≠ 10) (h2 : i ≠ 12) : W20 c k E A B R w6 S3 S4 t t' val (L.setIfInBounds i true) w' := by
  obtain ⟨a1, a2, a3, a4, a5, a6⟩ := h
  exact ⟨a1, a2, a3, by rw [Tab.get_ne (fun e => h1 e.symm)]; exact a4, by rw [Tab.get_ne (fun e => h2 e.symm)]; exact a5, fun h => a6 (by rw [Tab.get_ne (fun e => h1 e.symm)] at h; exact h)⟩
theorem ne_ty {w : World} {b b' n n' : Nat} {ty ty' : TypeId} {f f' : Nat → Value} (h : w.rowIs b ty n f) (h' : w.rowIs b' ty' n' f') (hn : ty ≠ ty') : b ≠ b' := fun e => by
  obtain ⟨cur, hcur⟩ := row_type h
  exact ty_ne h' hcur hn e
theorem W20.child (h : W20 c k E A B R w6 S3 S4 t t' val L w') (hL : L[10]? = some false) (hX : IsX c w'' S4 (k + 1)) (hc : Ch (Xvs c) w' w'') (hv : wrap32 val = val) : W20 c k E A B R w6 S3 S4 t t' val (L.setIfInBounds 10 true) w'' := by
  obtain ⟨a1, a2, a3, a4, a5, a6⟩ := h
  have f1 := a4.far_b a1 (by decide) (by decide) (by decide)
  have f2 := a4.far_b a2 (by decide) (by decide) (by decide)
  have f3 := a4.far_b a5 (by decide) (by decide) (by decide)
  have no : ∀ {b : Nat}, (b ≠ c.X ∧ b ≠ c.FB ∧ b ≠ c.WB) → ¬ Xvs c b := fun hf e => by rcases e with e | e | e; exact hf.1 e; exact hf.2.1 e; exact hf.2.2 e
  refine ⟨hc.row a1 (no f1), hc.row a2 (no f2), a3.trans (hc.mono (fun _ _ e => Or.inl e)), ?_, ?_, fun _ => hv⟩
  · rw [if_pos (Tab.get_self hL)]; exact hX
  · rw [Tab.get_ne (by decide)]; exact hc.row a5 (no f3)
theorem W20.hand (h : W20 c k E A B R w6 S3 S4 t t' val L w') (hL : L[12]? = some false) (hK : c.K ≤ B) (hI : Is w'' B t') (hc : Ch (· = B) w' w'') : W20 c k E A B R w6 S3 S4 t t' val (L.setIfInBounds 12 true) w'' := by
  obtain ⟨a1, a2, a3, a4, a5, a6⟩ := h
  refine ⟨hc.row a1 (ne_ty a1 a5 (by decide)), hc.row a2 (ne_ty a2 a5 (by decide)), a3.trans (hc.mono (fun _ _ e => Or.inr e)), ?_, ?_, fun h => a6 (by rw [Tab.get_ne (by decide)] at h; exact h)⟩
  · rw [Tab.get_ne (by decide)]; exact a4.on a5 (by decide) (by decide) (by decide) hK hc
  · rw [if_pos (Tab.get_self hL)]; exact hI
theorem W20.ex0 (h : W20 c k E A B R w6 S3 S4 t t' val L w') (hL : L[10]? = some false) : IsX c w' S3 (k + 1) := by
  have := h.ex
  rw [if_neg (by rw [hL]; decide)] at this
  exact this
theorem W20.task0 (h : W20 c k E A B R w6 S3 S4 t t' val L w') (hL : L[12]? = some false) : Is w' B t := by
  have := h.task
  rw [if_neg (by rw [hL]; decide)] at this
  exact this
theorem W20.done (h : W20 c k E A B R w6 S3 S4 t t' val L w') (h1 : L[10]? = some true) (h2 : L[12]? = some true) : w'.rowIs E 35 2 (fun _ => .int .i64 0) ∧ Ch (fun k => Xvs c k ∨ k = B) w6 w' ∧ IsX c w' S4 (k + 1) ∧ Is w' B t' ∧ wrap32 val = val := by
  obtain ⟨a1, a2, a3, a4, a5, a6⟩ := h
  rw [if_pos h1] at a4
  rw [if_pos h2] at a5
  exact ⟨a2, a3, a4, a5, a6 h1⟩
end Go.Proofs.Ytonndofbnhnkpaa.Sim
