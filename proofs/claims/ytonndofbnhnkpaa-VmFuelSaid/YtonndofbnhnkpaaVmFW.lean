/- VmFuel: the walk. -/
import Derived.Test.YtonndofbnhnkpaaVmG
import Derived.Test.YtonndofbnhnkpaaPrgP
namespace Go.Proofs.Ytonndofbnhnkpaa.VmFW
open Go.RowKit Num KeyM KeyW StatW Blk VmA VmG Prg Frm
/-- What holds at the head of the loop. -/
structure At (Pb : Nat) (pf : Nat → Value) (K B : Nat) (pa : Option Addr) (fs : List (List Ins)) (futs F used : Int) (w wr : World) (t : Tk) : Prop where
  is : Is wr B t
  ok : Ok fs futs t
  code : CodeAt K wr pa fs
  pa : t.pa = pa
  pl : t.pl = fs.length
  key : t.key = 1125899906842624
  fuel : used + t.fuel = F
  fuel0 : 0 ≤ t.fuel
  hands : ∀ j, t.hands j = Hd.zero
  ch : Ch (fun i => w.heap.size ≤ i) w wr
  row : wr.rowIs Pb 52 4 pf
  ne : Pb ≠ B
theorem At.bl {Pb : Nat} {pf : Nat → Value} {K B : Nat} {pa : Option Addr} {fs : List (List Ins)} {futs F used : Int} {w wr wq : World} {t : Tk} (h : At Pb pf K B pa fs futs F used w wr t) (hb : Bl wr wq) : At Pb pf K B pa fs futs F used w wq t :=
  ⟨h.is.bl hb, h.ok, h.code.bl hb, h.pa, h.pl, h.key, h.fuel, h.fuel0, h.hands, h.ch.trans (Ch.of_bl hb), row_bl h.row hb, h.ne⟩
theorem ask_nohands (t : Tk) (i : Ins) (h : ∀ j, t.hands j = Hd.zero) : (askM t i).1.kind ≠ 2 := by
  unfold askM
  by_cases g : i.op = 9
  · simp only [if_pos g]; rcases forkM_kind t i with e | e
    · rw [e]; decide
    · rw [e]; decide
  simp only [if_neg g]
  have hz : ∀ x, (t.hand x).kind = 0 := fun x => by unfold Tk.hand; rw [h]; rfl
  by_cases g10 : i.op = 10
  · simp [if_pos g10, hz, Act.zero]
  simp only [if_neg g10]
  repeat' split
  all_goals first | (simp [Act.zero]; done) | (simp_all [Act.zero]; done)
theorem step_nohands (t : Tk) (i : Ins) (h : ∀ j, t.hands j = Hd.zero) : (stepM t i).1.kind ≠ 2 := by
  have := ask_nohands { t with fuel := t.fuel - 1, place := t.place + 1 } i h
  unfold stepM
  simp only []
  split
  · simp [Act.zero]
  · exact this
/-- One Next, of a task that has not ended and has fuel. -/
theorem At.next {Pb : Nat} {pf : Nat → Value} {K B : Nat} {pa : Option Addr} {fs : List (List Ins)} {futs depth fuel F used : Int} {w wr : World} {t : Tk} (h : At Pb pf K B pa fs futs F used w wr t) (hP : PV fs futs depth fuel) (hK : K ≤ B) (hw : w.heap.size ≤ B) (he : endB t = false) (hf : 0 < t.fuel) (hf1 : t.fuel ≤ 1000000) :
    Calls Try.prog 30 #[.pointer (some ⟨B, 0, none⟩)] wr fun e w' => ∃ a u, e = .returned (actV a) ∧ a.kind ≠ 7 ∧ a.kind ≠ 2 ∧ u.fuel = t.fuel - 1 ∧ At Pb pf K B pa fs futs F (used + 1) w w' u := by
  obtain ⟨n, p, f, i, h1, h2, h3, h4, h5, h6, h7, _⟩ := h.ok.place he
  have hk := step_kind t i
  obtain ⟨s, _⟩ := step_stay t i
  refine (next_step K B t fs f i n p wr h.is (by rw [h.pa]; exact h.code) hK h1 h2 h.pl h3 h4 (by omega) he hf hf1 h6.1 h.ok.key h.ok.depth h.ok.forks).mono ?_
  rintro e w' ⟨rfl, g1, g2⟩
  refine ⟨_, _, rfl, ?_, step_nohands t i h.hands, s.fuel, g1, ok_step hP h.ok h1 h2 h3 h4, h.code.on g2 hK, s.pa.trans h.pa, s.pl.trans h.pl, s.key.trans h.key, by have := s.fuel; have := h.fuel; omega, by have := s.fuel; omega, fun j => ?_, h.ch.then g2 (fun i hi e => by omega), g2.row h.row h.ne, h.ne⟩
  · rcases hk with e | e
    · rw [e]; decide
    · omega
  · rcases s.hands j with e | e
    · rw [e]; exact h.hands j
    · exact e
theorem stop_how {t : Tk} (he : endB t = false) : (t.stop 5).how = 5 ∧ endB (t.stop 5) = true ∧ (t.stop 5).fuel = t.fuel := by
  unfold Tk.stop; rw [he]; exact ⟨rfl, rfl, rfl⟩
theorem At.out {Pb : Nat} {pf : Nat → Value} {K B : Nat} {pa : Option Addr} {fs : List (List Ins)} {futs F used : Int} {w wr : World} {t : Tk} (h : At Pb pf K B pa fs futs F used w wr t) (hK : K ≤ B) (hw : w.heap.size ≤ B) (he : endB t = false) (hf : t.fuel = 0) :
    Calls Try.prog 30 #[.pointer (some ⟨B, 0, none⟩)] wr fun e w' => e = .returned (actV Act.zero) ∧ At Pb pf K B pa fs futs F used w w' (t.stop 5) := by
  have s := same_stop t 5
  refine (next_fuel B t wr h.is he hf).mono ?_
  rintro e w' ⟨rfl, g1, g2⟩
  refine ⟨rfl, g1, ⟨by rw [s.key]; exact h.ok.key, by rw [s.depth]; exact h.ok.depth, by rw [s.forks]; exact h.ok.forks, fun e => by rw [(stop_how he).2.1] at e; cases e⟩, h.code.on g2 hK, s.pa.trans h.pa, s.pl.trans h.pl, s.key.trans h.key, by rw [s.fuel]; exact h.fuel, by rw [s.fuel]; exact h.fuel0, fun j => ?_, h.ch.then g2 (fun i hi e => by omega), g2.row h.row h.ne, h.ne⟩
  rcases s.hands j with e | e
  · rw [e]; exact h.hands j
  · exact e
theorem At.over {Pb : Nat} {pf : Nat → Value} {K B : Nat} {pa : Option Addr} {fs : List (List Ins)} {futs F used : Int} {w wr : World} {t : Tk} (h : At Pb pf K B pa fs futs F used w wr t) (hK : K ≤ B) (hw : w.heap.size ≤ B) (he : endB t = true) :
    Calls Try.prog 30 #[.pointer (some ⟨B, 0, none⟩)] wr fun e w' => e = .returned (actV ⟨7, 0, 0, 0⟩) ∧ At Pb pf K B pa fs futs F used w w' t := by
  refine (next_over B t wr h.is he).mono ?_
  rintro e w' ⟨rfl, g1, g2⟩
  exact ⟨rfl, g1, h.ok, h.code.on g2 hK, h.pa, h.pl, h.key, h.fuel, h.fuel0, h.hands, h.ch.then g2 (fun i hi e => by omega), g2.row h.row h.ne, h.ne⟩
end Go.Proofs.Ytonndofbnhnkpaa.VmFW
