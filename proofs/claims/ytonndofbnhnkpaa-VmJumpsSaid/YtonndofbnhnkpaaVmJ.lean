/- VmJumps: the loop that counts down, in plain Lean; its walk. -/
import Derived.Test.YtonndofbnhnkpaaVmW
namespace Go.Proofs.Ytonndofbnhnkpaa.VmJ
open Go.RowKit Num KeyM KeyW StatW Blk VmA
def jf : List Ins := [⟨1, 1, 1, 0⟩, ⟨8, 0, 5, 0⟩, ⟨3, 0, 0, 1⟩, ⟨2, 2, 2, 1⟩, ⟨7, 1, 0, 0⟩, ⟨15, 2, 0, 0⟩]
def rg (r0 r1 r2 : Int) (j : Nat) : Int := if j = 0 then r0 else if j = 1 then r1 else if j = 2 then r2 else 0
def jt (pa : Option Addr) (place fuel r0 r1 r2 how val : Int) : Tk := ⟨pa, 1, 1, 0, 0, 500, 0, place, fuel, 0, 1125899906842624, rg r0 r1 r2, fun _ => Hd.zero, how, val⟩
theorem rg_set0 (r0 r1 r2 v : Int) : (fun j => if j = 0 then v else rg r0 r1 r2 j) = rg v r1 r2 := by
  funext j; unfold rg
  by_cases h0 : j = 0 <;> by_cases h1 : j = 1 <;> by_cases h2 : j = 2 <;> simp_all
theorem rg_set1 (r0 r1 r2 v : Int) : (fun j => if j = 1 then v else rg r0 r1 r2 j) = rg r0 v r2 := by
  funext j; unfold rg
  by_cases h0 : j = 0 <;> by_cases h1 : j = 1 <;> by_cases h2 : j = 2 <;> simp_all
theorem rg_set2 (r0 r1 r2 v : Int) : (fun j => if j = 2 then v else rg r0 r1 r2 j) = rg r0 r1 v := by
  funext j; unfold rg
  by_cases h0 : j = 0 <;> by_cases h1 : j = 1 <;> by_cases h2 : j = 2 <;> simp_all
theorem jt_eq {pa : Option Addr} {p f f' r0 r0' r1 r2 r2' x y : Int} (hf : f = f') (h0 : r0 = r0') (h2 : r2 = r2') : jt pa p f r0 r1 r2 x y = jt pa p f' r0' r1 r2' x y := by rw [hf, h0, h2]
section
variable (pa : Option Addr) (f r0 r1 r2 : Int)
theorem s0 : stepM (jt pa 0 f r0 r1 r2 0 0) ⟨1, 1, 1, 0⟩ = (Act.zero, jt pa 1 (f - 1) r0 1 r2 0 0) := by
  show (Act.zero, Tk.setReg (jt pa 1 (f - 1) r0 r1 r2 0 0) 1 (wrap32 1)) = _
  rw [w32_in 1 (by decide) (by decide)]
  unfold Tk.setReg jt
  rw [← rg_set1 r0 r1 r2 1]
theorem s1y : stepM (jt pa 1 f 0 r1 r2 0 0) ⟨8, 0, 5, 0⟩ = (Act.zero, jt pa 5 (f - 1) 0 r1 r2 0 0) := rfl
theorem s1n (h : ¬ r0 = 0) : stepM (jt pa 1 f r0 r1 r2 0 0) ⟨8, 0, 5, 0⟩ = (Act.zero, jt pa 2 (f - 1) r0 r1 r2 0 0) := by
  show (Act.zero, if r0 = 0 then _ else jt pa 2 (f - 1) r0 r1 r2 0 0) = _
  rw [if_neg h]
theorem s2 : stepM (jt pa 2 f r0 r1 r2 0 0) ⟨3, 0, 0, 1⟩ = (Act.zero, jt pa 3 (f - 1) (sub r0 r1) r1 r2 0 0) := by
  show (Act.zero, Tk.setReg (jt pa 3 (f - 1) r0 r1 r2 0 0) 0 (sub r0 r1)) = _
  unfold Tk.setReg jt
  rw [← rg_set0 r0 r1 r2 (sub r0 r1)]
theorem s3 : stepM (jt pa 3 f r0 r1 r2 0 0) ⟨2, 2, 2, 1⟩ = (Act.zero, jt pa 4 (f - 1) r0 r1 (add r2 r1) 0 0) := by
  show (Act.zero, Tk.setReg (jt pa 4 (f - 1) r0 r1 r2 0 0) 2 (add r2 r1)) = _
  unfold Tk.setReg jt
  rw [← rg_set2 r0 r1 r2 (add r2 r1)]
theorem s4 : stepM (jt pa 4 f r0 r1 r2 0 0) ⟨7, 1, 0, 0⟩ = (Act.zero, jt pa 1 (f - 1) r0 r1 r2 0 0) := rfl
theorem s5 : stepM (jt pa 5 f r0 r1 r2 0 0) ⟨15, 2, 0, 0⟩ = (Act.zero, jt pa 6 (f - 1) r0 r1 r2 1 r2) := rfl
end
/-- The task behind so many steps. -/
def Good (pa : Option Addr) (k s : Nat) (t : Tk) : Prop :=
  (s = 0 ∧ t = jt pa 0 500 k 0 0 0 0) ∨
  (∃ q : Nat, q ≤ k ∧ s = 1 + 4 * q ∧ t = jt pa 1 (500 - s) (k - q) 1 q 0 0) ∨
  (∃ q : Nat, q < k ∧ s = 2 + 4 * q ∧ t = jt pa 2 (500 - s) (k - q) 1 q 0 0) ∨
  (∃ q : Nat, q < k ∧ s = 3 + 4 * q ∧ t = jt pa 3 (500 - s) (k - q - 1) 1 q 0 0) ∨
  (∃ q : Nat, q < k ∧ s = 4 + 4 * q ∧ t = jt pa 4 (500 - s) (k - q - 1) 1 (q + 1) 0 0) ∨
  (s = 2 + 4 * k ∧ t = jt pa 5 (500 - s) 0 1 k 0 0) ∨
  (s = 3 + 4 * k ∧ t = jt pa 6 (500 - s) 0 1 k 1 k)
theorem root_ok : chk 1125899906842624 = true := by decide +kernel
theorem adv (K B : Nat) (pa : Option Addr) (k s : Nat) (t : Tk) (w : World) (h : Is w B t) (hc : CodeAt K w pa [jf]) (hK : K ≤ B) (hg : Good pa k s t) (hk : k < 90) (hs : s < 3 + 4 * k) :
    Calls Try.prog 30 #[.pointer (some ⟨B, 0, none⟩)] w fun e w' => e = .returned (actV Act.zero) ∧ ∃ t', Is w' B t' ∧ Good pa k (s + 1) t' ∧ Ch (· = B) w w' := by
  have go : ∀ (p : Nat) (i : Ins) (f r0 r1 r2 : Int) (t' : Tk), jf[p]? = some i → InsOk i → 0 < f → f ≤ 500 → t = jt pa p f r0 r1 r2 0 0 → stepM (jt pa p f r0 r1 r2 0 0) i = (Act.zero, t') → Good pa k (s + 1) t' →
      Calls Try.prog 30 #[.pointer (some ⟨B, 0, none⟩)] w fun e w' => e = .returned (actV Act.zero) ∧ ∃ t', Is w' B t' ∧ Good pa k (s + 1) t' ∧ Ch (· = B) w w' := by
    intro p i f r0 r1 r2 t' h1 h2 h3 h4 ht hst hgood
    subst ht
    have hp : p < 6 := (List.getElem?_eq_some_iff.1 h1).1
    have := next_step K B (jt pa p f r0 r1 r2 0 0) [jf] jf i 0 p w h hc hK rfl rfl rfl rfl h1 (by omega) rfl h3 (by show f ≤ 1000000; omega) h2 root_ok (by show (0 : Int) ≤ 5; decide) (by show (0 : Int) ≤ 0; decide)
    rw [hst] at this
    exact this.mono fun e w' ⟨e1, e2, e3⟩ => ⟨e1, t', e2, hgood, e3⟩
  rcases hg with ⟨rfl, rfl⟩ | ⟨q, hq, rfl, rfl⟩ | ⟨q, hq, rfl, rfl⟩ | ⟨q, hq, rfl, rfl⟩ | ⟨q, hq, rfl, rfl⟩ | ⟨rfl, rfl⟩ | ⟨rfl, _⟩
  · exact go 0 _ 500 k 0 0 _ rfl (by simp [InsOk, Rg]) (by decide) (by decide) rfl (s0 ..) (Or.inr (Or.inl ⟨0, by omega, rfl, jt_eq (by omega) (by omega) (by omega)⟩))
  · by_cases hz : q = k
    · subst hz
      have e0 : (q : Int) - q = 0 := by omega
      rw [e0] at go
      exact go 1 _ (500 - ((1 + 4 * q : Nat) : Int)) 0 1 q _ rfl (by simp [InsOk, Rg]) (by omega) (by omega) rfl (s1y ..) (Or.inr (Or.inr (Or.inr (Or.inr (Or.inr (Or.inl ⟨by omega, jt_eq (by omega) (by omega) (by omega)⟩))))))
    · exact go 1 _ (500 - ((1 + 4 * q : Nat) : Int)) (k - q) 1 q _ rfl (by simp [InsOk, Rg]) (by omega) (by omega) rfl (s1n _ _ _ _ _ (by omega)) (Or.inr (Or.inr (Or.inl ⟨q, by omega, by omega, jt_eq (by omega) (by omega) (by omega)⟩)))
  · exact go 2 _ (500 - ((2 + 4 * q : Nat) : Int)) (k - q) 1 q _ rfl (by simp [InsOk, Rg]) (by omega) (by omega) rfl (s2 ..) (Or.inr (Or.inr (Or.inr (Or.inl ⟨q, by omega, by omega, by
      rw [sub_eq, w32_in _ (by omega) (by omega)]; exact jt_eq (by omega) (by omega) (by omega)⟩))))
  · exact go 3 _ (500 - ((3 + 4 * q : Nat) : Int)) (k - q - 1) 1 q _ rfl (by simp [InsOk, Rg]) (by omega) (by omega) rfl (s3 ..) (Or.inr (Or.inr (Or.inr (Or.inr (Or.inl ⟨q, by omega, by omega, by
      rw [add_eq, w32_in _ (by omega) (by omega)]; exact jt_eq (by omega) (by omega) (by omega)⟩)))))
  · exact go 4 _ (500 - ((4 + 4 * q : Nat) : Int)) (k - q - 1) 1 (q + 1) _ rfl (by simp [InsOk, Rg]) (by omega) (by omega) rfl (s4 ..) (Or.inr (Or.inl ⟨q + 1, by omega, by omega, jt_eq (by omega) (by omega) (by omega)⟩))
  · exact go 5 _ (500 - ((2 + 4 * k : Nat) : Int)) 0 1 k _ rfl (by simp [InsOk, Rg]) (by omega) (by omega) rfl (s5 ..) (Or.inr (Or.inr (Or.inr (Or.inr (Or.inr (Or.inr ⟨by omega, jt_eq (by omega) (by omega) (by omega)⟩))))))
  · omega
theorem good_end {pa : Option Addr} {k : Nat} {t : Tk} (h : Good pa k (3 + 4 * k) t) : t = jt pa 6 (500 - ((3 + 4 * k : Nat) : Int)) 0 1 k 1 k := by
  rcases h with ⟨h, _⟩ | ⟨q, hq, h, _⟩ | ⟨q, hq, h, _⟩ | ⟨q, hq, h, _⟩ | ⟨q, hq, h, _⟩ | ⟨h, _⟩ | ⟨_, h⟩
  all_goals first | exact h | omega
theorem good_le {pa : Option Addr} {k s : Nat} {t : Tk} (h : Good pa k s t) : s ≤ 3 + 4 * k := by
  rcases h with ⟨h, _⟩ | ⟨q, hq, h, _⟩ | ⟨q, hq, h, _⟩ | ⟨q, hq, h, _⟩ | ⟨q, hq, h, _⟩ | ⟨h, _⟩ | ⟨h, _⟩
  all_goals omega
end Go.Proofs.Ytonndofbnhnkpaa.VmJ
