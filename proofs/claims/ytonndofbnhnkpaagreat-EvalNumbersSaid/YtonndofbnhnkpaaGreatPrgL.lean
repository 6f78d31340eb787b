/- Programs by numbers: the numbers, taken one by one. -/
import Derived.Test.YtonndofbnhnkpaaGreatVmB
import Derived.Test.YtonndofbnhnkpaaGreatStatD
set_option linter.unusedVariables false
set_option linter.unusedSimpArgs false
set_option linter.unusedSectionVars false
namespace Go.Proofs.YtonndofbnhnkpaaGreat.Prg
open Go.RowKit Num KeyM KeyW StatW Blk VmA
/-- Numbers that can be read, in blocks below K. -/
def LR (K : Nat) (w : World) (a : Option Addr) (len cap : Nat) : Prop :=
  len = 0 ∨ ∃ b off, a = some ⟨b, off, none⟩ ∧ len ≤ cap ∧ cap ≤ 9223372036854775807 ∧ b < K ∧ ∀ i, i < len → ∃ z, w.cell? ⟨b, off + i, none⟩ = some (.int .i64 z)
def LOk (K B : Nat) (w : World) : Prop := ∃ a len cap, w.rowIs B 70 1 (fun _ => .slice a len cap) ∧ len ≤ cap ∧ cap ≤ 9223372036854775807 ∧ LR K w a len cap
theorem LR.later {K : Nat} {S : Nat → Prop} {w w' : World} {a : Option Addr} {len cap : Nat} (h : LR K w a len cap) (hc : Ch S w w') (hs : ∀ i, i < K → ¬ S i) : LR K w' a len cap := by
  rcases h with h | ⟨b, off, h1, h2, h3, h4, h5⟩
  · exact Or.inl h
  · refine Or.inr ⟨b, off, h1, h2, h3, h4, fun i hi => ?_⟩
    obtain ⟨z, hz⟩ := h5 i hi
    exact ⟨z, hc.cell hz (hs _ h4)⟩
theorem LOk.later {K B : Nat} {S : Nat → Prop} {w w' : World} (h : LOk K B w) (hc : Ch S w w') (hs : ∀ i, i < K → ¬ S i) (hB : ¬ S B) : LOk K B w' := by
  obtain ⟨a, len, cap, h1, h2, h3, h4⟩ := h
  exact ⟨a, len, cap, hc.row h1 hB, h2, h3, h4.later hc hs⟩
theorem LOk.bl {K B : Nat} {w w' : World} (h : LOk K B w) (hc : Bl w w') : LOk K B w' := h.later (S := fun _ => False) (Ch.of_bl hc) (fun _ _ h => h) (fun h => h)
set_option maxHeartbeats 1000000 in
theorem next_any (K B : Nat) (n : Int) (w : World) (h : LOk K B w) (hK : K ≤ B) (hn : 0 < n) (hn' : n ≤ 4611686018427387904) :
    Calls Tryz.prog 23 #[.pointer (some ⟨B, 0, none⟩), .int .i64 n] w fun e w' => ∃ v, e = .returned (.int .i64 v) ∧ 0 ≤ v ∧ v < n ∧ LOk K B w' ∧ Ch (· = B) w w' := by
  obtain ⟨a, len, cap, h1, h2, h3, h4⟩ := h
  have c0 : w.cell? ⟨B, 0, none⟩ = some (.slice a len cap) := h1.cell (i := 0) (by omega)
  have f0 := h1.frozen 0
  rcases h4 with rfl | ⟨b, off, rfl, g1, g2, g3, g4⟩
  · have HL : Hid (LOk K B w) := ⟨a, 0, cap, h1, h2, h3, Or.inl rfl⟩
    clear h1
    go_enter Tryz.func23, Tryz.ntmps23
    go_wp2_with fail
    go_ret
    exact ⟨0, rfl, by omega, hn, HL.out, Ch.refl _ _⟩
  · by_cases hl : len = 0
    · subst hl
      have HL : Hid (LOk K B w) := ⟨_, 0, cap, h1, h2, h3, Or.inl rfl⟩
      clear h1
      go_enter Tryz.func23, Tryz.ntmps23
      go_wp2_with fail
      go_ret
      exact ⟨0, rfl, by omega, hn, HL.out, Ch.refl _ _⟩
    · obtain ⟨z, hz⟩ := g4 0 (by omega)
      rw [Nat.add_zero] at hz
      have hP := fun w => Val.place_any z n w hn hn'
      have u1 := Int.emod_nonneg z (b := n) (by omega)
      have u2 := Int.emod_lt_of_pos z hn
      obtain ⟨v, hv⟩ : ∃ v, z % n = v := ⟨_, rfl⟩
      rw [hv] at hP u1 u2
      have hl1 : (0 : Int) < (len : Int) := by omega
      have hl2 : 0 < len := by omega
      have hlz : ((len : Int) == 0) = false := by simp; omega
      have hlz' : (len == 0) = false := by simp; omega
      have HR := Lib.hid h1
      have G4 := Lib.hid g4
      clear h1 g4 hv
      by_cases hc : cap = 1
      · subst hc
        obtain rfl : len = 1 := by omega
        go_enter Tryz.func23, Tryz.ntmps23
        go_wp2_with (first | (go_at_call 7; with_reducible refine (hP _).mono ?_; rintro e w1 ⟨rfl, rfl⟩))
        go_ret
        exact ⟨v, rfl, u1, u2, ⟨_, 0, 0, World.rowIs.congr (HR.out.set 0 _) (fun i hi => by (obtain rfl : i = 0 := (by omega)); rfl), Nat.le_refl _, by omega, Or.inl rfl⟩, (Ch.refl _ _).setB _⟩
      · have hc1 : 1 < cap := by omega
        go_enter Tryz.func23, Tryz.ntmps23
        go_wp2_with (first | (go_at_call 7; with_reducible refine (hP _).mono ?_; rintro e w1 ⟨rfl, rfl⟩))
        go_ret
        refine ⟨v, rfl, u1, u2, ⟨some ⟨b, off + 1, none⟩, len - 1, cap - 1, World.rowIs.congr (HR.out.set 0 _) (fun i hi => by (obtain rfl : i = 0 := (by omega)); rfl), by omega, by omega, Or.inr ⟨b, off + 1, rfl, by omega, by omega, g3, fun i hi => ?_⟩⟩, (Ch.refl _ _).setB _⟩
        obtain ⟨z', hz'⟩ := G4.out (i + 1) (by omega)
        refine ⟨z', ?_⟩
        rw [show off + 1 + i = off + (i + 1) by omega]
        exact ((Ch.refl (· = B) w).setB _).cell hz' (by show ¬ b = B; omega)
end Go.Proofs.YtonndofbnhnkpaaGreat.Prg
