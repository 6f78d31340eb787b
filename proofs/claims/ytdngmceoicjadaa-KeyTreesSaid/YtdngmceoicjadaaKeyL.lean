/- The contract of the laws' make1: the key of forks by numbers. -/
import Derived.Test.YtdngmceoicjadaaKeyAll
import Derived.Test.YtdngmceoicjadaaKeyMk
import Derived.Test.YtdngmceoicjadaaVal
import Derived.Test.YtdngmceoicjadaaFrm
import Derived.OpenShut
namespace Go.Proofs.Ytdngmceoicjadaa.KeyL
open Go.RowKit Num KeyM KeyW Frm
/-- The cells of a slice that has an element. -/
theorem row_at {k : IntKind} {w : World} {a : Option Addr} {len cap : Nat} {zs : List Int} (h : IsRow k w a len cap zs) (h0 : 0 < len) :
    ∃ b off, a = some ⟨b, off, none⟩ ∧ len ≤ cap ∧ cap ≤ 9223372036854775807 ∧ zs.length = cap ∧ (∀ i, i < zs.length → w.cell? ⟨b, off + i, none⟩ = some (.int k (zs.getD i 0))) := by
  rcases h with ⟨_, h, _⟩ | ⟨x, rfl, h1, h2, h3, h4, h5⟩
  · omega
  · unfold maxLen at h2
    obtain ⟨b, off, rfl, hx⟩ := ints_at h4 (by omega)
    exact ⟨b, off, rfl, h1, h2, h3, hx⟩
theorem make_none (a : Option Addr) (cap : Nat) (w : World) :
    Calls Try.prog 30 #[.slice a 0 cap] w fun e w' => e = .returned (.int .i64 1125899906842624) ∧ Bl w w' := by
  go_enter Try.func30, Try.ntmps30
  go_wp2_with fail
  go_loop [3, 4] (fun k i => k = .int .i64 1125899906842624 ∧ i = .int .i64 0) (fun _ _ => 0)
  case atStart => exact ⟨rfl, rfl⟩
  case round =>
    obtain ⟨rfl, rfl⟩ := hrel
    go_wp2_with fail
    go_ret
    exact ⟨rfl, Bl.refl _⟩
theorem make_some (b off len cap : Nat) (zs : List Int) (w : World) (h0 : 0 < len) (h1 : len ≤ cap)
    (hc : ∀ i, i < cap → w.cell? ⟨b, off + i, none⟩ = some (.int .i64 (zs.getD i 0))) (hb : b < w.heap.size) :
    Calls Try.prog 30 #[.slice (some ⟨b, off, none⟩) len cap] w fun e w' => e = .returned (.int .i64 (mkI zs (min len 5))) ∧ Bl w w' := by
  go_enter Try.func30, Try.ntmps30
  go_wp2_with fail
  go_loopw [3, 4] (fun k i wr => ∃ j : Nat, j ≤ len ∧ j ≤ 5 ∧ i = .int .i64 j ∧ k = .int .i64 (mkI zs j) ∧ Bl w wr) (fun _ i _ => 5 - (intOf i).toNat)
  case atStart => exact ⟨0, by omega, by omega, rfl, rfl, Bl.refl _⟩
  case round =>
    obtain ⟨j, hj, hj5, rfl, rfl, hB⟩ := hrel
    by_cases hlt : j < len ∧ j < 5
    · obtain ⟨hlt, hlt5⟩ := hlt
      have hcj : wr.cell? ⟨b, off + j, none⟩ = some (.int .i64 (zs.getD j 0)) := (Below.cell (p := ⟨b, off + j, none⟩) hB hb).trans (hc j (by omega))
      obtain ⟨m1, m2⟩ := mkI_ok zs j (by omega)
      have l1 := Int.emod_nonneg (zs.getD j 0) (b := 1000) (by decide)
      have l2 := Int.emod_lt_of_pos (zs.getD j 0) (b := 1000) (by decide)
      have hC := fun w => child_yes (mkI zs j) (1 + zs.getD j 0 % 1000) w m1 (by omega) (by omega) (by omega)
      have hE : child (mkI zs j) (1 + zs.getD j 0 % 1000) = mkI zs (j + 1) := rfl
      rw [hE] at hC
      clear m1 m2 hE
      go_wp2_with (first
        | (go_at_call 31; refine (hC _).mono ?_; rintro e w2 ⟨rfl, hb2⟩)
        | (go_at_call 19; refine (Val.place_any _ _ _ (by omega) (by omega)).mono ?_; rintro e w2 ⟨rfl, rfl⟩))
      go_roundw
      case rel => exact ⟨j + 1, by omega, by omega, by go_num, rfl, hB.trans (by assumption)⟩
      case measure => simp [intOf]; omega
    · have HM : Hid (mkI zs j = mkI zs (min len 5)) := by show _ = _; congr 1; omega
      by_cases hl : j < len
      all_goals
        go_wp2_with fail
        go_ret
        exact ⟨ret_i HM.out, hB⟩
/-- A cell that is there is there later. -/
theorem bl_cell {w w' : World} {p : Addr} {v : Value} (hB : Bl w w') (h : w.cell? p = some v) : w'.cell? p = some v := by
  have hb : p.block < w.heap.size := by
    have hc := h
    unfold World.cell? at hc
    rcases Nat.lt_or_ge p.block w.heap.size with g | g
    · exact g
    · simp [Array.getElem?_eq_none g] at hc
  exact (Below.cell hB hb).trans h
/-- The row lies in the heap. -/
theorem row_lt {k : IntKind} {w : World} {a : Option Addr} {len cap : Nat} {zs : List Int} (h : IsRow k w a len cap zs) (h0 : 0 < len) {b off : Nat} {sp : Option Nat} (e : a = some ⟨b, off, sp⟩) : b < w.heap.size := by
  obtain ⟨b', off', e', h1, h2, h3, h4⟩ := row_at h h0
  rw [e] at e'
  obtain ⟨rfl, rfl, rfl⟩ := by simpa using e'
  have hc := h4 0 (by omega)
  unfold World.cell? at hc
  rcases Nat.lt_or_ge b w.heap.size with g | g
  · exact g
  · simp [Array.getElem?_eq_none g] at hc
/-- In a later world it is the same row. -/
theorem row_later {k : IntKind} {w w' : World} {a : Option Addr} {len cap : Nat} {zs : List Int} (h : IsRow k w a len cap zs) (hB : Bl w w') : IsRow k w' a len cap zs := by
  rcases h with h | ⟨x, rfl, h1, h2, h3, h4, h5⟩
  · exact Or.inl h
  · refine Or.inr ⟨x, rfl, h1, h2, h3, fun i hi => ?_, h5⟩
    have hc := h4 i hi
    have hb : (x.add i).block < w.heap.size := by
      unfold World.cell? at hc
      rcases Nat.lt_or_ge (x.add i).block w.heap.size with g | g
      · exact g
      · simp [Array.getElem?_eq_none g] at hc
    exact (Below.cell hB hb).trans hc
/-- make1, at any numbers. -/
theorem make_any (a : Option Addr) (len cap : Nat) (zs : List Int) (w : World) (h : IsRow .i64 w a len cap zs) :
    Calls Try.prog 30 #[.slice a len cap] w fun e w' => e = .returned (.int .i64 (mkI zs (min len 5))) ∧ Bl w w' := by
  rcases Nat.eq_zero_or_pos len with h0 | h0
  · subst h0; exact make_none a cap w
  · obtain ⟨b, off, rfl, h1, _, h3, h4⟩ := row_at h h0
    exact make_some b off len cap zs w h0 h1 (fun i hi => h4 i (by omega)) (row_lt h h0 rfl)
/-- make1 at a row that came in, in whatever later world: one key. -/
theorem make_key {a : Option Addr} {len cap : Nat} {zs : List Int} {w : World} (h : IsRow .i64 w a len cap zs) :
    ∃ x, chk x = true ∧ dep x ≤ 5 ∧ ∀ w', Bl w w' → Calls Try.prog 30 #[.slice a len cap] w' fun e w'' => e = .returned (.int .i64 x) ∧ Bl w' w'' := by
  obtain ⟨h1, h2⟩ := mkI_ok zs (min len 5) (by omega)
  exact ⟨_, h1, by omega, fun w' hb => make_any a len cap zs w' (row_later h hb)⟩
end Go.Proofs.Ytdngmceoicjadaa.KeyL
