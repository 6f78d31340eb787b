/- The reference of chapter 27: order. -/
import Derived.Test.YtonndofbnhnkpaaR27
import Derived.Test.YtonndofbnhnkpaaStatR
import Derived.BigQuiet
import Derived.Deep.QuietTactic
namespace Go.Proofs.Ytonndofbnhnkpaa.R27
open Go.RowKit Num KeyM KeyW StatM StatW StatO KeyT StatE StatP StatN
theorem fins_mem {es : List Ev} {i : Nat} {e : Ev} (he : es[i]? = some e) (h2 : e.kind = 2) {j : Nat} (hj : i < j) : e.key ∈ fins (es.take j) := by
  unfold fins
  rw [List.mem_map]
  refine ⟨e, List.mem_filter.2 ⟨?_, by simp [h2]⟩, rfl⟩
  exact List.mem_of_getElem? (i := i) (by rw [List.getElem?_take_of_lt hj]; exact he)
theorem mem_fins {es : List Ev} {j : Nat} {k : Int} (h : k ∈ fins (es.take j)) : ∃ (i : Nat) (e : Ev), i < j ∧ es[i]? = some e ∧ e.kind = 2 ∧ e.key = k := by
  unfold fins at h
  rw [List.mem_map] at h
  obtain ⟨e, he, rfl⟩ := h
  obtain ⟨he, h2⟩ := List.mem_filter.1 he
  obtain ⟨i, hi, hie⟩ := List.getElem_of_mem he
  have hij : i < j := by rw [List.length_take] at hi; omega
  refine ⟨i, e, hij, ?_, by simpa using h2, rfl⟩
  rw [← hie, List.getElem_take]
  rw [List.length_take] at hi
  exact List.getElem?_eq_getElem (by omega)
set_option maxRecDepth 100000 in
set_option maxHeartbeats 4000000 in
theorem order27 (A : Option Addr) (cap : Nat) (es : List Ev) (w : World) (h : RdEv w A es) (hl : es.length ≤ 1000000000000) :
    Calls Try.prog 22 #[.slice A es.length cap] w fun x w' => x = .returned (.bool (ordM es)) ∧ Bl w w' := by
  go_enter Try.func22, Try.ntmps22
  go_wp2_with fail
  go_loopw [3] (fun c wr => ∃ j : Nat, j ≤ es.length ∧ c = .int .i64 j ∧ Hid (ordM (es.take j) = true) ∧ Bl w wr) (fun c _ => es.length - (intOf c).toNat)
  case atStart => exact ⟨0, by omega, rfl, by show ordM [] = true; rw [ordM_true]; exact List.Pairwise.nil, Bl.refl _⟩
  case round =>
    obtain ⟨j, hj, rfl, hO, hB⟩ := hrel
    by_cases hlt : j < es.length
    · obtain ⟨b, off, rfl, hc⟩ := h (by omega)
      obtain ⟨e, he⟩ : ∃ e, es[j]? = some e := ⟨_, List.getElem?_eq_getElem hlt⟩
      obtain ⟨c1, c2, _, _⟩ := hc j e he
      have c1 := st_cell hB c1
      have c2 := st_cell hB c2
      have hT : es.take (j + 1) = es.take j ++ [e] := by rw [List.take_add_one, he]; rfl
      have hS := ord_snoc (es.take j) e
      rw [← hT] at hS
      have HS := Lib.hid hS
      have HN := Lib.hid (fun k => StatR.ord_no (k := k) he)
      have HC := Lib.hid hc
      have HE := Lib.hid he
      have b1 : (j : Int) < (es.length : Int) := by omega
      have b2 : (0 : Int) ≤ (j : Int) := by omega
      obtain ⟨wo, rfl⟩ : ∃ wo : World, wo = wr := ⟨_, rfl⟩
      clear hS hT hc he h
      go_wp2_with fail
      go_loopw [4] (fun c w2 => ∃ m : Nat, m ≤ j ∧ c = .int .i64 m ∧ Hid (∀ (i : Nat) (d : Ev), i < m → es[i]? = some d → e.kind = 2 → d.kind = 2 → KeyM.ahead e.key d.key = false) ∧ Bl wo w2) (fun c _ => j - (intOf c).toNat)
      case atStart => exact ⟨0, by omega, rfl, fun i k hi => by omega, Bl.refl _⟩
      case round =>
        obtain ⟨m, hm, rfl, hA, hB2⟩ := hrel
        have hB3 : Bl w wr := Bl.trans hB hB2
        by_cases hml : m < j
        · obtain ⟨d, hd⟩ : ∃ d, es[m]? = some d := ⟨_, List.getElem?_eq_getElem (by omega)⟩
          obtain ⟨d1, d2, _, _⟩ := HC.out m d hd
          have c1 := st_cell hB2 c1
          have c2 := st_cell hB2 c2
          have d1 := st_cell hB3 d1
          have d2 := st_cell hB3 d2
          have a1 : (m : Int) < (es.length : Int) := by omega
          have a2 : (0 : Int) ≤ (m : Int) := by omega
          have HA : Hid (∀ _ : (e.kind = 2 → d.kind = 2 → KeyM.ahead e.key d.key = false), (∀ (i : Nat) (d : Ev), i < m + 1 → es[i]? = some d → e.kind = 2 → d.kind = 2 → KeyM.ahead e.key d.key = false)) := by
            intro h0 i d' hi hd' h1 h2
            by_cases h : i = m
            · subst h; rw [hd] at hd'; cases hd'; exact h0 h1 h2
            · exact hA.out i d' (by omega) hd' h1 h2
          have HF : Hid (∀ _ : e.kind = 2, d.kind = 2 → KeyM.ahead e.key d.key = true → ordM es = false) := fun h1 h2 h3 => HN.out d.key h1 (fins_mem hd h2 hml) h3
          clear hd HC HE
          by_cases k1 : e.kind = 2
          · have K1 := Lib.hid k1
            rw [k1] at c1
            clear k1
            by_cases k2 : d.kind = 2
            · have K2 := Lib.hid k2
              rw [k2] at d1
              clear k2
              have hX := fun w => Ref6.ahead_any e.key d.key w
              cases ha : KeyM.ahead e.key d.key
              · rw [ha] at hX
                have HX := Lib.hid ha
                clear ha
                go_wp2_with fail
                go_quiet ((go_at_call 28; exact Calls.quiet_of_same ((hX _).mono fun _ _ ⟨p, q⟩ => ⟨p, q.symm⟩)))
                go_wp2_with fail
                go_roundw
                case rel => exact ⟨m + 1, by omega, by go_num, HA.out (fun _ _ => HX.out), Bl.drewN hB2 _⟩
                case measure => simp [intOf]; omega
              · rw [ha] at hX
                have HX := Lib.hid (HF.out K1.out K2.out ha)
                clear ha
                go_wp2_with fail
                go_quiet ((go_at_call 28; exact Calls.quiet_of_same ((hX _).mono fun _ _ ⟨p, q⟩ => ⟨p, q.symm⟩)))
                go_wp2_with fail
                go_ret
                exact ⟨ret_b HX.out.symm, Bl.drewN hB3 _⟩
            · have k2' : (d.kind == 2) = false := by simpa using k2
              have K2 := Lib.hid k2
              clear k2
              go_wp2_with fail
              go_quiet (fail)
              go_wp2_with fail
              go_roundw
              case rel => exact ⟨m + 1, by omega, by go_num, HA.out (fun _ h => absurd h K2.out), Bl.drewN hB2 _⟩
              case measure => simp [intOf]; omega
          · have k1' : (e.kind == 2) = false := by simpa using k1
            have K1 := Lib.hid k1
            clear k1
            go_wp2_with fail
            go_quiet (fail)
            go_wp2_with fail
            go_roundw
            case rel => exact ⟨m + 1, by omega, by go_num, HA.out (fun h => absurd h K1.out), Bl.drewN hB2 _⟩
            case measure => simp [intOf]; omega
        · obtain rfl : m = j := by omega
          have HO2 : Hid (ordM (es.take (m + 1)) = true) := HS.out.2 ⟨hO.out, fun h2 k hk => by
            obtain ⟨i, d, hi, hd, hd2, rfl⟩ := mem_fins hk
            exact hA.out i d hi hd h2 hd2⟩
          clear HC HE
          go_wp2_with fail
          go_roundw
          case rel => exact ⟨m + 1, by omega, by go_num, HO2, hB3⟩
          case measure => simp [intOf]; omega
    · obtain rfl : j = es.length := by omega
      have HO : Hid (ordM es = true) := by have := hO.out; rw [List.take_length] at this; exact this
      go_wp2_with fail
      go_ret
      exact ⟨ret_b HO.out.symm, hB⟩
end Go.Proofs.Ytonndofbnhnkpaa.R27
