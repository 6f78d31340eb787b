/- The contract of stats.Order. -/
import Derived.Test.YtonndofbnhnkpaaStatO
import Derived.Test.YtonndofbnhnkpaaKeyT
namespace Go.Proofs.Ytonndofbnhnkpaa.StatR
open Go.RowKit Num KeyM KeyW StatM StatW StatO KeyT
theorem ord_no {es : List Ev} {j : Nat} {e : Ev} {k : Int} (he : es[j]? = some e) (h2 : e.kind = 2) (hk : k ∈ fins (es.take j)) (ha : KeyM.ahead e.key k = true) : ordM es = false := by
  cases h : ordM es
  · rfl
  · have h1 := ord_take h (j + 1)
    have hT : es.take (j + 1) = es.take j ++ [e] := by rw [List.take_add_one, he]; rfl
    rw [hT, ord_snoc] at h1
    have := h1.2 h2 k hk
    rw [ha] at this
    exact absurd this (by decide)
set_option maxRecDepth 100000 in
set_option maxHeartbeats 4000000 in
theorem order_any (A : Option Addr) (cap : Nat) (es : List Ev) (w : World) (h : RdEv w A es) (hl : es.length ≤ 1000000000000) :
    Calls Try.prog 21 #[.slice A es.length cap] w fun x w' => x = .returned (.bool (ordM es)) ∧ Bl w w' := by
  obtain ⟨i0, hi, hz0, hz1, hz2⟩ := info_parts info3
  go_enter Try.func21, Try.ntmps21
  go_wp2_with fail
  go_loopw [3, 10] (fun l c wr => ∃ j : Nat, j ≤ es.length ∧ c = .int .i64 j ∧ wr.ownsRow w.heap.size 3 1 l (fins (es.take j)).length ((fins (es.take j)).map (Value.int .i64)) ∧ Hid (ordM (es.take j) = true) ∧ Bl w wr) (fun _ c _ => es.length - (intOf c).toNat)
  case atStart => exact ⟨0, by omega, rfl, World.ownsRow_nil _ _ _ _, by show ordM [] = true; rw [ordM_true]; exact List.Pairwise.nil, Bl.refl _⟩
  case round =>
    obtain ⟨j, hj, rfl, hown, hO, hB⟩ := hrel
    by_cases hlt : j < es.length
    · obtain ⟨b, off, rfl, hc⟩ := h (by omega)
      obtain ⟨e, he⟩ : ∃ e, es[j]? = some e := ⟨_, List.getElem?_eq_getElem hlt⟩
      obtain ⟨c1, c2, c3, c4⟩ := hc j e he
      have c1 := st_cell hB c1
      have c2 := st_cell hB c2
      have c3 := st_cell hB c3
      have c4 := st_cell hB c4
      have hT : es.take (j + 1) = es.take j ++ [e] := by rw [List.take_add_one, he]; rfl
      have hF := fins_snoc (es.take j) e
      have hS := ord_snoc (es.take j) e
      rw [← hT] at hF hS
      have hN := Lib.hid (fun k => ord_no (k := k) he)
      have hfl : (fins (es.take j)).length ≤ j := by
        unfold fins
        have := List.length_filter_le (fun e : Ev => e.kind == 2) (es.take j)
        rw [List.length_take] at this
        rw [List.length_map]; omega
      by_cases k2 : e.kind = 2
      · have k2' : (e.kind != 2) = false := by simp [k2]
        rw [if_pos k2] at hF
        have HF := Lib.hid hF
        have HS : Hid (∀ _ : ordM (es.take j) = true, (∀ k ∈ fins (es.take j), KeyM.ahead e.key k = false) → ordM (es.take (j + 1)) = true) := fun a b => hS.2 ⟨a, fun _ => b⟩
        have HN : Hid (∀ k ∈ fins (es.take j), KeyM.ahead e.key k = true → ordM es = false) := fun k a b => hN.out k k2 a b
        clear hF hS hN k2 hT hc h
        obtain ⟨fs, hfs⟩ : ∃ fs, fins (es.take j) = fs := ⟨_, rfl⟩
        rw [hfs] at HF HS HN hown hfl
        clear hfs
        obtain ⟨ao, cp, rfl, hg⟩ := own_shape hown
        go_wp2_with fail
        obtain ⟨W1, hW1⟩ : ∃ W1, W1 = wr.alloc (.cells #[.int .i64 e.kind, .int .i64 e.key, .int .i64 e.how, .int .i64 e.val] 44) := ⟨_, rfl⟩
        have hown1 : W1.ownsRow w.heap.size 3 1 (.slice ao fs.length cp) fs.length (fs.map (Value.int .i64)) := by rw [hW1]; exact hown.alloc _
        have hB1 : Bl w W1 := by rw [hW1]; exact hB.alloc _
        have he1 : W1.cell? ⟨wr.heap.size, 1, none⟩ = some (.int .i64 e.key) := by rw [hW1]; go_simp
        rw [← hW1]
        generalize wr.heap.size = eb at *
        clear hW1 hown hB c1 c2 c3 c4
        go_loopw [19] (fun c w2 => ∃ m : Nat, m ≤ fs.length ∧ c = .int .i64 m ∧ Hid (∀ (i : Nat) k, i < m → fs[i]? = some k → KeyM.ahead e.key k = false) ∧ Bl W1 w2) (fun c _ => fs.length - (intOf c).toNat)
        case atStart => exact ⟨0, by omega, rfl, fun i k hi => by omega, Bl.refl _⟩
        case round =>
          obtain ⟨m, hm, rfl, hA, hB2⟩ := hrel
          by_cases hml : m < fs.length
          · obtain ⟨k, hk⟩ : ∃ k, fs[m]? = some k := ⟨_, List.getElem?_eq_getElem hml⟩
            obtain ⟨g, rfl⟩ := hg (by omega)
            have hcell : wr.cell? ⟨g, m, none⟩ = some (.int .i64 k) := by
              have h := (own_later hown1 hB2).cellAt m (by omega)
              rw [List.getElem?_map, hk] at h
              exact h
            have he2 := st_cell hB2 he1
            cases ha : KeyM.ahead e.key k
            · have HA : Hid (∀ (i : Nat) k, i < m + 1 → fs[i]? = some k → KeyM.ahead e.key k = false) := by
                intro i k' hi' hk'
                by_cases h : i = m
                · subst h; rw [hk] at hk'; cases hk'; exact ha
                · exact hA.out i k' (by omega) hk'
              clear hA hk
              go_wp2_with (go_at_call 56; refine (KeyW.ahead_any _ _ _).mono ?_; rintro x w4 ⟨rfl, hb4⟩)
              go_roundw
              case rel => exact ⟨m + 1, by omega, by go_num, HA, by repeat (first | exact Bl.refl _ | assumption | apply Bl.drewN | apply Bl.alloc | refine Bl.trans ?_ (by assumption))⟩
              case measure => simp [intOf]; omega
            · have HR : Hid (ordM es = false) := HN.out k (List.mem_of_getElem? hk) ha
              clear hA hk
              go_wp2_with (go_at_call 56; refine (KeyW.ahead_any _ _ _).mono ?_; rintro x w4 ⟨rfl, hb4⟩)
              go_ret
              exact ⟨ret_b HR.out.symm, by repeat (first | exact Bl.refl _ | assumption | apply Bl.drewN | apply Bl.alloc | refine Bl.trans ?_ (by assumption))⟩
          · obtain rfl : m = fs.length := by omega
            have HO : Hid (ordM (es.take (j + 1)) = true) := HS.out hO.out (fun k hk => by
              obtain ⟨i, hi, hik⟩ := List.getElem_of_mem hk
              exact hA.out i k hi (by rw [List.getElem?_eq_getElem hi, hik]))
            have he2 := st_cell hB2 he1
            have hown2 := own_later hown1 hB2
            have hB3 := hB1.trans hB2
            have hs3 := hB3.size
            clear hA he1 hown1 hB1 hB2 HS HN hO
            go_wp2_with (first
              | (at_builtin; refine wpList_append_own _ rfl _ _ 39 rfl w.heap.size 3 i0 (.int .i64 0) 1 8 Try.underlying39 hi hz0 hz1 hz2 rfl (by decide) _ _ _ rfl (hown2.alloc _) ⟨wr.heap.size, 0, none⟩ 1 1 [.int .i64 e.key] rfl rfl ?c1 ?c2 ?c3 ?c4 ?c5 ?_))
            case c1 => intro i u hi; match i, hi with | 0, hi => simp at hi; subst hi; simp [Addr.add]
            case c2 => intro u hu; simp at hu; subst hu; rfl
            case c3 => unfold maxLen; omega
            case c4 => omega
            case c5 => simp; omega
            intro v' w9 hown9 hgr _
            have hB9 : Bl w w9 := Below.grown (show Below w.heap.size w _ from hB3.alloc _) hgr (by simp; omega) (fun k hk => (World.ownsRow.lt hown2 k hk).1)
            clear hgr
            go_wp2_with fail
            go_roundw
            case rel => exact ⟨j + 1, by omega, by go_num, by rw [HF.out, List.map_append, List.length_append]; exact hown9, HO, hB9⟩
            case measure => simp [intOf]; omega
      · have k2' : (e.kind != 2) = true := by simp [k2]
        rw [if_neg k2] at hF
        have HF := Lib.hid hF
        have HS : Hid (ordM (es.take (j + 1)) = true) := hS.2 ⟨hO.out, fun a => absurd a k2⟩
        clear hF hS hN k2 hT hc
        go_wp2_with fail
        go_roundw
        case rel => exact ⟨j + 1, by omega, by go_num, by rw [HF.out]; exact hown.alloc _, HS, hB.alloc _⟩
        case measure => simp [intOf]; omega
    · obtain rfl : j = es.length := by omega
      rw [List.take_length] at hO
      clear hown
      go_wp2_with fail
      go_ret
      exact ⟨ret_b hO.out.symm, hB⟩
end Go.Proofs.Ytonndofbnhnkpaa.StatR
