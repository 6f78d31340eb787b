/- The contract of stats.Order. The contract of stats.Ends. The awake of the statements of package stats. How tasks ended, key by key: the plain side of StatsEnds. The contract of the laws' Place. StatsEnds: the walk. -/
import Derived.Test.YtonndofbnhnkpaaMapO
import Derived.Test.YtonndofbnhnkpaaKeyD
import Derived.BigRegion
import Derived.Deep.AppendLies
import Derived.BigQuiet
import Derived.Test.YtonndofbnhnkpaaStatB
import Derived.Test.YtonndofbnhnkpaaKeyB
set_option linter.unusedVariables false
set_option linter.unusedSimpArgs false
set_option linter.unusedSectionVars false
namespace Go.Proofs.Ytonndofbnhnkpaa.StatR
open Go.RowKit Num KeyM KeyW StatM StatW StatO KeyT
theorem ord_no {es : List Ev} {j : Nat} {e : Ev} {k : Int} (he : es[j]? = some e) (h2 : e.kind = 2) (hk : k ∈ fins (es.take j)) (ha : KeyM.ahead e.key k = true) : ordM es = false := by
  cases h : ordM es
  · rfl
  · have h1 := ord_take h (j + 1)
    have hT : es.take (j + 1) = es.take j ++ [e] := by rw [List.take_add_one, he]; rfl
    rw [hT, ord_snoc] at h1
    have := h1.2 h2 k hk
    rw [ha] at this
    exact absurd this (by decide)
set_option maxRecDepth 100000 in
set_option maxHeartbeats 4000000 in
theorem order_any (A : Option Addr) (cap : Nat) (es : List Ev) (w : World) (h : RdEv w A es) (hl : es.length ≤ 1000000000000) :
    Calls Try.prog 21 #[.slice A es.length cap] w fun x w' => x = .returned (.bool (ordM es)) ∧ Bl w w' := by
  obtain ⟨i0, hi, hz0, hz1, hz2⟩ := info_parts info3
  go_enter Try.func21, Try.ntmps21
  go_wp2_with fail
  go_loopw [3, 10] (fun l c wr => ∃ j : Nat, j ≤ es.length ∧ c = .int .i64 j ∧ wr.ownsRow w.heap.size 3 1 l (fins (es.take j)).length ((fins (es.take j)).map (Value.int .i64)) ∧ Hid (ordM (es.take j) = true) ∧ Bl w wr) (fun _ c _ => es.length - (intOf c).toNat)
  case atStart => exact ⟨0, by omega, rfl, World.ownsRow_nil _ _ _ _, by show ordM [] = true; rw [ordM_true]; exact List.Pairwise.nil, Bl.refl _⟩
  case round =>
    obtain ⟨j, hj, rfl, hown, hO, hB⟩ := hrel
    by_cases hlt : j < es.length
    · obtain ⟨b, off, rfl, hc⟩ := h (by omega)
      obtain ⟨e, he⟩ : ∃ e, es[j]? = some e := ⟨_, List.getElem?_eq_getElem hlt⟩
      obtain ⟨c1, c2, c3, c4⟩ := hc j e he
      have c1 := st_cell hB c1
      have c2 := st_cell hB c2
      have c3 := st_cell hB c3
      have c4 := st_cell hB c4
      have hT : es.take (j + 1) = es.take j ++ [e] := by rw [List.take_add_one, he]; rfl
      have hF := fins_snoc (es.take j) e
      have hS := ord_snoc (es.take j) e
      rw [← hT] at hF hS
      have hN := Lib.hid (fun k => ord_no (k := k) he)
      have hfl : (fins (es.take j)).length ≤ j := by
        unfold fins
        have := List.length_filter_le (fun e : Ev => e.kind == 2) (es.take j)
        rw [List.length_take] at this
        rw [List.length_map]; omega
      by_cases k2 : e.kind = 2
      · have k2' : (e.kind != 2) = false := by simp [k2]
        rw [if_pos k2] at hF
        have HF := Lib.hid hF
        have HS : Hid (∀ _ : ordM (es.take j) = true, (∀ k ∈ fins (es.take j), KeyM.ahead e.key k = false) → ordM (es.take (j + 1)) = true) := fun a b => hS.2 ⟨a, fun _ => b⟩
        have HN : Hid (∀ k ∈ fins (es.take j), KeyM.ahead e.key k = true → ordM es = false) := fun k a b => hN.out k k2 a b
        clear hF hS hN k2 hT hc h
        obtain ⟨fs, hfs⟩ : ∃ fs, fins (es.take j) = fs := ⟨_, rfl⟩
        rw [hfs] at HF HS HN hown hfl
        clear hfs
        obtain ⟨ao, cp, rfl, hg⟩ := own_shape hown
        go_wp2_with fail
        obtain ⟨W1, hW1⟩ : ∃ W1, W1 = wr.alloc (.cells #[.int .i64 e.kind, .int .i64 e.key, .int .i64 e.how, .int .i64 e.val] 44) := ⟨_, rfl⟩
        have hown1 : W1.ownsRow w.heap.size 3 1 (.slice ao fs.length cp) fs.length (fs.map (Value.int .i64)) := by rw [hW1]; exact hown.alloc _
        have hB1 : Bl w W1 := by rw [hW1]; exact hB.alloc _
        have he1 : W1.cell? ⟨wr.heap.size, 1, none⟩ = some (.int .i64 e.key) := by rw [hW1]; go_simp
        rw [← hW1]
        generalize wr.heap.size = eb at *
        clear hW1 hown hB c1 c2 c3 c4
        go_loopw [19] (fun c w2 => ∃ m : Nat, m ≤ fs.length ∧ c = .int .i64 m ∧ Hid (∀ (i : Nat) k, i < m → fs[i]? = some k → KeyM.ahead e.key k = false) ∧ Bl W1 w2) (fun c _ => fs.length - (intOf c).toNat)
        case atStart => exact ⟨0, by omega, rfl, fun i k hi => by omega, Bl.refl _⟩
        case round =>
          obtain ⟨m, hm, rfl, hA, hB2⟩ := hrel
          by_cases hml : m < fs.length
          · obtain ⟨k, hk⟩ : ∃ k, fs[m]? = some k := ⟨_, List.getElem?_eq_getElem hml⟩
            obtain ⟨g, rfl⟩ := hg (by omega)
            have hcell : wr.cell? ⟨g, m, none⟩ = some (.int .i64 k) := by
              have h := (own_later hown1 hB2).cellAt m (by omega)
              rw [List.getElem?_map, hk] at h
              exact h
            have he2 := st_cell hB2 he1
            cases ha : KeyM.ahead e.key k
            · have HA : Hid (∀ (i : Nat) k, i < m + 1 → fs[i]? = some k → KeyM.ahead e.key k = false) := by
                intro i k' hi' hk'
                by_cases h : i = m
                · subst h; rw [hk] at hk'; cases hk'; exact ha
                · exact hA.out i k' (by omega) hk'
              clear hA hk
              go_wp2_with (go_at_call 56; refine (KeyW.ahead_any _ _ _).mono ?_; rintro x w4 ⟨rfl, hb4⟩)
              go_roundw
              case rel => exact ⟨m + 1, by omega, by go_num, HA, by repeat (first | exact Bl.refl _ | assumption | apply Bl.drewN | apply Bl.alloc | refine Bl.trans ?_ (by assumption))⟩
              case measure => simp [intOf]; omega
            · have HR : Hid (ordM es = false) := HN.out k (List.mem_of_getElem? hk) ha
              clear hA hk
              go_wp2_with (go_at_call 56; refine (KeyW.ahead_any _ _ _).mono ?_; rintro x w4 ⟨rfl, hb4⟩)
              go_ret
              exact ⟨ret_b HR.out.symm, by repeat (first | exact Bl.refl _ | assumption | apply Bl.drewN | apply Bl.alloc | refine Bl.trans ?_ (by assumption))⟩
          · obtain rfl : m = fs.length := by omega
            have HO : Hid (ordM (es.take (j + 1)) = true) := HS.out hO.out (fun k hk => by
              obtain ⟨i, hi, hik⟩ := List.getElem_of_mem hk
              exact hA.out i k hi (by rw [List.getElem?_eq_getElem hi, hik]))
            have he2 := st_cell hB2 he1
            have hown2 := own_later hown1 hB2
            have hB3 := hB1.trans hB2
            have hs3 := hB3.size
            clear hA he1 hown1 hB1 hB2 HS HN hO
            go_wp2_with (first
              | (at_builtin; refine wpList_append_own _ rfl _ _ 39 rfl w.heap.size 3 i0 (.int .i64 0) 1 8 Try.underlying39 hi hz0 hz1 hz2 rfl (by decide) _ _ _ rfl (hown2.alloc _) ⟨wr.heap.size, 0, none⟩ 1 1 [.int .i64 e.key] rfl rfl ?c1 ?c2 ?c3 ?c4 ?c5 ?_))
            case c1 => intro i u hi; match i, hi with | 0, hi => simp at hi; subst hi; simp [Addr.add]
            case c2 => intro u hu; simp at hu; subst hu; rfl
            case c3 => unfold maxLen; omega
            case c4 => omega
            case c5 => simp; omega
            intro v' w9 hown9 hgr _
            have hB9 : Bl w w9 := Below.grown (show Below w.heap.size w _ from hB3.alloc _) hgr (by simp; omega) (fun k hk => (World.ownsRow.lt hown2 k hk).1)
            clear hgr
            go_wp2_with fail
            go_roundw
            case rel => exact ⟨j + 1, by omega, by go_num, by rw [HF.out, List.map_append, List.length_append]; exact hown9, HO, hB9⟩
            case measure => simp [intOf]; omega
      · have k2' : (e.kind != 2) = true := by simp [k2]
        rw [if_neg k2] at hF
        have HF := Lib.hid hF
        have HS : Hid (ordM (es.take (j + 1)) = true) := hS.2 ⟨hO.out, fun a => absurd a k2⟩
        clear hF hS hN k2 hT hc
        go_wp2_with fail
        go_roundw
        case rel => exact ⟨j + 1, by omega, by go_num, by rw [HF.out]; exact hown.alloc _, HS, hB.alloc _⟩
        case measure => simp [intOf]; omega
    · obtain rfl : j = es.length := by omega
      rw [List.take_length] at hO
      clear hown
      go_wp2_with fail
      go_ret
      exact ⟨ret_b hO.out.symm, hB⟩
end Go.Proofs.Ytonndofbnhnkpaa.StatR
namespace Go.Proofs.Ytonndofbnhnkpaa.StatE
open Go.RowKit Num KeyM KeyW StatM StatW StatO KeyT
def rc (r : Ran) : List Value := [.int .i64 r.key, .int .i64 0, .int .i64 0, .int .i64 r.how, .int .i64 r.val]
def rcs (m : List Ran) : List Value := m.flatMap rc
theorem rcs_len (m : List Ran) : (rcs m).length = m.length * 5 := by
  induction m with
  | nil => rfl
  | cons r m ih => unfold rcs at *; rw [List.flatMap_cons, List.length_append, ih, List.length_cons]; simp [rc]; omega
theorem rcs_get (m : List Ran) (i f : Nat) (r : Ran) (h : m[i]? = some r) (hf : f < 5) : (rcs m)[i * 5 + f]? = (rc r)[f]? := by
  induction m generalizing i with
  | nil => simp at h
  | cons s m ih =>
    unfold rcs at *
    rw [List.flatMap_cons]
    cases i with
    | zero =>
      simp at h; subst h
      rw [List.getElem?_append_left (by simp [rc]; omega)]; simp
    | succ i =>
      rw [List.getElem?_append_right (by simp [rc]; omega)]
      have : (i + 1) * 5 + f - (rc s).length = i * 5 + f := by simp [rc]; omega
      rw [this]
      exact ih i (by simpa using h)
theorem rcs_set (m : List Ran) (i : Nat) (r : Ran) (h : i < m.length) :
    rcs (m.set i r) = (((((rcs m).set (i * 5) (.int .i64 r.key)).set (i * 5 + 1) (.int .i64 0)).set (i * 5 + 2) (.int .i64 0)).set (i * 5 + 3) (.int .i64 r.how)).set (i * 5 + 4) (.int .i64 r.val) := by
  induction m generalizing i with
  | nil => simp at h
  | cons s m ih =>
    cases i with
    | zero => rfl
    | succ i =>
      have := ih i (by simpa using h)
      unfold rcs at *
      rw [List.set_cons_succ, List.flatMap_cons, List.flatMap_cons, this]
      have e : ∀ (k : Nat) (xs : List Value) (v : Value), (rc s ++ xs).set ((i + 1) * 5 + k) v = rc s ++ xs.set (i * 5 + k) v := by
        intro k xs v
        rw [List.set_append_right _ _ (by simp [rc]; omega)]
        congr 2
        simp [rc]; omega
      have e0 := e 0
      simp only [Nat.add_zero] at e0
      rw [e0, e 1, e 2, e 3, e 4]
theorem info64 : (Try.prog.info? 37).map (fun i => (i.zero, i.size, i.bytes)) = some (some (.agg #[.int .i64 0, .int .i64 0, .int .i64 0, .int .i64 0, .int .i64 0]), 5, 40) := by kernel_rfl
/-- The list with x at place p. -/
def at_ (x : Ran) (m : List Ran) (p : Nat) : List Ran := m.take p ++ x :: m.drop p
theorem at_len (x : Ran) (m : List Ran) (p : Nat) (h : p ≤ m.length) : (at_ x m p).length = m.length + 1 := by
  unfold at_; rw [List.length_append, List.length_cons, List.length_take, List.length_drop]; omega
theorem at_end (x : Ran) (m : List Ran) : at_ x m m.length = m ++ [x] := by unfold at_; rw [List.take_length, List.drop_length]
theorem at_here (x : Ran) (m : List Ran) (p : Nat) (h : p ≤ m.length) : (at_ x m p)[p]? = some x := by
  unfold at_; rw [List.getElem?_append_right (by rw [List.length_take]; omega)]
  rw [List.length_take, Nat.min_eq_left h, Nat.sub_self]; rfl
theorem at_below (x : Ran) (m : List Ran) (p q : Nat) (h : q < p) (h' : p ≤ m.length) : (at_ x m p)[q]? = m[q]? := by
  unfold at_; rw [List.getElem?_append_left (by rw [List.length_take]; omega), List.getElem?_take_of_lt h]
theorem at_swap (x y : Ran) (m : List Ran) (q : Nat) (hy : m[q]? = some y) : ((at_ x m (q + 1)).set (q + 1) y).set q x = at_ x m q := by
  have hq : q < m.length := (List.getElem?_eq_some_iff.1 hy).1
  have hT : m.take (q + 1) = m.take q ++ [y] := by rw [List.take_add_one, hy]; rfl
  have hD : m.drop q = y :: m.drop (q + 1) := by
    rw [List.drop_eq_getElem_cons hq]
    congr 1
    exact (List.getElem?_eq_some_iff.1 hy).2
  unfold at_
  rw [hT, hD]
  have l1 : (m.take q).length = q := by rw [List.length_take]; omega
  rw [List.append_assoc, List.set_append_right _ _ (by omega), l1]
  have e1 : q + 1 - q = 1 := by omega
  rw [e1]
  rw [List.set_append_right _ _ (by omega), l1, Nat.sub_self]
  rfl
theorem sorted_get {m : List Ran} (h : Sorted m) {k q : Nat} {z y : Ran} (hk : k ≤ q) (hz : m[k]? = some z) (hy : m[q]? = some y) : z.key ≤ y.key := by
  obtain ⟨h1, rfl⟩ := List.getElem?_eq_some_iff.1 hz
  obtain ⟨h2, rfl⟩ := List.getElem?_eq_some_iff.1 hy
  rcases Nat.lt_or_ge k q with g | g
  · exact List.pairwise_iff_getElem.1 h k q h1 h2 g
  · obtain rfl : k = q := by omega
    exact Int.le_refl _
theorem own_shape5 {base n : Nat} {e : TypeId} {v : Value} {xs : List Value} {w : World} (h : w.ownsRow base e 5 v n xs) : ∃ a cap, v = .slice a n cap ∧ (0 < n → ∃ g, a = some ⟨g, 0, none⟩ ∧ base ≤ g ∧ g < w.heap.size) := by
  have hlt := World.ownsRow.lt h
  obtain ⟨h1, h2⟩ := h
  rcases h2 with ⟨rfl, rfl⟩ | ⟨g, cap, cur, hv, _⟩
  · exact ⟨none, 0, rfl, fun h => by omega⟩
  · subst hv
    exact ⟨some ⟨g, 0, none⟩, cap, rfl, fun _ => ⟨g, rfl, hlt g rfl⟩⟩
set_option maxRecDepth 100000 in
set_option maxHeartbeats 8000000 in
theorem ends_loop (A : Option Addr) (cap : Nat) (es : List Ev) (w : World) (h : RdEv w A es) (hl : es.length ≤ 1000000000000) :
    Calls Try.prog 24 #[.slice A es.length cap] w fun x w' => ∃ v, x = .returned v ∧ w'.ownsRow w.heap.size 37 5 v (endsM es).length (rcs (endsM es)) ∧ Bl w w' := by
  obtain ⟨i0, hi, hz0, hz1, hz2⟩ := info_parts info64
  go_enter Try.func24, Try.ntmps24
  go_wp2_with fail
  go_loopw [3, 9] (fun l c wr => ∃ j : Nat, j ≤ es.length ∧ c = .int .i64 j ∧ wr.ownsRow w.heap.size 37 5 l (endsM (es.take j)).length (rcs (endsM (es.take j))) ∧ Bl w wr) (fun _ c _ => es.length - (intOf c).toNat)
  case atStart => exact ⟨0, by omega, rfl, World.ownsRow_nil _ _ _ _, Bl.refl _⟩
  case round =>
    obtain ⟨j, hj, rfl, hown, hB⟩ := hrel
    by_cases hlt : j < es.length
    · obtain ⟨b, off, rfl, hc⟩ := h (by omega)
      obtain ⟨e, he⟩ : ∃ e, es[j]? = some e := ⟨_, List.getElem?_eq_getElem hlt⟩
      obtain ⟨c1, c2, c3, c4⟩ := hc j e he
      have c1 := st_cell hB c1
      have c2 := st_cell hB c2
      have c3 := st_cell hB c3
      have c4 := st_cell hB c4
      have hT : es.take (j + 1) = es.take j ++ [e] := by rw [List.take_add_one, he]; rfl
      have hE := endsM_snoc (es.take j) e
      rw [← hT] at hE
      have hml : (endsM (es.take j)).length ≤ j := by
        have h1 := endsM_len (es.take j)
        have h2 := (bd_of (es.take j)).b1
        rw [List.length_take] at h2; omega
      have hsort := endsM_sorted (es.take j)
      by_cases k2 : e.kind = 2
      · have k2' : (e.kind != 2) = false := by simp [k2]
        have HE : Hid (endsM (es.take (j + 1)) = ins (ran e) (endsM (es.take j))) := by show _ = _; rw [hE]; unfold stepE; rw [if_pos k2]
        clear hE k2 hT hc h
        have HS := Lib.hid hsort
        clear hsort
        obtain ⟨m, hm⟩ : ∃ m, endsM (es.take j) = m := ⟨_, rfl⟩
        rw [hm] at HE HS hown hml
        clear hm
        go_wp2_with (first
              | (at_builtin; refine wpList_append_own _ rfl _ _ 31 rfl w.heap.size 37 i0 _ 5 40 Try.underlying31 hi hz0 hz1 hz2 rfl (by decide) _ _ _ rfl ((hown.alloc _).alloc _) ⟨wr.heap.size + 1, 0, none⟩ 1 1 (rc (ran e)) rfl rfl ?c1 ?c2 ?c3 ?c4 ?c5 ?_))
        case c1 => exact World.news_of_block (cs := #[.int .i64 e.key, .int .i64 0, .int .i64 0, .int .i64 e.how, .int .i64 e.val]) (t := 37) (fr := (0, 0)) (by have := heap_alloc_new (wr.alloc (.cells #[.int .i64 e.kind, .int .i64 e.key, .int .i64 e.how, .int .i64 e.val] 44)) (.cells #[.int .i64 e.key, .int .i64 0, .int .i64 0, .int .i64 e.how, .int .i64 e.val] 37); simpa using this)
        case c2 =>
          intro u hu
          simp [rc, ran] at hu
          rcases hu with rfl | rfl | rfl | rfl <;> rfl
        case c3 => unfold maxLen; omega
        case c4 => omega
        case c5 => have := hB.size; simp; omega
        intro v' w9 hown9 hgr _
        have hsz := hB.size
        have hB9 : Bl w w9 := Below.grown (show Below w.heap.size w _ from (hB.alloc _).alloc _) hgr (by simp; omega) (fun k hk => (World.ownsRow.lt hown k hk).1)
        have hx9 : rcs m ++ rc (ran e) = rcs (at_ (ran e) m m.length) := by rw [at_end]; unfold rcs; rw [List.flatMap_append]; simp
        rw [hx9] at hown9
        clear hgr hx9 hown hB c1 c2 c3 c4
        obtain ⟨ao, cp, rfl, hg⟩ := own_shape5 hown9
        obtain ⟨g, rfl, hgb, hglt⟩ := hg (by omega)
        obtain ⟨x, hx⟩ : ∃ x, ran e = x := ⟨_, rfl⟩
        rw [hx] at hown9 HE
        clear hx hg
        have hmlen : m.length ≤ 1000000000000 := by omega
        go_wp2_with fail
        go_loopw [6] (fun i w2 => ∃ p : Nat, p ≤ m.length ∧ i = .int .i64 p ∧ w2.ownsRow w.heap.size 37 5 (.slice (some ⟨g, 0, none⟩) (m.length + 1) cp) (m.length + 1) (rcs (at_ x m p)) ∧ Hid (∀ (k : Nat) y, p ≤ k → m[k]? = some y → x.key < y.key) ∧ Bl w w2) (fun i _ => (intOf i).toNat)
        case atStart => exact ⟨m.length, by omega, by go_num, hown9, fun k y hk hy => (by rw [List.getElem?_eq_none hk] at hy; cases hy), hB9⟩
        case round =>
          obtain ⟨p, hp, rfl, hownp, hA, hBp⟩ := hrel
          by_cases hp0 : p = 0
          · subst hp0
            have hI : ins x m = at_ x m 0 := ins_at x m 0 (by omega) (fun k z hk hz => by omega) (fun z hz => hA.out 0 z (Nat.le_refl _) hz)
            have HI := Lib.hid hI
            clear hI hA
            go_wp2_with fail
            go_quiet (fail)
            go_wp2_with fail
            go_roundw
            case rel => exact ⟨j + 1, by omega, by go_num, by rw [HE.out, HI.out, at_len x m 0 (by omega)]; exact hownp, Bl.drewN hBp _⟩
            case measure => simp [intOf]; omega
          · obtain ⟨q, rfl⟩ : ∃ q, p = q + 1 := ⟨p - 1, by omega⟩
            obtain ⟨y, hy⟩ : ∃ y, m[q]? = some y := ⟨_, List.getElem?_eq_getElem (by omega)⟩
            have e1 := rcs_get _ (q + 1) 0 x (at_here x m (q + 1) hp) (by omega)
            have e2 := rcs_get _ q 0 y ((at_below x m (q + 1) q (by omega) hp).trans hy) (by omega)
            have k1 : wr.cell? ⟨g, (q + 1) * 5, none⟩ = some (.int .i64 x.key) := (hownp.cellAt _ (by omega)).trans e1
            have k2 : wr.cell? ⟨g, q * 5, none⟩ = some (.int .i64 y.key) := (hownp.cellAt _ (by omega)).trans e2
            have hq : ((q + 1 : Nat) : Int) = (q : Int) + 1 := by omega
            by_cases hxy : x.key < y.key
            · have fz := hownp.frozenAt
              have k11 : wr.cell? ⟨g, (q + 1) * 5 + 1, none⟩ = some (.int .i64 0) := (hownp.cellAt _ (by omega)).trans (rcs_get _ (q + 1) 1 x (at_here x m (q + 1) hp) (by omega))
              have k12 : wr.cell? ⟨g, (q + 1) * 5 + 2, none⟩ = some (.int .i64 0) := (hownp.cellAt _ (by omega)).trans (rcs_get _ (q + 1) 2 x (at_here x m (q + 1) hp) (by omega))
              have k13 : wr.cell? ⟨g, (q + 1) * 5 + 3, none⟩ = some (.int .i64 x.how) := (hownp.cellAt _ (by omega)).trans (rcs_get _ (q + 1) 3 x (at_here x m (q + 1) hp) (by omega))
              have k14 : wr.cell? ⟨g, (q + 1) * 5 + 4, none⟩ = some (.int .i64 x.val) := (hownp.cellAt _ (by omega)).trans (rcs_get _ (q + 1) 4 x (at_here x m (q + 1) hp) (by omega))
              have k21 : wr.cell? ⟨g, q * 5 + 1, none⟩ = some (.int .i64 0) := (hownp.cellAt _ (by omega)).trans (rcs_get _ q 1 y ((at_below x m (q + 1) q (by omega) hp).trans hy) (by omega))
              have k22 : wr.cell? ⟨g, q * 5 + 2, none⟩ = some (.int .i64 0) := (hownp.cellAt _ (by omega)).trans (rcs_get _ q 2 y ((at_below x m (q + 1) q (by omega) hp).trans hy) (by omega))
              have k23 : wr.cell? ⟨g, q * 5 + 3, none⟩ = some (.int .i64 y.how) := (hownp.cellAt _ (by omega)).trans (rcs_get _ q 3 y ((at_below x m (q + 1) q (by omega) hp).trans hy) (by omega))
              have k24 : wr.cell? ⟨g, q * 5 + 4, none⟩ = some (.int .i64 y.val) := (hownp.cellAt _ (by omega)).trans (rcs_get _ q 4 y ((at_below x m (q + 1) q (by omega) hp).trans hy) (by omega))
              have HSW := Lib.hid (at_swap x y m q hy)
              clear e1 e2
              go_wp2_with fail
              go_quiet (fail)
              go_wp2_with fail
              go_region
              go_wp2_with fail
              have HA2 : Hid (∀ (k : Nat) z, q ≤ k → m[k]? = some z → x.key < z.key) := by
                intro k z hk hz
                by_cases h : k = q
                · subst h; rw [hy] at hz; cases hz; exact hxy
                · exact hA.out k z (by omega) hz
              have hw1 := rcs_set (at_ x m (q + 1)) (q + 1) y (by rw [at_len x m _ hp]; omega)
              have hw2 := rcs_set ((at_ x m (q + 1)).set (q + 1) y) q x (by rw [List.length_set, at_len x m _ hp]; omega)
              rw [HSW.out, hw1] at hw2
              have HW := Lib.hid hw2
              clear hw1 hw2
              go_roundw
              case rel =>
                refine ⟨q, by omega, by go_num, ?_, HA2, ?_⟩
                · rw [HW.out]
                  exact (World.ownsRow.stored (World.ownsRow.stored (World.ownsRow.stored (World.ownsRow.stored (World.ownsRow.stored (World.ownsRow.stored (World.ownsRow.stored (World.ownsRow.stored (World.ownsRow.stored (World.ownsRow.stored hownp _ _).1 _ _).1 _ _).1 _ _).1 _ _).1 _ _).1 _ _).1 _ _).1 _ _).1 _ _).1
                · have hBq : Below w.heap.size w wr := hBp
                  show Below w.heap.size w _
                  repeat (first | with_reducible exact hBq | with_reducible exact hBp | with_reducible refine Below.setCell ?_ hgb _ | with_reducible apply below_drewN | with_reducible apply Below.drew)
              case measure => simp [intOf]
            · go_wp2_with fail
              go_quiet (fail)
              have hI : ins x m = at_ x m (q + 1) := ins_at x m (q + 1) hp (fun k z hk hz => by have := sorted_get HS.out (by omega) hz hy; omega) (fun z hz => hA.out (q + 1) z (Nat.le_refl _) hz)
              have HI := Lib.hid hI
              clear hI k1 k2 e1 e2 hq hA
              go_wp2_with fail
              go_roundw
              case rel => exact ⟨j + 1, by omega, by go_num, by rw [HE.out, HI.out, at_len x m (q + 1) hp]; exact hownp, Bl.drewN hBp _⟩
              case measure => simp [intOf]; omega
      · have k2' : (e.kind != 2) = true := by simp [k2]
        have HE : Hid (endsM (es.take (j + 1)) = endsM (es.take j)) := by show _ = _; rw [hE]; unfold stepE; rw [if_neg k2]
        clear hE k2 hT hc hsort
        go_wp2_with fail
        go_roundw
        case rel => exact ⟨j + 1, by omega, by go_num, by rw [HE.out]; exact hown.alloc _, hB.alloc _⟩
        case measure => simp [intOf]; omega
    · obtain rfl : j = es.length := by omega
      rw [List.take_length] at hown
      go_wp2_with fail
      go_ret
      exact ⟨_, rfl, hown, hB⟩
end Go.Proofs.Ytonndofbnhnkpaa.StatE
namespace Go.Proofs.Ytonndofbnhnkpaa.StatA
open Go.RowKit Num KeyM KeyW StatM StatW StatO KeyT StatE StatR
theorem rd_nil (w : World) (A : Option Addr) : RdEv w A [] := fun h => absurd h (by decide)
theorem of_root : ofM [⟨1, 1125899906842624, 0, 0⟩] = ⟨1, 0, 0, 0, 0, 0, 1⟩ := by kernel_rfl
theorem calls_eq {P : Program} {f : FuncId} {a b : Array Value} {w : World} {Q} (h : a = b) (c : Calls P f a w Q) : Calls P f b w Q := h ▸ c
set_option maxRecDepth 100000 in
set_option maxHeartbeats 4000000 in
theorem awake_any (w : World) : Calls Try.prog 18 #[] w fun e w' => e = .returned (.bool true) ∧ Bl w w' := by
  have h1 : ∀ w : World, RdEv (w.alloc (.cells #[.int .i64 1, .int .i64 1125899906842624, .int .i64 0, .int .i64 0] 44)) (some ⟨w.heap.size, 0, none⟩) [⟨1, 1125899906842624, 0, 0⟩] := by
    intro w _
    refine ⟨_, _, rfl, fun i e he => ?_⟩
    cases i with
    | zero =>
      simp at he; subst he
      exact ⟨by go_simp, by go_simp, by go_simp, by go_simp⟩
    | succ i => simp at he
  have c1 := fun w => of_any _ 1 _ _ (h1 w) (by decide)
  rw [of_root] at c1
  have c2 := fun w => order_any none 0 [] w (rd_nil w none) (by decide)
  have c3 := fun w => ends_loop none 0 [] w (rd_nil w none) (by decide)
  have o0 : ordM [] = true := by rw [ordM_true]; exact List.Pairwise.nil
  rw [o0] at c2
  clear h1 o0
  simp only [stV, List.length_cons, List.length_nil] at c1 c2 c3
  go_enter Try.func18, Try.ntmps18
  go_wp2_with (first
    | (go_at_call 19; refine (c1 _).mono ?_; rintro e w2 ⟨rfl, hb2⟩)
    | (go_at_call 21; refine (c2 _).mono ?_; rintro e w3 ⟨rfl, hb3⟩; have d0 := st_cell (p := ⟨w2.heap.size, 0, none⟩) (v := .int .i64 1) hb3 (by go_simp); have d6 := st_cell (p := ⟨w2.heap.size, 6, none⟩) (v := .int .i64 1) hb3 (by go_simp))
    | (go_at_call 24; refine (c3 _).mono ?_; rintro e w4 ⟨v, rfl, hown, hb4⟩; obtain ⟨ao, cp, rfl, _⟩ := own_shape5 hown))
  go_ret
  exact ⟨rfl, by repeat (first | exact Bl.refl _ | assumption | apply Bl.drewN | apply Bl.alloc | refine Bl.trans ?_ (by assumption))⟩
end Go.Proofs.Ytonndofbnhnkpaa.StatA
namespace Go.Proofs.Ytonndofbnhnkpaa.StatP
open StatM
def grp (c : Int) (es : List Ev) : List Ev := es.filter fun e => decide (e.kind = 2 ∧ e.key = c)
def flat (cs : List Int) (es : List Ev) : List Ran := cs.flatMap fun c => (grp c es).map ran
theorem grp_snoc (c : Int) (es : List Ev) (e : Ev) : grp c (es ++ [e]) = if e.kind = 2 ∧ e.key = c then grp c es ++ [e] else grp c es := by
  unfold grp; rw [List.filter_append]
  by_cases h : e.kind = 2 ∧ e.key = c
  · rw [if_pos h]; simp [h]
  · rw [if_neg h]; simp [h]
theorem grp_key {c : Int} {es : List Ev} {y : Ran} (h : y ∈ (grp c es).map ran) : y.key = c := by
  unfold grp at h
  simp only [List.mem_map, List.mem_filter, decide_eq_true_iff] at h
  obtain ⟨e, ⟨_, _, h2⟩, rfl⟩ := h
  exact h2
theorem flat_key {cs : List Int} {es : List Ev} {y : Ran} (h : y ∈ flat cs es) : y.key ∈ cs := by
  unfold flat at h
  rw [List.mem_flatMap] at h
  obtain ⟨c, hc, hy⟩ := h
  rw [grp_key hy]; exact hc
theorem ins_app (x : Ran) (G F : List Ran) (h : ∀ y ∈ G, ¬ x.key < y.key) : ins x (G ++ F) = G ++ ins x F := by
  induction G with
  | nil => rfl
  | cons g G ih =>
    have h1 := h g (by simp)
    have h2 := ih (fun y hy => h y (by simp [hy]))
    show ins x (g :: (G ++ F)) = g :: (G ++ ins x F)
    rw [← h2]
    show (if x.key < g.key then x :: g :: (G ++ F) else g :: ins x (G ++ F)) = _
    rw [if_neg h1]
theorem ins_lt (x : Ran) (F : List Ran) (h : ∀ y ∈ F, x.key < y.key) : ins x F = x :: F := by
  cases F with
  | nil => rfl
  | cons y F => unfold ins; rw [if_pos (h y (by simp))]
theorem flat_same {cs : List Int} {es : List Ev} {e : Ev} (h : ∀ c ∈ cs, ¬ (e.kind = 2 ∧ e.key = c)) : flat cs (es ++ [e]) = flat cs es := by
  unfold flat
  induction cs with
  | nil => rfl
  | cons c cs ih =>
    rw [List.flatMap_cons, List.flatMap_cons, ih (fun d hd => h d (by simp [hd])), grp_snoc, if_neg (h c (by simp))]
theorem ins_flat {cs : List Int} (hs : cs.Pairwise (· < ·)) {es : List Ev} {e : Ev} (h2 : e.kind = 2) (hk : e.key ∈ cs) : ins (ran e) (flat cs es) = flat cs (es ++ [e]) := by
  induction cs with
  | nil => simp at hk
  | cons c cs ih =>
    rw [List.pairwise_cons] at hs
    obtain ⟨hc, hs⟩ := hs
    have e1 : ∀ es, flat (c :: cs) es = (grp c es).map ran ++ flat cs es := fun es => by unfold flat; rw [List.flatMap_cons]
    rw [e1, e1]
    by_cases hkc : e.key = c
    · rw [ins_app _ _ _ (fun y hy => by rw [grp_key hy]; show ¬ e.key < c; omega),
        ins_lt _ _ (fun y hy => by have := hc _ (flat_key hy); show e.key < y.key; omega),
        flat_same (fun d hd hh => by have := hc d hd; omega), grp_snoc, if_pos ⟨h2, hkc⟩]
      simp
    · have hk' : e.key ∈ cs := by
        rcases List.mem_cons.1 hk with h | h
        · exact absurd h hkc
        · exact h
      rw [ins_app _ _ _ (fun y hy => by rw [grp_key hy]; have := hc _ hk'; show ¬ e.key < c; omega), ih hs hk', grp_snoc, if_neg (fun h => hkc h.2)]
theorem ends_snoc_ind {p : List Ev → Prop} (h0 : p []) (h1 : ∀ es e, p es → p (es ++ [e])) (es : List Ev) : p es := by
  have : ∀ n, ∀ es : List Ev, es.length = n → p es := by
    intro n
    induction n with
    | zero => intro es h; rw [List.length_eq_zero_iff.1 h]; exact h0
    | succ n ih =>
      intro es h
      have hne : es ≠ [] := by intro hh; subst hh; simp at h
      rw [← List.dropLast_concat_getLast hne]
      exact h1 _ _ (ih _ (by rw [List.length_dropLast]; omega))
  exact this _ es rfl
theorem ends_flat {cs : List Int} (hs : cs.Pairwise (· < ·)) (es : List Ev) (hk : ∀ e ∈ es, e.key ∈ cs) : endsM es = flat cs es := by
  revert hk
  refine ends_snoc_ind (p := fun es => (∀ e ∈ es, e.key ∈ cs) → endsM es = flat cs es) ?_ ?_ es
  · intro _
    show [] = _
    unfold flat
    induction cs with
    | nil => rfl
    | cons c cs ih => rw [List.flatMap_cons, ← ih (List.pairwise_cons.1 hs).2 (fun e he => by simp at he)]; rfl
  · intro es e ih hk
    rw [endsM_snoc, ih (fun d hd => hk d (by simp [hd]))]
    unfold stepE
    by_cases h2 : e.kind = 2
    · rw [if_pos h2]; exact ins_flat hs h2 (hk e (by simp))
    · rw [if_neg h2, flat_same (fun c _ hh => h2 hh.1)]
theorem grp_take (c : Int) (es : List Ev) (i : Nat) : ∃ l, grp c es = grp c (es.take i) ++ l :=
  ⟨grp c (es.drop i), by unfold grp; rw [← List.filter_append, List.take_append_drop]⟩
theorem flat_at {cs : List Int} {es : List Ev} {q i : Nat} {c : Int} {e : Ev} (hq : cs[q]? = some c) (he : es[i]? = some e) (h : e.kind = 2 ∧ e.key = c) :
    (flat cs es)[(flat (cs.take q) es).length + (grp c (es.take i)).length]? = some (ran e) := by
  obtain ⟨hql, hqe⟩ := List.getElem?_eq_some_iff.1 hq
  have e1 : cs = cs.take q ++ c :: cs.drop (q + 1) := by
    conv => lhs; rw [← List.take_append_drop q cs, List.drop_eq_getElem_cons hql, hqe]
  have e2 : flat cs es = flat (cs.take q) es ++ ((grp c es).map ran ++ flat (cs.drop (q + 1)) es) := by
    conv => lhs; rw [e1]
    unfold flat; rw [List.flatMap_append, List.flatMap_cons]
  obtain ⟨l, hl⟩ := grp_take c es (i + 1)
  have hT : es.take (i + 1) = es.take i ++ [e] := by rw [List.take_add_one, he]; rfl
  rw [hT, grp_snoc, if_pos h] at hl
  rw [e2, List.getElem?_append_right (by omega), Nat.add_sub_cancel_left, hl]
  simp
theorem flat_next {cs : List Int} {es : List Ev} {q : Nat} {c : Int} (hq : cs[q]? = some c) : (flat (cs.take (q + 1)) es).length = (flat (cs.take q) es).length + (grp c es).length := by
  rw [List.take_add_one, hq]
  unfold flat; rw [List.flatMap_append, List.length_append]
  simp
theorem grp_step {c : Int} {es : List Ev} {i : Nat} {e : Ev} (he : es[i]? = some e) : (grp c (es.take (i + 1))).length = (grp c (es.take i)).length + if e.kind = 2 ∧ e.key = c then 1 else 0 := by
  have hT : es.take (i + 1) = es.take i ++ [e] := by rw [List.take_add_one, he]; rfl
  rw [hT, grp_snoc]
  split <;> simp
end Go.Proofs.Ytonndofbnhnkpaa.StatP
namespace Go.Proofs.Ytonndofbnhnkpaa.Plc
open Go.RowKit Num KeyM KeyW
theorem tmod_emod (v n : Int) (h : 0 < n) : v % n = if v.tmod n < 0 then v.tmod n + n else v.tmod n := by
  have h1 := Int.emod_nonneg v (b := n) (by omega)
  have h2 := Int.emod_lt_of_pos v h
  rw [Int.tmod_eq_emod]
  by_cases g : 0 ≤ v ∨ n ∣ v
  · rw [if_pos g]; rw [if_neg (by omega)]; omega
  · rw [if_neg g]
    have : (n.natAbs : Int) = n := by omega
    rw [this, if_pos (by omega)]; omega
set_option maxHeartbeats 1000000 in
theorem place_any (v n : Int) (w : World) (hv : (Lit.int .i64 v).wf = true) (h0 : 0 < n) (hn : n ≤ 1000000000000000) :
    Calls Try.prog 26 #[.int .i64 v, .int .i64 n] w fun e w' => e = .returned (.int .i64 (v % n)) ∧ w = w' := by
  have hk := tmod_emod v n h0
  have h1 := Int.emod_nonneg v (b := n) (by omega)
  have h2 := Int.emod_lt_of_pos v h0
  go_enter Try.func26, Try.ntmps26
  go_wp2_with fail
  all_goals (go_ret; exact ⟨ret_i (by omega), rfl⟩)
end Go.Proofs.Ytonndofbnhnkpaa.Plc
namespace Go.Proofs.Ytonndofbnhnkpaa.StatN
open Go.RowKit Num KeyM KeyW StatM StatW StatO KeyT StatE StatP Frm KeyL Plc
def ec (e : Ev) : List Value := [.int .i64 e.kind, .int .i64 e.key, .int .i64 e.how, .int .i64 e.val]
def ecs (m : List Ev) : List Value := m.flatMap ec
theorem ecs_len (m : List Ev) : (ecs m).length = m.length * 4 := by
  induction m with
  | nil => rfl
  | cons r m ih => unfold ecs at *; rw [List.flatMap_cons, List.length_append, ih, List.length_cons]; simp [ec]; omega
theorem ecs_get (m : List Ev) (i f : Nat) (r : Ev) (h : m[i]? = some r) (hf : f < 4) : (ecs m)[i * 4 + f]? = (ec r)[f]? := by
  induction m generalizing i with
  | nil => simp at h
  | cons s m ih =>
    unfold ecs at *
    rw [List.flatMap_cons]
    cases i with
    | zero =>
      simp at h; subst h
      rw [List.getElem?_append_left (by simp [ec]; omega)]; simp
    | succ i =>
      rw [List.getElem?_append_right (by simp [ec]; omega)]
      have : (i + 1) * 4 + f - (ec s).length = i * 4 + f := by simp [ec]; omega
      rw [this]
      exact ih i (by simpa using h)
theorem info44 : (Try.prog.info? 44).map (fun i => (i.zero, i.size, i.bytes)) = some (some (.agg #[.int .i64 0, .int .i64 0, .int .i64 0, .int .i64 0]), 4, 32) := by kernel_rfl
theorem own_shape4 {base n : Nat} {e : TypeId} {v : Value} {xs : List Value} {w : World} (h : w.ownsRow base e 4 v n xs) : ∃ a cap, v = .slice a n cap ∧ (0 < n → ∃ g, a = some ⟨g, 0, none⟩ ∧ base ≤ g ∧ g < w.heap.size) := by
  have hlt := World.ownsRow.lt h
  obtain ⟨h1, h2⟩ := h
  rcases h2 with ⟨rfl, rfl⟩ | ⟨g, cap, cur, hv, _⟩
  · exact ⟨none, 0, rfl, fun h => by omega⟩
  · subst hv
    exact ⟨some ⟨g, 0, none⟩, cap, rfl, fun _ => ⟨g, rfl, hlt g rfl⟩⟩
theorem ev_cells {base g cap : Nat} {m : List Ev} {w : World} {n : Nat} (hn : m.length = n) (h : w.ownsRow base 44 4 (.slice (some ⟨g, 0, none⟩) n cap) n (ecs m)) {i : Nat} {e : Ev} (he : m[i]? = some e) :
    w.cell? ⟨g, i * 4, none⟩ = some (.int .i64 e.kind) ∧ w.cell? ⟨g, i * 4 + 1, none⟩ = some (.int .i64 e.key) ∧ w.cell? ⟨g, i * 4 + 2, none⟩ = some (.int .i64 e.how) ∧ w.cell? ⟨g, i * 4 + 3, none⟩ = some (.int .i64 e.val) := by
  have hl := (List.getElem?_eq_some_iff.1 he).1
  exact ⟨(h.cellAt _ (by omega)).trans (ecs_get m i 0 e he (by omega)), (h.cellAt _ (by omega)).trans (ecs_get m i 1 e he (by omega)), (h.cellAt _ (by omega)).trans (ecs_get m i 2 e he (by omega)), (h.cellAt _ (by omega)).trans (ecs_get m i 3 e he (by omega))⟩
theorem rd_own {base n : Nat} {v : Value} {m : List Ev} {w : World} (hn : m.length = n) (h : w.ownsRow base 44 4 v n (ecs m)) : ∃ a cap, v = .slice a n cap ∧ RdEv w a m ∧ (0 < n → ∃ g, a = some ⟨g, 0, none⟩ ∧ base ≤ g ∧ g < w.heap.size) := by
  obtain ⟨a, cap, rfl, hg⟩ := own_shape4 h
  refine ⟨a, cap, rfl, fun h0 => ?_, hg⟩
  obtain ⟨g, rfl, _, _⟩ := hg (by omega)
  refine ⟨g, 0, rfl, fun i e he => ?_⟩
  simp only [Nat.zero_add]
  exact ev_cells hn h he
theorem ran_cells {base g cap n : Nat} {m : List Ran} {w : World} (hn : m.length = n) (h : w.ownsRow base 37 5 (.slice (some ⟨g, 0, none⟩) n cap) n (rcs m)) {i : Nat} {e : Ran} (he : m[i]? = some e) :
    w.cell? ⟨g, i * 5, none⟩ = some (.int .i64 e.key) ∧ w.cell? ⟨g, i * 5 + 1, none⟩ = some (.int .i64 0) ∧ w.cell? ⟨g, i * 5 + 2, none⟩ = some (.int .i64 0) ∧ w.cell? ⟨g, i * 5 + 3, none⟩ = some (.int .i64 e.how) ∧ w.cell? ⟨g, i * 5 + 4, none⟩ = some (.int .i64 e.val) := by
  have hl := (List.getElem?_eq_some_iff.1 he).1
  exact ⟨(h.cellAt _ (by omega)).trans (rcs_get m i 0 e he (by omega)), (h.cellAt _ (by omega)).trans (rcs_get m i 1 e he (by omega)), (h.cellAt _ (by omega)).trans (rcs_get m i 2 e he (by omega)), (h.cellAt _ (by omega)).trans (rcs_get m i 3 e he (by omega)), (h.cellAt _ (by omega)).trans (rcs_get m i 4 e he (by omega))⟩
/-- The event by a number. -/
def evOf (i : Nat) (v : Int) : Ev := ⟨1 + v % 3, child 1125899906842624 (1 + v.tdiv 3 % 5), 1 + v.tdiv 15 % 4, i⟩
def evs (zs : List Int) (n : Nat) : List Ev := (List.range n).map fun i => evOf i (zs.getD i 0 % 1048576)
theorem evs_len (zs : List Int) (n : Nat) : (evs zs n).length = n := by simp [evs]
theorem evs_snoc (zs : List Int) (n : Nat) : evs zs (n + 1) = evs zs n ++ [evOf n (zs.getD n 0 % 1048576)] := by unfold evs; rw [List.range_succ, List.map_append]; rfl
theorem evs_get (zs : List Int) (n i : Nat) (h : i < n) : (evs zs n)[i]? = some (evOf i (zs.getD i 0 % 1048576)) := by unfold evs; simp [h]
def keys : List Int := (List.range 5).map fun (q : Nat) => child 1125899906842624 (1 + (q : Int))
theorem keys_get (q : Nat) (h : q < 5) : keys[q]? = some (child 1125899906842624 (1 + (q : Int))) := by unfold keys; simp [h]
theorem keys_sorted : keys.Pairwise (· < ·) := by
  have : keys = [1126999418470400, 1128098930098176, 1129198441725952, 1130297953353728, 1131397464981504] := by kernel_rfl
  rw [this]
  decide +kernel
theorem tm (v n : Int) (h : 0 ≤ v) (hn : 0 < n) : 0 ≤ v % n ∧ v % n < n := by
  exact ⟨Int.emod_nonneg _ (by omega), Int.emod_lt_of_pos _ hn⟩
theorem td (v n : Int) (h : 0 ≤ v) (hn : 0 < n) : 0 ≤ v.tdiv n ∧ v.tdiv n ≤ v := by
  rw [Int.tdiv_eq_ediv_of_nonneg h]
  exact ⟨Int.ediv_nonneg h (by omega), Int.ediv_le_self _ h⟩
theorem ev_key (i : Nat) (v : Int) (h : 0 ≤ v) : (evOf i v).key ∈ keys := by
  have h1 := tm (v.tdiv 3) 5 (td v 3 h (by decide)).1 (by decide)
  obtain ⟨q, hq⟩ : ∃ q : Nat, v.tdiv 3 % 5 = q := ⟨(v.tdiv 3 % 5).toNat, by omega⟩
  have := keys_get q (by omega)
  rw [← hq] at this
  exact List.mem_of_getElem? this
theorem evs_keys (zs : List Int) (n : Nat) : ∀ e ∈ evs zs n, e.key ∈ keys := by
  intro e he
  unfold evs at he
  rw [List.mem_map] at he
  obtain ⟨i, _, rfl⟩ := he
  exact ev_key i _ (Int.emod_nonneg _ (by decide))
end Go.Proofs.Ytonndofbnhnkpaa.StatN
