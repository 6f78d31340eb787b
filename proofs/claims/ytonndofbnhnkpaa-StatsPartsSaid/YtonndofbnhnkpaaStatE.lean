/- The contract of stats.Ends. -/
import Derived.Test.YtonndofbnhnkpaaStatR
import Derived.BigRegion
import Derived.Deep.AppendLies
import Derived.BigQuiet
namespace Go.Proofs.Ytonndofbnhnkpaa.StatE
open Go.RowKit Num KeyM KeyW StatM StatW StatO KeyT
def rc (r : Ran) : List Value := [.int .i64 r.key, .int .i64 0, .int .i64 0, .int .i64 r.how, .int .i64 r.val]
def rcs (m : List Ran) : List Value := m.flatMap rc
theorem rcs_len (m : List Ran) : (rcs m).length = m.length * 5 := by
  induction m with
  | nil => rfl
  | cons r m ih => unfold rcs at *; rw [List.flatMap_cons, List.length_append, ih, List.length_cons]; simp [rc]; omega
theorem rcs_get (m : List Ran) (i f : Nat) (r : Ran) (h : m[i]? = some r) (hf : f < 5) : (rcs m)[i * 5 + f]? = (rc r)[f]? := by
  induction m generalizing i with
  | nil => simp at h
  | cons s m ih =>
    unfold rcs at *
    rw [List.flatMap_cons]
    cases i with
    | zero =>
      simp at h; subst h
      rw [List.getElem?_append_left (by simp [rc]; omega)]; simp
    | succ i =>
      rw [List.getElem?_append_right (by simp [rc]; omega)]
      have : (i + 1) * 5 + f - (rc s).length = i * 5 + f := by simp [rc]; omega
      rw [this]
      exact ih i (by simpa using h)
theorem rcs_set (m : List Ran) (i : Nat) (r : Ran) (h : i < m.length) :
    rcs (m.set i r) = (((((rcs m).set (i * 5) (.int .i64 r.key)).set (i * 5 + 1) (.int .i64 0)).set (i * 5 + 2) (.int .i64 0)).set (i * 5 + 3) (.int .i64 r.how)).set (i * 5 + 4) (.int .i64 r.val) := by
  induction m generalizing i with
  | nil => simp at h
  | cons s m ih =>
    cases i with
    | zero => rfl
    | succ i =>
      have := ih i (by simpa using h)
      unfold rcs at *
      rw [List.set_cons_succ, List.flatMap_cons, List.flatMap_cons, this]
      have e : ∀ (k : Nat) (xs : List Value) (v : Value), (rc s ++ xs).set ((i + 1) * 5 + k) v = rc s ++ xs.set (i * 5 + k) v := by
        intro k xs v
        rw [List.set_append_right _ _ (by simp [rc]; omega)]
        congr 2
        simp [rc]; omega
      have e0 := e 0
      simp only [Nat.add_zero] at e0
      rw [e0, e 1, e 2, e 3, e 4]
theorem info64 : (Try.prog.info? 37).map (fun i => (i.zero, i.size, i.bytes)) = some (some (.agg #[.int .i64 0, .int .i64 0, .int .i64 0, .int .i64 0, .int .i64 0]), 5, 40) := by kernel_rfl
/-- The list with x at place p. -/
def at_ (x : Ran) (m : List Ran) (p : Nat) : List Ran := m.take p ++ x :: m.drop p
theorem at_len (x : Ran) (m : List Ran) (p : Nat) (h : p ≤ m.length) : (at_ x m p).length = m.length + 1 := by
  unfold at_; rw [List.length_append, List.length_cons, List.length_take, List.length_drop]; omega
theorem at_end (x : Ran) (m : List Ran) : at_ x m m.length = m ++ [x] := by unfold at_; rw [List.take_length, List.drop_length]
theorem at_here (x : Ran) (m : List Ran) (p : Nat) (h : p ≤ m.length) : (at_ x m p)[p]? = some x := by
  unfold at_; rw [List.getElem?_append_right (by rw [List.length_take]; omega)]
  rw [List.length_take, Nat.min_eq_left h, Nat.sub_self]; rfl
theorem at_below (x : Ran) (m : List Ran) (p q : Nat) (h : q < p) (h' : p ≤ m.length) : (at_ x m p)[q]? = m[q]? := by
  unfold at_; rw [List.getElem?_append_left (by rw [List.length_take]; omega), List.getElem?_take_of_lt h]
theorem at_swap (x y : Ran) (m : List Ran) (q : Nat) (hy : m[q]? = some y) : ((at_ x m (q + 1)).set (q + 1) y).set q x = at_ x m q := by
  have hq : q < m.length := (List.getElem?_eq_some_iff.1 hy).1
  have hT : m.take (q + 1) = m.take q ++ [y] := by rw [List.take_add_one, hy]; rfl
  have hD : m.drop q = y :: m.drop (q + 1) := by
    rw [List.drop_eq_getElem_cons hq]
    congr 1
    exact (List.getElem?_eq_some_iff.1 hy).2
  unfold at_
  rw [hT, hD]
  have l1 : (m.take q).length = q := by rw [List.length_take]; omega
  rw [List.append_assoc, List.set_append_right _ _ (by omega), l1]
  have e1 : q + 1 - q = 1 := by omega
  rw [e1]
  rw [List.set_append_right _ _ (by omega), l1, Nat.sub_self]
  rfl
theorem sorted_get {m : List Ran} (h : Sorted m) {k q : Nat} {z y : Ran} (hk : k ≤ q) (hz : m[k]? = some z) (hy : m[q]? = some y) : z.key ≤ y.key := by
  obtain ⟨h1, rfl⟩ := List.getElem?_eq_some_iff.1 hz
  obtain ⟨h2, rfl⟩ := List.getElem?_eq_some_iff.1 hy
  rcases Nat.lt_or_ge k q with g | g
  · exact List.pairwise_iff_getElem.1 h k q h1 h2 g
  · obtain rfl : k = q := by omega
    exact Int.le_refl _
theorem own_shape5 {base n : Nat} {e : TypeId} {v : Value} {xs : List Value} {w : World} (h : w.ownsRow base e 5 v n xs) : ∃ a cap, v = .slice a n cap ∧ (0 < n → ∃ g, a = some ⟨g, 0, none⟩ ∧ base ≤ g ∧ g < w.heap.size) := by
  have hlt := World.ownsRow.lt h
  obtain ⟨h1, h2⟩ := h
  rcases h2 with ⟨rfl, rfl⟩ | ⟨g, cap, cur, hv, _⟩
  · exact ⟨none, 0, rfl, fun h => by omega⟩
  · subst hv
    exact ⟨some ⟨g, 0, none⟩, cap, rfl, fun _ => ⟨g, rfl, hlt g rfl⟩⟩
set_option maxRecDepth 100000 in
set_option maxHeartbeats 8000000 in
theorem ends_loop (A : Option Addr) (cap : Nat) (es : List Ev) (w : World) (h : RdEv w A es) (hl : es.length ≤ 1000000000000) :
    Calls Try.prog 24 #[.slice A es.length cap] w fun x w' => ∃ v, x = .returned v ∧ w'.ownsRow w.heap.size 37 5 v (endsM es).length (rcs (endsM es)) ∧ Bl w w' := by
  obtain ⟨i0, hi, hz0, hz1, hz2⟩ := info_parts info64
  go_enter Try.func24, Try.ntmps24
  go_wp2_with fail
  go_loopw [3, 9] (fun l c wr => ∃ j : Nat, j ≤ es.length ∧ c = .int .i64 j ∧ wr.ownsRow w.heap.size 37 5 l (endsM (es.take j)).length (rcs (endsM (es.take j))) ∧ Bl w wr) (fun _ c _ => es.length - (intOf c).toNat)
  case atStart => exact ⟨0, by omega, rfl, World.ownsRow_nil _ _ _ _, Bl.refl _⟩
  case round =>
    obtain ⟨j, hj, rfl, hown, hB⟩ := hrel
    by_cases hlt : j < es.length
    · obtain ⟨b, off, rfl, hc⟩ := h (by omega)
      obtain ⟨e, he⟩ : ∃ e, es[j]? = some e := ⟨_, List.getElem?_eq_getElem hlt⟩
      obtain ⟨c1, c2, c3, c4⟩ := hc j e he
      have c1 := st_cell hB c1
      have c2 := st_cell hB c2
      have c3 := st_cell hB c3
      have c4 := st_cell hB c4
      have hT : es.take (j + 1) = es.take j ++ [e] := by rw [List.take_add_one, he]; rfl
      have hE := endsM_snoc (es.take j) e
      rw [← hT] at hE
      have hml : (endsM (es.take j)).length ≤ j := by
        have h1 := endsM_len (es.take j)
        have h2 := (bd_of (es.take j)).b1
        rw [List.length_take] at h2; omega
      have hsort := endsM_sorted (es.take j)
      by_cases k2 : e.kind = 2
      · have k2' : (e.kind != 2) = false := by simp [k2]
        have HE : Hid (endsM (es.take (j + 1)) = ins (ran e) (endsM (es.take j))) := by show _ = _; rw [hE]; unfold stepE; rw [if_pos k2]
        clear hE k2 hT hc h
        have HS := Lib.hid hsort
        clear hsort
        obtain ⟨m, hm⟩ : ∃ m, endsM (es.take j) = m := ⟨_, rfl⟩
        rw [hm] at HE HS hown hml
        clear hm
        go_wp2_with (first
              | (at_builtin; refine wpList_append_own _ rfl _ _ 31 rfl w.heap.size 37 i0 _ 5 40 Try.underlying31 hi hz0 hz1 hz2 rfl (by decide) _ _ _ rfl ((hown.alloc _).alloc _) ⟨wr.heap.size + 1, 0, none⟩ 1 1 (rc (ran e)) rfl rfl ?c1 ?c2 ?c3 ?c4 ?c5 ?_))
        case c1 => exact World.news_of_block (cs := #[.int .i64 e.key, .int .i64 0, .int .i64 0, .int .i64 e.how, .int .i64 e.val]) (t := 37) (fr := (0, 0)) (by have := heap_alloc_new (wr.alloc (.cells #[.int .i64 e.kind, .int .i64 e.key, .int .i64 e.how, .int .i64 e.val] 44)) (.cells #[.int .i64 e.key, .int .i64 0, .int .i64 0, .int .i64 e.how, .int .i64 e.val] 37); simpa using this)
        case c2 =>
          intro u hu
          simp [rc, ran] at hu
          rcases hu with rfl | rfl | rfl | rfl <;> rfl
        case c3 => unfold maxLen; omega
        case c4 => omega
        case c5 => have := hB.size; simp; omega
        intro v' w9 hown9 hgr _
        have hsz := hB.size
        have hB9 : Bl w w9 := Below.grown (show Below w.heap.size w _ from (hB.alloc _).alloc _) hgr (by simp; omega) (fun k hk => (World.ownsRow.lt hown k hk).1)
        have hx9 : rcs m ++ rc (ran e) = rcs (at_ (ran e) m m.length) := by rw [at_end]; unfold rcs; rw [List.flatMap_append]; simp
        rw [hx9] at hown9
        clear hgr hx9 hown hB c1 c2 c3 c4
        obtain ⟨ao, cp, rfl, hg⟩ := own_shape5 hown9
        obtain ⟨g, rfl, hgb, hglt⟩ := hg (by omega)
        obtain ⟨x, hx⟩ : ∃ x, ran e = x := ⟨_, rfl⟩
        rw [hx] at hown9 HE
        clear hx hg
        have hmlen : m.length ≤ 1000000000000 := by omega
        go_wp2_with fail
        go_loopw [6] (fun i w2 => ∃ p : Nat, p ≤ m.length ∧ i = .int .i64 p ∧ w2.ownsRow w.heap.size 37 5 (.slice (some ⟨g, 0, none⟩) (m.length + 1) cp) (m.length + 1) (rcs (at_ x m p)) ∧ Hid (∀ (k : Nat) y, p ≤ k → m[k]? = some y → x.key < y.key) ∧ Bl w w2) (fun i _ => (intOf i).toNat)
        case atStart => exact ⟨m.length, by omega, by go_num, hown9, fun k y hk hy => (by rw [List.getElem?_eq_none hk] at hy; cases hy), hB9⟩
        case round =>
          obtain ⟨p, hp, rfl, hownp, hA, hBp⟩ := hrel
          by_cases hp0 : p = 0
          · subst hp0
            have hI : ins x m = at_ x m 0 := ins_at x m 0 (by omega) (fun k z hk hz => by omega) (fun z hz => hA.out 0 z (Nat.le_refl _) hz)
            have HI := Lib.hid hI
            clear hI hA
            go_wp2_with fail
            go_quiet (fail)
            go_wp2_with fail
            go_roundw
            case rel => exact ⟨j + 1, by omega, by go_num, by rw [HE.out, HI.out, at_len x m 0 (by omega)]; exact hownp, Bl.drewN hBp _⟩
            case measure => simp [intOf]; omega
          · obtain ⟨q, rfl⟩ : ∃ q, p = q + 1 := ⟨p - 1, by omega⟩
            obtain ⟨y, hy⟩ : ∃ y, m[q]? = some y := ⟨_, List.getElem?_eq_getElem (by omega)⟩
            have e1 := rcs_get _ (q + 1) 0 x (at_here x m (q + 1) hp) (by omega)
            have e2 := rcs_get _ q 0 y ((at_below x m (q + 1) q (by omega) hp).trans hy) (by omega)
            have k1 : wr.cell? ⟨g, (q + 1) * 5, none⟩ = some (.int .i64 x.key) := (hownp.cellAt _ (by omega)).trans e1
            have k2 : wr.cell? ⟨g, q * 5, none⟩ = some (.int .i64 y.key) := (hownp.cellAt _ (by omega)).trans e2
            have hq : ((q + 1 : Nat) : Int) = (q : Int) + 1 := by omega
            by_cases hxy : x.key < y.key
            · have fz := hownp.frozenAt
              have k11 : wr.cell? ⟨g, (q + 1) * 5 + 1, none⟩ = some (.int .i64 0) := (hownp.cellAt _ (by omega)).trans (rcs_get _ (q + 1) 1 x (at_here x m (q + 1) hp) (by omega))
              have k12 : wr.cell? ⟨g, (q + 1) * 5 + 2, none⟩ = some (.int .i64 0) := (hownp.cellAt _ (by omega)).trans (rcs_get _ (q + 1) 2 x (at_here x m (q + 1) hp) (by omega))
              have k13 : wr.cell? ⟨g, (q + 1) * 5 + 3, none⟩ = some (.int .i64 x.how) := (hownp.cellAt _ (by omega)).trans (rcs_get _ (q + 1) 3 x (at_here x m (q + 1) hp) (by omega))
              have k14 : wr.cell? ⟨g, (q + 1) * 5 + 4, none⟩ = some (.int .i64 x.val) := (hownp.cellAt _ (by omega)).trans (rcs_get _ (q + 1) 4 x (at_here x m (q + 1) hp) (by omega))
              have k21 : wr.cell? ⟨g, q * 5 + 1, none⟩ = some (.int .i64 0) := (hownp.cellAt _ (by omega)).trans (rcs_get _ q 1 y ((at_below x m (q + 1) q (by omega) hp).trans hy) (by omega))
              have k22 : wr.cell? ⟨g, q * 5 + 2, none⟩ = some (.int .i64 0) := (hownp.cellAt _ (by omega)).trans (rcs_get _ q 2 y ((at_below x m (q + 1) q (by omega) hp).trans hy) (by omega))
              have k23 : wr.cell? ⟨g, q * 5 + 3, none⟩ = some (.int .i64 y.how) := (hownp.cellAt _ (by omega)).trans (rcs_get _ q 3 y ((at_below x m (q + 1) q (by omega) hp).trans hy) (by omega))
              have k24 : wr.cell? ⟨g, q * 5 + 4, none⟩ = some (.int .i64 y.val) := (hownp.cellAt _ (by omega)).trans (rcs_get _ q 4 y ((at_below x m (q + 1) q (by omega) hp).trans hy) (by omega))
              have HSW := Lib.hid (at_swap x y m q hy)
              clear e1 e2
              go_wp2_with fail
              go_quiet (fail)
              go_wp2_with fail
              go_region
              go_wp2_with fail
              have HA2 : Hid (∀ (k : Nat) z, q ≤ k → m[k]? = some z → x.key < z.key) := by
                intro k z hk hz
                by_cases h : k = q
                · subst h; rw [hy] at hz; cases hz; exact hxy
                · exact hA.out k z (by omega) hz
              have hw1 := rcs_set (at_ x m (q + 1)) (q + 1) y (by rw [at_len x m _ hp]; omega)
              have hw2 := rcs_set ((at_ x m (q + 1)).set (q + 1) y) q x (by rw [List.length_set, at_len x m _ hp]; omega)
              rw [HSW.out, hw1] at hw2
              have HW := Lib.hid hw2
              clear hw1 hw2
              go_roundw
              case rel =>
                refine ⟨q, by omega, by go_num, ?_, HA2, ?_⟩
                · rw [HW.out]
                  exact (World.ownsRow.stored (World.ownsRow.stored (World.ownsRow.stored (World.ownsRow.stored (World.ownsRow.stored (World.ownsRow.stored (World.ownsRow.stored (World.ownsRow.stored (World.ownsRow.stored (World.ownsRow.stored hownp _ _).1 _ _).1 _ _).1 _ _).1 _ _).1 _ _).1 _ _).1 _ _).1 _ _).1 _ _).1
                · have hBq : Below w.heap.size w wr := hBp
                  show Below w.heap.size w _
                  repeat (first | with_reducible exact hBq | with_reducible exact hBp | with_reducible refine Below.setCell ?_ hgb _ | with_reducible apply below_drewN | with_reducible apply Below.drew)
              case measure => simp [intOf]
            · go_wp2_with fail
              go_quiet (fail)
              have hI : ins x m = at_ x m (q + 1) := ins_at x m (q + 1) hp (fun k z hk hz => by have := sorted_get HS.out (by omega) hz hy; omega) (fun z hz => hA.out (q + 1) z (Nat.le_refl _) hz)
              have HI := Lib.hid hI
              clear hI k1 k2 e1 e2 hq hA
              go_wp2_with fail
              go_roundw
              case rel => exact ⟨j + 1, by omega, by go_num, by rw [HE.out, HI.out, at_len x m (q + 1) hp]; exact hownp, Bl.drewN hBp _⟩
              case measure => simp [intOf]; omega
      · have k2' : (e.kind != 2) = true := by simp [k2]
        have HE : Hid (endsM (es.take (j + 1)) = endsM (es.take j)) := by show _ = _; rw [hE]; unfold stepE; rw [if_neg k2]
        clear hE k2 hT hc hsort
        go_wp2_with fail
        go_roundw
        case rel => exact ⟨j + 1, by omega, by go_num, by rw [HE.out]; exact hown.alloc _, hB.alloc _⟩
        case measure => simp [intOf]; omega
    · obtain rfl : j = es.length := by omega
      rw [List.take_length] at hown
      go_wp2_with fail
      go_ret
      exact ⟨_, rfl, hown, hB⟩
end Go.Proofs.Ytonndofbnhnkpaa.StatE
