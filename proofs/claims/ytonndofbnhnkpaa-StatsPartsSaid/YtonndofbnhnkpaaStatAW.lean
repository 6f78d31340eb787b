/- StatsAll: the walk. -/
import Derived.Test.YtonndofbnhnkpaaR27O
import Derived.Test.YtonndofbnhnkpaaR27E
import Derived.Test.YtonndofbnhnkpaaSmR
import Derived.Test.YtonndofbnhnkpaaStatA
import Derived.Test.YtonndofbnhnkpaaStatR
import Derived.Test.YtonndofbnhnkpaaRdE
namespace Go.Proofs.Ytonndofbnhnkpaa.StatAW
open Go.RowKit Num KeyM KeyW StatM StatW StatO KeyT StatE StatP StatN R27 SmR App
theorem rd_later {w w' : World} {A : Option Addr} {es : List Ev} (h : RdEv w A es) (hB : Bl w w') : RdEv w' A es := by
  intro h0
  obtain ⟨b, off, e, hc⟩ := h h0
  refine ⟨b, off, e, fun i x hx => ?_⟩
  obtain ⟨c1, c2, c3, c4⟩ := hc i x hx
  exact ⟨st_cell hB c1, st_cell hB c2, st_cell hB c3, st_cell hB c4⟩
def ranF (m : List Ran) (i j : Nat) : Int := match m[i]? with
  | some r => if j = 0 then r.key else if j = 3 then r.how else if j = 4 then r.val else 0
  | none => 0
theorem fives_own {w : World} {base n cap : Nat} {A : Option Addr} {m : List Ran} (h : w.ownsRow base 37 5 (.slice A n cap) n (rcs m)) (hn : m.length = n) : Fives w A n (ranF m) := by
  intro h0
  obtain ⟨a, cap', e, hg⟩ := own_shape5 h
  cases e
  obtain ⟨g, rfl, _, _⟩ := hg h0
  refine ⟨g, rfl, fun i j hi hj => ?_⟩
  obtain ⟨r, hr⟩ : ∃ r, m[i]? = some r := ⟨_, List.getElem?_eq_getElem (by omega)⟩
  obtain ⟨c0, c1, c2, c3, c4⟩ := ran_cells hn h hr
  unfold ranF
  rw [hr]
  obtain rfl | rfl | rfl | rfl | rfl : j = 0 ∨ j = 1 ∨ j = 2 ∨ j = 3 ∨ j = 4 := by omega
  · exact c0
  · exact c1
  · exact c2
  · exact c3
  · exact c4
/-- The cells of events. -/
theorem rd_cells {w : World} {b off : Nat} {es : List Ev} (h : ∀ (i : Nat) (e : Ev), es[i]? = some e →
    w.cell? ⟨b, off + i * 4, none⟩ = some (.int .i64 e.kind) ∧ w.cell? ⟨b, off + i * 4 + 1, none⟩ = some (.int .i64 e.key) ∧
    w.cell? ⟨b, off + i * 4 + 2, none⟩ = some (.int .i64 e.how) ∧ w.cell? ⟨b, off + i * 4 + 3, none⟩ = some (.int .i64 e.val)) :
    ∀ j u, (ecs es)[j]? = some u → w.cell? ((⟨b, off, none⟩ : Addr).add j) = some u := by
  intro j u hu
  have hl := (List.getElem?_eq_some_iff.1 hu).1
  rw [ecs_len] at hl
  obtain ⟨e, he⟩ : ∃ e, es[j / 4]? = some e := ⟨_, List.getElem?_eq_getElem (by omega)⟩
  have hg := ecs_get es (j / 4) (j % 4) e he (by omega)
  have e1 : j / 4 * 4 + j % 4 = j := by omega
  rw [e1, hu] at hg
  obtain ⟨c0, c1, c2, c3⟩ := h _ e he
  have e2 : (⟨b, off, none⟩ : Addr).add j = ⟨b, off + j / 4 * 4 + j % 4, none⟩ := by
    rw [Go.WideShapes.add_plain]; congr 1; omega
  rw [e2]
  obtain h4 | h4 | h4 | h4 : j % 4 = 0 ∨ j % 4 = 1 ∨ j % 4 = 2 ∨ j % 4 = 3 := by omega
  all_goals
    rw [h4] at hg ⊢
    rw [hg]
    first
      | exact c0
      | exact c1
      | exact c2
      | exact c3
theorem rd_news {w : World} {a : Addr} {es : List Ev} (h : RdEv w (some a) es) : ∀ j u, (ecs es)[j]? = some u → w.cell? (a.add j) = some u := by
  intro j u hu
  have hl := (List.getElem?_eq_some_iff.1 hu).1
  rw [ecs_len] at hl
  obtain ⟨b, off, e, hc⟩ := h (by omega)
  cases e
  exact rd_cells hc j u hu
theorem ecs_one (m : List Ev) : ∀ u ∈ ecs m, u.oneCell' = true := by
  intro u hu
  unfold ecs at hu
  rw [List.mem_flatMap] at hu
  obtain ⟨r, _, hr⟩ := hu
  simp [ec] at hr
  rcases hr with rfl | rfl | rfl | rfl <;> rfl
theorem walk_long (A : Option Addr) (len cap : Nat) (w : World) (hl : 80 < len) : Calls Try.prog 3 #[.slice A len cap] w fun x w' => x = .returned (.bool true) ∧ Bl w w' := by
  have hA := fun w => StatA.awake_any w
  have h1 : (80 : Int) < (len : Int) := by omega
  go_enter Try.func3, Try.ntmps3
  go_wp2_with (first
    | (go_at_call 18; with_reducible refine (hA _).mono ?_; rintro x w4 ⟨rfl, hb4⟩))
  go_ret
  exact ⟨rfl, hb4⟩
set_option maxRecDepth 100000 in
set_option maxHeartbeats 8000000 in
theorem walk (A : Option Addr) (cap n : Nat) (es : List Ev) (w : World) (h : RdEv w A es) (hn : es.length = n) (hl : n ≤ 80) (hcap : A = none → n = 0 ∧ cap = 0) :
    Calls Try.prog 3 #[.slice A n cap] w fun x w' => x = .returned (.bool true) ∧ Bl w w' := by
  obtain ⟨i0, hi, hz0, hz1, hz2⟩ := info_parts info44
  have c1 := fun w' (hb : Bl w w') => StatO.of_any A cap es w' (rd_later h hb) (by omega)
  have c2 := fun w' (hb : Bl w w') => of27 A cap es w' (rd_later h hb) (by omega)
  have c3 := fun w' (hb : Bl w w') => StatR.order_any A cap es w' (rd_later h hb) (by omega)
  have c4 := fun w' (hb : Bl w w') => order27 A cap es w' (rd_later h hb) (by omega)
  have c6 := fun w' (hb : Bl w w') => ends27 A cap es w' (rd_later h hb) (by omega)
  have c5 := fun A' cap' w' (hr : RdEv w' A' es) => StatE.ends_loop A' cap' es w' hr (by omega)
  have hel := endsM_len es
  have hbd := bd_of es
  have hel2 : (endsM es).length ≤ n := by have := hbd.b1; omega
  have hA := fun w => StatA.awake_any w
  obtain ⟨⟨s1, s2, s3, s4, s5, s6, s7⟩, hst⟩ : ∃ st, ofM es = st := ⟨_, rfl⟩
  rw [hst] at c1 c2
  rw [hn] at c1 c2 c3 c4 c5 c6
  simp only [stV] at c1 c2
  have HN := Lib.hid hn
  obtain ⟨en, hen⟩ : ∃ en, (endsM es).length = en := ⟨_, rfl⟩
  have HEN := Lib.hid hen
  rw [hen] at c5 c6 hel2
  cases ho : ordM es
  all_goals
    rw [ho] at c3 c4
    clear ho hst hel hbd
    rcases A with _ | a
    · obtain ⟨rfl, rfl⟩ := hcap rfl
      have c5' := fun w' (hr : RdEv w' none es) => c5 none 0 w' hr
      have hnil : ∀ w', RdEv w' none es := fun w' h0 => by have := HN.out; omega
      clear h c5 hcap
      go_enter Try.func3, Try.ntmps3
      go_wp2_with fail
      refine (c1 _ (Bl.refl _)).mono ?_
      rintro x w1 ⟨rfl, hb1⟩
      go_wp2_with fail
      refine (c2 _ hb1).mono ?_
      rintro x w2 ⟨rfl, hb2⟩
      clear c1 c2
      go_wp2_with fail
      refine (c3 _ (by repeat (first | exact Bl.refl _ | assumption | apply Bl.drewN | apply Bl.drew | apply Bl.alloc | refine Bl.trans ?_ (by assumption)))).mono ?_
      rintro x w3 ⟨rfl, hb3⟩
      go_wp2_with fail
      refine (c4 _ (by repeat (first | exact Bl.refl _ | assumption | apply Bl.drewN | apply Bl.drew | apply Bl.alloc | refine Bl.trans ?_ (by assumption)))).mono ?_
      rintro x w4 ⟨rfl, hb4⟩
      go_wp2_with (refine wpList_append_own_none rfl _ _ 22 rfl w.heap.size 44 i0 4 Try.underlying22 hi _ 0 [] rfl (World.ownsRow_nil _ _ _ _) rfl ?_)
      refine (c5' _ (hnil _)).mono ?_
      rintro x w5 ⟨v5, rfl, ho5, hb5⟩
      obtain ⟨A5, cp5, rfl, _⟩ := own_shape5 ho5
      go_wp2_with fail
      refine (c6 _ (by repeat (first | exact Bl.refl _ | assumption | apply Bl.drewN | apply Bl.drew | apply Bl.alloc | refine Bl.trans ?_ (by assumption)))).mono ?_
      rintro x w6 ⟨v6, rfl, ho6, hb6⟩
      obtain ⟨A6, cp6, rfl, _⟩ := own_shape5 ho6
      have hsm := same_ran A5 A6 en cp5 cp6 (ranF (endsM es)) w6 ((fives_own ho5 HEN.out).bl hb6) (fives_own ho6 HEN.out) (by omega)
      clear c3 c4 c6 c5' ho5 ho6
      go_wp2_with fail
      refine hsm.mono ?_
      rintro x w7 ⟨rfl, hb7⟩
      go_wp2_with fail
      refine (hA _).mono ?_
      rintro x w8 ⟨rfl, hb8⟩
      go_wp2_with fail
      go_ret
      exact ⟨rfl, by repeat (first | exact Bl.refl _ | assumption | apply Bl.drewN | apply Bl.drew | apply Bl.alloc | refine Bl.trans ?_ (by assumption))⟩
    · clear hcap
      have hsz : ∀ w', Bl w w' → w.heap.size ≤ w'.heap.size := fun w' hb => hb.size
      have hnw := fun w' (hb : Bl w w') => rd_news (rd_later h hb)
      clear h
      go_enter Try.func3, Try.ntmps3
      go_wp2_with fail
      refine (c1 _ (Bl.refl _)).mono ?_
      rintro x w1 ⟨rfl, hb1⟩
      go_wp2_with fail
      refine (c2 _ hb1).mono ?_
      rintro x w2 ⟨rfl, hb2⟩
      clear c1 c2
      go_wp2_with fail
      refine (c3 _ (by repeat (first | exact Bl.refl _ | assumption | apply Bl.drewN | apply Bl.drew | apply Bl.alloc | refine Bl.trans ?_ (by assumption)))).mono ?_
      rintro x w3 ⟨rfl, hb3⟩
      go_wp2_with fail
      refine (c4 _ (by repeat (first | exact Bl.refl _ | assumption | apply Bl.drewN | apply Bl.drew | apply Bl.alloc | refine Bl.trans ?_ (by assumption)))).mono ?_
      rintro x w4 ⟨rfl, hb4⟩
      have hB4 : Bl w w4 := by repeat (first | exact Bl.refl _ | assumption | apply Bl.drewN | apply Bl.drew | apply Bl.alloc | refine Bl.trans ?_ (by assumption))
      go_wp2_with (refine wpList_append_own_g _ _ _ 22 rfl w.heap.size 44 i0 _ 4 32 Try.underlying22 hi hz0 hz1 hz2 rfl (by decide) _ 0 [] rfl (World.ownsRow_nil _ _ _ _) a n cap (ecs es) rfl (by rfl) ?cl (hnw _ hB4) ?c2 ?c3 ?c4 ?c5 ?_)
      case cl => rw [ecs_len]; have := HN.out; omega
      case c2 => exact ecs_one es
      case c3 => unfold maxLen; omega
      case c4 => omega
      case c5 => exact hB4.size
      intro v' w5 hown5 hgr5
      have hb5 := bl_of_grown hgr5
      obtain ⟨A5, cp5, rfl, hrd5, _⟩ := rd_own (m := es) (by have := HN.out; omega) hown5
      have c5' := c5 A5 cp5 w5 hrd5
      clear c5 hgr5 hrd5 hown5
      go_wp2_with fail
      refine c5'.mono ?_
      rintro x w6 ⟨v6, rfl, ho6, hb6⟩
      obtain ⟨A6, cp6, rfl, _⟩ := own_shape5 ho6
      go_wp2_with fail
      refine (c6 _ (by repeat (first | exact Bl.refl _ | assumption | apply Bl.drewN | apply Bl.drew | apply Bl.alloc | refine Bl.trans ?_ (by assumption)))).mono ?_
      rintro x w7 ⟨v7, rfl, ho7, hb7⟩
      obtain ⟨A7, cp7, rfl, _⟩ := own_shape5 ho7
      have hsm := same_ran A6 A7 en cp6 cp7 (ranF (endsM es)) w7 ((fives_own ho6 HEN.out).bl hb7) (fives_own ho7 HEN.out) (by omega)
      clear c3 c4 c6 c5' ho6 ho7
      go_wp2_with fail
      refine hsm.mono ?_
      rintro x w8 ⟨rfl, hb8⟩
      go_wp2_with fail
      refine (hA _).mono ?_
      rintro x w9 ⟨rfl, hb9⟩
      go_wp2_with fail
      go_ret
      exact ⟨rfl, by repeat (first | exact Bl.refl _ | assumption | apply Bl.drewN | apply Bl.drew | apply Bl.alloc | refine Bl.trans ?_ (by assumption))⟩
theorem walk_of (a : Option Addr) (len cap : Nat) (F : Nat → Nat → Int) (w : World) (h : Frm.IsRows w 4 a len cap F) (_ : len * 32 ≤ 140737488351232) :
    Calls Try.prog 3 #[.slice a len cap] w fun x w' => x = .returned (.bool true) ∧ Bl w w' := by
  rcases Nat.lt_or_ge 80 len with hl | hl
  · exact walk_long a len cap w hl
  · obtain ⟨es, h1, h2, h3, h4, h5⟩ := RdE.rd_of h
    exact walk a cap len es w h2 h1 hl (fun e => by have := h5 e; omega)
end Go.Proofs.Ytonndofbnhnkpaa.StatAW
