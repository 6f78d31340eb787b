/- Programs by numbers: the whole. -/
import Derived.Test.YtonndofbnhnkpaaGreatPrgR
import Derived.Test.YtonndofbnhnkpaaGreatKeyD
import Derived.Test.YtonndofbnhnkpaaGreatStatD
import Derived.Deep.AppendLies
import Derived.Deep.RegionLaw
set_option linter.unusedVariables false
set_option linter.unusedSimpArgs false
set_option linter.unusedSectionVars false
namespace Go.Proofs.YtonndofbnhnkpaaGreat.Prg
open Go.RowKit Num KeyM KeyW StatW StatO Blk VmA Frm KeyL
theorem lr_of {w : World} {a : Option Addr} {la ca : Nat} {zs : List Int} (h : IsRow .i64 w a la ca zs) : la ≤ ca ∧ ca ≤ 9223372036854775807 ∧ LR w.heap.size w a la ca := by
  by_cases h0 : la = 0
  · rcases h with ⟨_, h1, h2, _⟩ | ⟨x, _, h1, h2, _⟩
    · exact ⟨by omega, by omega, Or.inl h0⟩
    · unfold maxLen at h2; exact ⟨h1, h2, Or.inl h0⟩
  · obtain ⟨b, off, rfl, h1, h2, h3, h4⟩ := row_at h (by omega)
    refine ⟨h1, h2, Or.inr ⟨b, off, rfl, h1, h2, lt_of_cell (h4 0 (by omega)), fun i hi => ⟨_, h4 i (by omega)⟩⟩⟩
/-- What stands at the head of the outer loop. -/
structure Out (w wr : World) (P : Nat) (nf : Nat) (futs depth fuel : Int) (fs : List (List Ins)) : Prop where
  fns : ∀ f ∈ fs, FnOk nf futs f
  row : ∃ v, wr.rowIs P 24 4 (four v (.int .i64 futs) (.int .i64 depth) (.int .i64 fuel)) ∧ FsRow w.heap.size wr v fs
  lok : LOk w.heap.size (w.heap.size + 1) wr
  res : wr.rowIs w.heap.size 24 4 (four (.slice none 0 0) (.int .i64 0) (.int .i64 0) (.int .i64 0))
  ch : Ch (fun i => w.heap.size ≤ i) w wr
  p : w.heap.size + 1 < P
theorem out_next {w w9 w10 : World} {P nf : Nat} {futs depth fuel : Int} {fs : List (List Ins)} {g : List Ins} {vs v10 x9 : Value} {vals : List Value} {o : Obj}
    (h1 : ∀ f ∈ fs, FnOk nf futs f) (hnew : FnOk nf futs g) (HP9 : w9.rowIs P 24 4 (four vs (.int .i64 futs) (.int .i64 depth) (.int .i64 fuel))) (hv1 : w9.ownsRow w.heap.size 51 1 vs fs.length vals)
    (hv2 : ∀ (j : Nat) f, fs[j]? = some f → ∃ x, vals[j]? = some x ∧ FnAt w.heap.size w9 x f) (hx : FnAt w.heap.size w9 x9 g)
    (hown10 : w10.ownsRow w.heap.size 51 1 v10 (fs.length + 1) (vals ++ [x9])) (hgr10 : (w9.alloc o).grownBy w10 vs.ownBlock) (hL9 : LOk w.heap.size (w.heap.size + 1) w9)
    (hR9 : w9.rowIs w.heap.size 24 4 (four (.slice none 0 0) (.int .i64 0) (.int .i64 0) (.int .i64 0))) (hC9 : Ch (fun i => w.heap.size ≤ i) w w9) (hP : w.heap.size + 1 < P) :
    Out w (w10.setCell ⟨P, 0, none⟩ v10) P nf futs depth fuel (fs ++ [g]) := by
  have hg : Ch (fun k => vs.ownBlock = some k) w9 w10 := Ch.trans ((Ch.refl _ _).alloc o) ((Ch.of_grown hgr10).mono (fun i _ h => h))
  have hlt := World.ownsRow.lt hv1
  have hne : ∀ {b n : Nat} {t : TypeId} {f : Nat → Value}, w9.rowIs b t n f → (51 : Nat) ≠ t → ¬ vs.ownBlock = some b := fun h ht e => by
    obtain ⟨cur, hcur⟩ := own_type hv1 e
    exact ty_ne h hcur ht rfl
  have hP10 := hg.row HP9 (hne HP9 (by decide))
  have hlen : (fs ++ [g]).length = fs.length + 1 := by simp
  have hFn : ∀ {x : Value} {f : List Ins}, FnAt w.heap.size w9 x f → FnAt w.heap.size (w10.setCell ⟨P, 0, none⟩ v10) x f := by
    rintro x f ⟨gb, fc, rfl, h⟩
    have h10 := own_ch h hg (fun k hk e => by
      obtain ⟨c1, hc1⟩ := own_type h hk
      obtain ⟨c2, hc2⟩ := own_type hv1 e
      rw [hc1] at hc2
      injection hc2 with hc2
      injection hc2 with _ h2 _
      exact absurd h2 (by decide))
    refine ⟨gb, fc, rfl, own_setO h10 (fun k hk e => ?_) _⟩
    obtain ⟨c1, hc1⟩ := own_type h10 hk
    exact ty_ne hP10 hc1 (by decide) e
  refine ⟨fun f hf => ?_, ⟨v10, ?_, vals ++ [x9], ?_, fun j f hf => ?_⟩, ?_, ?_, ?_, hP⟩
  · rcases List.mem_append.1 hf with h | h
    · exact h1 f h
    · rw [List.mem_singleton.1 h]; exact hnew
  · refine World.rowIs.congr (hP10.set 0 v10) ?_
    repeat refine all_lt ?_ rfl
    exact all_none
  · rw [hlen]
    refine own_setO hown10 (fun k hk e => ?_) _
    obtain ⟨c1, hc1⟩ := own_type hown10 hk
    exact ty_ne hP10 hc1 (by decide) e
  · have hvl : vals.length = fs.length := by have := hv1.1; omega
    rcases Nat.lt_or_ge j fs.length with hj | hj
    · rw [List.getElem?_append_left hj] at hf
      obtain ⟨x, h2, h3⟩ := hv2 j f hf
      exact ⟨x, by rw [List.getElem?_append_left (by omega)]; exact h2, hFn h3⟩
    · have hj2 := (List.getElem?_eq_some_iff.1 hf).1
      obtain rfl : j = fs.length := by omega
      rw [List.getElem?_append_right (Nat.le_refl _), Nat.sub_self] at hf
      simp at hf
      subst hf
      exact ⟨x9, by rw [List.getElem?_append_right (by omega), hvl, Nat.sub_self]; rfl, hFn hx⟩
  · obtain ⟨a, len, cap, l1, _⟩ := id hL9
    refine LOk.setN (hL9.later hg (fun i hi e => by have := hlt i e; omega) (hne l1 (by decide))) (by omega) (by omega) _
  · exact row_setO (hg.row hR9 (hne hR9 (by decide))) (by omega) _
  · exact Ch.setN (hC9.then hg (fun i hi e => (hlt i e).1)) (by omega) _
set_option maxRecDepth 100000 in
set_option maxHeartbeats 8000000 in
theorem prog_any (a : Option Addr) (la ca : Nat) (zs : List Int) (cancels : Bool) (w : World) (ha : IsRow .i64 w a la ca zs) :
    Calls Tryz.prog 15 #[.slice a la ca, .bool cancels] w fun e w' => ∃ pa pc futs depth fuel fs, e = .returned (.agg #[.slice pa fs.length pc, .int .i64 futs, .int .i64 depth, .int .i64 fuel]) ∧
      PV fs futs depth fuel ∧ CodeAt w'.heap.size w' pa fs ∧ Bl w w' := by
  obtain ⟨i0, hi, hz0, hz1, hz2⟩ := info_parts info48
  obtain ⟨i1, hj, hy0, hy1, hy2⟩ := info_parts info49
  obtain ⟨g1, g2, g3⟩ := lr_of ha
  have hL1 : LOk w.heap.size (w.heap.size + 1) ((w.alloc (.cells #[.slice none 0 0, .int .i64 0, .int .i64 0, .int .i64 0] 24)).alloc (.cells #[.slice a la ca] 70)) := by
    refine ⟨a, la, ca, ?_, g1, g2, g3.later (S := fun _ => False) (Ch.of_bl (((Bl.refl _).alloc _).alloc _)) (fun _ _ h => h)⟩
    have := World.rowIs_alloc (w.alloc (.cells #[.slice none 0 0, .int .i64 0, .int .i64 0, .int .i64 0] 24)) #[.slice a la ca] 70 (fun _ => .slice a la ca) (fun i hi => by
      have hi : i < 1 := hi
      (obtain rfl : i = 0 := (by omega)); rfl)
    simpa using this
  have hR := World.rowIs.alloc (row4_alloc w (.slice none 0 0) (.int .i64 0) (.int .i64 0) (.int .i64 0) 24) (.cells #[.slice a la ca] 70)
  have hN := next_any w.heap.size (w.heap.size + 1) 1048576 _ hL1 (Nat.le_succ _) (by decide) (by decide)
  clear ha g3 hL1
  go_enter Tryz.func15, Tryz.ntmps15
  go_wp2_with fail
  refine hN.mono ?_
  rintro e w2 ⟨v, rfl, hv0, hv1, hL, hC⟩
  have hR2 := hC.row hR (by omega)
  have hz := hC.size
  simp at hz
  have hC2 : Ch (fun i => w.heap.size ≤ i) w w2 := Ch.then (Ch.of_bl (((Bl.refl _).alloc _).alloc _)) hC (fun i hi h => by omega)
  have m1 := Int.emod_nonneg v (b := 4) (by decide)
  have m2 := Int.emod_lt_of_pos v (b := 4) (by decide)
  have HL := Lib.hid hL
  have HR2 := Lib.hid hR2
  have HC2 := Lib.hid hC2
  clear hN hR hL hR2 hC hC2
  go_wp2_with fail
  obtain ⟨nf, hnf⟩ : ∃ nf : Nat, 1 + v / 640 % 4 = nf := ⟨(1 + v / 640 % 4).toNat, by omega⟩
  obtain ⟨fu, hfu⟩ : ∃ fu : Nat, v % 4 = fu := ⟨(v % 4).toNat, by omega⟩
  obtain ⟨de, hde⟩ : ∃ de : Nat, v / 4 % 4 = de := ⟨(v / 4 % 4).toNat, by omega⟩
  obtain ⟨fl, hfl⟩ : ∃ fl : Nat, 5 + v / 16 % 40 = fl := ⟨(5 + v / 16 % 40).toNat, by omega⟩
  rw [hnf, hfu, hde, hfl]
  have b1 : 1 ≤ nf := by omega
  have b2 : nf ≤ 4 := by omega
  have b3 : fu ≤ 3 := by omega
  have b4 : de ≤ 3 := by omega
  have b5 : 5 ≤ fl := by omega
  have b6 : fl ≤ 44 := by omega
  have hO : Hid (Out w (w2.alloc (.cells #[.slice none 0 0, .int .i64 fu, .int .i64 de, .int .i64 fl] 24)) w2.heap.size nf fu de fl []) := by
    refine ⟨fun f hf => (by cases hf), ⟨_, row4_alloc w2 _ _ _ _ 24, [], World.ownsRow_nil _ _ _ _, fun j f hf => by simp at hf⟩, HL.out.bl ((Bl.refl _).alloc _), World.rowIs.alloc HR2.out _, HC2.out.alloc _, by omega⟩
  obtain ⟨P, hP⟩ : ∃ P, w2.heap.size = P := ⟨_, rfl⟩
  rw [hP] at hO ⊢
  clear hnf hfu hde hfl hv0 hv1 m1 m2 HL HR2 HC2 hz hP
  go_loopw [9] (fun i wr => ∃ fs : List (List Ins), i = .int .i64 (fs.length : Nat) ∧ fs.length ≤ nf ∧ Out w wr P nf fu de fl fs) (fun i _ => 5 - (intOf i).toNat)
  case atStart => exact ⟨[], rfl, by simp, hO.out⟩
  case round =>
    obtain ⟨fs, rfl, hle, hOut⟩ := hrel
    clear hO
    obtain ⟨o1, ⟨vs, o2, o3⟩, o4, o5, o6, o7⟩ := hOut
    by_cases hlt : fs.length < nf
    · have hN := next_any w.heap.size (w.heap.size + 1) 10 _ o4 (Nat.le_succ _) (by decide) (by decide)
      obtain ⟨wo, rfl⟩ : ∃ wo : World, wo = wr := ⟨_, rfl⟩
      have O2 := Lib.hid o2
      have O3 := Lib.hid o3
      have O5 := Lib.hid o5
      have O6 := Lib.hid o6
      have O1 := Lib.hid o1
      have O4 := Lib.hid o4
      have zo := o2.lt
      clear o1 o2 o3 o4 o5 o6
      go_wp2_with fail
      refine hN.mono ?_
      rintro e w3 ⟨u, rfl, hu0, hu1, hL3, hC3⟩
      obtain ⟨k, hk⟩ : ∃ k : Nat, 2 + u = k := ⟨(2 + u).toNat, by omega⟩
      have k1 : 2 ≤ k := by omega
      have k2 : k ≤ 11 := by omega
      have HL3 := Lib.hid hL3
      have HC3 := Lib.hid hC3
      clear hN hL3 hC3
      go_wp2_with fail
      go_loopw [11, 12] (fun f j wq => ∃ g : List Ins, j = .int .i64 (g.length : Nat) ∧ g.length + 1 ≤ k ∧ Hid (∀ x ∈ g, InsIn nf fu k x) ∧ wq.ownsRow wo.heap.size 53 4 f g.length (icells g) ∧ LOk w.heap.size (w.heap.size + 1) wq ∧ Ch (· = w.heap.size + 1) wo wq) (fun _ j _ => 12 - (intOf j).toNat)
      case atStart => exact ⟨[], rfl, (by simp; omega), Lib.hid (fun x hx => absurd hx List.not_mem_nil), World.ownsRow_nil _ _ _ _, HL3.out, HC3.out⟩
      case round =>
        obtain ⟨g, rfl, hgk, hg, hown, hLq, hCq⟩ := hrel
        clear HL3 HC3
        have hP2 := hCq.row O2.out (by omega)
        obtain ⟨⟨q0, q1, q2, q3⟩, ⟨z0, z1, z2, z3⟩⟩ := row4_cells hP2
        have hzq := hCq.size
        by_cases hlt2 : g.length + 1 < k
        · have hI := ins_any w.heap.size (w.heap.size + 1) nf fu g.length k wr hLq (Nat.le_succ _) b1 b2 b3 hlt2 (by omega)
          have HQ := Lib.hid hown
          have HCq := Lib.hid hCq
          have HLq := Lib.hid hLq
          clear hP2 hown hCq hLq
          go_wp2_with fail
          refine hI.mono ?_
          rintro e w4 ⟨⟨op, xa, xb, xc⟩, rfl, hx, hL4, hC4⟩
          have hB := World.ownsRow.lt HQ.out
          have hown4 := own_ch HQ.out hC4 (fun k hk e => by
            obtain ⟨_, _, _, hr, _⟩ := HLq.out
            obtain ⟨cur, hcur⟩ := own_type HQ.out hk
            exact ty_ne hr hcur (by decide) e)
          have hC4' : Ch (· = w.heap.size + 1) wo w4 := HCq.out.trans hC4
          have hz4 := hC4.size
          have HX := Lib.hid hx
          have HL4 := Lib.hid hL4
          have HO4 := Lib.hid hown4
          have HC4 := Lib.hid hC4'
          clear hI hx hL4 hown4 hC4' hC4 HQ HCq HLq
          unfold insV
          simp only
          have no : Hid ((cancels = false ∨ (op == 14) = false) ∨ (cancels = true ∧ op = 14)) := by
            by_cases h1 : op = 14
            · cases cancels
              · exact Or.inl (Or.inl rfl)
              · exact Or.inr ⟨rfl, h1⟩
            · exact Or.inl (Or.inr (by simpa using h1))
          rcases no.out with (hn | hn) | ⟨hn, hn'⟩
          · subst hn
            go_wp2_with (first | (at_builtin; refine wpList_append_own _ rfl _ _ 51 rfl wo.heap.size 53 i0 _ 4 32 Tryz.underlying51 hi hz0 hz1 hz2 rfl (by decide) _ _ _ rfl ((HO4.out.alloc _).alloc _) ⟨w4.heap.size + 1, 0, none⟩ 1 1 (icell ⟨op, xa, xb, xc⟩) rfl rfl ?c1 ?c2 ?c3 ?c4 ?c5 ?_))
            case c1 => exact fun j u h => h
            case c2 =>
              intro u hu
              simp [icell] at hu
              rcases hu with rfl | rfl | rfl | rfl <;> rfl
            case c3 => unfold maxLen; omega
            case c4 => omega
            case c5 => omega
            intro v' w9 hown9 hgr _
            rw [icells_snoc] at hown9
            obtain ⟨hL9, hC9⟩ := grow_step ((HO4.out.alloc _).alloc _) hgr (HL4.out.bl (((Bl.refl _).alloc _).alloc _)) ((HC4.out.alloc _).alloc _) (by omega) (by omega)
            have HO9 := Lib.hid hown9
            have HL9 := Lib.hid hL9
            have HC9 := Lib.hid hC9
            clear hown9 hL9 hC9 hgr
            go_wp2_with fail
            go_roundw
            case rel => exact ⟨g ++ [⟨op, xa, xb, xc⟩], by simp, by simp; omega, Lib.hid (fun y hy => by
              rcases List.mem_append.1 hy with h | h
              · exact hg.out y h
              · rw [List.mem_singleton.1 h]; exact HX.out), by simpa using HO9.out, HL9.out, HC9.out⟩
            case measure => simp [intOf]; omega
          · cases cancels
            all_goals
              go_wp2_with (first | (at_builtin; refine wpList_append_own _ rfl _ _ 51 rfl wo.heap.size 53 i0 _ 4 32 Tryz.underlying51 hi hz0 hz1 hz2 rfl (by decide) _ _ _ rfl ((HO4.out.alloc _).alloc _) ⟨w4.heap.size + 1, 0, none⟩ 1 1 (icell ⟨op, xa, xb, xc⟩) rfl rfl ?c1 ?c2 ?c3 ?c4 ?c5 ?_))
              case c1 => exact fun j u h => h
              case c2 =>
                intro u hu
                simp [icell] at hu
                rcases hu with rfl | rfl | rfl | rfl <;> rfl
              case c3 => unfold maxLen; omega
              case c4 => omega
              case c5 => omega
              intro v' w9 hown9 hgr _
              rw [icells_snoc] at hown9
              obtain ⟨hL9, hC9⟩ := grow_step ((HO4.out.alloc _).alloc _) hgr (HL4.out.bl (((Bl.refl _).alloc _).alloc _)) ((HC4.out.alloc _).alloc _) (by omega) (by omega)
              have HO9 := Lib.hid hown9
              have HL9 := Lib.hid hL9
              have HC9 := Lib.hid hC9
              clear hown9 hL9 hC9 hgr
              go_wp2_with fail
              go_roundw
              case rel => exact ⟨g ++ [⟨op, xa, xb, xc⟩], by simp, by simp; omega, Lib.hid (fun y hy => by
                rcases List.mem_append.1 hy with h | h
                · exact hg.out y h
                · rw [List.mem_singleton.1 h]; exact HX.out), by simpa using HO9.out, HL9.out, HC9.out⟩
              case measure => simp [intOf]; omega
          · subst hn
            subst hn'
            have hN4 := next_any w.heap.size (w.heap.size + 1) 4 (w4.alloc (.cells #[.int .i64 14, .int .i64 xa, .int .i64 xb, .int .i64 xc] 53)) (HL4.out.bl ((Bl.refl _).alloc _)) (Nat.le_succ _) (by decide) (by decide)
            have hR4 := row4_alloc w4 (.int .i64 14) (.int .i64 xa) (.int .i64 xb) (.int .i64 xc) 53
            go_wp2_with fail
            refine hN4.mono ?_
            rintro e w5 ⟨y, rfl, hy0, hy1, hL5, hC5⟩
            obtain ⟨⟨e0, e1, e2, e3⟩, ⟨l0, l1, l2, l3⟩⟩ := row4_cells (hC5.row hR4 (by omega))
            have nb : ∀ k, Value.ownBlock _ = some k → k ≠ w4.heap.size := fun k hk => by have := hB k hk; omega
            have hO5 := own_ch (HO4.out.alloc _) hC5 (fun k hk e => by
              obtain ⟨_, _, _, hr, _⟩ := HL4.out.bl ((Bl.refl _).alloc (.cells #[.int .i64 14, .int .i64 xa, .int .i64 xb, .int .i64 xc] 53))
              obtain ⟨cur, hcur⟩ := own_type (HO4.out.alloc _) hk
              exact ty_ne hr hcur (by decide) e)
            have hC5' : Ch (· = w.heap.size + 1) wo w5 := (HC4.out.alloc _).trans hC5
            have hz5 := hC5.size
            have hz6 := (hC5.row hR4 (by omega)).lt
            have HO5 := Lib.hid hO5
            have HL5 := Lib.hid hL5
            have HC5 := Lib.hid hC5'
            clear hO5 hL5 hC5 hC5' hN4 hR4
            go_wp2_with (first | (at_builtin; refine wpList_append_own _ rfl _ _ 51 rfl wo.heap.size 53 i0 _ 4 32 Tryz.underlying51 hi hz0 hz1 hz2 rfl (by decide) _ _ _ rfl ((own_setO (own_setO (own_setO (own_setO HO5.out nb _) nb _) nb _) nb _).alloc _) ⟨w5.heap.size, 0, none⟩ 1 1 (icell ⟨13, y, 0, 0⟩) rfl rfl ?c1 ?c2 ?c3 ?c4 ?c5 ?_))
            case c1 =>
              have hh := heap_alloc_new ((((w5.setCell ⟨w4.heap.size, 0, none⟩ (.int .i64 13)).setCell ⟨w4.heap.size, 1, none⟩ (.int .i64 y)).setCell ⟨w4.heap.size, 2, none⟩ (.int .i64 0)).setCell ⟨w4.heap.size, 3, none⟩ (.int .i64 0)) (.cells #[.int .i64 13, .int .i64 y, .int .i64 0, .int .i64 0] 53)
              exact World.news_of_block (cs := #[.int .i64 13, .int .i64 y, .int .i64 0, .int .i64 0]) (t := 53) (fr := (0, 0)) (by simpa using hh)
            case c2 =>
              intro u hu
              simp [icell] at hu
              rcases hu with rfl | rfl | rfl <;> rfl
            case c3 => unfold maxLen; omega
            case c4 => omega
            case c5 => simp; simp at hz5; omega
            intro v' w9 hown9 hgr _
            rw [icells_snoc] at hown9
            obtain ⟨hL9, hC9⟩ := grow_step ((own_setO (own_setO (own_setO (own_setO HO5.out nb _) nb _) nb _) nb _).alloc _) hgr ((LOk.setN (LOk.setN (LOk.setN (LOk.setN HL5.out (by omega) (by omega) _) (by omega) (by omega) _) (by omega) (by omega) _) (by omega) (by omega) _).bl ((Bl.refl _).alloc _)) (Ch.alloc (Ch.setN (Ch.setN (Ch.setN (Ch.setN HC5.out (by omega) _) (by omega) _) (by omega) _) (by omega) _) _) (by omega) (by omega)
            have HO9 := Lib.hid hown9
            have HL9 := Lib.hid hL9
            have HC9 := Lib.hid hC9
            clear hown9 hL9 hC9 hgr
            go_wp2_with fail
            go_roundw
            case rel => exact ⟨g ++ [⟨13, y, 0, 0⟩], by simp, by simp; omega, Lib.hid (fun z hz => by
              rcases List.mem_append.1 hz with h | h
              · exact hg.out z h
              · rw [List.mem_singleton.1 h]; simp [InsIn, InsOk, Rg]; omega), by simpa using HO9.out, HL9.out, HC9.out⟩
            case measure => simp [intOf]; omega
        · have hkk : g.length + 1 = k := by omega
          subst hkk
          clear hk
          have hN4 := next_any w.heap.size (w.heap.size + 1) 4 wr.drew (hLq.bl (Bl.drew (Bl.refl _))) (Nat.le_succ _) (by decide) (by decide)
          have hB := World.ownsRow.lt hown
          have hne : ∀ {base size n : Nat} {e : TypeId} {v : Value} {xs : List Value}, wr.ownsRow base e size v n xs → e ≠ 70 → ∀ k, v.ownBlock = some k → ¬ k = w.heap.size + 1 := fun h he k hk e => by
            obtain ⟨_, _, _, hr, _⟩ := id hLq
            obtain ⟨cur, hcur⟩ := own_type h hk
            exact ty_ne hr hcur he e
          have hX : ∀ w5, LOk w.heap.size (w.heap.size + 1) w5 → Ch (· = w.heap.size + 1) wr.drew w5 → Hid (w5.ownsRow wo.heap.size 53 4 _ g.length (icells g) ∧ Ch (· = w.heap.size + 1) wo w5 ∧ LOk w.heap.size (w.heap.size + 1) w5) ∧ w5.cell? ⟨P, 0, none⟩ = some vs ∧ wr.heap.size ≤ w5.heap.size ∧ P < w5.heap.size := fun w5 h5 hC5w => by
            have hC5 : Ch (· = w.heap.size + 1) wr w5 := Ch.trans ((Ch.refl _ wr).drew) hC5w
            exact ⟨Lib.hid ⟨own_ch hown hC5 (hne hown (by decide)), hCq.trans hC5, h5⟩, (row4_cells (hC5.row hP2 (by omega))).1.1, hC5.size, (hC5.row hP2 (by omega)).lt⟩
          have hF9 : ∀ w9, Ch (· = w.heap.size + 1) wo w9 → FsRow w.heap.size w9 vs fs ∧ w9.rowIs P 24 4 (four vs (.int .i64 fu) (.int .i64 de) (.int .i64 fl)) := fun w9 hC9 =>
            ⟨FsRow.later O3.out hC9 (fun k cur e hk he h => by
              obtain ⟨_, _, _, hr, _⟩ := O4.out
              exact ty_ne hr hk (by rcases he with rfl | rfl <;> decide) h), hC9.row O2.out (by omega)⟩
          have HF9 := Lib.hid hF9
          clear hF9 hne hP2 hown hCq hLq
          go_wp2_with fail
          go_region_law (first
            | (go_simp; go_at_call 23; refine hN4.mono ?_; rintro e w5 ⟨y, rfl, hy0', hy1', hL5, hC5⟩; obtain ⟨H5, kP5, hz5, lP5⟩ := hX w5 hL5 hC5; clear hL5 hC5)
            | (refine step_append_lies _ (by rfl) _ _ _ (by rfl) wo.heap.size 53 i0 _ 4 32 Tryz.underlying51 hi hz0 hz1 hz2 rfl (by omega) _ g.length (icells g) (by rfl) (H5.out.1.alloc _) ⟨w5.heap.size, 0, none⟩ 1 1 (icell ⟨15, y, 0, 0⟩) (by rfl) (by rfl) (World.news_of_block (cs := #[.int .i64 15, .int .i64 y, .int .i64 0, .int .i64 0]) (t := 53) (fr := (0, 0)) (heap_alloc_new w5 _)) (by simp [icell, Value.oneCell']) (by omega) (by unfold maxLen; omega) (by omega) (by simp; omega) (w5.heap.size + 1) (by simp) ?_; intro g9 cap9 w9 hown9 hgr9 hat9 hlt9; rw [icells_snoc] at hown9; have h9 := grow_step (H5.out.1.alloc _) hgr9 (H5.out.2.2.bl ((Bl.refl _).alloc _)) (H5.out.2.1.alloc _) (by omega) (by omega); obtain ⟨⟨vals, hv1, hv2⟩, hP9⟩ := HF9.out w9 h9.2; have kP9 := (row4_cells hP9).1.1; have H9 := Lib.hid (And.intro hown9 (And.intro h9 (And.intro hv1 (And.intro hv2 hP9)))); have hz9 := hgr9.size; simp at hz9; have lP9 := H9.out.2.2.2.2.lt; clear hown9 hgr9 h9 hv1 hv2 hP9)
            | (refine step_append_lies _ (by rfl) _ _ _ (by rfl) w.heap.size 51 i1 _ 1 24 Tryz.underlying22 hj hy0 hy1 hy2 rfl (by omega) vs fs.length vals (by rfl) (H9.out.2.2.1.alloc _) ⟨w9.heap.size, 0, none⟩ 1 1 [.slice (some ⟨g9, 0, none⟩) (g.length + 1) cap9] (by rfl) (by rfl) (World.news_of_block (cs := #[.slice (some ⟨g9, 0, none⟩) (g.length + 1) cap9]) (t := 51) (fr := (0, 0)) (heap_alloc_new w9 _)) (by simp [Value.oneCell']) (by omega) (by unfold maxLen; omega) (by omega) (by simp; omega) (w9.heap.size + 1) (by simp) ?_; intro g10 cap10 w10 hown10 hgr10 hat10 hlt10; have hP10 := (Ch.trans ((Ch.refl (fun k => vs.ownBlock = some k) w9).alloc _) (Ch.of_grown hgr10)).row H9.out.2.2.2.2 (fun e => by obtain ⟨cur, hcur⟩ := own_type H9.out.2.2.1 e; exact ty_ne H9.out.2.2.2.2 hcur (by decide) rfl); have kP10 := (row4_cells hP10).1.1; have fP10 := (row4_cells hP10).2.1; have H10 := Lib.hid (And.intro hown10 hgr10); clear hown10 hgr10 hP10))
          all_goals
            go_wp2_with fail
            go_roundw
            case rel =>
              have hnew : FnOk nf fu (g ++ [⟨15, y, 0, 0⟩]) := by
                refine ⟨by simp; omega, by simp; omega, fun x hx => ?_, ⟨15, y, 0, 0⟩, by simp, Or.inr rfl⟩
                have hl : ((g ++ [(⟨15, y, 0, 0⟩ : Ins)]).length : Int) = ((g.length + 1 : Nat) : Int) := by simp
                rw [hl]
                rcases List.mem_append.1 hx with h | h
                · exact hg.out x h
                · rw [List.mem_singleton.1 h]; simp [InsIn, InsOk, Rg]; omega
              refine ⟨fs ++ [g ++ [⟨15, y, 0, 0⟩]], by simp, by simp; omega, out_next O1.out hnew H9.out.2.2.2.2 H9.out.2.2.1 H9.out.2.2.2.1 ⟨g9, cap9, by simp, ?_⟩ H10.out.1 H10.out.2 H9.out.2.1.1 (H9.out.2.1.2.row O5.out (by omega)) (O6.out.then H9.out.2.1.2 (fun i hi h => by omega)) o7⟩
              have := own_base (base' := w.heap.size) H9.out.1 (by omega)
              simpa using this
            case measure => simp [intOf]; omega
    · have hj : fs.length = nf := by omega
      subst hj
      obtain ⟨pa, pc, rfl, _⟩ := o3.code
      obtain ⟨⟨q0, q1, q2, q3⟩, _⟩ := row4_cells o2
      obtain ⟨⟨r0, r1, r2, r3⟩, h0, h1, h2, h3⟩ := row4_cells o5
      have hty : Hid (∀ k cur e, wr.heap[k]? = some (.cells cur e (0, 0)) → e = 53 ∨ e = 51 → ¬ k = w.heap.size) := by
        intro k cur e hk he
        exact ty_ne o5 hk (by rcases he with rfl | rfl <;> decide)
      have O3 := Lib.hid o3
      have O6 := Lib.hid o6
      have z0 := o5.lt
      have hPV : Hid (PV fs fu de fl) := by
        refine ⟨by omega, by omega, by omega, by omega, by omega, by omega, by omega, by omega, fun f hf => ?_⟩
        obtain ⟨e1, e2, e3, e4⟩ := o1 f hf
        exact ⟨by omega, by omega, e3, e4⟩
      clear o1 o2 o3 o4 o5 o6
      go_wp2_with fail
      refine bodyPost_ret (v := .agg #[.slice pa fs.length pc, .int .i64 fu, .int .i64 de, .int .i64 fl]) (by simp [results, Tryz.results15, go_sem, r0, r1, r2, r3]) rfl ⟨pa, pc, fu, de, fl, fs, rfl, hPV.out, ?_, ?_⟩
      · refine CodeAt.mono (FsRow.code' (base := w.heap.size) (pc := pc) (FsRow.later (S := fun k => k = w.heap.size) O3.out ?_ hty.out)) (Nat.le_of_eq (by simp))
        repeat (first | with_reducible exact Ch.refl _ _ | with_reducible apply Ch.setB)
      · exact Ch.bl (S := fun i => w.heap.size ≤ i) (by repeat (first | with_reducible exact O6.out | (with_reducible refine Ch.setN ?_ (Nat.le_refl _) _))) (fun i hi h => by omega)
end Go.Proofs.YtonndofbnhnkpaaGreat.Prg
