/- StatsOrders: the walk. -/
import Derived.Test.YtonndofbnhnkpaaOrdP
import Derived.Deep.DeepCutAuto
import Derived.Deep.CutBlock
import Derived.Laws.AppendOwnNone
import Derived.Deep.AppendLies
import Derived.Deep.RegionLaw
namespace Go.Proofs.Ytonndofbnhnkpaa.OrdW
open Go.RowKit Num KeyM KeyW StatM StatW StatO KeyT StatE StatP Frm KeyL Plc StatN OrdP
/-- append to a row of the call's own, as one step of a region that draws; the source may be empty. -/
theorem step_append_own {P : Program} {w : World} {ops : Array Oper} {o : Oper} {a : Act} {K : Act → World → Prop} {Q : Exit → Act → World → Prop} {E : Prop} (hgd : o.guard = none) (s x : Operand) (t : TypeId)
    (ho : o.op = .call { callee := .builtin .append, args := #[s, x], argTypes := #[t, t] })
    (base : Nat) (e : TypeId) (i : TypeInfo) (z : Value) (size bytes : Nat) (ht : P.underlying t = some (.slice e)) (hi : P.info? e = some i) (hz : i.zero = some z)
    (hsize : i.size = size) (hby : i.bytes = bytes) (hzs : z.cells.size = size) (hsz : 0 < size)
    (v : Value) (n : Nat) (xs : List Value) (hs : a.eval s = v) (hown : w.ownsRow base e size v n xs)
    (ad : Addr) (m c : Nat) (news : List Value) (hx : a.eval x = .slice (some ad) m c) (hl : news.length = m * size) (hnews : ∀ j u, news[j]? = some u → w.cell? (ad.add j) = some u) (h1 : ∀ u ∈ news, u.oneCell' = true)
    (h63 : n + m ≤ maxLen) (hbytes : (n + m) * bytes ≤ 140737488355328) (hbase : base ≤ w.heap.size)
    (h : ∀ v' w', w'.ownsRow base e size v' (n + m) (xs ++ news) → w.grownBy w' v.ownBlock → K (a.put o.dst v') w') :
    if Region.wanted o (yielded ops a.tmps) = true then Oper.wp P o a w K Q else E := by
  have hw : Region.wanted o (yielded ops a.tmps) = true := by simp [Region.wanted, hgd]
  rw [if_pos hw]
  exact wp_append_own w s x t ho base e i z size bytes ht hi hz hsize hby hzs hsz v n xs hs hown ad m c news hx hl hnews h1 h63 hbytes hbase fun v' w' h2 h3 _ => h v' w' h2 h3
theorem src_at {w : World} {base g n cap : Nat} {rs : List Int} (h : w.ownsRow base 3 1 (.slice (some ⟨g, 0, none⟩) n cap) n (rs.map (Value.int .i64))) (k : Nat) :
    ∀ j u, ((rs.drop k).map (Value.int .i64))[j]? = some u → w.cell? ((⟨g, k, none⟩ : Addr).add j) = some u := by
  intro j u hu
  have h2 := h.cells (g := g) rfl (k + j) u (by rw [List.getElem?_map] at hu ⊢; rw [List.getElem?_drop] at hu; exact hu)
  have e : (⟨g, 0, none⟩ : Addr).add (k + j) = (⟨g, k, none⟩ : Addr).add j := by unfold Addr.add; split <;> simp_all
  rw [← e]; exact h2
theorem src_to {w : World} {base g n cap : Nat} {rs : List Int} (h : w.ownsRow base 3 1 (.slice (some ⟨g, 0, none⟩) n cap) n (rs.map (Value.int .i64))) (k : Nat) :
    ∀ j u, ((rs.take k).map (Value.int .i64))[j]? = some u → w.cell? ((⟨g, 0, none⟩ : Addr).add j) = some u := by
  intro j u hu
  refine h.cells (g := g) rfl j u ?_
  rw [List.getElem?_map] at hu ⊢
  by_cases hj : j < k
  · rw [List.getElem?_take_of_lt hj] at hu; exact hu
  · rw [List.getElem?_eq_none (by rw [List.length_take]; omega)] at hu; simp at hu
theorem ecs_set (m : List Ev) (i : Nat) (r : Ev) (h : i < m.length) :
    ecs (m.set i r) = ((((ecs m).set (i * 4) (.int .i64 r.kind)).set (i * 4 + 1) (.int .i64 r.key)).set (i * 4 + 2) (.int .i64 r.how)).set (i * 4 + 3) (.int .i64 r.val) := by
  induction m generalizing i with
  | nil => simp at h
  | cons s m ih =>
    cases i with
    | zero => rfl
    | succ i =>
      have := ih i (by simpa using h)
      unfold ecs at *
      rw [List.set_cons_succ, List.flatMap_cons, List.flatMap_cons, this]
      have e : ∀ (k : Nat) (xs : List Value) (v : Value), (ec s ++ xs).set ((i + 1) * 4 + k) v = ec s ++ xs.set (i * 4 + k) v := by
        intro k xs v
        rw [List.set_append_right _ _ (by simp [ec]; omega)]
        congr 2
        simp [ec]; omega
      have e0 := e 0
      simp only [Nat.add_zero] at e0
      rw [e0, e 1, e 2, e 3]
theorem rd_later {w w' : World} {A : Option Addr} {es : List Ev} (h : RdEv w A es) (hB : Bl w w') : RdEv w' A es := by
  intro h0
  obtain ⟨b, off, e, hc⟩ := h h0
  refine ⟨b, off, e, fun i x hx => ?_⟩
  obtain ⟨c1, c2, c3, c4⟩ := hc i x hx
  exact ⟨st_cell hB c1, st_cell hB c2, st_cell hB c3, st_cell hB c4⟩
theorem fld_va (a b c d e f h : Int) (w : World) : (Instr.field 25 (.agg #[.int .i64 a, .int .i64 b, .int .i64 c, .int .i64 d, .int .i64 e, .int .i64 f, .int .i64 h]) 2).run Try.prog w = .ok (.int .i64 c) w := by kernel_rfl
def lenOf : Value → Nat
  | .slice _ n _ => n
  | _ => 0
theorem int1 (m : List Int) : ∀ u ∈ m.map (Value.int .i64), u.oneCell' = true := by
  intro u hu
  obtain ⟨x, _, rfl⟩ := List.mem_map.1 hu
  rfl
/-- Rows of unlike things are unlike rows. -/
theorem apart {w : World} {B1 B2 n1 n2 s1 s2 : Nat} {v1 v2 : Value} {x1 x2 : List Value} {e1 e2 : TypeId} (h1 : w.ownsRow B1 e1 s1 v1 n1 x1) (h2 : w.ownsRow B2 e2 s2 v2 n2 x2) (he : e1 ≠ e2) : v1.ownBlock = none ∨ v1.ownBlock ≠ v2.ownBlock := by
  rcases h1.2 with ⟨rfl, _⟩ | ⟨g, cap, cur, rfl, _, hg, _⟩
  · exact Or.inl rfl
  · refine Or.inr fun e => ?_
    rcases h2.2 with ⟨rfl, _⟩ | ⟨g2, cap2, cur2, rfl, _, hg2, _⟩
    · cases e
    · have e : g = g2 := by simpa [Value.ownBlock] using e
      subst e
      rw [hg] at hg2
      cases hg2
      exact he rfl
set_option maxRecDepth 100000 in
set_option maxHeartbeats 16000000 in
theorem walk (a : Option Addr) (la ca : Nat) (zs : List Int) (p : Int) (w : World) (ha : IsRow .i64 w a la ca zs) (hsz : la * 8 ≤ 140737488351232) (hp : (Lit.int .i64 p).wf = true) :
    Calls Try.prog 5 #[.slice a la ca, .int .i64 p] w fun e w' => e = .returned (.bool true) ∧ Bl w w' := by
  obtain ⟨i0, hi, hz0, hz1, hz2⟩ := info_parts info44
  obtain ⟨j0, hj0, hy0, hy1, hy2⟩ := info_parts info3
  go_enter Try.func5, Try.ntmps5
  go_upto_block 0 with fail
  go_cut [5] (fun l wc => ∃ (ls : List Int) (k : Int), ls.length ≤ 10 ∧ Hid (L1 ls.length ls k) ∧ wc.ownsRow w.heap.size 3 1 l ls.length (ls.map (Value.int .i64)) ∧ Bl w wc)
  case first =>
    go_wp2_with fail
    go_loopw [5, 6, 7] (fun l k i wr => ∃ (ls : List Int) (k0 : Int), ls.length ≤ 10 ∧ ls.length ≤ la ∧ k = .int .i64 k0 ∧ i = .int .i64 (ls.length : Int) ∧ Hid (L1 ls.length ls k0) ∧ wr.ownsRow w.heap.size 3 1 l ls.length (ls.map (Value.int .i64)) ∧ Bl w wr) (fun _ _ i _ => 11 - (intOf i).toNat)
    case atStart => exact ⟨[], 1125899906842624, by simp, by simp, rfl, rfl, l1_nil, World.ownsRow_nil _ _ _ _, Bl.refl _⟩
    case round =>
      obtain ⟨ls, k0, hl10, hlla, rfl, rfl, hL, hown, hB⟩ := hrel
      obtain ⟨j, hj⟩ : ∃ j, ls.length = j := ⟨_, rfl⟩
      rw [hj] at hL hown hl10 hlla ⊢
      have HJ := Lib.hid hj
      clear hj
      by_cases hlt : j < la ∧ j < 10
      · obtain ⟨hlt, hlt5⟩ := hlt
        have hk := hL.out.key
        cases hcan : can k0 (1 + (j : Int))
        · have hC := fun w => Ref6.child_no k0 (1 + (j : Int)) w hcan
          clear hk
          go_wp2_with (first
            | (go_at_call 27; with_reducible refine (hC _).mono ?_; rintro x w1 ⟨rfl, rfl⟩))
          go_meet
          exact ⟨ls, k0, by rw [HJ.out]; omega, by rw [HJ.out]; exact hL, by rw [HJ.out]; exact hown, hB⟩
        · have hd : dep k0 < 5 := by
            unfold can at hcan
            have h1 := dep_hi k0
            simp at hcan
            omega
          obtain ⟨bb, off, rfl, r1, r2, r3, r4⟩ := row_at ha (by omega)
          have hcj := r4 j (by omega)
          have hwf : (Lit.int .i64 (zs.getD j 0)).wf = true := by
            rcases ha with ⟨_, h, _⟩ | ⟨x, _, _, _, h3, _, h5⟩
            · omega
            · refine h5 _ ?_
              rw [List.getD_eq_getElem?_getD, List.getElem?_eq_getElem (by omega)]
              exact List.getElem_mem _
          generalize zs.getD j 0 = z at *
          have hP := fun w => place_any z 2 w hwf (by decide) (by decide)
          have hC := fun w => Ref6.child_yes k0 (1 + (j : Int)) w hk hd (by omega) (by omega)
          have HL := Lib.hid (l1_step hL.out hd (by omega))
          generalize child k0 (1 + (j : Int)) = c at *
          clear hk hcan hd r4 ha
          go_wp2_with (first
            | (go_at_call 27; with_reducible refine (hC _).mono ?_; rintro x w1 ⟨rfl, rfl⟩)
            | (at_builtin; refine wpList_append_own _ rfl _ _ 39 rfl w.heap.size 3 j0 _ 1 8 Try.underlying39 hj0 hy0 hy1 hy2 rfl (by decide) _ _ _ rfl (hown.alloc _) ⟨wr.heap.size, 0, none⟩ 1 1 [.int .i64 c] rfl rfl ?c1 ?c2 ?c3 ?c4 ?c5 ?_))
          case c1 => exact World.news_of_block (cs := #[.int .i64 c]) (t := 3) (fr := (0, 0)) (heap_alloc_new wr _)
          case c2 => intro u hu; simp at hu; subst hu; rfl
          case c3 => unfold maxLen; omega
          case c4 => omega
          case c5 => have := hB.size; simp; omega
          intro v' w9 hown9 hgr _
          have hsz9 := hB.size
          have hB9 : Bl w w9 := Below.grown (show Below w.heap.size w _ from hB.alloc _) hgr (by simp; omega) (fun k hk => (World.ownsRow.lt hown k hk).1)
          have hc9 := bl_cell hB9 hcj
          have hx9 : ls.map (Value.int .i64) ++ [.int .i64 c] = (ls ++ [c]).map (Value.int .i64) := by simp
          rw [hx9] at hown9
          clear hgr hx9 hown hB hcj hC
          by_cases hz2 : z % 2 = 0
          · go_wp2_with (first
              | (go_at_call 26; with_reducible refine (hP _).mono ?_; rintro x w1 ⟨rfl, rfl⟩))
            go_roundw
            case rel => exact ⟨ls ++ [c], c, by rw [List.length_append, HJ.out]; simp; omega, by rw [List.length_append, HJ.out]; simp; omega, rfl, by rw [List.length_append, HJ.out]; go_num, by rw [List.length_append, HJ.out]; exact HL.out.2, by rw [List.length_append, HJ.out]; exact hown9, hB9⟩
            case measure => simp [intOf]; omega
          · go_wp2_with (first
              | (go_at_call 26; with_reducible refine (hP _).mono ?_; rintro x w1 ⟨rfl, rfl⟩))
            go_roundw
            case rel => exact ⟨ls ++ [c], k0, by rw [List.length_append, HJ.out]; simp; omega, by rw [List.length_append, HJ.out]; simp; omega, rfl, by rw [List.length_append, HJ.out]; go_num, by rw [List.length_append, HJ.out]; exact HL.out.1, by rw [List.length_append, HJ.out]; exact hown9, hB9⟩
            case measure => simp [intOf]; omega
      · go_wp2_with fail
        all_goals (
          go_meet
          exact ⟨ls, k0, by rw [HJ.out]; omega, by rw [HJ.out]; exact hL, by rw [HJ.out]; exact hown, hB⟩)
  case rest =>
    obtain ⟨ls, k, hl10, hL, hown, hB⟩ := hcut
    have hS := Lib.hid (l2_start hL.out)
    go_wp2_with (at_builtin; refine wpList_append_own _ rfl _ _ 39 rfl w.heap.size 3 j0 _ 1 8 Try.underlying39 hj0 hy0 hy1 hy2 rfl (by decide) _ _ _ rfl (hown.alloc _) ⟨wc.heap.size, 0, none⟩ 1 1 [.int .i64 1125899906842624] rfl rfl ?c1 ?c2 ?c3 ?c4 ?c5 ?_)
    case c1 => exact World.news_of_block (cs := #[.int .i64 1125899906842624]) (t := 3) (fr := (0, 0)) (heap_alloc_new wc _)
    case c2 => intro u hu; simp at hu; subst hu; rfl
    case c3 => unfold maxLen; omega
    case c4 => omega
    case c5 => have := hB.size; simp; omega
    intro v9 w9 hown9 hgr _
    have hsz9 := hB.size
    have hB9 : Bl w w9 := Below.grown (show Below w.heap.size w _ from hB.alloc _) hgr (by simp; omega) (fun k hk => (World.ownsRow.lt hown k hk).1)
    have hx9 : ls.map (Value.int .i64) ++ [.int .i64 1125899906842624] = (ls ++ [1125899906842624]).map (Value.int .i64) := by simp
    rw [hx9] at hown9
    clear hgr hx9 hown hB hL
    obtain ⟨rs0, hrs0⟩ : ∃ rs0, ls ++ [1125899906842624] = rs0 := ⟨_, rfl⟩
    have hr0 : ls.length + 1 = rs0.length := by rw [← hrs0]; simp
    rw [hrs0] at hS hown9
    have hrl : rs0.length ≤ 11 := by omega
    rw [hr0] at hown9
    clear hr0 hrs0 hl10
    go_wp2_with fail
    go_loopw [5, 10] (fun l m wr => ∃ ms rs : List Int, ms.length + rs.length ≤ 11 ∧ Hid (L2 ms rs) ∧ wr.ownsRow w.heap.size 3 1 l rs.length (rs.map (Value.int .i64)) ∧ wr.ownsRow w.heap.size 44 4 m ms.length (ecs (ms.map fe)) ∧ Bl w wr) (fun l _ _ => lenOf l)
    case atStart => exact ⟨[], rs0, by simpa using hrl, hS, hown9, World.ownsRow_nil _ _ _ _, hB9⟩
    case round =>
      obtain ⟨ms, rs, hlen, hL, hl, hm, hB⟩ := hrel
      obtain ⟨A, cap, rfl, hA⟩ := own_shape hl
      obtain ⟨n, hn⟩ : ∃ n, rs.length = n := ⟨_, rfl⟩
      rw [hn] at hl hA hlen ⊢
      have HN := Lib.hid hn
      clear hn
      by_cases h0 : 0 < n
      · obtain ⟨g, rfl⟩ := hA h0
        go_wp2_with fail
        go_loopw [11, 12] (fun f i wq => ∃ (fn i' : Nat), fn < i' ∧ i' ≤ n ∧ f = .int .i64 fn ∧ i = .int .i64 i' ∧ Hid (Fst rs fn i') ∧ ∃ d, wq = wr.drewN d) (fun _ i _ => n - (intOf i).toNat)
        case atStart => exact ⟨0, 1, by omega, by omega, rfl, rfl, fst_one (by rw [HN.out]; exact h0), 0, rfl⟩
        case round =>
          obtain ⟨fn, i', hfi, hin, rfl, rfl, hF, d, rfl⟩ := hrel
          obtain ⟨y, hy⟩ : ∃ y, rs[fn]? = some y := ⟨_, List.getElem?_eq_getElem (by rw [HN.out]; omega)⟩
          have ky : wr.cell? ⟨g, fn, none⟩ = some (.int .i64 y) := by
            have h := hl.cellAt fn (by omega)
            rw [List.getElem?_map, hy] at h
            exact h
          have hfn : (fn : Int) < (n : Int) := by omega
          have hfn0 : (0 : Int) ≤ (fn : Int) := by omega
          by_cases hlt : i' < n
          · obtain ⟨x, hx⟩ : ∃ x, rs[i']? = some x := ⟨_, List.getElem?_eq_getElem (by rw [HN.out]; omega)⟩
            have kx : wr.cell? ⟨g, i', none⟩ = some (.int .i64 x) := by
              have h := hl.cellAt i' (by omega)
              rw [List.getElem?_map, hx] at h
              exact h
            have hR : KeyM.ahead x y = decide (rank x < rank y) := ahead_of (hL.out.all x (List.mem_append_right _ (List.mem_of_getElem? hx))) (hL.out.all y (List.mem_append_right _ (List.mem_of_getElem? hy)))
            have hC := fun w => Ref6.ahead_any x y w
            by_cases hr : rank x < rank y
            · have HF := Lib.hid (fst_new hF.out hy hx hr)
              rw [hR, decide_eq_true hr] at hC
              clear hR hr hy hx
              go_wp2_with fail
              go_quiet ((go_at_call 28; first | exact quiet_add_same ((hC _).mono fun _ _ ⟨he, hw⟩ => ⟨he, hw.symm⟩) | exact Calls.quiet_of_same ((hC _).mono fun _ _ ⟨he, hw⟩ => ⟨he, hw.symm⟩)))
              go_wp2_with fail
              go_roundw
              case rel => exact ⟨i', i' + 1, by omega, by omega, rfl, by go_num, HF, _, rfl⟩
              case measure => simp [intOf]; omega
            · have HF := Lib.hid (fst_old hF.out hy hx hr)
              rw [hR, decide_eq_false hr] at hC
              clear hR hr hy hx
              go_wp2_with fail
              go_quiet ((go_at_call 28; first | exact quiet_add_same ((hC _).mono fun _ _ ⟨he, hw⟩ => ⟨he, hw.symm⟩) | exact Calls.quiet_of_same ((hC _).mono fun _ _ ⟨he, hw⟩ => ⟨he, hw.symm⟩)))
              go_wp2_with fail
              go_roundw
              case rel => exact ⟨fn, i' + 1, by omega, by omega, rfl, by go_num, HF, _, rfl⟩
              case measure => simp [intOf]; omega
          · obtain rfl : i' = n := by omega
            have hB' : Bl w (wr.drewN d) := Bl.drewN hB _
            have hl' : (wr.drewN d).ownsRow w.heap.size 3 1 (.slice (some ⟨g, 0, none⟩) i' cap) i' (rs.map (Value.int .i64)) := hl
            have hm' : (wr.drewN d).ownsRow w.heap.size 44 4 _ ms.length (ecs (ms.map fe)) := hm
            have HS := Lib.hid (l2_step hL.out (by rw [HN.out]; exact hF.out) hy)
            clear hl hm hB hF hA hL
            have ky' : (wr.drewN d).cell? ⟨g, fn, none⟩ = some (.int .i64 y) := ky
            clear ky
            generalize wr.drewN d = w2 at *
            go_wp2_with (at_builtin; refine wpList_append_lies _ rfl _ _ 22 rfl w.heap.size 44 i0 _ 4 32 Try.underlying22 hi hz0 hz1 hz2 rfl (by decide) _ _ _ rfl (hm'.alloc _) ⟨w2.heap.size, 0, none⟩ 1 1 (ec (fe y)) rfl rfl ?c1 ?c2 (by decide) ?c3 ?c4 ?c5 (w2.heap.size + 1) (by simp) ?_)
            case c1 => exact World.news_of_block (cs := #[.int .i64 2, .int .i64 y, .int .i64 1, .int .i64 0]) (t := 44) (fr := (0, 0)) (heap_alloc_new w2 _)
            case c2 =>
              intro u hu
              simp [ec] at hu
              rcases hu with rfl | rfl | rfl | rfl <;> rfl
            case c3 => unfold maxLen; omega
            case c4 => omega
            case c5 => have := hB'.size; simp; omega
            intro g9 cap9 w9 hown9 hgr _ _
            have hl9 := World.ownsRow.kept (hl'.alloc (.cells #[.int .i64 2, .int .i64 y, .int .i64 1, .int .i64 0] 44)) hgr (apart hl' hm' (by decide))
            have hB9 : Bl w w9 := Below.grown (show Below w.heap.size w _ from hB'.alloc _) hgr (by have := hB'.size; simp; omega) (fun k hk => (World.ownsRow.lt hm' k hk).1)
            have hs9 := hB9.size
            have hx9 : ecs (ms.map fe) ++ ec (fe y) = ecs ((ms ++ [y]).map fe) := by unfold ecs; rw [List.map_append, List.flatMap_append]; simp
            rw [hx9] at hown9
            have hcap : i' ≤ cap := by
              rcases hl9.2 with ⟨h, _⟩ | ⟨g, cap', cur, h, _, _, h2, _⟩
              · cases h
              · cases h; exact h2
            clear hgr hx9 hl' hm' hB' ky'
            go_wp2_with fail
            have b1 : (fn : Int) ≤ (cap : Int) := by omega
            have b2 : (fn : Int) + 1 ≤ (i' : Int) := by omega
            have b3 : (0 : Int) ≤ (fn : Int) + 1 := by omega
            have b4 : ((fn : Int) + 1).toNat = fn + 1 := by omega
            have b5 : IntKind.i64.wrap ((fn : Int) + 1) = (fn : Int) + 1 := by rw [IntKind.wrap_i64]; omega
            by_cases hce : cap = fn + 1
            · subst hce
              obtain rfl : i' = fn + 1 := by omega
              have hdr : rs.drop (fn + 1) = [] := List.drop_eq_nil_of_le (by rw [HN.out]; omega)
              have HD := Lib.hid hdr
              have b6 : (fn : Int) ≤ (fn : Int) + 1 := by omega
              clear hdr
              go_region_law (first
                | (have z1 := hs9; refine step_append_own (by rfl) _ _ 39 (by rfl) w.heap.size 3 j0 _ 1 8 Try.underlying39 hj0 hy0 hy1 hy2 rfl (by decide) _ 0 [] (by rfl) (World.ownsRow_nil _ _ _ _) ⟨g, 0, none⟩ fn _ ((rs.take fn).map (Value.int .i64)) (by rfl) (by rw [List.length_map, List.length_take, HN.out]; omega) (src_to hl9 fn) (int1 _) (by unfold maxLen; omega) (by omega) z1 ?_; intro va wa howna hgra)
                | (have hlA := World.ownsRow.kept (show w9.drew.ownsRow _ _ _ _ _ _ from hl9) hgra (Or.inr (by simp [Value.ownBlock])); have hsA : w.heap.size ≤ wa.heap.size := Nat.le_trans hs9 hgra.size; refine step_append_own (by rfl) _ _ 39 (by rfl) w.heap.size 3 j0 _ 1 8 Try.underlying39 hj0 hy0 hy1 hy2 rfl (by decide) va (0 + fn) _ (by rfl) howna ⟨g, 0, none⟩ 0 _ ((rs.drop (fn + 1)).map (Value.int .i64)) (by rfl) (by rw [List.length_map, List.length_drop, HN.out]; omega) (fun j u hu => by rw [HD.out] at hu; simp at hu) (int1 _) (by unfold maxLen; omega) (by omega) hsA ?_; intro vb wb hownb hgrb))
              have hmA := World.ownsRow.kept (show w9.drew.ownsRow _ _ _ _ _ _ from hown9) hgra (Or.inr (by simp [Value.ownBlock]))
              have hmB := World.ownsRow.kept hmA hgrb (apart hmA howna (by decide))
              have hBa : Bl w wa := Below.grown (show Below w.heap.size w w9.drew from Bl.drewN hB9 1) hgra hs9 (fun k hk => by cases hk)
              have hBb : Bl w wb := Below.grown (show Below w.heap.size w wa from hBa) hgrb hBa.size (fun k hk => (World.ownsRow.lt howna k hk).1)
              have hlr : (rs.take fn ++ rs.drop (fn + 1)).length = 0 + fn + 0 := by rw [List.length_append, List.length_take, List.length_drop, HN.out]; omega
              have hxr : ([] : List Value) ++ (rs.take fn).map (Value.int .i64) ++ (rs.drop (fn + 1)).map (Value.int .i64) = (rs.take fn ++ rs.drop (fn + 1)).map (Value.int .i64) := by rw [List.map_append]; rfl
              rw [← hlr, hxr] at hownb
              have hml : ms.length + 1 = (ms ++ [y]).length := by simp
              have hmC : wb.ownsRow w.heap.size 44 4 (.slice (some ⟨g9, 0, none⟩) (ms.length + 1) cap9) (ms ++ [y]).length (ecs ((ms ++ [y]).map fe)) := by rw [List.length_append]; exact hmB
              clear hmB
              obtain ⟨A2, c2, rfl, _⟩ := own_shape hownb
              go_wp2_with fail
              go_roundw
              case rel =>
                repeat apply Exists.intro
                exact ⟨⟨ms ++ [y], _, by rw [← hml, hlr]; omega, HS, hownb, hmC, hBb⟩, rfl⟩
              case measure => show (rs.take fn ++ rs.drop (fn + 1)).length < _; rw [hlr]; show _ < lenOf (.slice _ _ _); simp only [lenOf]; omega
            · go_region_law (first
                | (have z1 := hs9; refine step_append_own (by rfl) _ _ 39 (by rfl) w.heap.size 3 j0 _ 1 8 Try.underlying39 hj0 hy0 hy1 hy2 rfl (by decide) _ 0 [] (by rfl) (World.ownsRow_nil _ _ _ _) ⟨g, 0, none⟩ fn _ ((rs.take fn).map (Value.int .i64)) (by rfl) (by rw [List.length_map, List.length_take, HN.out]; omega) (src_to hl9 fn) (int1 _) (by unfold maxLen; omega) (by omega) z1 ?_; intro va wa howna hgra)
                | (have hlA := World.ownsRow.kept (show w9.drew.ownsRow _ _ _ _ _ _ from hl9) hgra (Or.inr (by simp [Value.ownBlock])); have hsA : w.heap.size ≤ wa.heap.size := Nat.le_trans hs9 hgra.size; refine step_append_own (by rfl) _ _ 39 (by rfl) w.heap.size 3 j0 _ 1 8 Try.underlying39 hj0 hy0 hy1 hy2 rfl (by decide) va (0 + fn) _ (by rfl) howna ⟨g, fn + 1, none⟩ (i' - (fn + 1)) _ ((rs.drop (fn + 1)).map (Value.int .i64)) (by rfl) (by rw [List.length_map, List.length_drop, HN.out]; omega) (src_at hlA (fn + 1)) (int1 _) (by unfold maxLen; omega) (by omega) hsA ?_; intro vb wb hownb hgrb))
              have hmA := World.ownsRow.kept (show w9.drew.ownsRow _ _ _ _ _ _ from hown9) hgra (Or.inr (by simp [Value.ownBlock]))
              have hmB := World.ownsRow.kept hmA hgrb (apart hmA howna (by decide))
              have hBa : Bl w wa := Below.grown (show Below w.heap.size w w9.drew from Bl.drewN hB9 1) hgra hs9 (fun k hk => by cases hk)
              have hBb : Bl w wb := Below.grown (show Below w.heap.size w wa from hBa) hgrb hBa.size (fun k hk => (World.ownsRow.lt howna k hk).1)
              have hlr : (rs.take fn ++ rs.drop (fn + 1)).length = 0 + fn + (i' - (fn + 1)) := by rw [List.length_append, List.length_take, List.length_drop, HN.out]; omega
              have hxr : ([] : List Value) ++ (rs.take fn).map (Value.int .i64) ++ (rs.drop (fn + 1)).map (Value.int .i64) = (rs.take fn ++ rs.drop (fn + 1)).map (Value.int .i64) := by rw [List.map_append]; rfl
              rw [← hlr, hxr] at hownb
              have hml : ms.length + 1 = (ms ++ [y]).length := by simp
              have hmC : wb.ownsRow w.heap.size 44 4 (.slice (some ⟨g9, 0, none⟩) (ms.length + 1) cap9) (ms ++ [y]).length (ecs ((ms ++ [y]).map fe)) := by rw [List.length_append]; exact hmB
              clear hmB
              obtain ⟨A2, c2, rfl, _⟩ := own_shape hownb
              go_wp2_with fail
              go_roundw
              case rel =>
                repeat apply Exists.intro
                exact ⟨⟨ms ++ [y], _, by rw [← hml, hlr]; omega, HS, hownb, hmC, hBb⟩, rfl⟩
              case measure => show (rs.take fn ++ rs.drop (fn + 1)).length < _; rw [hlr]; show _ < lenOf (.slice _ _ _); simp only [lenOf]; omega
      · obtain rfl : n = 0 := by omega
        have hrs : rs = [] := List.eq_nil_of_length_eq_zero HN.out
        subst hrs
        have hE := l2_end hL.out
        have hC := Lib.hid (fun m => (cnt_fe m).2)
        have hN := ends_fe ms
        obtain ⟨M, cm, rfl, hrd, hg⟩ := rd_own (m := ms.map fe) (by simp) hm
        have c1 := StatR.order_any M cm (ms.map fe) wr hrd (by simp; omega)
        have c2 := fun w' (h : Bl wr w') => StatE.ends_loop M cm (ms.map fe) w' (rd_later hrd h) (by simp; omega)
        rw [hE] at c1
        rw [hN] at c2
        simp only [List.length_map] at c1 c2
        have HL := Lib.hid hL.out
        have HM := Lib.hid hm
        have hA := StatA.awake_any
        clear hL hl hE hN hm hrd
        have hms : ms.length ≤ 11 := by omega
        by_cases hl2 : ms.length < 2
        · go_wp2_with (first
            | (go_at_call 21; with_reducible refine c1.mono ?_; rintro x w1 ⟨rfl, hb1⟩)
            | (go_at_call 24; with_reducible refine (c2 _ hb1).mono ?_; rintro x w3 ⟨rr, rfl, hr, hb3⟩; obtain ⟨R, cr, rfl, hR⟩ := StatE.own_shape5 hr)
            | (go_at_call 18; with_reducible refine (hA _).mono ?_; rintro x w4 ⟨rfl, hb4⟩))
          go_ret
          exact ⟨rfl, by repeat (first | exact Bl.refl _ | assumption | apply Bl.drewN | apply Bl.alloc | refine Bl.trans ?_ (by assumption))⟩
        · have hP := fun w => place_any p ((ms.length : Int) - 1) w hp (by omega) (by omega)
          have q0 := Int.emod_nonneg p (b := (ms.length : Int) - 1) (by omega)
          have q1 := Int.emod_lt_of_pos p (b := (ms.length : Int) - 1) (by omega)
          obtain ⟨q, hq⟩ : ∃ q : Nat, p % ((ms.length : Int) - 1) = q := ⟨(p % ((ms.length : Int) - 1)).toNat, by omega⟩
          rw [hq] at hP q0 q1
          clear hq
          obtain ⟨g, rfl, hg1, hg2⟩ := hg (by omega)
          obtain ⟨x, hx⟩ : ∃ x, ms[q]? = some x := ⟨_, List.getElem?_eq_getElem (by omega)⟩
          obtain ⟨y, hy⟩ : ∃ y, ms[q + 1]? = some y := ⟨_, List.getElem?_eq_getElem (by omega)⟩
          have ex : (ms.map fe)[q]? = some (fe x) := by rw [List.getElem?_map, hx]; rfl
          have ey : (ms.map fe)[q + 1]? = some (fe y) := by rw [List.getElem?_map, hy]; rfl
          have HT := Lib.hid (turned_no HL.out hx hy)
          have t1 := ecs_set (ms.map fe) q (fe y) (by simp; omega)
          have t2 := ecs_set ((ms.map fe).set q (fe y)) (q + 1) (fe x) (by simp; omega)
          have t3 : ((ms.map fe).set q (fe y)).set (q + 1) (fe x) = ((ms.set q y).set (q + 1) x).map fe := by rw [List.map_set, List.map_set]
          rw [t3, t1] at t2
          have HS2 := Lib.hid t2
          clear hx hy t1 t2 t3
          have b1 : (q : Int) < (ms.length : Int) := by omega
          have b2 : (q : Int) + 1 < (ms.length : Int) := by omega
          have b3 : (0 : Int) ≤ (q : Int) + 1 := by omega
          have b4 : ((q : Int) + 1).toNat = q + 1 := by omega
          have b5 : IntKind.i64.wrap ((q : Int) + 1) = (q : Int) + 1 := by rw [IntKind.wrap_i64]; omega
          go_wp2_with (first
            | (go_at_call 21; with_reducible refine c1.mono ?_; rintro x w1 ⟨rfl, hb1⟩)
            | (go_at_call 24; with_reducible refine (c2 _ hb1).mono ?_; rintro x w3 ⟨rr, rfl, hr, hb3⟩; obtain ⟨R, cr, rfl, hR⟩ := StatE.own_shape5 hr)
            | (go_at_call 26; with_reducible refine (hP _).mono ?_; rintro x w4 ⟨rfl, rfl⟩))
          have hmm := own_later HM.out (hb1.trans hb3)
          have hB3 : Bl w w3 := hB.trans (hb1.trans hb3)
          have EX := Lib.hid ex
          have EY := Lib.hid ey
          obtain ⟨k1, k2, k3, k4⟩ := ev_cells (by simp) hmm ex
          obtain ⟨l1, l2, l3, l4⟩ := ev_cells (by simp) hmm ey
          have fz := hmm.frozenAt
          simp only [fe] at k1 k2 k3 k4 l1 l2 l3 l4
          clear ex ey hR hr hb3 hb1 c2
          have hs2 := HS2.out
          simp only [fe] at hs2
          have h5 := World.ownsRow.drew (World.ownsRow.stored (World.ownsRow.stored (World.ownsRow.stored (World.ownsRow.stored (World.ownsRow.stored (World.ownsRow.stored (World.ownsRow.stored (World.ownsRow.stored hmm (q * 4) (.int .i64 2)).1 (q * 4 + 1) (.int .i64 y)).1 (q * 4 + 2) (.int .i64 1)).1 (q * 4 + 3) (.int .i64 0)).1 ((q + 1) * 4) (.int .i64 2)).1 ((q + 1) * 4 + 1) (.int .i64 x)).1 ((q + 1) * 4 + 2) (.int .i64 1)).1 ((q + 1) * 4 + 3) (.int .i64 0)).1
          rw [← hs2] at h5
          clear hs2
          have hB5 : Below w.heap.size w (World.drew (World.setCell (World.setCell (World.setCell (World.setCell (World.setCell (World.setCell (World.setCell (World.setCell w3 ⟨g, q * 4, none⟩ (.int .i64 2)) ⟨g, q * 4 + 1, none⟩ (.int .i64 y)) ⟨g, q * 4 + 2, none⟩ (.int .i64 1)) ⟨g, q * 4 + 3, none⟩ (.int .i64 0)) ⟨g, (q + 1) * 4, none⟩ (.int .i64 2)) ⟨g, (q + 1) * 4 + 1, none⟩ (.int .i64 x)) ⟨g, (q + 1) * 4 + 2, none⟩ (.int .i64 1)) ⟨g, (q + 1) * 4 + 3, none⟩ (.int .i64 0))) := by
            have hBq : Below w.heap.size w w3 := hB3
            repeat (first | with_reducible exact hBq | with_reducible refine Below.setCell ?_ hg1 _ | with_reducible apply Below.drew)
          obtain ⟨M2, cm2, e2, hrd5, _⟩ := rd_own (m := ((ms.set q y).set (q + 1) x).map fe) (by simp) h5
          cases e2
          have c5 := StatR.order_any _ cm _ _ hrd5 (by simp; omega)
          have c6 := fun w' h => StatO.of_any (some ⟨g, 0, none⟩) cm (((ms.set q y).set (q + 1) x).map fe) w' (rd_later hrd5 h) (by simp; omega)
          have hv := hC.out ((ms.set q y).set (q + 1) x)
          rw [HT.out] at c5
          simp only [List.length_map, List.length_set] at c5 c6 hv
          obtain ⟨⟨s1, s2, s3, s4, s5, s6, s7⟩, hst⟩ : ∃ st, ofM (((ms.set q y).set (q + 1) x).map fe) = st := ⟨_, rfl⟩
          rw [hst] at hv c6
          simp only at hv
          subst hv
          simp only [stV] at c6
          clear hst h5 hrd5
          go_region
          go_wp2_with fail
          clear k1 k2 k3 k4 l1 l2 l3 l4 fz hmm hB3 c1
          generalize World.drew (World.setCell (World.setCell (World.setCell (World.setCell (World.setCell (World.setCell (World.setCell (World.setCell w3 ⟨g, q * 4, none⟩ (.int .i64 2)) ⟨g, q * 4 + 1, none⟩ (.int .i64 y)) ⟨g, q * 4 + 2, none⟩ (.int .i64 1)) ⟨g, q * 4 + 3, none⟩ (.int .i64 0)) ⟨g, (q + 1) * 4, none⟩ (.int .i64 2)) ⟨g, (q + 1) * 4 + 1, none⟩ (.int .i64 x)) ⟨g, (q + 1) * 4 + 2, none⟩ (.int .i64 1)) ⟨g, (q + 1) * 4 + 3, none⟩ (.int .i64 0)) = w5 at *
          have hfl := fun w => fld_va s1 s2 (ms.length : Int) s4 s5 s6 s7 w
          refine c5.mono ?_
          rintro x5 w6 ⟨rfl, hb6⟩
          go_wp2_with (first
            | (go_at_call 19; with_reducible refine (c6 _ hb6).mono ?_; rintro x7 w7 ⟨rfl, hb7⟩)
            | (go_at_call 18; with_reducible refine (hA _).mono ?_; rintro x8 w8 ⟨rfl, hb8⟩))
          go_ret
          have hb5 : Bl w w5 := hB5
          exact ⟨rfl, by repeat (first | exact Bl.refl _ | assumption | apply Bl.drewN | apply Bl.alloc | refine Bl.trans ?_ (by assumption))⟩
end Go.Proofs.Ytonndofbnhnkpaa.OrdW
