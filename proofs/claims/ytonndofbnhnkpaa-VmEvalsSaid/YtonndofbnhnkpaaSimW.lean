/- VmEvals: an evaluation by tasks of the machine against the laws' own. -/
import Derived.Test.YtonndofbnhnkpaaSimT
import Derived.Test.YtonndofbnhnkpaaSmI
import Derived.Test.YtonndofbnhnkpaaSmR
import Derived.Test.YtonndofbnhnkpaaRfE
import Derived.Test.YtonndofbnhnkpaaPrgP
import Derived.Test.YtonndofbnhnkpaaFrm
namespace Go.Proofs.Ytonndofbnhnkpaa.Sim
open Go.RowKit Num KeyM KeyW StatW Blk VmA VmG Prg EvM Rf Frm PutA
theorem x_says (c : Xc) (hc : XCfg c) (n : Nat) : XSays c n := by
  induction n using Nat.strongRecOn with
  | ind n ih => exact x_step c hc n ih
theorem isX_start {c : Xc} {w : World} (hR : w.rowIs c.X 73 8 (ofL (xL c 0 0))) (hF : w.rowIs c.FB 3 c.futs (fun _ => .int .i64 0)) (hW : w.rowIs c.WB 4 c.futs (fun _ => .bool false)) (hC : CodeAt c.K w c.pa c.fs) (hf : c.K ≤ c.X ∧ c.K ≤ c.FB ∧ c.K ≤ c.WB) : IsX c w s0 0 :=
  ⟨hR, hF, hW, hC, hf, fun _ => (by decide +kernel : wrap32 0 = 0)⟩
theorem startX1 (K : Nat) (pa : Option Addr) (pc futs : Nat) (depth fuel most : Int) (fs : List (List Ins)) (w : World) (hC : CodeAt K w pa fs) (hK : K ≤ w.heap.size) :
    IsX ⟨K, w.heap.size + 1 + 1, w.heap.size, w.heap.size + 1, pa, pc, fs, futs, depth, fuel, most⟩ (((w.alloc (.cells (madeCells #[.int .i64 0] futs) 3)).alloc (.cells (madeCells #[.bool false] futs) 4)).alloc (.cells #[.slice pa fs.length pc, .int .i64 futs, .int .i64 depth, .int .i64 fuel, .slice (some ⟨w.heap.size, 0, none⟩) futs futs, .slice (some ⟨w.heap.size + 1, 0, none⟩) futs futs, .int .i64 0, .int .i64 0] 73)).drew s0 0 := by
  have h1 : (w.alloc (.cells (madeCells #[.int .i64 0] futs) 3)).heap.size = w.heap.size + 1 := by simp
  have h2 : ((w.alloc (.cells (madeCells #[.int .i64 0] futs) 3)).alloc (.cells (madeCells #[.bool false] futs) 4)).heap.size = w.heap.size + 1 + 1 := by simp
  have r1 := World.rowIs_made w (.int .i64 0) futs 3
  have r2 := World.rowIs_made (w.alloc (.cells (madeCells #[.int .i64 0] futs) 3)) (.bool false) futs 4
  rw [h1] at r2
  have r3 := World.rowIs_alloc ((w.alloc (.cells (madeCells #[.int .i64 0] futs) 3)).alloc (.cells (madeCells #[.bool false] futs) 4)) #[.slice pa fs.length pc, .int .i64 futs, .int .i64 depth, .int .i64 fuel, .slice (some ⟨w.heap.size, 0, none⟩) futs futs, .slice (some ⟨w.heap.size + 1, 0, none⟩) futs futs, .int .i64 0, .int .i64 0] 73 (ofL (xL ⟨K, w.heap.size + 1 + 1, w.heap.size, w.heap.size + 1, pa, pc, fs, futs, depth, fuel, most⟩ 0 0)) (by
    show ∀ i, i < 8 → _
    repeat refine all_lt ?_ rfl
    exact all_none)
  rw [h2] at r3
  exact isX_start (World.rowIs.drew r3) (World.rowIs.drew ((r1.alloc _).alloc _)) (World.rowIs.drew (r2.alloc _)) (CodeAt.bl hC (Bl.drew ((((Bl.refl _).alloc _).alloc _).alloc _))) ⟨by show K ≤ w.heap.size + 1 + 1; omega, by show K ≤ w.heap.size; omega, by show K ≤ w.heap.size + 1; omega⟩
theorem startX2 (K : Nat) (pa : Option Addr) (pc futs : Nat) (depth fuel most : Int) (fs : List (List Ins)) (w : World) (hC : CodeAt K w pa fs) (hK : K ≤ w.heap.size) :
    IsX ⟨K, w.heap.size + 1 + 1, w.heap.size + 1, w.heap.size, pa, pc, fs, futs, depth, fuel, most⟩ (((w.alloc (.cells (madeCells #[.bool false] futs) 4)).alloc (.cells (madeCells #[.int .i64 0] futs) 3)).alloc (.cells #[.slice pa fs.length pc, .int .i64 futs, .int .i64 depth, .int .i64 fuel, .slice (some ⟨w.heap.size + 1, 0, none⟩) futs futs, .slice (some ⟨w.heap.size, 0, none⟩) futs futs, .int .i64 0, .int .i64 0] 73)).drew s0 0 := by
  have h1 : (w.alloc (.cells (madeCells #[.bool false] futs) 4)).heap.size = w.heap.size + 1 := by simp
  have h2 : ((w.alloc (.cells (madeCells #[.bool false] futs) 4)).alloc (.cells (madeCells #[.int .i64 0] futs) 3)).heap.size = w.heap.size + 1 + 1 := by simp
  have r1 := World.rowIs_made w (.bool false) futs 4
  have r2 := World.rowIs_made (w.alloc (.cells (madeCells #[.bool false] futs) 4)) (.int .i64 0) futs 3
  rw [h1] at r2
  have r3 := World.rowIs_alloc ((w.alloc (.cells (madeCells #[.bool false] futs) 4)).alloc (.cells (madeCells #[.int .i64 0] futs) 3)) #[.slice pa fs.length pc, .int .i64 futs, .int .i64 depth, .int .i64 fuel, .slice (some ⟨w.heap.size + 1, 0, none⟩) futs futs, .slice (some ⟨w.heap.size, 0, none⟩) futs futs, .int .i64 0, .int .i64 0] 73 (ofL (xL ⟨K, w.heap.size + 1 + 1, w.heap.size + 1, w.heap.size, pa, pc, fs, futs, depth, fuel, most⟩ 0 0)) (by
    show ∀ i, i < 8 → _
    repeat refine all_lt ?_ rfl
    exact all_none)
  rw [h2] at r3
  exact isX_start (World.rowIs.drew r3) (World.rowIs.drew (r2.alloc _)) (World.rowIs.drew ((r1.alloc _).alloc _)) (CodeAt.bl hC (Bl.drew ((((Bl.refl _).alloc _).alloc _).alloc _))) ⟨by show K ≤ w.heap.size + 1 + 1; omega, by show K ≤ w.heap.size + 1; omega, by show K ≤ w.heap.size; omega⟩
theorem own_shape5 {base size : Nat} {e : TypeId} {v : Value} {n : Nat} {xs : List Value} {w : World} (h : w.ownsRow base e size v n xs) : ∃ a cap, v = .slice a n cap := by
  rcases h.2 with ⟨rfl, rfl⟩ | ⟨g, cap, cur, rfl, _⟩
  · exact ⟨none, 0, rfl⟩
  · exact ⟨_, cap, rfl⟩
def two (a b : Value) (j : Nat) : Value := if j = 0 then a else b
theorem two_alloc (w : World) (a b : Value) (t : TypeId) : (w.alloc (.cells #[a, b] t)).rowIs w.heap.size t 2 (two a b) :=
  World.rowIs_alloc w #[a, b] t _ (fun i hi => by
    have hi : i < 2 := hi
    obtain rfl | rfl : i = 0 ∨ i = 1 := by omega
    all_goals rfl)
def idx9 : List (Nat × Nat) := [(0, 39), (1, 40), (2, 41), (3, 42), (4, 43), (5, 44), (6, 45), (7, 46), (8, 47), (9, 48), (10, 49), (11, 50), (12, 51), (13, 52), (14, 53), (15, 54), (16, 55), (17, 56), (18, 57), (19, 58), (20, 59), (21, 60), (22, 61), (23, 62), (24, 63), (25, 64), (26, 65), (27, 66), (28, 67), (29, 68), (30, 69), (31, 70), (32, 71), (33, 72), (34, 73), (35, 74), (36, 75), (37, 76), (38, 77), (39, 78), (40, 79), (41, 80), (42, 81), (43, 82), (44, 83), (45, 84), (46, 85), (47, 86), (48, 87), (49, 88), (50, 89), (51, 4)]
def G9 : List (Nat × Nat × Bool) := [(3, 42, true), (14, 53, true), (26, 65, true), (37, 76, true), (48, 87, true)]
def V9 (X R FX WX FB WB nr futs VC : Nat) (VA : Option Addr) (how val st : Int) : Nat → Value := fun d => match d with
  | 39 => .agg #[.int .i64 how, .int .i64 val]
  | 40 => .agg #[.int .i64 how, .int .i64 val]
  | 41 => .bool true
  | 42 => .bool true
  | 43 => .pointer (some ⟨X, 0, none⟩)
  | 44 => .pointer (some ⟨X, 0, none⟩)
  | 45 => .pointer (some ⟨X, 6, none⟩)
  | 46 => .int .i64 st
  | 47 => .pointer (some ⟨R, 0, none⟩)
  | 48 => .pointer (some ⟨R, 0, none⟩)
  | 49 => .pointer (some ⟨R, 7, none⟩)
  | 50 => .int .i64 st
  | 51 => .bool true
  | 52 => .bool true
  | 53 => .bool true
  | 54 => .pointer (some ⟨X, 0, none⟩)
  | 55 => .pointer (some ⟨X, 0, none⟩)
  | 56 => .pointer (some ⟨X, 7, none⟩)
  | 57 => .int .i64 (nr : Int)
  | 58 => .pointer (some ⟨R, 0, none⟩)
  | 59 => .pointer (some ⟨R, 0, none⟩)
  | 60 => .pointer (some ⟨R, 4, none⟩)
  | 61 => .slice VA nr VC
  | 62 => .int .i64 (nr : Int)
  | 63 => .bool true
  | 64 => .bool true
  | 65 => .bool true
  | 66 => .pointer (some ⟨X, 0, none⟩)
  | 67 => .pointer (some ⟨X, 0, none⟩)
  | 68 => .pointer (some ⟨X, 4, none⟩)
  | 69 => .slice (some ⟨FX, 0, none⟩) futs futs
  | 70 => .pointer (some ⟨R, 0, none⟩)
  | 71 => .pointer (some ⟨R, 0, none⟩)
  | 72 => .pointer (some ⟨R, 5, none⟩)
  | 73 => .slice (some ⟨FB, 0, none⟩) futs futs
  | 74 => .bool true
  | 75 => .bool true
  | 76 => .bool true
  | 77 => .pointer (some ⟨X, 0, none⟩)
  | 78 => .pointer (some ⟨X, 0, none⟩)
  | 79 => .pointer (some ⟨X, 5, none⟩)
  | 80 => .slice (some ⟨WX, 0, none⟩) futs futs
  | 81 => .pointer (some ⟨R, 0, none⟩)
  | 82 => .pointer (some ⟨R, 0, none⟩)
  | 83 => .pointer (some ⟨R, 6, none⟩)
  | 84 => .slice (some ⟨WB, 0, none⟩) futs futs
  | 85 => .bool true
  | 86 => .bool true
  | 87 => .bool true
  | 88 => .bool true
  | 89 => .bool true
  | 4 => .bool true
  | _ => undef
/-- What is there in the end. -/
structure E9 (X R FX WX FB WB nr nf VC E1 E2 : Nat) (VA : Option Addr) (how val st : Int) (fut : Nat → Int) (was : Nat → Bool) (w : World) : Prop where
  e1 : w.rowIs E1 35 2 (two (.int .i64 how) (.int .i64 val))
  e2 : w.rowIs E2 35 2 (two (.int .i64 how) (.int .i64 val))
  x4 : w.cell? ⟨X, 4, none⟩ = some (.slice (some ⟨FX, 0, none⟩) nf nf)
  x5 : w.cell? ⟨X, 5, none⟩ = some (.slice (some ⟨WX, 0, none⟩) nf nf)
  x6 : w.cell? ⟨X, 6, none⟩ = some (.int .i64 st)
  x7 : w.cell? ⟨X, 7, none⟩ = some (.int .i64 (nr : Int))
  r4 : w.cell? ⟨R, 4, none⟩ = some (.slice VA nr VC)
  r5 : w.cell? ⟨R, 5, none⟩ = some (.slice (some ⟨FB, 0, none⟩) nf nf)
  r6 : w.cell? ⟨R, 6, none⟩ = some (.slice (some ⟨WB, 0, none⟩) nf nf)
  r7 : w.cell? ⟨R, 7, none⟩ = some (.int .i64 st)
  fx : w.rowIs FX 3 nf (fun j => .int .i64 (fut j))
  fb : w.rowIs FB 3 nf (fun j => .int .i64 (fut j))
  wx : w.rowIs WX 4 nf (fun j => .bool (was j))
  wb : w.rowIs WB 4 nf (fun j => .bool (was j))
theorem E9.bl {X R FX WX FB WB nr nf VC E1 E2 : Nat} {VA : Option Addr} {how val st : Int} {fut : Nat → Int} {was : Nat → Bool} {w w' : World} (h : E9 X R FX WX FB WB nr nf VC E1 E2 VA how val st fut was w) (hb : Bl w w') : E9 X R FX WX FB WB nr nf VC E1 E2 VA how val st fut was w' :=
  ⟨row_bl h.e1 hb, row_bl h.e2 hb, st_cell hb h.x4, st_cell hb h.x5, st_cell hb h.x6, st_cell hb h.x7, st_cell hb h.r4, st_cell hb h.r5, st_cell hb h.r6, st_cell hb h.r7, row_bl h.fx hb, row_bl h.fb hb, row_bl h.wx hb, row_bl h.wb hb⟩
theorem walk_long (a : Option Addr) (la ca : Nat) (arg : Int) (w : World) (hl : 100 < la) :
    Calls Try.prog 9 #[.slice a la ca, .int .i64 arg] w fun e w' => e = .returned (.bool true) ∧ Bl w w' := by
  have hW := fun w => VmA.awake_any w
  have hl' : (100 : Int) < (la : Int) := by omega
  go_enter Try.func9, Try.ntmps9
  go_wp2_with (first | (go_at_call 33; refine (hW _).mono ?_; rintro e w1 ⟨rfl, hb1⟩))
  go_ret
  exact ⟨rfl, hb1⟩
set_option maxRecDepth 100000 in
set_option maxHeartbeats 8000000 in
theorem walk (a : Option Addr) (la ca : Nat) (zs : List Int) (arg : Int) (w : World) (ha : IsRow .i64 w a la ca zs) (hl : la ≤ 100) :
    Calls Try.prog 9 #[.slice a la ca, .int .i64 arg] w fun e w' => e = .returned (.bool true) ∧ Bl w w' := by
  have hP := prog_any a la ca zs false w ha
  have hl' : ¬ (100 : Int) < (la : Int) := by omega
  have hAW0 := fun w => VmA.awake_any w
  clear ha
  go_enter Try.func9, Try.ntmps9
  go_wp2_with fail
  refine hP.mono ?_
  rintro e w1 ⟨pa, pc, futs', depth, fuel, fs, rfl, hPV, hcode, hb⟩
  obtain ⟨futs, rfl⟩ := Int.eq_ofNat_of_zero_le hPV.futs0
  obtain ⟨n, ⟨u, S2⟩, hev⟩ := EvM.term (most := 800) hPV 5 fuel.toNat (rt0 0 arg 1125899906842624 fuel) s0 (by show dep 1125899906842624 + ((5 : Nat) : Int) = 5; rw [root_ok.2]; rfl) (by have := hPV.fuel0; show fuel = _; omega) (EvM.rok_new hPV (n := 0) rfl (by have := hPV.one; omega) root_ok.1)
  have hrow := row4_alloc w1 (.slice pa fs.length pc) (.int .i64 futs) (.int .i64 depth) (.int .i64 fuel) 52
  have hC2 : CodeAt (w1.alloc (.cells #[.slice pa fs.length pc, .int .i64 futs, .int .i64 depth, .int .i64 fuel] 52)).heap.size (w1.alloc (.cells #[.slice pa fs.length pc, .int .i64 futs, .int .i64 depth, .int .i64 fuel] 52)) pa fs := Prg.CodeAt.mono (hcode.bl ((Bl.refl _).alloc _)) ((Bl.refl _).alloc _).size
  have hf1 := hPV.futs1
  have hmi := run_make_row' (P := Try.prog) 39 3 (.int .i64 0) 8 Try.underlying39 KeyT.info3 rfl .i64 .i64 futs (by omega) (by omega)
  have hmb := run_make_row' (P := Try.prog) 71 4 (.bool false) 1 Try.underlying71 info4 rfl .i64 .i64 futs (by omega) (by omega)
  have HB := Lib.hid hb
  have HROW := Lib.hid hrow
  have HPV := Lib.hid hPV
  have HEV := Lib.hid hev
  have HC2 := Lib.hid hC2
  clear hP hcode hb hrow hPV hev hC2
  cases hov : S2.over
  · have hE := eval_yes pa pc futs depth fuel arg 800 fs _ HPV.out HC2.out (by decide) (by decide) n u S2 HEV.out hov
    unfold progV at hE
    go_wp2_with fail
    refine hE.mono ?_
    rintro e w3 ⟨R, FB, WB, rfl, hI, hb3⟩
    have hrow3 := row_bl HROW.out hb3
    have hB3 : Bl w w3 := Bl.trans (HB.out.alloc _) hb3
    have hK3 := hb3.size
    generalize hK : (w1.alloc (.cells #[.slice pa fs.length pc, .int .i64 futs, .int .i64 depth, .int .i64 fuel] 52)).heap.size = K at hI hK3
    have hE3 := two_alloc w3 (.int .i64 u.how) (.int .i64 u.val) 35
    obtain ⟨⟨k0, k1, k2, k3⟩, _⟩ := row4_cells hrow3
    have hlt3 := hrow3.lt
    have HI := Lib.hid hI
    have HR3 := Lib.hid hrow3
    have HB3 := Lib.hid hB3
    have HE3 := Lib.hid hE3
    clear hE hI hrow3 hB3 hb3 hE3 hK
    go_upto_region 7 with fail
    refine at_world (fun w4 => IsR ⟨K, R, FB, WB, pa, pc, fs, futs, depth, fuel, 800⟩ K w4 (finish u S2 arg) ∧ w4.rowIs w1.heap.size 52 4 (four (.slice pa fs.length pc) (.int .i64 futs) (.int .i64 depth) (.int .i64 fuel)) ∧ w4.rowIs w3.heap.size 35 2 (two (.int .i64 u.how) (.int .i64 u.val)) ∧ Bl w w4 ∧ K ≤ w4.heap.size) ⟨HI.out.bl ((Bl.refl _).alloc _), World.rowIs.alloc HR3.out _, HE3.out, HB3.out.alloc _, by simp; omega⟩ ?_
    rintro w4 ⟨hI4, hR4, hE4, hB4, hK4⟩
    obtain ⟨⟨k0, k1, k2, k3⟩, _⟩ := row4_cells hR4
    have hlt4 := hR4.lt
    generalize w3.heap.size = E1 at *
    generalize w1.heap.size = P0 at *
    have HI4 := Lib.hid hI4
    have HE4 := Lib.hid hE4
    have HB4 := Lib.hid hB4
    clear hI4 hR4 hE4 hB4 HI HR3 HB3 HE3 hK3 HROW HC2
    go_region
    all_goals
      go_upto_region 8 with fail
      refine at_world (fun w5 => (∃ FX WX, IsX ⟨K, w4.heap.size + 1 + 1, FX, WX, pa, pc, fs, futs, depth, fuel, 800⟩ w5 s0 0 ∧ w4.heap.size ≤ FX ∧ w4.heap.size ≤ WX) ∧ Bl w4 w5) ?_ ?_
      · first
          | exact ⟨⟨_, _, startX1 K pa pc futs depth fuel 800 fs w4 HI4.out.code hK4, by omega, by omega⟩, Bl.drew ((((Bl.refl _).alloc _).alloc _).alloc _)⟩
          | exact ⟨⟨_, _, startX2 K pa pc futs depth fuel 800 fs w4 HI4.out.code hK4, by omega, by omega⟩, Bl.drew ((((Bl.refl _).alloc _).alloc _).alloc _)⟩
      rintro w5 ⟨⟨FX, WX, hX5, hf1, hf2⟩, hb5⟩
      generalize hX : w4.heap.size + 1 + 1 = X at *
      have hT : XChild ⟨K, X, FX, WX, pa, pc, fs, futs, depth, fuel, 800⟩ 0 0 arg 1125899906842624 s0 (finish u S2 arg) u.how u.val :=
        x_says ⟨K, X, FX, WX, pa, pc, fs, futs, depth, fuel, 800⟩ ⟨HPV.out, (by decide : (0 : Int) ≤ 800), (by decide : (800 : Int) ≤ 1000)⟩ n 0 0 arg 1125899906842624 s0 u S2 HEV.out hov (by have := HPV.out.one; show 0 < fs.length; omega) root_ok.1 ⟨by decide, by decide, (by decide : (0 : Int) ≤ 800)⟩
      have hT2 := hT w5 hX5
      have HB5 := Lib.hid hb5
      clear hT hX5 hb5 hmi hmb
      go_wp2_with fail
      refine hT2.mono ?_
      rintro e w6 ⟨rfl, hX6, hc6, hw6⟩
      have hb46 : Bl w4 w6 := (Ch.then (Ch.of_bl (S := fun _ => False) HB5.out) hc6 (fun i hi e => by rcases e with e | e | e <;> (simp only at e; omega))).bl (fun _ _ h => h)
      have hI6 := HI4.out.bl hb46
      have hE6 := row_bl HE4.out hb46
      have hB6 := Bl.trans HB4.out hb46
      have hE2 := two_alloc w6 (.int .i64 u.how) (.int .i64 u.val) 35
      clear hT2 hc6 hw6 hb46
      obtain ⟨⟨vr, q1, q2⟩, q3, q4, _, _⟩ := hI6
      obtain ⟨VA, VC, rfl⟩ := own_shape5 q2
      generalize finish u S2 arg = F at *
      have h9 : E9 X R FX WX FB WB F.ran.length futs VC E1 w6.heap.size VA u.how u.val F.steps F.futs F.was (w6.alloc (.cells #[.int .i64 u.how, .int .i64 u.val] 35)) := by
        have hb := (Bl.refl w6).alloc (.cells #[.int .i64 u.how, .int .i64 u.val] 35)
        refine ⟨row_bl hE6 hb, hE2, st_cell hb (hX6.row.cell (i := 4) (by omega)), st_cell hb (hX6.row.cell (i := 5) (by omega)), st_cell hb (hX6.row.cell (i := 6) (by omega)), st_cell hb ?_, st_cell hb (q1.cell (i := 4) (by omega)), st_cell hb (q1.cell (i := 5) (by omega)), st_cell hb (q1.cell (i := 6) (by omega)), st_cell hb (q1.cell (i := 7) (by omega)), row_bl hX6.fut hb, row_bl q3 hb, row_bl hX6.was hb, row_bl q4 hb⟩
        have := hX6.row.cell (i := 7) (by omega)
        rw [show ((F.ran.length : Int) + ((0 : Nat) : Int)) = (F.ran.length : Int) by omega] at this
        exact this
      have H9 := Lib.hid h9
      have HB6 := Lib.hid hB6
      clear h9 hX6 hE6 hB6 hE2 q1 q2 q3 q4 HI4 HE4 HB4 HB5 HEV
      generalize F.ran.length = nr at *
      generalize F.steps = st at *
      generalize F.futs = fut at *
      generalize F.was = was at *
      generalize u.how = how at *
      generalize u.val = val at *
      go_upto_region 9 with fail
      refine at_world (fun w7 => E9 X R FX WX FB WB nr futs VC E1 w6.heap.size VA how val st fut was w7 ∧ Bl w w7) ⟨H9.out, HB6.out.alloc _⟩ ?_
      rintro w7 ⟨h7, hB7⟩
      generalize w6.heap.size = E2 at *
      have H7 := Lib.hid h7
      have HB7 := Lib.hid hB7
      clear h7 hB7 H9 HB6
      refine Tab.region_tab2 (by kernel_rfl) idx9 G9 90 (V9 X R FX WX FB WB nr futs VC VA how val st) (fun _ w' => Bl w7 w') (by kernel_rfl) (by rfl) (by kernel_rfl) (by intro g hg; simp [G9] at hg; rcases hg with rfl | rfl | rfl | rfl | rfl <;> exact ⟨by decide, rfl⟩) (Bl.drew (Bl.refl _)) ?_ ?_
      · intro L a w8 hT hs hd hb8
        have hB8 := Bl.trans HB7.out hb8
        have r4 : a.tmps[4]? = some (.bool true) := hT.tab (51, 4) (by decide) (hd 51 (by decide))
        have hdf : a.defers = [] := hT.dfs
        clear hs hd hT
        go_wp2_with fail
        refine bodyPost_ret (v := .bool true) (by simp [results, Try.results9, go_sem, r4]) hdf ⟨rfl, hB8⟩
      · intro i' o L a w8 K' Q' hT hs hb8 hL ho hd hK
        have hi' : i' < 52 := (Array.getElem?_eq_some_iff.1 ho).1
        have r6 : a.tmps[6]? = some (.pointer (some ⟨E1, 0, none⟩)) := (hT.out 6 (by decide)).trans rfl
        have r7 : a.tmps[7]? = some (.pointer (some ⟨R, 0, none⟩)) := (hT.out 7 (by decide)).trans rfl
        have r9 : a.tmps[9]? = some (.pointer (some ⟨X, 0, none⟩)) := (hT.out 9 (by decide)).trans rfl
        have r10 : a.tmps[10]? = some (.pointer (some ⟨E2, 0, none⟩)) := (hT.out 10 (by decide)).trans rfl
        have HT : Hid (∀ q ∈ idx9, L[q.1]? = some true → a.tmps[q.2]? = some (V9 X R FX WX FB WB nr futs VC VA how val st q.2)) := hT.tab
        have h8 := H7.out.bl hb8
        have hSE := fun w => SmR.same_end how val w
        have hSI := fun w (hb : Bl w7 w) => SmI.same_ints FX FB futs fut w (H7.out.bl hb).fx (H7.out.bl hb).fb (by omega)
        have hSB := fun w (hb : Bl w7 w) => SmI.same_bools WX WB futs was w (H7.out.bl hb).wx (H7.out.bl hb).wb (by omega)
        obtain ⟨g1, g2, x4, x5, x6, x7, p4, p5, p6, p7, _, _, _, _⟩ := h8
        have g10 : w8.cell? ⟨E1, 0, none⟩ = some (.int .i64 how) := g1.cell (i := 0) (by omega)
        have g11 : w8.cell? ⟨E1, 1, none⟩ = some (.int .i64 val) := g1.cell (i := 1) (by omega)
        have g20 : w8.cell? ⟨E2, 0, none⟩ = some (.int .i64 how) := g2.cell (i := 0) (by omega)
        have g21 : w8.cell? ⟨E2, 1, none⟩ = some (.int .i64 val) := g2.cell (i := 1) (by omega)
        have l1 := g1.lt
        have l2 := g2.lt
        clear hT hs hL g1 g2
        obtain rfl | rfl | rfl | rfl | rfl | rfl | rfl | rfl | rfl | rfl | rfl | rfl | rfl | rfl | rfl | rfl | rfl | rfl | rfl | rfl | rfl | rfl | rfl | rfl | rfl | rfl | rfl | rfl | rfl | rfl | rfl | rfl | rfl | rfl | rfl | rfl | rfl | rfl | rfl | rfl | rfl | rfl | rfl | rfl | rfl | rfl | rfl | rfl | rfl | rfl | rfl | rfl : i' = 0 ∨ i' = 1 ∨ i' = 2 ∨ i' = 3 ∨ i' = 4 ∨ i' = 5 ∨ i' = 6 ∨ i' = 7 ∨ i' = 8 ∨ i' = 9 ∨ i' = 10 ∨ i' = 11 ∨ i' = 12 ∨ i' = 13 ∨ i' = 14 ∨ i' = 15 ∨ i' = 16 ∨ i' = 17 ∨ i' = 18 ∨ i' = 19 ∨ i' = 20 ∨ i' = 21 ∨ i' = 22 ∨ i' = 23 ∨ i' = 24 ∨ i' = 25 ∨ i' = 26 ∨ i' = 27 ∨ i' = 28 ∨ i' = 29 ∨ i' = 30 ∨ i' = 31 ∨ i' = 32 ∨ i' = 33 ∨ i' = 34 ∨ i' = 35 ∨ i' = 36 ∨ i' = 37 ∨ i' = 38 ∨ i' = 39 ∨ i' = 40 ∨ i' = 41 ∨ i' = 42 ∨ i' = 43 ∨ i' = 44 ∨ i' = 45 ∨ i' = 46 ∨ i' = 47 ∨ i' = 48 ∨ i' = 49 ∨ i' = 50 ∨ i' = 51 := by omega
        · cases ho
          clear hd HT
          go_simp
          exact hK _ hb8
        · cases ho
          clear hd HT
          go_simp
          exact hK _ hb8
        · have s39 : a.tmps[39]? = some (.agg #[.int .i64 how, .int .i64 val]) := HT.out (0, 39) (by decide) (by cases ho; exact hd ⟨0, .data⟩ (by simp) rfl)
          have s40 : a.tmps[40]? = some (.agg #[.int .i64 how, .int .i64 val]) := HT.out (1, 40) (by decide) (by cases ho; exact hd ⟨1, .data⟩ (by simp) rfl)
          cases ho
          clear hd HT
          go_simp
          go_at_call 39
          refine (hSE w8).mono ?_
          rintro e w9 ⟨rfl, hb9⟩
          go_simp
          exact hK _ (Bl.trans hb8 hb9)
        · have s41 : a.tmps[41]? = some (.bool true) := HT.out (2, 41) (by decide) (by cases ho; exact hd ⟨2, .data⟩ (by simp) rfl)
          cases ho
          clear hd HT
          go_simp
          exact hK _ hb8
        · cases ho
          clear hd HT
          go_simp
          exact hK _ hb8
        · have s43 : a.tmps[43]? = some (.pointer (some ⟨X, 0, none⟩)) := HT.out (4, 43) (by decide) (by cases ho; exact hd ⟨4, .data⟩ (by simp) rfl)
          cases ho
          clear hd HT
          go_simp
          exact hK _ hb8
        · have s44 : a.tmps[44]? = some (.pointer (some ⟨X, 0, none⟩)) := HT.out (5, 44) (by decide) (by cases ho; exact hd ⟨5, .data⟩ (by simp) rfl)
          cases ho
          clear hd HT
          go_simp
          exact hK _ hb8
        · have s45 : a.tmps[45]? = some (.pointer (some ⟨X, 6, none⟩)) := HT.out (6, 45) (by decide) (by cases ho; exact hd ⟨6, .data⟩ (by simp) rfl)
          cases ho
          clear hd HT
          go_simp
          exact hK _ hb8
        · cases ho
          clear hd HT
          go_simp
          exact hK _ hb8
        · have s47 : a.tmps[47]? = some (.pointer (some ⟨R, 0, none⟩)) := HT.out (8, 47) (by decide) (by cases ho; exact hd ⟨8, .data⟩ (by simp) rfl)
          cases ho
          clear hd HT
          go_simp
          exact hK _ hb8
        · have s48 : a.tmps[48]? = some (.pointer (some ⟨R, 0, none⟩)) := HT.out (9, 48) (by decide) (by cases ho; exact hd ⟨9, .data⟩ (by simp) rfl)
          cases ho
          clear hd HT
          go_simp
          exact hK _ hb8
        · have s49 : a.tmps[49]? = some (.pointer (some ⟨R, 7, none⟩)) := HT.out (10, 49) (by decide) (by cases ho; exact hd ⟨10, .data⟩ (by simp) rfl)
          cases ho
          clear hd HT
          go_simp
          exact hK _ hb8
        · have s46 : a.tmps[46]? = some (.int .i64 st) := HT.out (7, 46) (by decide) (by cases ho; exact hd ⟨7, .data⟩ (by simp) rfl)
          have s50 : a.tmps[50]? = some (.int .i64 st) := HT.out (11, 50) (by decide) (by cases ho; exact hd ⟨11, .data⟩ (by simp) rfl)
          cases ho
          clear hd HT
          go_simp
          exact hK _ hb8
        · have s42 : a.tmps[42]? = some (.bool true) := HT.out (3, 42) (by decide) (by cases ho; exact hd ⟨3, .data⟩ (by simp) rfl)
          have s51 : a.tmps[51]? = some (.bool true) := HT.out (12, 51) (by decide) (by cases ho; exact hd ⟨12, .data⟩ (by simp) rfl)
          cases ho
          clear hd HT
          go_simp
          exact hK _ hb8
        · have s52 : a.tmps[52]? = some (.bool true) := HT.out (13, 52) (by decide) (by cases ho; exact hd ⟨13, .data⟩ (by simp) rfl)
          cases ho
          clear hd HT
          go_simp
          exact hK _ hb8
        · cases ho
          clear hd HT
          go_simp
          exact hK _ hb8
        · have s54 : a.tmps[54]? = some (.pointer (some ⟨X, 0, none⟩)) := HT.out (15, 54) (by decide) (by cases ho; exact hd ⟨15, .data⟩ (by simp) rfl)
          cases ho
          clear hd HT
          go_simp
          exact hK _ hb8
        · have s55 : a.tmps[55]? = some (.pointer (some ⟨X, 0, none⟩)) := HT.out (16, 55) (by decide) (by cases ho; exact hd ⟨16, .data⟩ (by simp) rfl)
          cases ho
          clear hd HT
          go_simp
          exact hK _ hb8
        · have s56 : a.tmps[56]? = some (.pointer (some ⟨X, 7, none⟩)) := HT.out (17, 56) (by decide) (by cases ho; exact hd ⟨17, .data⟩ (by simp) rfl)
          cases ho
          clear hd HT
          go_simp
          exact hK _ hb8
        · cases ho
          clear hd HT
          go_simp
          exact hK _ hb8
        · have s58 : a.tmps[58]? = some (.pointer (some ⟨R, 0, none⟩)) := HT.out (19, 58) (by decide) (by cases ho; exact hd ⟨19, .data⟩ (by simp) rfl)
          cases ho
          clear hd HT
          go_simp
          exact hK _ hb8
        · have s59 : a.tmps[59]? = some (.pointer (some ⟨R, 0, none⟩)) := HT.out (20, 59) (by decide) (by cases ho; exact hd ⟨20, .data⟩ (by simp) rfl)
          cases ho
          clear hd HT
          go_simp
          exact hK _ hb8
        · have s60 : a.tmps[60]? = some (.pointer (some ⟨R, 4, none⟩)) := HT.out (21, 60) (by decide) (by cases ho; exact hd ⟨21, .data⟩ (by simp) rfl)
          cases ho
          clear hd HT
          go_simp
          exact hK _ hb8
        · have s61 : a.tmps[61]? = some (.slice VA nr VC) := HT.out (22, 61) (by decide) (by cases ho; exact hd ⟨22, .data⟩ (by simp) rfl)
          cases ho
          clear hd HT
          go_simp
          exact hK _ hb8
        · have s57 : a.tmps[57]? = some (.int .i64 (nr : Int)) := HT.out (18, 57) (by decide) (by cases ho; exact hd ⟨18, .data⟩ (by simp) rfl)
          have s62 : a.tmps[62]? = some (.int .i64 (nr : Int)) := HT.out (23, 62) (by decide) (by cases ho; exact hd ⟨23, .data⟩ (by simp) rfl)
          cases ho
          clear hd HT
          go_simp
          exact hK _ hb8
        · have s53 : a.tmps[53]? = some (.bool true) := HT.out (14, 53) (by decide) (by cases ho; exact hd ⟨14, .data⟩ (by simp) rfl)
          have s63 : a.tmps[63]? = some (.bool true) := HT.out (24, 63) (by decide) (by cases ho; exact hd ⟨24, .data⟩ (by simp) rfl)
          cases ho
          clear hd HT
          go_simp
          exact hK _ hb8
        · have s64 : a.tmps[64]? = some (.bool true) := HT.out (25, 64) (by decide) (by cases ho; exact hd ⟨25, .data⟩ (by simp) rfl)
          cases ho
          clear hd HT
          go_simp
          exact hK _ hb8
        · cases ho
          clear hd HT
          go_simp
          exact hK _ hb8
        · have s66 : a.tmps[66]? = some (.pointer (some ⟨X, 0, none⟩)) := HT.out (27, 66) (by decide) (by cases ho; exact hd ⟨27, .data⟩ (by simp) rfl)
          cases ho
          clear hd HT
          go_simp
          exact hK _ hb8
        · have s67 : a.tmps[67]? = some (.pointer (some ⟨X, 0, none⟩)) := HT.out (28, 67) (by decide) (by cases ho; exact hd ⟨28, .data⟩ (by simp) rfl)
          cases ho
          clear hd HT
          go_simp
          exact hK _ hb8
        · have s68 : a.tmps[68]? = some (.pointer (some ⟨X, 4, none⟩)) := HT.out (29, 68) (by decide) (by cases ho; exact hd ⟨29, .data⟩ (by simp) rfl)
          cases ho
          clear hd HT
          go_simp
          exact hK _ hb8
        · cases ho
          clear hd HT
          go_simp
          exact hK _ hb8
        · have s70 : a.tmps[70]? = some (.pointer (some ⟨R, 0, none⟩)) := HT.out (31, 70) (by decide) (by cases ho; exact hd ⟨31, .data⟩ (by simp) rfl)
          cases ho
          clear hd HT
          go_simp
          exact hK _ hb8
        · have s71 : a.tmps[71]? = some (.pointer (some ⟨R, 0, none⟩)) := HT.out (32, 71) (by decide) (by cases ho; exact hd ⟨32, .data⟩ (by simp) rfl)
          cases ho
          clear hd HT
          go_simp
          exact hK _ hb8
        · have s72 : a.tmps[72]? = some (.pointer (some ⟨R, 5, none⟩)) := HT.out (33, 72) (by decide) (by cases ho; exact hd ⟨33, .data⟩ (by simp) rfl)
          cases ho
          clear hd HT
          go_simp
          exact hK _ hb8
        · have s69 : a.tmps[69]? = some (.slice (some ⟨FX, 0, none⟩) futs futs) := HT.out (30, 69) (by decide) (by cases ho; exact hd ⟨30, .data⟩ (by simp) rfl)
          have s73 : a.tmps[73]? = some (.slice (some ⟨FB, 0, none⟩) futs futs) := HT.out (34, 73) (by decide) (by cases ho; exact hd ⟨34, .data⟩ (by simp) rfl)
          cases ho
          clear hd HT
          go_simp
          go_at_call 40
          refine (hSI w8 hb8).mono ?_
          rintro e w9 ⟨rfl, hb9⟩
          go_simp
          exact hK _ (Bl.trans hb8 hb9)
        · have s65 : a.tmps[65]? = some (.bool true) := HT.out (26, 65) (by decide) (by cases ho; exact hd ⟨26, .data⟩ (by simp) rfl)
          have s74 : a.tmps[74]? = some (.bool true) := HT.out (35, 74) (by decide) (by cases ho; exact hd ⟨35, .data⟩ (by simp) rfl)
          cases ho
          clear hd HT
          go_simp
          exact hK _ hb8
        · have s75 : a.tmps[75]? = some (.bool true) := HT.out (36, 75) (by decide) (by cases ho; exact hd ⟨36, .data⟩ (by simp) rfl)
          cases ho
          clear hd HT
          go_simp
          exact hK _ hb8
        · cases ho
          clear hd HT
          go_simp
          exact hK _ hb8
        · have s77 : a.tmps[77]? = some (.pointer (some ⟨X, 0, none⟩)) := HT.out (38, 77) (by decide) (by cases ho; exact hd ⟨38, .data⟩ (by simp) rfl)
          cases ho
          clear hd HT
          go_simp
          exact hK _ hb8
        · have s78 : a.tmps[78]? = some (.pointer (some ⟨X, 0, none⟩)) := HT.out (39, 78) (by decide) (by cases ho; exact hd ⟨39, .data⟩ (by simp) rfl)
          cases ho
          clear hd HT
          go_simp
          exact hK _ hb8
        · have s79 : a.tmps[79]? = some (.pointer (some ⟨X, 5, none⟩)) := HT.out (40, 79) (by decide) (by cases ho; exact hd ⟨40, .data⟩ (by simp) rfl)
          cases ho
          clear hd HT
          go_simp
          exact hK _ hb8
        · cases ho
          clear hd HT
          go_simp
          exact hK _ hb8
        · have s81 : a.tmps[81]? = some (.pointer (some ⟨R, 0, none⟩)) := HT.out (42, 81) (by decide) (by cases ho; exact hd ⟨42, .data⟩ (by simp) rfl)
          cases ho
          clear hd HT
          go_simp
          exact hK _ hb8
        · have s82 : a.tmps[82]? = some (.pointer (some ⟨R, 0, none⟩)) := HT.out (43, 82) (by decide) (by cases ho; exact hd ⟨43, .data⟩ (by simp) rfl)
          cases ho
          clear hd HT
          go_simp
          exact hK _ hb8
        · have s83 : a.tmps[83]? = some (.pointer (some ⟨R, 6, none⟩)) := HT.out (44, 83) (by decide) (by cases ho; exact hd ⟨44, .data⟩ (by simp) rfl)
          cases ho
          clear hd HT
          go_simp
          exact hK _ hb8
        · have s80 : a.tmps[80]? = some (.slice (some ⟨WX, 0, none⟩) futs futs) := HT.out (41, 80) (by decide) (by cases ho; exact hd ⟨41, .data⟩ (by simp) rfl)
          have s84 : a.tmps[84]? = some (.slice (some ⟨WB, 0, none⟩) futs futs) := HT.out (45, 84) (by decide) (by cases ho; exact hd ⟨45, .data⟩ (by simp) rfl)
          cases ho
          clear hd HT
          go_simp
          go_at_call 41
          refine (hSB w8 hb8).mono ?_
          rintro e w9 ⟨rfl, hb9⟩
          go_simp
          exact hK _ (Bl.trans hb8 hb9)
        · have s76 : a.tmps[76]? = some (.bool true) := HT.out (37, 76) (by decide) (by cases ho; exact hd ⟨37, .data⟩ (by simp) rfl)
          have s85 : a.tmps[85]? = some (.bool true) := HT.out (46, 85) (by decide) (by cases ho; exact hd ⟨46, .data⟩ (by simp) rfl)
          cases ho
          clear hd HT
          go_simp
          exact hK _ hb8
        · have s86 : a.tmps[86]? = some (.bool true) := HT.out (47, 86) (by decide) (by cases ho; exact hd ⟨47, .data⟩ (by simp) rfl)
          cases ho
          clear hd HT
          go_simp
          exact hK _ hb8
        · cases ho
          clear hd HT
          go_simp
          go_at_call 33
          refine (hAW0 w8).mono ?_
          rintro e w9 ⟨rfl, hb9⟩
          go_simp
          exact hK _ (Bl.trans hb8 hb9)
        · have s87 : a.tmps[87]? = some (.bool true) := HT.out (48, 87) (by decide) (by cases ho; exact hd ⟨48, .data⟩ (by simp) rfl)
          have s88 : a.tmps[88]? = some (.bool true) := HT.out (49, 88) (by decide) (by cases ho; exact hd ⟨49, .data⟩ (by simp) rfl)
          cases ho
          clear hd HT
          go_simp
          exact hK _ hb8
        · have s89 : a.tmps[89]? = some (.bool true) := HT.out (50, 89) (by decide) (by cases ho; exact hd ⟨50, .data⟩ (by simp) rfl)
          cases ho
          clear hd HT
          go_simp
          exact hK _ hb8
  · have hE := eval_no pa pc futs depth fuel arg 800 fs _ HPV.out HC2.out (by decide) (by decide) n u S2 HEV.out hov
    unfold progV at hE
    clear hmi hmb
    go_wp2_with fail
    refine hE.mono ?_
    rintro e w3 ⟨R, rfl, hb3⟩
    go_wp2_with fail
    refine (hAW0 _).mono ?_
    rintro e w4 ⟨rfl, hb4⟩
    go_wp2_with fail
    go_ret
    exact ⟨rfl, by
      have h1 : Bl w w3 := Bl.trans (HB.out.alloc _) hb3
      repeat (first | exact Bl.refl _ | assumption | apply Bl.drewN | apply Bl.drew | apply Bl.alloc | refine Bl.trans ?_ (by assumption))⟩
theorem walk_of (a : Option Addr) (la ca : Nat) (zs : List Int) (arg : Int) (w : World) (ha : IsRow .i64 w a la ca zs) (_ : la * 8 ≤ 140737488351232) (_ : (Lit.int .i64 arg).wf = true) :
    Calls Try.prog 9 #[.slice a la ca, .int .i64 arg] w fun e w' => e = .returned (.bool true) ∧ Bl w w' := by
  rcases Nat.lt_or_ge 100 la with h | h
  · exact walk_long a la ca arg w h
  · exact walk a la ca zs arg w ha h
end Go.Proofs.Ytonndofbnhnkpaa.Sim
