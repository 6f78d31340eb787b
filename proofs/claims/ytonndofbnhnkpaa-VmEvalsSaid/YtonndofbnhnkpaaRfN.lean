/- The reference's evaluator: any instruction but a fork. -/
import Derived.Test.YtonndofbnhnkpaaRfF
namespace Go.Proofs.Ytonndofbnhnkpaa.Rf
open Go.RowKit Num KeyM KeyW StatW Blk VmA VmG Prg EvM
/-- What an instruction leaves. -/
def Left (c : Fx) (base B : Nat) (w : World) (t : RT) (S : RS) (w' : World) : Prop := IsT w' B t ∧ IsR c base w' S ∧ Ch (fun k => Evs c k ∨ k = B) w w'
theorem left_do {c : Fx} {base B : Nat} {w w' : World} {t u : RT} {S : RS} (hT : IsT w B t) (hR : IsR c base w S) (hK : c.K ≤ B) (h1 : IsT w' B u) (h2 : Ch (· = B) w w') : Left c base B w u S w' :=
  ⟨h1, hR.on hT.row hK h2, h2.mono (fun _ _ e => Or.inr e)⟩
set_option maxRecDepth 100000 in
set_option maxHeartbeats 1000000 in
theorem one_other (R B : Nat) (op a b x : Int) (w : World) (Φ : World → Prop) (ho : op = 9 ∨ op = 10 ∨ op = 11 ∨ op = 12 ∨ op = 13 ∨ op = 14)
    (h : Calls Try.prog 161 #[.pointer (some ⟨R, 0, none⟩), .pointer (some ⟨B, 0, none⟩), insV ⟨op, a, b, x⟩] (w.alloc (.cells #[.int .i64 op, .int .i64 a, .int .i64 b, .int .i64 x] 48)) fun e w' => e = .returned (.tuple #[]) ∧ Φ w') :
    Calls Try.prog 130 #[.pointer (some ⟨R, 0, none⟩), .pointer (some ⟨B, 0, none⟩), insV ⟨op, a, b, x⟩] w fun e w' => e = .returned (.tuple #[]) ∧ Φ w' := by
  unfold insV at *
  rcases ho with rfl | rfl | rfl | rfl | rfl | rfl
  all_goals
    have H := Lib.hid h
    clear h
    go_enter Try.func130, Try.ntmps130
    go_wp2_with fail
    refine H.out.mono ?_
    rintro e w2 ⟨rfl, hw⟩
    have HW := Lib.hid hw
    clear hw
    go_wp2_with fail
    go_end0
    exact ⟨rfl, HW.out⟩
theorem one_any (c : Fx) (base B : Nat) (t : RT) (S : RS) (i : Ins) (nf n : Nat) (w : World) (hT : IsT w B t) (hR : IsR c base w S) (hK : c.K ≤ B) (hi : InsIn nf c.futs n i) (h9 : i.op ≠ 9) :
    Calls Try.prog 130 #[.pointer (some ⟨c.R, 0, none⟩), .pointer (some ⟨B, 0, none⟩), insV i] w fun e w' => e = .returned (.tuple #[]) ∧ Left c base B w (oneM t S i).1 (oneM t S i).2 w' := by
  obtain ⟨op, a, b, x⟩ := i
  obtain ⟨hok, h7, h8, _, h11, h12⟩ := hi
  have hT1 : IsT (w.alloc (.cells #[.int .i64 op, .int .i64 a, .int .i64 b, .int .i64 x] 48)) B t := World.rowIs.alloc hT.row _
  have hR1 : IsR c base (w.alloc (.cells #[.int .i64 op, .int .i64 a, .int .i64 b, .int .i64 x] 48)) S := hR.bl ((Bl.refl _).alloc _)
  have hch : ∀ {S : Nat → Prop} {w'}, Ch S (w.alloc (.cells #[.int .i64 op, .int .i64 a, .int .i64 b, .int .i64 x] 48)) w' → Ch S w w' := fun h => Ch.trans ((Ch.refl _ _).alloc _) h
  have fin : ∀ {u : RT} {w' : World}, IsT w' B u → Ch (· = B) (w.alloc (.cells #[.int .i64 op, .int .i64 a, .int .i64 b, .int .i64 x] 48)) w' → Left c base B w u S w' := fun h1 h2 => ⟨h1, hR1.on hT1.row hK h2, (hch h2).mono (fun _ _ e => Or.inr e)⟩
  unfold InsOk Rg at hok
  simp only at hok h7 h8 h9 h11 h12
  rcases hok with ⟨rfl, ha, hb, hc⟩ | ⟨ho, ha, hb, hc⟩ | ⟨rfl, ha, hb, hc⟩ | ⟨rfl, ha, hb, hc⟩ | ⟨rfl, ha, hb, hc⟩ | ⟨rfl, ha, hb, hc⟩ | ⟨rfl, ha, hb, hc⟩ | ⟨rfl, ha, hb, hc⟩ | ⟨rfl, ha, hb, hc⟩ | ⟨rfl, ha, hb, hc⟩ | ⟨rfl, ha, hb, hc⟩
  · obtain ⟨a, rfl⟩ := Int.eq_ofNat_of_zero_le ha.1
    exact (do_const c.R B t a b x w hT (by omega)).mono fun e w' ⟨h1, h2, h3⟩ => ⟨h1, left_do hT hR hK h2 h3⟩
  · obtain ⟨a, rfl⟩ := Int.eq_ofNat_of_zero_le ha.1
    obtain ⟨b, rfl⟩ := Int.eq_ofNat_of_zero_le hb.1
    obtain ⟨x, rfl⟩ := Int.eq_ofNat_of_zero_le hc.1
    rcases ho with rfl | rfl | rfl | rfl | rfl
    · exact (do_add c.R B t a b x w hT (by omega) (by omega) (by omega)).mono fun e w' ⟨h1, h2, h3⟩ => ⟨h1, left_do hT hR hK h2 h3⟩
    · exact (do_sub c.R B t a b x w hT (by omega) (by omega) (by omega)).mono fun e w' ⟨h1, h2, h3⟩ => ⟨h1, left_do hT hR hK h2 h3⟩
    · exact (do_mul c.R B t a b x w hT (by omega) (by omega) (by omega)).mono fun e w' ⟨h1, h2, h3⟩ => ⟨h1, left_do hT hR hK h2 h3⟩
    · by_cases hz : wrap32 (t.regs x) = 0
      · have e1 : oneM t S ⟨5, a, b, x⟩ = (t.ends 2, S) := by show (if wrap32 (t.reg x) = 0 then _ else _) = _; exact if_pos hz
        rw [e1]
        exact (do_div_no c.R B t a b x w hT (by omega) (by omega) (by simpa using hz)).mono fun e w' ⟨h1, h2, h3⟩ => ⟨h1, left_do hT hR hK h2 h3⟩
      · have e1 : oneM t S ⟨5, a, b, x⟩ = (t.setReg a (divq (t.reg b) (t.reg x)), S) := by show (if wrap32 (t.reg x) = 0 then _ else _) = _; exact if_neg hz
        rw [e1]
        exact (do_div c.R B t a b x w hT (by omega) (by omega) (by omega) (by simpa using hz)).mono fun e w' ⟨h1, h2, h3⟩ => ⟨h1, left_do hT hR hK h2 h3⟩
    · exact (do_less c.R B t a b x w hT (by omega) (by omega) (by omega)).mono fun e w' ⟨h1, h2, h3⟩ => ⟨h1, left_do hT hR hK h2 h3⟩
  · exact (do_jump c.R B t a b x w hT).mono fun e w' ⟨h1, h2, h3⟩ => ⟨h1, left_do hT hR hK h2 h3⟩
  · obtain ⟨a, rfl⟩ := Int.eq_ofNat_of_zero_le ha.1
    by_cases hz : t.regs a = 0
    · have e1 : oneM t S ⟨8, a, b, x⟩ = ({ t with place := b }, S) := by show (if t.reg a = 0 then _ else _) = _; exact if_pos hz
      rw [e1]
      exact (do_zero_yes c.R B t a b x w hT (by omega) hz).mono fun e w' ⟨h1, h2, h3⟩ => ⟨h1, left_do hT hR hK h2 h3⟩
    · have e1 : oneM t S ⟨8, a, b, x⟩ = (t, S) := by show (if t.reg a = 0 then _ else _) = _; exact if_neg hz
      rw [e1]
      exact (do_zero_no c.R B t a b x w hT (by omega) (by simpa using hz)).mono fun e w' ⟨h1, h2, h3⟩ => ⟨h1, left_do hT hR hK h2 h3⟩
  · exact absurd rfl h9
  · obtain ⟨a, rfl⟩ := Int.eq_ofNat_of_zero_le ha.1
    obtain ⟨b, rfl⟩ := Int.eq_ofNat_of_zero_le hb.1
    refine one_other c.R B 10 a b x w _ (by simp) ?_
    cases h0 : t.has b
    · have e1 : oneM t S ⟨10, a, b, x⟩ = (t.ends 7, S) := by show (if t.has b = false then _ else _) = _; exact if_pos h0
      rw [e1]
      exact (ot_join_no c.R B t a b x _ hT1 (by omega) h0).mono fun e w' ⟨h1, h2, h3⟩ => ⟨h1, fin h2 h3⟩
    · by_cases hh : t.hh b = 1
      · have e1 : oneM t S ⟨10, a, b, x⟩ = (({ t with has := upd t.has b false }).setReg a (t.hv b), S) := by
          show (if t.has b = false then _ else if t.hh b = 1 then _ else _) = _
          rw [if_neg (by rw [h0]; simp), if_pos hh]; rfl
        rw [e1]
        exact (ot_join c base B t S a b x _ hT1 hR1 (by omega) (by omega) h0 hh).mono fun e w' ⟨h1, h2, h3⟩ => ⟨h1, fin h2 h3⟩
      · have e1 : oneM t S ⟨10, a, b, x⟩ = ({ t with has := upd t.has b false, how := t.hh b }, S) := by
          show (if t.has b = false then _ else if t.hh b = 1 then _ else _) = _
          rw [if_neg (by rw [h0]; simp), if_neg hh]; rfl
        rw [e1]
        exact (ot_join_bad c base B t S a b x _ hT1 hR1 (by omega) h0 (by simpa using hh)).mono fun e w' ⟨h1, h2, h3⟩ => ⟨h1, fin h2 h3⟩
  · obtain ⟨a, rfl⟩ := Int.eq_ofNat_of_zero_le ha.1
    obtain ⟨b, rfl⟩ := Int.eq_ofNat_of_zero_le hb.1
    have hfa := h11 rfl
    refine one_other c.R B 11 a b x w _ (by simp) ?_
    cases h0 : S.was a
    · have e1 : oneM t S ⟨11, a, b, x⟩ = (t, { S with was := upd S.was a true, futs := upd S.futs a (t.reg b) }) := by show (if S.was a = true then _ else _) = _; exact if_neg (by rw [h0]; simp)
      rw [e1]
      exact (ot_set c base B t S a b x _ hT1 hR1 (by omega) (by omega) h0).mono fun e w' ⟨h1, h2, h3, h4⟩ => ⟨h1, h2, h3, (hch h4).mono (fun _ _ e => Or.inl e)⟩
    · have e1 : oneM t S ⟨11, a, b, x⟩ = (t.ends 3, S) := by show (if S.was a = true then _ else _) = _; exact if_pos h0
      rw [e1]
      exact (ot_set_twice c base B t S a b x _ hT1 hR1 (by omega) h0).mono fun e w' ⟨h1, h2, h3⟩ => ⟨h1, fin h2 h3⟩
  · obtain ⟨a, rfl⟩ := Int.eq_ofNat_of_zero_le ha.1
    obtain ⟨b, rfl⟩ := Int.eq_ofNat_of_zero_le hb.1
    have hfb := h12 rfl
    refine one_other c.R B 12 a b x w _ (by simp) ?_
    cases h0 : S.was b
    · have e1 : oneM t S ⟨12, a, b, x⟩ = (t.ends 4, S) := by show (if S.was b = false then _ else _) = _; exact if_pos h0
      rw [e1]
      exact (ot_get_no c base B t S a b x _ hT1 hR1 (by omega) h0).mono fun e w' ⟨h1, h2, h3⟩ => ⟨h1, fin h2 h3⟩
    · have e1 : oneM t S ⟨12, a, b, x⟩ = (t.setReg a (S.futs b), S) := by show (if S.was b = false then _ else _) = _; exact if_neg (by rw [h0]; simp)
      rw [e1]
      exact (ot_get c base B t S a b x _ hT1 hR1 (by omega) (by omega) h0).mono fun e w' ⟨h1, h2, h3⟩ => ⟨h1, fin h2 h3⟩
  · obtain ⟨a, rfl⟩ := Int.eq_ofNat_of_zero_le ha.1
    refine one_other c.R B 13 a b x w _ (by simp) ?_
    cases h0 : t.has a
    · have e1 : oneM t S ⟨13, a, b, x⟩ = (t.ends 7, S) := by show (if t.has a = false then _ else _) = _; exact if_pos h0
      rw [e1]
      exact (ot_cancel_no c base B t S a b x _ hT1 hR1 (by omega) h0).mono fun e w' ⟨h1, h2, h3⟩ => ⟨h1, fin h2 h3⟩
    · have e1 : oneM t S ⟨13, a, b, x⟩ = (t, S) := by show (if t.has a = false then _ else _) = _; exact if_neg (by rw [h0]; simp)
      rw [e1]
      exact (ot_cancel c base B t S a b x _ hT1 hR1 (by omega) h0).mono fun e w' ⟨h1, h2, h3⟩ => ⟨h1, fin h2 h3⟩
  · refine one_other c.R B 14 a b x w _ (by simp) ?_
    exact (ot_yield c base B t S a b x _ hT1 hR1).mono fun e w' ⟨h1, h2, h3⟩ => ⟨h1, fin h2 h3⟩
  · obtain ⟨a, rfl⟩ := Int.eq_ofNat_of_zero_le ha.1
    exact (do_ret c.R B t a b x w hT (by omega)).mono fun e w' ⟨h1, h2, h3⟩ => ⟨h1, left_do hT hR hK h2 h3⟩
end Go.Proofs.Ytonndofbnhnkpaa.Rf
