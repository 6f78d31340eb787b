/- The program's package code: a number's bytes behind others. -/
import Derived.Test.YtonndofbnhnkpaaGreatCodC
import Derived.Test.YtonndofbnhnkpaaGreatTabJ
set_option linter.unusedVariables false
set_option linter.unusedSimpArgs false
set_option linter.unusedSectionVars false
namespace Go.Proofs.YtonndofbnhnkpaaGreat.CodA
open Go.RowKit Num KeyM KeyW StatW Blk VmA Prg PutA App
theorem info5 : (Tryz.prog.info? 5).map (fun i => (i.zero, i.size, i.bytes)) = some (some (.int .u8 0), 1, 1) := by kernel_rfl
/-- Bytes of one's own, so many. -/
def Own8 (base : Nat) (w : World) (v : Value) (m : Nat) : Prop := ∃ xs, w.ownsRow base 5 1 v m xs ∧ ∀ u ∈ xs, ∃ z, u = .int .u8 z
/-- append, in a list of operations; where the new slice lies is told. -/
theorem wpList_append_at {P : Program} (w : World) {ops : Array Oper} {rest : List Oper} {o : Oper} {a : Act} {Q : Exit → Act → World → Prop} (hgd : o.guard = none) (s x : Operand) (t : TypeId)
    (ho : o.op = .call { callee := .builtin .append, args := #[s, x], argTypes := #[t, t] })
    (base : Nat) (e : TypeId) (i : TypeInfo) (z : Value) (size bytes : Nat) (ht : P.underlying t = some (.slice e)) (hi : P.info? e = some i) (hz : i.zero = some z)
    (hsize : i.size = size) (hby : i.bytes = bytes) (hzs : z.cells.size = size) (hsz : 0 < size)
    (v : Value) (n : Nat) (xs : List Value) (hs : a.eval s = v) (hown : w.ownsRow base e size v n xs)
    (ad : Addr) (m c : Nat) (news : List Value) (hx : a.eval x = .slice (some ad) m c) (hl : news.length = m * size) (hnews : ∀ j u, news[j]? = some u → w.cell? (ad.add j) = some u) (h1 : ∀ u ∈ news, u.oneCell' = true)
    (h63 : n + m ≤ maxLen) (hbytes : (n + m) * bytes ≤ 140737488355328) (hbase : base ≤ w.heap.size)
    (h : ∀ v' w', w'.ownsRow base e size v' (n + m) (xs ++ news) → w.grownBy w' v.ownBlock → (v'.ownBlock = v.ownBlock ∨ v'.ownBlock = some w.heap.size) → wpList P ops Q rest (a.put o.dst v') w') : wpList P ops Q (o :: rest) a w :=
  wpList_plain hgd fun K hK => by
    obtain ⟨v', w', hr, h2, h3, h4, h5⟩ := run_append_own_at (P := P) w base t o.type e i z size bytes ht hi hz hsize hby hzs hsz v n xs hown ad m c news hl hnews h1 h63 hbytes hbase
    unfold Oper.wp execOp
    simp only [ho, resolve, invoke, builtin, Sem.run_bind, Sem.run_pure, Result.andThen_ok, List.map_toArray, List.map_cons, List.map_nil, hs, hx, hr]
    exact hK _ _ (h v' w' h2 h3 h5)
theorem ch_of_grown {w w' : World} {row : Option Nat} (h : w.grownBy w' row) : Ch (fun k => row = some k) w w' := ⟨h.os, h.tape, h.output, h.size, fun i hi hn => h.block i hi (fun e => hn e.symm)⟩
set_option maxRecDepth 100000 in
set_option maxHeartbeats 8000000 in
theorem big_any (base m n : Nat) (v : Value) (x : Int) (w : World) (hn : n = 2 ∨ n = 4) (hown : Own8 base w v m) (hb : base ≤ w.heap.size) (hm : m ≤ 1000000) :
    Calls Tryz.prog 43 #[v, .int .i64 x, .int .i64 n] w fun e w' => ∃ v', e = .returned v' ∧ Own8 base w' v' (m + n) ∧ Ch (fun k => v.ownBlock = some k) w w' ∧ (v'.ownBlock = v.ownBlock ∨ ∃ k, v'.ownBlock = some k ∧ w.heap.size ≤ k) := by
  obtain ⟨i0, hi, hz0, hz1, hz2⟩ := info_parts info5
  have HO := Lib.hid hown
  clear hown
  go_enter Tryz.func43, Tryz.ntmps43
  go_wp2_with fail
  go_loopw [0, 2] (fun a c wr => ∃ (j : Nat), j ≤ n ∧ c = .int .i64 ((n : Int) - 1 - j) ∧ Own8 base wr a (m + j) ∧ Ch (fun k => v.ownBlock = some k) w wr ∧ (a.ownBlock = v.ownBlock ∨ ∃ k, a.ownBlock = some k ∧ w.heap.size ≤ k)) (fun _ c _ => (intOf c + 1).toNat)
  case atStart => exact ⟨0, by omega, by simp, HO.out, Ch.refl _ _, Or.inl rfl⟩
  case round =>
    obtain ⟨j, hj, rfl, ⟨xs, ho, hxs⟩, hB, hob⟩ := hrel
    have HXS := Lib.hid hxs
    clear hxs
    by_cases hlt : j < n
    · have b1 : (0 : Int) ≤ (n : Int) - 1 - j := by omega
      have b2 : (0 : Int) ≤ 8 * ((n : Int) - 1 - j) := by omega
      have b3 : 8 * ((n : Int) - 1 - j) ≤ 64 := by omega
      go_wp2_with (at_builtin; refine wpList_append_at _ rfl _ _ 104 rfl base 5 i0 _ 1 1 Tryz.underlying104 hi hz0 hz1 hz2 rfl (by decide) _ _ _ rfl (ho.alloc _) ⟨wr.heap.size, 0, none⟩ 1 1 [?nw] rfl rfl ?c1 ?c2 ?c3 ?c4 ?c5 ?_)
      case nw => exact (.int .u8 (x / 2 ^ (8 * (n - 1 - j)) % 256))
      case c1 => exact World.news_of_block (cs := #[_]) (t := 5) (fr := (0, 0)) (heap_alloc_new wr _)
      case c2 => intro u hu; simp at hu; subst hu; rfl
      case c3 => unfold maxLen; omega
      case c4 => omega
      case c5 => have := hB.size; simp; omega
      intro v' w9 hown9 hgr hat
      have hs9 := hB.size
      have hB9 : Ch (fun k => v.ownBlock = some k) w w9 := Ch.then (hB.alloc (.cells #[.int .u8 (x / 2 ^ (8 * (n - 1 - j)) % 256)] 5)) (ch_of_grown hgr) (fun k hk e => by
        rcases hob with h | ⟨q, h, hq⟩
        · rw [← h]; exact e
        · rw [h] at e; injection e with e; omega)
      have hat9 : v'.ownBlock = v.ownBlock ∨ ∃ k, v'.ownBlock = some k ∧ w.heap.size ≤ k := by
        rcases hat with h | h
        · rw [h]; exact hob
        · exact Or.inr ⟨_, h, by first | omega | (simp; omega)⟩
      clear hgr ho hB hat hob
      go_wp2_with fail
      go_roundw
      case rel => exact ⟨j + 1, by omega, by go_num, ⟨_, hown9, fun u hu => by
          rcases List.mem_append.1 hu with h | h
          · exact HXS.out u h
          · simp at h; exact ⟨_, h⟩⟩, hB9, hat9⟩
      case measure => simp [intOf]; omega
    · obtain rfl : j = n := by omega
      have b1 : ¬ (0 : Int) ≤ (j : Int) - 1 - j := by omega
      go_wp2_with fail
      go_ret
      exact ⟨_, rfl, ⟨xs, ho, HXS.out⟩, hB, hob⟩
theorem ints_of : ∀ (xs : List Value), (∀ u ∈ xs, ∃ z, u = .int .u8 z) → ∃ zs : List Int, xs = zs.map (Value.int .u8)
  | [], _ => ⟨[], rfl⟩
  | x :: xs, h => by
    obtain ⟨z, rfl⟩ := h x (by simp)
    obtain ⟨zs, rfl⟩ := ints_of xs (fun u hu => h u (List.mem_cons_of_mem _ hu))
    exact ⟨z :: zs, rfl⟩
theorem conv_own {base m : Nat} {v : Value} {w : World} (h : Own8 base w v m) (hm : 0 < m) : ∃ s : ByteArray, (convert 104 9 v).run Tryz.prog w = .ok (.string s) w := by
  obtain ⟨xs, ho, hx⟩ := h
  obtain ⟨zs, rfl⟩ := ints_of xs hx
  have hl := ho.1
  rcases ho.2 with ⟨rfl, rfl⟩ | ⟨g, cap, curv, rfl, _⟩
  · omega
  · refine ⟨strOfNums zs, run_convert_bytes_arg _ 104 5 Tryz.underlying104 Tryz.underlying5 g 0 m cap zs (by simpa using hl) (fun i hi => ?_) 9 Tryz.underlying9⟩
    have := World.ownsRow.cellAt ho i (by omega)
    rw [Nat.zero_add, this, List.getElem?_map]
    have hi' : i < zs.length := by rw [List.length_map] at hl; omega
    rw [List.getElem?_eq_getElem hi']
    simp [List.getElem?_eq_getElem hi']
end Go.Proofs.YtonndofbnhnkpaaGreat.CodA
