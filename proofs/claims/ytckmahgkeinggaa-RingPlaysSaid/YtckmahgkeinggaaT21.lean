/- The contracts of the document's ring (sennitref05): a struct by value with the bytes that stand there as a string. -/
import Derived.Test.YtckmahgkeinggaaT19
import Derived.Laws.ResultCell
namespace Go.Proofs.Ytckmahgkeinggaa
open Go.RowKit
attribute [local go_sem] cell_over frozen_over lt_over le_over ne_over over_ne cell_set_same softAt softUpon

/-- The document's ring. -/
def refV (m : Int) (c : List UInt8) (t : Int) : Value := .agg #[.int .i64 m, .string ⟨c.toArray⟩, .int .i64 t]

theorem refpeek_any (m t : Int) (c : List UInt8) (f n : Int) (w : World) (hc : c.length ≤ 4096) :
    Calls Try.prog 19 #[refV m c t, .int .i64 f, .int .i64 n] w fun e w' => e = .returned (.string ⟨(look c f n).toArray⟩) ∧ Below w.heap.size w w' := by
  by_cases h1 : f < 0
  · have e1 : look c f n = [] := by unfold look; rw [if_pos (.inl h1)]
    rw [e1]
    clear e1
    unfold refV
    go_enter Try.func19, Try.ntmps19
    go_wp2
    go_returns
    exact ⟨rfl, bta (Below.refl _ _) _⟩
  · by_cases h2 : (c.length : Int) < f
    · have e1 : look c f n = [] := by
        unfold look
        split
        · rfl
        · rw [List.drop_eq_nil_of_le (by omega), List.take_nil]
      rw [e1]
      clear e1
      unfold refV
      go_enter Try.func19, Try.ntmps19
      go_wp2
      go_returns
      exact ⟨rfl, bta (Below.refl _ _) _⟩
    · by_cases h3 : n < 1
      · have e1 : look c f n = [] := by unfold look; rw [if_pos (.inr h3)]
        rw [e1]
        clear e1
        unfold refV
        go_enter Try.func19, Try.ntmps19
        go_wp2
        go_returns
        exact ⟨rfl, bta (Below.refl _ _) _⟩
      · obtain ⟨k, rfl⟩ : ∃ k : Nat, f = k := ⟨f.toNat, by omega⟩
        have hk : k ≤ c.length := by omega
        have q1 := ext_tail c k
        have q3 : (c.drop k).length = c.length - k := List.length_drop
        by_cases h4 : ((c.length - k : Nat) : Int) < n
        · have e1 : look c k n = c.drop k := by
            unfold look
            rw [if_neg (by omega), List.take_of_length_le (by simp; omega)]
            rfl
          have q2 : (⟨(c.drop k).toArray⟩ : ByteArray).extract 0 (c.length - k) = ⟨(c.drop k).toArray⟩ := by
            rw [ext_head, List.take_of_length_le (by simp)]
          rw [e1]
          clear e1
          unfold refV
          go_enter Try.func19, Try.ntmps19
          go_wp2
          go_returns
          exact ⟨rfl, bta (Below.refl _ _) _⟩
        · have e1 : look c k n = (c.drop k).take n.toNat := by
            unfold look
            rw [if_neg (by omega)]
            rfl
          have q2 := ext_head (c.drop k) n.toNat
          rw [e1]
          clear e1
          unfold refV
          go_enter Try.func19, Try.ntmps19
          go_wp2
          go_returns
          exact ⟨rfl, bta (Below.refl _ _) _⟩

theorem refnew_ok (m : Nat) (w : World) (m1 : 1 ≤ m) (m2 : m ≤ 4096) :
    Calls Try.prog 9 #[.int .i64 m] w fun e w' => e = .returned (.tuple #[refV m [] 0, .int .i64 0]) ∧ Below w.heap.size w w' := by
  have c1 : ¬ (m : Int) < 1 := by omega
  have c2 : ¬ (m : Int) > 4096 := by omega
  unfold refV
  go_enter Try.func9, Try.ntmps9
  go_wp2
  go_returns
  exact ⟨rfl, by go_grown⟩
theorem refnew_bad (n : Int) (w : World) (h : n < 1 ∨ 4096 < n) :
    Calls Try.prog 9 #[.int .i64 n] w fun e w' => e = .returned (.tuple #[refV 0 [] 0, .int .i64 8]) ∧ Below w.heap.size w w' := by
  unfold refV
  rcases h with h | h
  · go_enter Try.func9, Try.ntmps9
    go_wp2
    go_returns
    exact ⟨rfl, by go_grown⟩
  · have h1 : ¬ n < 1 := by omega
    go_enter Try.func9, Try.ntmps9
    go_wp2
    go_returns
    exact ⟨rfl, by go_grown⟩

theorem results_row_tmp {P : Program} {fn : Func} {p u : Tmp} {ty : TypeId} (h : fn.results = #[.cell p ty, .tmp u]) (tmps : Array Value) (w : World) (g : Nat) (t : TypeId) (cs : Array Value) (fr : Nat × Nat) (d : TypeDesc)
    (hp : tmps.getD p undef = .pointer (some ⟨g, 0, none⟩)) (hg : w.heap[g]? = some (.cells cs t fr))
    (hu : P.underlying ty = some d) (hd : (match d with | .struct _ | .array _ _ => true | _ => false) = true) (hi : (P.info? ty).map (·.size) = some cs.size) :
    (results fn tmps).run P w = .ok (.tuple #[.agg cs, tmps.getD u undef]) w := by
  rw [results_cell_tmp h, hp]
  simp [asAddr, run_loadVar_row w g t ty cs fr d hg hu hd hi]

theorem cells3 {w : World} {b : Nat} {x0 x1 x2 : Value} {t : TypeId} (h : w.heap[b]? = some (.cells #[x0, x1, x2] t (0, 0))) :
    w.cell? ⟨b, 0, none⟩ = some x0 ∧ w.cell? ⟨b, 1, none⟩ = some x1 ∧ w.cell? ⟨b, 2, none⟩ = some x2 ∧ b < w.heap.size ∧ b < w.heap.size + 1 ∧ b ≠ w.heap.size ∧ b ≠ w.heap.size + 1 ∧ w.frozen? ⟨b, 0, none⟩ = false ∧ w.frozen? ⟨b, 1, none⟩ = false ∧ w.frozen? ⟨b, 2, none⟩ = false := by
  have := blk_lt h
  exact ⟨blk_cell h 0, blk_cell h 1, blk_cell h 2, this, by omega, by omega, by omega, blk_free h 0, blk_free h 1, blk_free h 2⟩
def ref3 (m : Int) (c : List UInt8) (t : Int) : Obj := .cells #[.int .i64 m, .string ⟨c.toArray⟩, .int .i64 t] 30 (0, 0)

set_option maxHeartbeats 1000000 in
theorem refpop_any (m t : Int) (c : List UInt8) (n : Int) (w : World) (hc : c.length ≤ 4096) :
    Calls Try.prog 11 #[refV m c t, .int .i64 n] w fun e w' => e = .returned (.tuple #[refV m (c.drop (look c 0 n).length) t, .string ⟨(look c 0 n).toArray⟩]) ∧ Below w.heap.size w w' := by
  have P := fun W => refpeek_any m t c 0 n W hc
  have hl := look_len c 0 n
  generalize look c 0 n = q at *
  have q1 := ext_tail c q.length
  unfold refV at *
  have HP := Lib.hid P
  clear P
  go_enter Try.func11, Try.ntmps11
  go_wp2_with (first | ((with_reducible refine (HP.out _).mono ?_); refine unhalt ?_))
  unfold Halted
  rintro e w1 ⟨rfl, hb⟩
  have h1 := blk_grow hb (blk_old (blk_new (w := w) (o := ref3 m c t) rfl))
  have h2 := blk_grow hb (blk_new (w := w.alloc (ref3 m c t)) (o := ref3 0 [] 0) (n := w.heap.size + 1) (by simp))
  have B1 := bt (bta (bta (Below.refl _ _) _) _) hb
  clear hb
  dsimp only
  generalize hp1 : w.heap.size = p1 at h1 h2 ⊢
  unfold ref3 at h1 h2
  obtain ⟨a0, a1, a2, a3, a4, a5, a6, a7, a8, a9⟩ := cells3 h1
  obtain ⟨b0, b1, b2, b3, b4, b5, b6, b7, b8, b9⟩ := cells3 h2
  go_wp2
  have hge : w.heap.size ≤ p1 := by omega
  refine bodyPost_ret (results_row_tmp Try.results11 _ _ (p1 + 1) 30 _ _ _ rfl (blk_set (blk_set (blk_set ((blk_far (by simp)).trans h2) 0 _) 1 _) 2 _) Try.underlying30 rfl (by kernel_rfl)) rfl ⟨rfl, bst (bst (bst (bst B1 hge _) (Nat.le_succ_of_le hge) _) (Nat.le_succ_of_le hge) _) (Nat.le_succ_of_le hge) _⟩

theorem conv_none (w : World) (cap : Nat) : (convert 33 9 (.slice none 0 cap)).run Try.prog w = .ok (.string ⟨#[]⟩) w := by kernel_rfl
/-- string(b[:x]) of bytes that came in. -/
theorem Came.conv {w : World} {B : Nat} {a : Option Addr} {len cap : Nat} {l : List UInt8} (h : Came w B a len cap l) (x : Nat) (hx : x ≤ len) : (convert 33 9 (.slice a x cap)).run Try.prog w = .ok (.string ⟨(l.take x).toArray⟩) w := by
  have hlx : (l.take x).length = x := by have := h.size; simp; omega
  rcases a with _ | a
  · rcases Nat.eq_zero_or_pos len with h0 | h0
    · obtain rfl : x = 0 := by omega
      exact conv_none w cap
    · have hbl : 0 < (bv l).length := by rw [bv_len, h.size]; omega
      obtain ⟨b, o, hc, _⟩ := h.bys 0 _ (List.getElem?_eq_getElem hbl)
      cases hc
  · have := run_convert_bytes_back (P := Try.prog) w 33 9 5 a cap (l.take x) Try.underlying33 Try.underlying5 Try.underlying9 (fun j hj => by
      have hjl : j < l.length := by have := h.size; omega
      have hb : (bv l)[j]? = some (.int .u8 (l[j].toNat : Int)) := by simp [bv, hjl]
      obtain ⟨b, o, hc, hcell⟩ := h.bys j _ hb
      cases hc
      have e : (⟨b, o, none⟩ : Addr).add j = ⟨b, o + j, none⟩ := by unfold Addr.add; split <;> simp_all
      rw [e, hcell, List.getElem_take])
    rw [hlx] at this
    exact this

set_option maxHeartbeats 2000000 in
theorem refpush_any (m t : Int) (c l : List UInt8) (a : Option Addr) (n cap : Nat) (w : World) {B : Nat} (hl : Came w B a n cap l) (hB : B ≤ w.heap.size) (hc : (c.length : Int) ≤ m) (hm : m ≤ 4096) (hn : n ≤ 1000) (ht : 0 ≤ t ∧ t ≤ 1000000) :
    Calls Try.prog 14 #[refV m c t, .slice a n cap] w fun e w' => e = .returned (.tuple #[refV m (c ++ l.take (min n (m.toNat - c.length))) (t + (min n (m.toNat - c.length) : Nat)), .int .i64 (min n (m.toNat - c.length) : Nat)]) ∧ Below w.heap.size w w' := by
  obtain ⟨x, hx⟩ : ∃ x, x = min n (m.toNat - c.length) := ⟨_, rfl⟩
  rw [← hx]
  have hx1 : x ≤ n := by omega
  have hx2 : c.length + x ≤ 4096 := by omega
  have hxm : (x : Int) = if m - c.length < n then m - c.length else n := by split <;> omega
  have hcap := hl.fits
  have hll := hl.size
  have HN := Lib.hid hxm
  have HL := Lib.hid hl
  clear hxm hl hx
  have e1 : IntKind.i64.wrap (m - c.length) = m - c.length := IntWalk.i64_in _ (by omega)
  have e2 : IntKind.i64.wrap (t + x) = t + x := IntWalk.i64_in _ (by omega)
  have e3 : (x : Int) ≤ cap := by omega
  have e4 : (0 : Int) ≤ x := by omega
  have e5 : ¬ 9223372036854775807 < c.length + x := by omega
  have hlx : (l.take x).length = x := by simp; omega
  unfold refV
  go_enter Try.func14, Try.ntmps14
  go_upto_region 2 with fail
  rw [← HN.out]
  have h1 := blk_old (o := ref3 0 [] 0) (blk_new (w := w) (o := ref3 m c t) rfl)
  have h2 := blk_new (w := w.alloc (ref3 m c t)) (o := ref3 0 [] 0) (n := w.heap.size + 1) (by simp)
  have B1 := bta (bta (Below.refl w.heap.size w) (ref3 m c t)) (ref3 0 [] 0)
  have HL1 := Lib.hid (HL.out.under (B1.mono hB))
  unfold ref3 at h1 h2 B1 HL1
  generalize hp1 : w.heap.size = p1 at h1 h2 ⊢
  generalize (w.alloc (.cells #[.int .i64 m, .string ⟨c.toArray⟩, .int .i64 t] 30 (0, 0))).alloc (.cells #[.int .i64 0, .string ⟨[].toArray⟩, .int .i64 0] 30 (0, 0)) = w1 at *
  have hge : w.heap.size ≤ p1 := by omega
  clear hp1
  have hcv := fun y => (HL1.out.under ((over_below w1 y).mono (Nat.le_trans hB B1.size))).conv x hx1
  obtain ⟨a0, a1, a2, a3, a4, a5, a6, a7, a8, a9⟩ := cells3 h1
  refine wp_soft0 8 (by kernel_rfl) (by kernel_rfl) (tail_seq (by kernel_rfl)) ?_
  simp only [List.take_succ_cons, List.take_zero]
  repeat (first | (refine softLex_step (by rfl) (by rfl) (fun K hK => ?_); go_simp; (refine hK _ ?_; clear hK K)))
  refine softLex_nil ?_
  intro w2 hb2
  rw [str_app]
  clear hcv a0 a1 a2 a3 a4 a5 a6 a7 a8 a9
  replace h1 := blk_grow hb2 h1
  replace h2 := blk_grow hb2 h2
  have B2 := bt B1 hb2
  clear B1 hb2
  obtain ⟨a0, a1, a2, a3, a4, a5, a6, a7, a8, a9⟩ := cells3 h1
  obtain ⟨b0, b1, b2, b3, b4, b5, b6, b7, b8, b9⟩ := cells3 h2
  simp only [List.drop_succ_cons, List.drop_zero]
  go_wp2
  refine bodyPost_ret (results_row_tmp Try.results14 _ _ (p1 + 1) 30 _ _ _ rfl (blk_set (blk_set (blk_set ((blk_far (by simp)).trans ((blk_far (by simp)).trans h2)) 0 _) 1 _) 2 _) Try.underlying30 rfl (by kernel_rfl)) rfl ⟨rfl, bst (bst (bst (bst (bst B2 hge _) hge _) (Nat.le_succ_of_le hge) _) (Nat.le_succ_of_le hge) _) (Nat.le_succ_of_le hge) _⟩
end Go.Proofs.Ytckmahgkeinggaa
