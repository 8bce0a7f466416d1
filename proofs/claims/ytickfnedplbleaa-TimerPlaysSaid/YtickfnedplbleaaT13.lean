/- The contracts of Set of what is not there, of Stop, Len, When and Next. -/
import Derived.Test.YtickfnedplbleaaT12
namespace Go.Proofs.Ytickfnedplbleaa
open Go.RowKit
open Go.Maps (Keyed has size Tidy IsMap)
attribute [local go_sem] cell_over frozen_over lt_over le_over ne_over over_ne cell_set_same softAt softUpon lightUpon heavyUpon cell_kept frozen_kept

theorem q_slice {w : World} {B pq pm : Nat} {v : Value} {l : List It} (h : QIs w B pq pm v l) : ∃ a c, v = .slice a l.length c := by
  rcases h.row.2 with ⟨h1, h2⟩ | ⟨g, cap, cur, h1, _⟩
  · exact ⟨none, 0, by rw [h1, h2]⟩
  · exact ⟨_, _, h1⟩

set_option maxRecDepth 100000 in
set_option maxHeartbeats 4000000 in
theorem set_new {w : World} {B pq pm : Nat} {v : Value} {l : List It} (h : HIs w B pq pm v l) (hB : B ≤ w.heap.size) (x : It) (hx : Good x) (hn : ∀ z ∈ l, z.2 ≠ x.2) (hlen : l.length < 64) :
    Calls Try.prog 15 #[.pointer (some ⟨pq, 0, none⟩), .int .i64 x.2, .int .i64 x.1] w (QStep w B pq pm v (.int .i64 0) fun l' => l'.Perm (l ++ [x])) := by
  obtain ⟨a, c, rfl⟩ := q_slice h.1
  have hlk := look_out h.1 hx.fits hn
  have c1 : w.cell? ⟨pq, 0, none⟩ = some (.slice a l.length c) := blk_cell h.1.blk 0
  have c6 : w.cell? ⟨pq, 1, none⟩ = some (.map (some pm)) := blk_cell h.1.blk 1
  have HP := Lib.hid (hpush_any h hB x hx hlen hn)
  obtain ⟨g1, g2, g3, g4⟩ := hx
  have r1 : ¬ x.2 < 0 := by omega
  have r2 : ¬ 4611686018427387903 < x.2 := by omega
  have r3 : ¬ x.1 < 0 := by omega
  have r4 : ¬ 1099511627776 < x.1 := by omega
  have r5 : ¬ 64 ≤ l.length := by omega
  clear h hn
  go_enter Try.func15, Try.ntmps15
  go_wp2_with (first | ((with_reducible refine (HP.out).mono ?_); refine unhalt ?_))
  unfold Halted
  rintro e w4 ⟨rfl, hf⟩
  have HF := Lib.hid hf
  clear hf
  dsimp only
  go_wp2
  go_returns
  exact ⟨rfl, HF.out⟩

set_option maxRecDepth 100000 in
set_option maxHeartbeats 4000000 in
theorem set_full {w : World} {B pq pm : Nat} {v : Value} {l : List It} (h : HIs w B pq pm v l) (x : It) (hx : Good x) (hn : ∀ z ∈ l, z.2 ≠ x.2) (hlen : 64 ≤ l.length) :
    Calls Try.prog 15 #[.pointer (some ⟨pq, 0, none⟩), .int .i64 x.2, .int .i64 x.1] w fun e w' => e = .returned (.int .i64 7) ∧ Below w.heap.size w w' := by
  obtain ⟨a, c, rfl⟩ := q_slice h.1
  have hlk := look_out h.1 hx.fits hn
  have c1 : w.cell? ⟨pq, 0, none⟩ = some (.slice a l.length c) := blk_cell h.1.blk 0
  have c6 : w.cell? ⟨pq, 1, none⟩ = some (.map (some pm)) := blk_cell h.1.blk 1
  obtain ⟨g1, g2, g3, g4⟩ := hx
  have r1 : ¬ x.2 < 0 := by omega
  have r2 : ¬ 4611686018427387903 < x.2 := by omega
  have r3 : ¬ x.1 < 0 := by omega
  have r4 : ¬ 1099511627776 < x.1 := by omega
  clear h hn
  go_enter Try.func15, Try.ntmps15
  go_wp2
  go_returns
  exact ⟨rfl, Below.refl _ _⟩

theorem stop_in {w : World} {B pq pm : Nat} {v : Value} {l : List It} (h : HIs w B pq pm v l) (i : Nat) (x : It) (hi : l[i]? = some x) :
    Calls Try.prog 9 #[.pointer (some ⟨pq, 0, none⟩), .int .i64 x.2] w (QStep w B pq pm v (.bool true) fun l' => (x :: l').Perm l) := by
  have hil := (List.getElem?_eq_some_iff.1 hi).1
  have hlk := look_in h.1 hi
  have c6 : w.cell? ⟨pq, 1, none⟩ = some (.map (some pm)) := blk_cell h.1.blk 1
  have HP := Lib.hid (hremove_any h i (l.length - 1) (by omega) hil x (itAt_of hi))
  clear h hi
  go_enter Try.func9, Try.ntmps9
  go_wp2_with (first | ((with_reducible refine (HP.out).mono ?_); refine unhalt ?_))
  unfold Halted
  rintro e w4 ⟨rfl, hf⟩
  have HF := Lib.hid hf
  clear hf
  dsimp only
  go_wp2
  go_returns
  exact ⟨rfl, HF.out⟩
theorem stop_out {w : World} {B pq pm : Nat} {v : Value} {l : List It} (h : HIs w B pq pm v l) (id : Int) (hf : Fits id) (hn : ∀ z ∈ l, z.2 ≠ id) :
    Calls Try.prog 9 #[.pointer (some ⟨pq, 0, none⟩), .int .i64 id] w fun e w' => e = .returned (.bool false) ∧ Below w.heap.size w w' := by
  have hlk := look_out h.1 hf hn
  have c6 : w.cell? ⟨pq, 1, none⟩ = some (.map (some pm)) := blk_cell h.1.blk 1
  clear h hn
  go_enter Try.func9, Try.ntmps9
  go_wp2
  go_returns
  exact ⟨rfl, Below.refl _ _⟩

theorem when_in {w : World} {B pq pm : Nat} {v : Value} {l : List It} (h : HIs w B pq pm v l) (i : Nat) (x : It) (hi : l[i]? = some x) :
    Calls Try.prog 18 #[.pointer (some ⟨pq, 0, none⟩), .int .i64 x.2] w fun e w' => e = .returned (.tuple #[.int .i64 x.1, .bool true]) ∧ Below w.heap.size w w' := by
  have hil := (List.getElem?_eq_some_iff.1 hi).1
  have hlk := look_in h.1 hi
  obtain ⟨g, cap, rfl, hcap, _, hgl, hgq, hgm, hfr, hcl⟩ := h.1.some (by omega)
  have c1 : w.cell? ⟨pq, 0, none⟩ = some (.slice (some ⟨g, 0, none⟩) l.length cap) := blk_cell h.1.blk 0
  have c6 : w.cell? ⟨pq, 1, none⟩ = some (.map (some pm)) := blk_cell h.1.blk 1
  have c2 := (hcl i x hi).1
  have i0 : (0 : Int) ≤ (i : Int) := by omega
  have i1 : (i : Int) < l.length := by omega
  clear h hi hcl hfr
  go_enter Try.func18, Try.ntmps18
  go_wp2
  go_returns
  exact ⟨rfl, Below.refl _ _⟩
theorem when_out {w : World} {B pq pm : Nat} {v : Value} {l : List It} (h : HIs w B pq pm v l) (id : Int) (hf : Fits id) (hn : ∀ z ∈ l, z.2 ≠ id) :
    Calls Try.prog 18 #[.pointer (some ⟨pq, 0, none⟩), .int .i64 id] w fun e w' => e = .returned (.tuple #[.int .i64 0, .bool false]) ∧ Below w.heap.size w w' := by
  have hlk := look_out h.1 hf hn
  have c6 : w.cell? ⟨pq, 1, none⟩ = some (.map (some pm)) := blk_cell h.1.blk 1
  clear h hn
  go_enter Try.func18, Try.ntmps18
  go_wp2
  go_returns
  exact ⟨rfl, Below.refl _ _⟩

theorem qlen_any {w : World} {B pq pm : Nat} {v : Value} {l : List It} (h : HIs w B pq pm v l) : Calls Try.prog 20 #[.pointer (some ⟨pq, 0, none⟩)] w fun e w' => e = .returned (.int .i64 (l.length : Nat)) ∧ Below w.heap.size w w' := by
  obtain ⟨a, c, rfl⟩ := q_slice h.1
  have c1 : w.cell? ⟨pq, 0, none⟩ = some (.slice a l.length c) := blk_cell h.1.blk 0
  clear h
  go_enter Try.func20, Try.ntmps20
  go_wp2
  go_returns
  exact ⟨rfl, Below.refl _ _⟩
/-- Two results, the first one a struct in memory. -/
theorem results_row_tmp {P : Program} {fn : Func} {p u : Tmp} {ty : TypeId} (h : fn.results = #[.cell p ty, .tmp u]) (tmps : Array Value) (w : World) (g : Nat) (t : TypeId) (cs : Array Value) (fr : Nat × Nat) (d : TypeDesc)
    (hp : tmps.getD p undef = .pointer (some ⟨g, 0, none⟩)) (hg : w.heap[g]? = some (.cells cs t fr))
    (hu : P.underlying ty = some d) (hd : (match d with | .struct _ | .array _ _ => true | _ => false) = true) (hi : (P.info? ty).map (·.size) = some cs.size) :
    (results fn tmps).run P w = .ok (.tuple #[.agg cs, tmps.getD u undef]) w := by
  rw [results_cell_tmp h, hp]
  simp [asAddr, run_loadVar_row w g t ty cs fr d hg hu hd hi]

theorem next_none {w : World} {B pq pm : Nat} {v : Value} (h : HIs w B pq pm v []) : Calls Try.prog 17 #[.pointer (some ⟨pq, 0, none⟩)] w fun e w' => e = .returned (.tuple #[.agg #[.int .i64 0, .int .i64 0], .bool false]) ∧ Below w.heap.size w w' := by
  have K := fun W (hb : Below w.heap.size w W) => qlen_any (show HIs W B pq pm v [] from ⟨h.1.grow hb, h.2⟩)
  have HK := Lib.hid (show ∀ W, Below w.heap.size w W → Calls Try.prog 20 #[.pointer (some ⟨pq, 0, none⟩)] W fun e w' => e = .returned (.int .i64 0) ∧ Below W.heap.size W w' from K)
  have HB := Lib.hid (Below.refl w.heap.size w)
  clear K h
  go_enter Try.func17, Try.ntmps17
  go_wp2_with (first | ((with_reducible refine (HK.out _ ?hb).mono ?_); (case hb => exact bta HB.out _); rintro e w2 ⟨rfl, hb⟩; obtain ⟨pt, hpt⟩ : ∃ pt, pt = w.heap.size := ⟨_, rfl⟩; have ht := blk_grow hb (blk_new (o := .cells #[.int .i64 0, .int .i64 0] 43 (0, 0)) hpt); have B2 := Lib.hid (bt (bta HB.out _) hb); have HT := Lib.hid ht; have HPT := Lib.hid hpt; rw [← hpt]; have d1 : w2.cell? ⟨pt, 0, none⟩ = some (.int .i64 0) := blk_cell ht 0; have d2 : w2.cell? ⟨pt, 1, none⟩ = some (.int .i64 0) := blk_cell ht 1; have d3 := blk_free ht 0; have d4 := blk_free ht 1; clear hb ht hpt))
  exact bodyPost_ret (results_row_tmp Try.results17 _ _ pt 43 _ _ _ rfl (blk_set (blk_set HT.out 0 _) 1 _) Try.underlying43 rfl (by kernel_rfl)) rfl ⟨rfl, bst (bst B2.out (by rw [HPT.out]; exact Nat.le_refl _) _) (by rw [HPT.out]; exact Nat.le_refl _) _⟩

theorem next_some {w : World} {B pq pm : Nat} {v : Value} {l : List It} (h : HIs w B pq pm v l) (x : It) (hx : l[0]? = some x) : Calls Try.prog 17 #[.pointer (some ⟨pq, 0, none⟩)] w fun e w' => e = .returned (.tuple #[.agg #[.int .i64 x.1, .int .i64 x.2], .bool true]) ∧ Below w.heap.size w w' := by
  have hil := (List.getElem?_eq_some_iff.1 hx).1
  have K := fun W (hb : Below w.heap.size w W) => qlen_any (show HIs W B pq pm v l from ⟨h.1.grow hb, h.2⟩)
  have HK := Lib.hid K
  have HB := Lib.hid (Below.refl w.heap.size w)
  obtain ⟨g, cap, rfl, hcap, _, hgl, hgq, hgm, hfr, hcl⟩ := h.1.some (by omega)
  have c1 : w.cell? ⟨pq, 0, none⟩ = some (.slice (some ⟨g, 0, none⟩) l.length cap) := blk_cell h.1.blk 0
  obtain ⟨c2, c3⟩ := hcl 0 x hx
  have hq := h.1.ltq
  have i1 : (0 : Int) < l.length := by omega
  have i2 : ((l.length : Int) == 0) = false := by simp; intro e; rw [e] at hil; simp at hil
  have i3 : ¬ (l.length : Int) = 0 := by omega
  clear K h hx hcl hfr
  go_enter Try.func17, Try.ntmps17
  go_wp2_with (first | ((with_reducible refine (HK.out _ ?hb).mono ?_); (case hb => exact bta HB.out _); rintro e w2 ⟨rfl, hb⟩; obtain ⟨pt, hpt⟩ : ∃ pt, pt = w.heap.size := ⟨_, rfl⟩; have ht := blk_grow hb (blk_new (o := .cells #[.int .i64 0, .int .i64 0] 43 (0, 0)) hpt); have B2 := Lib.hid (bt (bta HB.out _) hb); have HT := Lib.hid ht; have HPT := Lib.hid hpt; rw [← hpt]; have d1 : w2.cell? ⟨pt, 0, none⟩ = some (.int .i64 0) := blk_cell ht 0; have d2 : w2.cell? ⟨pt, 1, none⟩ = some (.int .i64 0) := blk_cell ht 1; have d3 := blk_free ht 0; have d4 := blk_free ht 1; have d5 := cell_below B2.out c1; have d6 : w2.cell? ⟨g, 0, none⟩ = some (.int .i64 x.1) := cell_below B2.out c2; have d7 : w2.cell? ⟨g, 1, none⟩ = some (.int .i64 x.2) := cell_below B2.out c3; clear hb ht hpt))
  exact bodyPost_ret (results_row_tmp Try.results17 _ _ pt 43 _ _ _ rfl (blk_set (blk_set HT.out 0 _) 1 _) Try.underlying43 rfl (by kernel_rfl)) rfl ⟨rfl, bst (bst B2.out (by rw [HPT.out]; exact Nat.le_refl _) _) (by rw [HPT.out]; exact Nat.le_refl _) _⟩
end Go.Proofs.Ytickfnedplbleaa
