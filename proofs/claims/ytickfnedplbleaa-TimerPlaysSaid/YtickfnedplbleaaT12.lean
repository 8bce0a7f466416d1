/- The contracts of New, Set, Stop of a queue that is there. -/
import Derived.Test.YtickfnedplbleaaT11
namespace Go.Proofs.Ytickfnedplbleaa
open Go.RowKit
open Go.Maps (Keyed has size Tidy IsMap)
attribute [local go_sem] cell_over frozen_over lt_over le_over ne_over over_ne cell_set_same softAt softUpon lightUpon heavyUpon cell_kept frozen_kept

theorem look_in {w : World} {B pq pm : Nat} {v : Value} {l : List It} (h : QIs w B pq pm v l) {i : Nat} {x : It} (hi : l[i]? = some x) : (Instr.lookup 59 (.map (some pm)) (.int .i64 x.2) true).run Try.prog w = .ok (.tuple #[.int .i64 i, .bool true]) w := by
  obtain ⟨D, hM, hP⟩ := h.places
  obtain ⟨h1, h2⟩ := hP.1 i x hi
  obtain ⟨c, hr, hc⟩ := hM.look (h.good x (List.mem_of_getElem? hi)).fits
  rw [h2] at hc
  cases hc
  rw [h1] at hr
  exact hr
theorem look_out {w : World} {B pq pm : Nat} {v : Value} {l : List It} (h : QIs w B pq pm v l) {id : Int} (hf : Fits id) (hn : ∀ z ∈ l, z.2 ≠ id) : (Instr.lookup 59 (.map (some pm)) (.int .i64 id) true).run Try.prog w = .ok (.tuple #[.int .i64 0, .bool false]) w := by
  obtain ⟨D, hM, hP⟩ := h.places
  have h1 : has D (.int .i64 id) = false := by
    cases e : has D (.int .i64 id) with
    | false => rfl
    | true =>
      obtain ⟨z, hz, he⟩ := hP.2 _ e
      exact absurd he (hn z hz)
  obtain ⟨c, hr, hc⟩ := hM.look hf
  rw [Maps.atKey_of_not_has h1] at hc
  cases hc
  rw [h1] at hr
  exact hr

/-- What New tells, and leaves. -/
def NewIs (w : World) (e : Ending) (w' : World) : Prop := ∃ pq pm, e = .returned (.pointer (some ⟨pq, 0, none⟩)) ∧ Below w.heap.size w w' ∧ HIs w' w.heap.size pq pm (.slice none 0 0) []
theorem new_any (w : World) : Calls Try.prog 8 #[] w (NewIs w) := by
  have hmm := @run_makeMap Try.prog
  go_enter Try.func8, Try.ntmps8
  go_wp2
  go_returns
  refine ⟨w.heap.size + 1, w.heap.size, by simp, bta (bta (Below.refl _ _) _) _, ⟨?_, World.ownsRow_nil _ _ _ _, ⟨.map [], ?_, ?_⟩, by simp, by simp, by simp, by omega, by omega⟩, fun c h1 h2 => by simp at h2⟩
  · exact blk_new (by simp)
  · exact MapAt.same (show MapAt (w.alloc (.map #[] 0)) w.heap.size 0 (.map []) from ⟨World.ownsMap_made w _ _ _, rfl⟩) (Below.heap_alloc _ _ _ (by simp))
  · exact ⟨fun i x h => by simp at h, fun id h => by simp [Maps.has_eq] at h⟩

theorem set_range {w : World} {pq : Nat} (id a : Int) (hr : id < 0 ∨ 4611686018427387903 < id ∨ a < 0 ∨ 1099511627776 < a) : Calls Try.prog 15 #[.pointer (some ⟨pq, 0, none⟩), .int .i64 id, .int .i64 a] w fun e w' => e = .returned (.int .i64 8) ∧ Below w.heap.size w w' := by
  rcases (show id < 0 ∨ (¬ id < 0 ∧ 4611686018427387903 < id) ∨ (¬ id < 0 ∧ ¬ 4611686018427387903 < id ∧ a < 0) ∨ (¬ id < 0 ∧ ¬ 4611686018427387903 < id ∧ ¬ a < 0 ∧ 1099511627776 < a) by omega) with h | ⟨h1, h⟩ | ⟨h1, h2, h⟩ | ⟨h1, h2, h3, h⟩
  all_goals
    clear hr
    go_enter Try.func15, Try.ntmps15
    go_wp2
    go_returns
    exact ⟨rfl, Below.refl _ _⟩

/-- The item at i gets a new time. -/
theorem q_put {w : World} {B pq pm : Nat} {v : Value} {l : List It} (h : QIs w B pq pm v l) {i : Nat} {x : It} (hi : l[i]? = some x) {a : Int} (ha : 0 ≤ a ∧ a ≤ 1099511627776) {g cap : Nat} (hv : v = .slice (some ⟨g, 0, none⟩) l.length cap) :
    QIs (w.setCell ⟨g, i * 2, none⟩ (.int .i64 a)) B pq pm v (l.set i (a, x.2)) ∧ Step w (w.setCell ⟨g, i * 2, none⟩ (.int .i64 a)) pq pm v v := by
  subst hv
  have hil := (List.getElem?_eq_some_iff.1 hi).1
  have hrow := h.row
  obtain ⟨h1, g1⟩ := hrow.stored (i * 2) (.int .i64 a)
  obtain ⟨hgq, hgm⟩ := h.apart.2 g rfl
  obtain ⟨D, hM, hP⟩ := h.places
  have hmap : (l.set i (a, x.2)).map (·.2) = l.map (·.2) := by
    rw [List.map_set]
    apply List.ext_getElem?
    intro j
    by_cases hj : j = i
    · subst hj
      rw [List.getElem?_set_self (by simpa using hil), List.getElem?_map, hi]
      rfl
    · rw [List.getElem?_set_ne (fun e => hj e.symm)]
  refine ⟨⟨(blk_far (fun e => hgq e.symm)).trans h.blk, ?_, ⟨D, ?_, ?_, ?_⟩, ?_, by rw [hmap]; exact h.ids, by simpa using h.len, h.lowq, h.lowm⟩, Step.row g1⟩
  · rw [List.length_set, itvs_set l i _ hil]
    have e : ((itvs l).set (i * 2) (Value.int .i64 a)).set (i * 2 + 1) (.int .i64 x.2) = (itvs l).set (i * 2) (.int .i64 a) := by
      apply List.ext_getElem?
      intro j
      by_cases hj : j = i * 2 + 1
      · subst hj
        rw [List.getElem?_set_self (by rw [List.length_set, itvs_len]; omega), List.getElem?_set_ne (by omega), (itvs_at l i x hi).2]
      · rw [List.getElem?_set_ne (fun e => hj e.symm)]
    rw [e]
    exact h1
  · rw [List.length_set]
    exact hM.same (blk_far (fun e => hgm e.symm))
  · intro j z hj
    by_cases hji : j = i
    · subst hji
      rw [List.getElem?_set_self hil] at hj
      cases hj
      exact hP.1 j x hi
    · rw [List.getElem?_set_ne (fun e => hji e.symm)] at hj
      exact hP.1 j z hj
  · intro id hid
    obtain ⟨z, hz, he⟩ := hP.2 id hid
    have : id ∈ (l.set i (a, x.2)).map (·.2) := by rw [hmap]; exact List.mem_map.2 ⟨z, hz, he⟩
    obtain ⟨z', hz', he'⟩ := List.mem_map.1 this
    exact ⟨z', hz', he'⟩
  · intro z hz
    rcases List.mem_or_eq_of_mem_set hz with hz | rfl
    · exact h.good z hz
    · have := h.good x (List.mem_of_getElem? hi)
      exact ⟨ha.1, ha.2, this.2.2.1, this.2.2.2⟩

set_option maxRecDepth 100000 in
set_option maxHeartbeats 4000000 in
theorem set_old {w : World} {B pq pm : Nat} {v : Value} {l : List It} (h : HIs w B pq pm v l) (i : Nat) (x : It) (hi : l[i]? = some x) (a : Int) (ha : 0 ≤ a ∧ a ≤ 1099511627776) :
    Calls Try.prog 15 #[.pointer (some ⟨pq, 0, none⟩), .int .i64 x.2, .int .i64 a] w (QStep w B pq pm v (.int .i64 0) fun l' => l'.Perm (l.set i (a, x.2))) := by
  have hil := (List.getElem?_eq_some_iff.1 hi).1
  have hll := h.1.len
  have hlk := look_in h.1 hi
  have hgx := h.1.good x (List.mem_of_getElem? hi)
  obtain ⟨_, _, g3, g4⟩ := hgx
  obtain ⟨g, cap, rfl, hcap, _, hgl, hgq, hgm, hfr, hcl⟩ := h.1.some (by omega)
  have c1 : w.cell? ⟨pq, 0, none⟩ = some (.slice (some ⟨g, 0, none⟩) l.length cap) := blk_cell h.1.blk 0
  have c6 : w.cell? ⟨pq, 1, none⟩ = some (.map (some pm)) := blk_cell h.1.blk 1
  have c2 := (hcl i x hi).1
  have f2 := hfr (i * 2)
  obtain ⟨hq2, hs2⟩ := q_put h.1 hi ha rfl
  have hx0 : itAt l i = x := itAt_of hi
  have hd : DownN (l.set i (a, x.2)).length i i (l.set i (a, x.2)) := by
    rw [List.length_set]
    refine heap_put h.2 fun c h1 h2 => ?_
    unfold itAt
    simp only [List.getD_eq_getElem?_getD]
    rw [List.getElem?_set_ne (fun e => h2 e.symm)]
  have HFX := Lib.hid (hfix_any hq2 i (by simpa using hil) hd)
  have HS2 := Lib.hid hs2
  have i0 : (0 : Int) ≤ (i : Int) := by omega
  have i1 : (i : Int) < l.length := by omega
  have r1 : ¬ x.2 < 0 := by omega
  have r2 : ¬ 4611686018427387903 < x.2 := by omega
  have r3 : ¬ a < 0 := by omega
  have r4 : ¬ 1099511627776 < a := by omega
  clear h hi hd hq2 hs2 hfr hcl hx0 ha
  go_enter Try.func15, Try.ntmps15
  go_wp2_with (first | ((with_reducible refine (HFX.out).mono ?_); refine unhalt ?_))
  unfold Halted
  rintro e w4 ⟨rfl, v', l', h1, h2, h3⟩
  have HF := Lib.hid (show ∃ v' l', Step w w4 pq pm (.slice (some ⟨g, 0, none⟩) l.length cap) v' ∧ HIs w4 B pq pm v' l' ∧ l'.Perm (l.set i (a, x.2)) from ⟨v', l', HS2.out.trans h1, h2, h3⟩)
  clear h1 h2 h3
  dsimp only
  go_wp2
  go_returns
  exact ⟨rfl, HF.out⟩
end Go.Proofs.Ytickfnedplbleaa
