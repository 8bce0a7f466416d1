/- The contract of Pop of a queue's row. -/
import Derived.Test.YtickfnedplbleaaT6
namespace Go.Proofs.Ytickfnedplbleaa
open Go.RowKit
open Go.Maps (Keyed has size Tidy IsMap)
attribute [local go_sem] cell_over frozen_over lt_over le_over ne_over over_ne cell_set_same softAt softUpon lightUpon heavyUpon cell_kept frozen_kept

theorem places_pop {D : D0} {l : List It} {x : It} (h : Places D (l ++ [x])) (hn : ((l ++ [x]).map (·.2)).Nodup) : Places (D.del (.int .i64 x.2)) l := by
  have hne : ∀ z ∈ l, z.2 ≠ x.2 := fun z hz e => by
    rw [List.map_append, List.nodup_append] at hn
    exact hn.2.2 z.2 (List.mem_map_of_mem hz) x.2 (by simp) e
  refine ⟨fun j z hj => ?_, fun id hh => ?_⟩
  · have hl := (List.getElem?_eq_some_iff.1 hj).1
    have h2 := hne z (List.mem_of_getElem? hj)
    rw [Maps.has_del_other (int_ne h2), Maps.atKey_del_other (int_ne h2)]
    exact h.1 j z (by rw [List.getElem?_append_left hl]; exact hj)
  · by_cases e : id = x.2
    · subst e
      rw [Maps.has_del_same] at hh
      cases hh
    · rw [Maps.has_del_other (int_ne e)] at hh
      obtain ⟨u, hu, he⟩ := h.2 id hh
      rcases List.mem_append.1 hu with hu | hu
      · exact ⟨u, hu, he⟩
      · simp at hu
        subst hu
        exact absurd he.symm e
theorem row_cut {w : World} {B g cap : Nat} {l : List It} {x : It} (h : w.ownsRow B 43 2 (.slice (some ⟨g, 0, none⟩) (l ++ [x]).length cap) (l ++ [x]).length (itvs (l ++ [x]))) : w.ownsRow B 43 2 (.slice (some ⟨g, 0, none⟩) l.length cap) l.length (itvs l) := by
  obtain ⟨h1, ⟨h2, _⟩ | ⟨g', cap', cur, e, hg, hh, hn, hcm, hsc, ht⟩⟩ := h
  · cases h2
  · cases e
    refine ⟨itvs_len l, .inr ⟨g, cap, cur, rfl, hg, hh, by simp at hn; omega, hcm, hsc, ?_⟩⟩
    have e1 : itvs l = (itvs (l ++ [x])).take (l.length * 2) := by rw [← itvs_take]; simp
    rw [e1, ← ht, List.take_take]
    congr 1
    simp

set_option maxRecDepth 100000 in
set_option maxHeartbeats 4000000 in
theorem rowpop_any {w : World} {B pq pm : Nat} {v : Value} {l : List It} {x : It} (h : QIs w B pq pm v (l ++ [x])) : Calls Try.prog 73 #[.pointer (some ⟨pq, 0, none⟩)] w
    fun e w' => e = .returned (.iface 43 (.agg #[.int .i64 x.1, .int .i64 x.2])) ∧ ∃ v', Step w w' pq pm v v' ∧ QIs w' B pq pm v' l := by
  have hl1 : (l ++ [x]).length = l.length + 1 := by simp
  obtain ⟨g, cap, rfl, hcap, _, hgl, hgq, hgm, hfr, hcl⟩ := h.some (by omega)
  have HQ := Lib.hid h
  obtain ⟨c2, c3⟩ := hcl l.length x (by simp)
  have c1 : w.cell? ⟨pq, 0, none⟩ = some (.slice (some ⟨g, 0, none⟩) (l.length + 1) cap) := by rw [← hl1]; exact blk_cell h.blk 0
  have c6 : w.cell? ⟨pq, 1, none⟩ = some (.map (some pm)) := blk_cell h.blk 1
  have f1 : w.frozen? ⟨pq, 0, none⟩ = false := blk_free h.blk 0
  have hq := h.ltq
  have hm := h.ltm
  have q2 : pq ≠ pm := HQ.out.apart.1
  have hll := HQ.out.len
  rw [hl1] at hcap hll
  clear h hcl hfr
  rw [hl1]
  go_enter Try.func73, Try.ntmps73
  go_wp2
  have hb1 := blk_set HQ.out.blk 0 (.slice (some ⟨g, 0, none⟩) l.length cap)
  obtain ⟨pt, hpt⟩ : ∃ pt, pt = w.heap.size := ⟨_, rfl⟩
  obtain ⟨W1, hW1⟩ : ∃ W1, W1 = (w.setCell ⟨pq, 0, none⟩ (.slice (some ⟨g, 0, none⟩) l.length cap)).alloc (.cells #[.int .i64 x.1, .int .i64 x.2] 43) := ⟨_, rfl⟩
  rw [← hW1, ← hpt]
  have t1 : W1.heap[pt]? = some (.cells #[.int .i64 x.1, .int .i64 x.2] 43 (0, 0)) := by rw [hW1]; exact blk_new (by simpa using hpt)
  have b1 : W1.heap[pq]? = some (.cells #[.slice (some ⟨g, 0, none⟩) l.length cap, .map (some pm)] 63 (0, 0)) := by rw [hW1]; exact blk_old hb1
  have S1 : Step w W1 pq pm (.slice (some ⟨g, 0, none⟩) (l.length + 1) cap) (.slice (some ⟨g, 0, none⟩) l.length cap) := by
    rw [hW1]
    exact (Step.cell w pq pm (.slice (some ⟨g, 0, none⟩) (l.length + 1) cap) (.slice (some ⟨g, 0, none⟩) l.length cap) 0 _ fun k hk => .inl (by cases hk; rfl)).grow (bta (Below.refl _ _) _)
  have m1 : W1.heap[pm]? = w.heap[pm]? := by
    rw [hW1]
    exact (Below.heap_alloc _ _ _ (by simpa using hm)).trans (blk_far (fun e => q2 e.symm))
  have r1 : W1.ownsRow B 43 2 (.slice (some ⟨g, 0, none⟩) l.length cap) l.length (itvs l) := by
    rw [hW1]
    exact (own_far (row_cut HQ.out.row) fun k hk => by cases hk; exact hgq).alloc _
  have HPT := Lib.hid hpt
  have HS1 := Lib.hid S1
  have HM1 := Lib.hid m1
  have HR1 := Lib.hid r1
  have HT1 := Lib.hid t1
  have HB1 := Lib.hid b1
  clear hb1 hpt hW1 S1 m1 r1 t1 b1
  refine wp_chain [pm] [6] [] (by kernel_rfl) (by kernel_rfl) ?_
  intro w0 hb0 hh0
  obtain ⟨D, hM, hP⟩ := HQ.out.places
  have hx := HQ.out.good x (by simp)
  rw [hl1] at hM
  have M0 : MapAt w0 pm (l.length + 1) D := hM.same ((congrArg (·[pm]?) hh0).trans HM1.out)
  have hhas := (hP.1 l.length x (by simp)).1
  obtain ⟨w2, E2, M2, G2⟩ := M0.del hx.fits hhas 0
  have t0 : w0.heap[pt]? = some (.cells #[.int .i64 x.1, .int .i64 x.2] 43 (0, 0)) := blk_grow hb0 HT1.out
  have b0 : w0.heap[pq]? = some (.cells #[.slice (some ⟨g, 0, none⟩) l.length cap, .map (some pm)] 63 (0, 0)) := blk_grow hb0 HB1.out
  have d1 : w0.cell? ⟨pq, 0, none⟩ = some (.slice (some ⟨g, 0, none⟩) l.length cap) := blk_cell b0 0
  have d6 : w0.cell? ⟨pq, 1, none⟩ = some (.map (some pm)) := blk_cell b0 1
  have d7 : w0.cell? ⟨pt, 1, none⟩ = some (.int .i64 x.2) := blk_cell t0 1
  have q0 : pq < w0.heap.size := blk_lt b0
  have q3 : pt < w0.heap.size := blk_lt t0
  have q4 : pt ≠ pm := by have := HPT.out; omega
  have q5 : pt ≠ pq := by have := HPT.out; omega
  have K2 := kept_of G2
  have S2 := (HS1.out.grow hb0).trans (Step.map G2)
  have t2 : w2.heap[pt]? = some (.cells #[.int .i64 x.1, .int .i64 x.2] 43) := (G2.block pt q3 (by simpa using q4)).trans t0
  have b2 : w2.heap[pq]? = some (.cells #[.slice (some ⟨g, 0, none⟩) l.length cap, .map (some pm)] 63 (0, 0)) := (G2.block pq q0 (by simpa using q2)).trans b0
  have r2 := (own_below HR1.out hb0).kept G2 (.inr (by simpa [Value.ownBlock] using hgm))
  have hids := HQ.out.ids
  have hfin : QIs w2 B pq pm (.slice (some ⟨g, 0, none⟩) l.length cap) l :=
    ⟨b2, r2, ⟨_, M2, places_pop hP HQ.out.ids⟩, fun z hz => HQ.out.good z (by simp [hz]), by rw [List.map_append, List.nodup_append] at hids; exact hids.1, by omega, HQ.out.lowq, HQ.out.lowm⟩
  have e2 : w2.cell? ⟨pt, 0, none⟩ = some (.int .i64 x.1) := blk_cell t2 0
  have e3 : w2.cell? ⟨pt, 1, none⟩ = some (.int .i64 x.2) := blk_cell t2 1
  have HFIN := Lib.hid (show ∃ v', Step w w2 pq pm (.slice (some ⟨g, 0, none⟩) (l.length + 1) cap) v' ∧ QIs w2 B pq pm v' l from ⟨_, S2, hfin⟩)
  clear c1 c2 c3 c6 f1 hb0 hh0 hM hP M0 hhas M2 G2 t0 b0 S2 t2 b2 r2 hids hfin
  iterate 6
    refine chain_now (by rfl) (by rfl) (fun K hK => ?_)
    replace hK := Lib.hid hK
    go_simp
    refine hK.out _ _ ?_; clear hK K
  refine chain_do (by rfl) (fun K hK => ?_)
  replace hK := Lib.hid hK
  go_simp
  refine hK.out _ _ ?_; clear hK K
  refine chain_end ?_
  go_wp2
  go_returns
  exact ⟨rfl, HFIN.out⟩
end Go.Proofs.Ytickfnedplbleaa
