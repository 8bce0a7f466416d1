/- The contract of Swap of a place with itself, and of Swap whatever the places. -/
import Derived.Test.YtickfnedplbleaaT4
namespace Go.Proofs.Ytickfnedplbleaa
open Go.RowKit
open Go.Maps (Keyed has size Tidy IsMap)
attribute [local go_sem] cell_over frozen_over lt_over le_over ne_over over_ne cell_set_same softAt softUpon lightUpon heavyUpon cell_kept frozen_kept

theorem places_self {D : D0} {l : List It} (h : Places D l) (hD : Tidy D) (hn : (l.map (·.2)).Nodup) {i : Nat} {x : It} (hi : l[i]? = some x) :
    Places ((D.put (.int .i64 x.2) (.lit (.int .i64 (i : Int)))).put (.int .i64 x.2) (.lit (.int .i64 (i : Int)))) l := by
  have hT : Tidy (D.put (.int .i64 x.2) (.lit (.int .i64 (i : Int)))) := hD.put (by trivial) _
  refine ⟨fun j z hj => ?_, fun id hid => ?_⟩
  · by_cases hji : j = i
    · subst hji
      rw [hi] at hj
      cases hj
      exact ⟨Maps.has_put_same hT.isMap (by trivial) _, at_put_same hT.isMap _ _ _⟩
    · have hne : z.2 ≠ x.2 := fun e => hji (ids_inj hn hj hi e)
      rw [Maps.has_put_other (int_ne hne), Maps.atKey_put_other (int_ne hne), Maps.has_put_other (int_ne hne), Maps.atKey_put_other (int_ne hne)]
      exact h.1 j z hj
  · by_cases e1 : id = x.2
    · exact ⟨x, List.mem_of_getElem? hi, e1.symm⟩
    · rw [Maps.has_put_other (int_ne e1), Maps.has_put_other (int_ne e1)] at hid
      exact h.2 id hid
theorem set_at {l : List It} {i : Nat} {x : It} (hi : l[i]? = some x) : (l.set i x).set i x = l := by
  obtain ⟨h1, rfl⟩ := List.getElem?_eq_some_iff.1 hi
  simp

set_option maxRecDepth 100000 in
set_option maxHeartbeats 4000000 in
theorem swap_self {w : World} {B pq pm : Nat} {v : Value} {l : List It} (h : QIs w B pq pm v l) (i : Nat) (x : It) (hi : l[i]? = some x) : Calls Try.prog 75 #[.pointer (some ⟨pq, 0, none⟩), .int .i64 i, .int .i64 i] w
    fun e w' => e = .returned (.tuple #[]) ∧ Step w w' pq pm v v ∧ QIs w' B pq pm v ((l.set i x).set i x) := by
  have hil := (List.getElem?_eq_some_iff.1 hi).1
  have HQ := Lib.hid h
  obtain ⟨g, cap, rfl, hcap, _, hgl, hgq, hgm, hfr, hcl⟩ := h.some (by omega)
  have c1 : w.cell? ⟨pq, 0, none⟩ = some (.slice (some ⟨g, 0, none⟩) l.length cap) := blk_cell h.blk 0
  have c6 : w.cell? ⟨pq, 1, none⟩ = some (.map (some pm)) := blk_cell h.blk 1
  obtain ⟨c2, c3⟩ := hcl i x hi
  have f2 := hfr (i * 2)
  have f3 := hfr (i * 2 + 1)
  have i0 : (0 : Int) ≤ (i : Int) := by omega
  have i1 : (i : Int) < l.length := by omega
  have hq := h.ltq
  clear hcl h hfr
  go_enter Try.func75, Try.ntmps75
  go_wp2
  go_region
  obtain ⟨hw1, g1⟩ := row_put HQ.out.row i x hil
  obtain ⟨hw2, g2⟩ := row_put (l := l.set i x) (by simpa using hw1) i x (by simpa using hil)
  have G := grown_trans g1 g2
  obtain ⟨D, hM, hP⟩ := HQ.out.places
  have li : ((l.set i x).set i x)[i]? = some x := by simp [hil]
  have H2 := Lib.hid hw2
  have HG := Lib.hid G
  have HM := Lib.hid hM
  have HP := Lib.hid hP
  clear hw1 hw2 g1 g2 G hM hP
  go_wp2
  refine wp_chain [pm] [26, 28, 29, 31] [] (by kernel_rfl) (by kernel_rfl) ?_
  intro w0 hb0 hh0
  have hr0 := own_heap H2.out hh0
  rw [List.length_set] at hr0
  have hr1 := hr0
  rw [List.length_set] at hr1
  have hlen : ((l.set i x).set i x).length = l.length := by simp
  obtain ⟨d2, d3⟩ := row_cells (l := (l.set i x).set i x) (by rw [hlen]; rw [hlen] at hr0; exact hr0) li
  have S0 : Step w w0 pq pm (.slice (some ⟨g, 0, none⟩) l.length cap) (.slice (some ⟨g, 0, none⟩) l.length cap) := by
    have s := Step.row (pq := pq) (pm := pm) (v := .slice (some ⟨g, 0, none⟩) l.length cap) HG.out
    exact s.trans (Step.of ⟨hb0.os, hb0.tape, hb0.output, hb0.size, hb0.block⟩)
  have b0 : w0.heap[pq]? = w.heap[pq]? := (congrArg (·[pq]?) hh0).trans (HG.out.block pq hq (by simpa using fun e => hgq e.symm))
  have m0 : w0.heap[pm]? = w.heap[pm]? := (congrArg (·[pm]?) hh0).trans (HG.out.block pm HQ.out.ltm (by simpa using fun e => hgm e.symm))
  have M0 := HM.out.same m0
  have hfx : Fits x.2 := (HQ.out.good x (List.mem_of_getElem? hi)).fits
  have hll := HQ.out.len
  have hln : l.length < maxLen := by unfold maxLen; omega
  have hasx := (HP.out.1 i x hi).1
  have hiy : Fits (i : Int) := ⟨by omega, by omega⟩
  obtain ⟨v1, st1, w1, E1, m1, G1, F1⟩ := M0.entry hln hfx hasx
  obtain ⟨w2, E2, M2, G2⟩ := F1 w1 i m1 hiy
  have hasx2 : has (D.put (.int .i64 x.2) (.lit (.int .i64 (i : Int)))) (.int .i64 x.2) = true := by
    exact Maps.has_put_same M0.tidy.isMap (by trivial) _
  obtain ⟨v3, st3, w3, E3, m3, G3, F3⟩ := M2.entry hln hfx hasx2
  obtain ⟨w4, E4, M4, G4⟩ := F3 w3 i m3 hiy
  have K1 := kept_of G1
  have K2 := kept_of G2
  have K3 := kept_of G3
  have K4 := kept_of G4
  have S1 := Lib.hid (((((S0.trans (Step.map G1)).trans (Step.map G2)).trans (Step.map G3)).trans (Step.map G4)))
  have GA := Lib.hid (grown_trans (grown_trans (grown_trans G1 G2) G3) G4)
  have M5 := Lib.hid M4
  have HR0 := Lib.hid hr0
  have HTD := Lib.hid M0.tidy
  have c1 : w0.cell? ⟨pq, 0, none⟩ = some (.slice (some ⟨g, 0, none⟩) l.length cap) := blk_cell (b0.trans HQ.out.blk) 0
  have c6 : w0.cell? ⟨pq, 1, none⟩ = some (.map (some pm)) := blk_cell (b0.trans HQ.out.blk) 1
  have q0 : pq < w0.heap.size := Nat.lt_of_lt_of_le hq S0.size
  have q1 : g < w0.heap.size := Nat.lt_of_lt_of_le hgl S0.size
  have q2 : pq ≠ pm := HQ.out.apart.1
  have B0 := Lib.hid b0
  clear M0 M2 M4 F1 F3 m1 m3 G1 G2 G3 G4 hr0 hr1 hh0 hb0 S0 m0 b0 hasx hasx2 HM HG H2 c2 c3 f2 f3
  iterate 26
    refine chain_now (by rfl) (by rfl) (fun K hK => ?_)
    replace hK := Lib.hid hK
    go_simp
    refine hK.out _ _ ?_; clear hK K
  refine chain_do (by rfl) (fun K hK => ?_)
  replace hK := Lib.hid hK
  go_simp
  refine hK.out _ _ ?_; clear hK K
  refine chain_now (by rfl) (by rfl) (fun K hK => ?_)
  replace hK := Lib.hid hK
  go_simp
  refine hK.out _ _ ?_; clear hK K
  refine chain_do (by rfl) (fun K hK => ?_)
  replace hK := Lib.hid hK
  go_simp
  refine hK.out _ _ ?_; clear hK K
  refine chain_do (by rfl) (fun K hK => ?_)
  replace hK := Lib.hid hK
  go_simp
  refine hK.out _ _ ?_; clear hK K
  refine chain_now (by rfl) (by rfl) (fun K hK => ?_)
  replace hK := Lib.hid hK
  go_simp
  refine hK.out _ _ ?_; clear hK K
  refine chain_do (by rfl) (fun K hK => ?_)
  replace hK := Lib.hid hK
  go_simp
  refine hK.out _ _ ?_; clear hK K
  refine chain_end ?_
  go_wp2
  go_returns
  refine ⟨rfl, S1.out, ?_⟩
  refine ⟨?_, ?_, ⟨_, by rw [hlen]; exact M5.out, by rw [set_at hi]; exact places_self HP.out HTD.out HQ.out.ids hi⟩, ?_, ?_, by rw [hlen]; exact HQ.out.len, HQ.out.lowq, HQ.out.lowm⟩
  · rw [GA.out.block pq q0 (by simpa using q2), B0.out]
    exact HQ.out.blk
  · exact HR0.out.kept GA.out (.inr (by simpa [Value.ownBlock] using hgm))
  · intro z hz
    exact HQ.out.good z ((swap_perm hi hi).mem_iff.1 hz)
  · exact ((swap_perm hi hi).map (·.2)).nodup_iff.2 HQ.out.ids

theorem swap_all {w : World} {B pq pm : Nat} {v : Value} {l : List It} (h : QIs w B pq pm v l) (i k : Nat) (x y : It) (hi : l[i]? = some x) (hk : l[k]? = some y) : Calls Try.prog 75 #[.pointer (some ⟨pq, 0, none⟩), .int .i64 i, .int .i64 k] w
    fun e w' => e = .returned (.tuple #[]) ∧ Step w w' pq pm v v ∧ QIs w' B pq pm v ((l.set i y).set k x) := by
  by_cases hne : i = k
  · subst hne
    obtain rfl : x = y := by rw [hi] at hk; exact Option.some.inj hk
    exact swap_self h i x hi
  · exact swap_any h i k x y hi hk hne
end Go.Proofs.Ytickfnedplbleaa
