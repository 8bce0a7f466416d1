/- The contract of Swap. -/
import Derived.Test.YtickfnedplbleaaT3
import Derived.BigRegion
namespace Go.Proofs.Ytickfnedplbleaa
open Go.RowKit
open Go.Maps (Keyed has size Tidy IsMap)
attribute [local go_sem] cell_over frozen_over lt_over le_over ne_over over_ne cell_set_same softAt softUpon lightUpon heavyUpon cell_kept frozen_kept

theorem own_heap {w w' : World} {B E sz : Nat} {v : Value} {n : Nat} {xs : List Value} (h : w.ownsRow B E sz v n xs) (e : w'.heap = w.heap) : w'.ownsRow B E sz v n xs := by
  obtain ⟨h1, h2⟩ := h
  refine ⟨h1, h2.imp id ?_⟩
  rintro ⟨g, cap, cur, e', hg, hh, rest⟩
  exact ⟨g, cap, cur, e', hg, by rw [e]; exact hh, rest⟩
theorem row_cells {w : World} {B g cap : Nat} {l : List It} (hr : w.ownsRow B 43 2 (.slice (some ⟨g, 0, none⟩) l.length cap) l.length (itvs l)) {i : Nat} {x : It} (hx : l[i]? = some x) :
    w.cell? ⟨g, i * 2, none⟩ = some (.int .i64 x.1) ∧ w.cell? ⟨g, i * 2 + 1, none⟩ = some (.int .i64 x.2) := by
  obtain ⟨e1, e2⟩ := itvs_at l i x hx
  have hi : i < l.length := (List.getElem?_eq_some_iff.1 hx).1
  exact ⟨(hr.cellAt _ (by omega)).trans e1, (hr.cellAt _ (by omega)).trans e2⟩
/-- An item is written. -/
theorem row_put {w : World} {B g cap : Nat} {l : List It} (hr : w.ownsRow B 43 2 (.slice (some ⟨g, 0, none⟩) l.length cap) l.length (itvs l)) (i : Nat) (x : It) (hi : i < l.length) :
    ((w.setCell ⟨g, i * 2, none⟩ (.int .i64 x.1)).setCell ⟨g, i * 2 + 1, none⟩ (.int .i64 x.2)).ownsRow B 43 2 (.slice (some ⟨g, 0, none⟩) l.length cap) (l.set i x).length (itvs (l.set i x)) ∧
      w.grownBy ((w.setCell ⟨g, i * 2, none⟩ (.int .i64 x.1)).setCell ⟨g, i * 2 + 1, none⟩ (.int .i64 x.2)) (some g) := by
  obtain ⟨h1, g1⟩ := hr.stored (i * 2) (.int .i64 x.1)
  obtain ⟨h2, g2⟩ := h1.stored (i * 2 + 1) (.int .i64 x.2)
  rw [itvs_set l i x hi, List.length_set]
  exact ⟨h2, g2.os.trans g1.os, g2.tape.trans g1.tape, g2.output.trans g1.output, Nat.le_trans g1.size g2.size, fun k hk hn => (g2.block k (Nat.lt_of_lt_of_le hk g1.size) hn).trans (g1.block k hk hn)⟩
theorem grown_trans {a b c : World} {r : Option Nat} (h : a.grownBy b r) (k : b.grownBy c r) : a.grownBy c r :=
  ⟨k.os.trans h.os, k.tape.trans h.tape, k.output.trans h.output, Nat.le_trans h.size k.size, fun j hj hn => (k.block j (Nat.lt_of_lt_of_le hj h.size) hn).trans (h.block j hj hn)⟩

theorem kept_of {pm : Nat} {w w' : World} (h : w.grownBy w' (some pm)) : Kept [pm] w w' := ⟨h.size, fun b hb hn => h.block b hb (by simpa using hn)⟩
theorem at_put_same {D : D0} (hD : IsMap D) (id n : Int) (z : D0) : (D.put (.int .i64 id) (.lit (.int .i64 n))).atKey (.int .i64 id) z = .lit (.int .i64 n) := Maps.atKey_put_same hD (by trivial) _ _
theorem int_ne {a b : Int} (h : a ≠ b) : (Lit.int .i64 a) ≠ Lit.int .i64 b := fun e => h (by cases e; rfl)
theorem swap_perm {l : List It} {i k : Nat} {x y : It} (hi : l[i]? = some x) (hk : l[k]? = some y) : ((l.set i y).set k x).Perm l := by
  obtain ⟨h1, rfl⟩ := List.getElem?_eq_some_iff.1 hi
  obtain ⟨h2, rfl⟩ := List.getElem?_eq_some_iff.1 hk
  exact List.set_set_perm h1 h2
theorem ids_inj {l : List It} (hn : (l.map (·.2)).Nodup) {a b : Nat} {u z : It} (ha : l[a]? = some u) (hb : l[b]? = some z) (h : u.2 = z.2) : a = b := by
  have h1 : a < (l.map (·.2)).length := by rw [List.length_map]; exact (List.getElem?_eq_some_iff.1 ha).1
  exact (List.getElem?_inj h1 hn).1 (by rw [List.getElem?_map, List.getElem?_map, ha, hb]; simp [h])
/-- Two items change their places. -/
theorem places_swap {D : D0} {l : List It} (h : Places D l) (hD : Tidy D) (hn : (l.map (·.2)).Nodup) {i k : Nat} {x y : It} (hi : l[i]? = some x) (hk : l[k]? = some y) :
    Places ((D.put (.int .i64 y.2) (.lit (.int .i64 (i : Int)))).put (.int .i64 x.2) (.lit (.int .i64 (k : Int)))) ((l.set i y).set k x) := by
  have hil := (List.getElem?_eq_some_iff.1 hi).1
  have hkl := (List.getElem?_eq_some_iff.1 hk).1
  have hT : Tidy (D.put (.int .i64 y.2) (.lit (.int .i64 (i : Int)))) := hD.put (by trivial) _
  have hp := swap_perm hi hk
  refine ⟨fun j z hj => ?_, fun id hid => ?_⟩
  · by_cases hjk : j = k
    · subst hjk
      rw [List.getElem?_set_self (by simpa using hkl)] at hj
      cases hj
      exact ⟨Maps.has_put_same hT.isMap (by trivial) _, at_put_same hT.isMap _ _ _⟩
    · rw [List.getElem?_set_ne (fun e => hjk e.symm)] at hj
      by_cases hji : j = i
      · subst hji
        rw [List.getElem?_set_self hil] at hj
        cases hj
        have hne : y.2 ≠ x.2 := fun e => hjk (ids_inj hn hi hk e.symm)
        rw [Maps.has_put_other (int_ne hne), Maps.atKey_put_other (int_ne hne)]
        exact ⟨Maps.has_put_same hD.isMap (by trivial) _, at_put_same hD.isMap _ _ _⟩
      · rw [List.getElem?_set_ne (fun e => hji e.symm)] at hj
        have hne : z.2 ≠ x.2 := fun e => hji (ids_inj hn hj hi e)
        have hne2 : z.2 ≠ y.2 := fun e => hjk (ids_inj hn hj hk e)
        rw [Maps.has_put_other (int_ne hne), Maps.atKey_put_other (int_ne hne), Maps.has_put_other (int_ne hne2), Maps.atKey_put_other (int_ne hne2)]
        exact h.1 j z hj
  · have go : ∀ u, u ∈ l → u ∈ (l.set i y).set k x := fun u hu => hp.mem_iff.2 hu
    by_cases e1 : id = x.2
    · exact ⟨x, go x (List.mem_of_getElem? hi), e1.symm⟩
    · rw [Maps.has_put_other (int_ne e1)] at hid
      by_cases e2 : id = y.2
      · exact ⟨y, go y (List.mem_of_getElem? hk), e2.symm⟩
      · rw [Maps.has_put_other (int_ne e2)] at hid
        obtain ⟨u, hu, he⟩ := h.2 id hid
        exact ⟨u, go u hu, he⟩

set_option maxRecDepth 100000 in
set_option maxHeartbeats 4000000 in
theorem swap_any {w : World} {B pq pm : Nat} {v : Value} {l : List It} (h : QIs w B pq pm v l) (i k : Nat) (x y : It) (hi : l[i]? = some x) (hk : l[k]? = some y) (hne : i ≠ k) : Calls Try.prog 75 #[.pointer (some ⟨pq, 0, none⟩), .int .i64 i, .int .i64 k] w
    fun e w' => e = .returned (.tuple #[]) ∧ Step w w' pq pm v v ∧ QIs w' B pq pm v ((l.set i y).set k x) := by
  have hil := (List.getElem?_eq_some_iff.1 hi).1
  have hkl := (List.getElem?_eq_some_iff.1 hk).1
  have HQ := Lib.hid h
  obtain ⟨g, cap, rfl, hcap, _, hgl, hgq, hgm, hfr, hcl⟩ := h.some (by omega)
  have c1 : w.cell? ⟨pq, 0, none⟩ = some (.slice (some ⟨g, 0, none⟩) l.length cap) := blk_cell h.blk 0
  have c6 : w.cell? ⟨pq, 1, none⟩ = some (.map (some pm)) := blk_cell h.blk 1
  obtain ⟨c2, c3⟩ := hcl i x hi
  obtain ⟨c4, c5⟩ := hcl k y hk
  have f2 := hfr (i * 2)
  have f3 := hfr (i * 2 + 1)
  have f4 := hfr (k * 2)
  have f5 := hfr (k * 2 + 1)
  have i0 : (0 : Int) ≤ (i : Int) := by omega
  have i1 : (i : Int) < l.length := by omega
  have k0 : (0 : Int) ≤ (k : Int) := by omega
  have k1 : (k : Int) < l.length := by omega
  have hq := h.ltq
  clear hcl h hfr
  go_enter Try.func75, Try.ntmps75
  go_wp2
  go_region
  obtain ⟨hw1, g1⟩ := row_put HQ.out.row i y hil
  obtain ⟨hw2, g2⟩ := row_put (l := l.set i y) (by simpa using hw1) k x (by simpa using hkl)
  have G := grown_trans g1 g2
  obtain ⟨D, hM, hP⟩ := HQ.out.places
  have li : ((l.set i y).set k x)[i]? = some y := by rw [List.getElem?_set_ne (fun e => hne e.symm)]; simp [hil]
  have lk : ((l.set i y).set k x)[k]? = some x := by simp [hkl]
  have H2 := Lib.hid hw2
  have HG := Lib.hid G
  have HM := Lib.hid hM
  have HP := Lib.hid hP
  clear hw1 hw2 g1 g2 G hM hP
  go_wp2
  refine wp_chain [pm] [26, 28, 29, 31] [] (by kernel_rfl) (by kernel_rfl) ?_
  intro w0 hb0 hh0
  have hr0 := own_heap H2.out hh0
  rw [List.length_set] at hr0
  have hr1 := hr0
  rw [List.length_set] at hr1
  have hlen : ((l.set i y).set k x).length = l.length := by simp
  obtain ⟨d2, d3⟩ := row_cells (l := (l.set i y).set k x) (by rw [hlen]; rw [hlen] at hr0; exact hr0) li
  obtain ⟨d4, d5⟩ := row_cells (l := (l.set i y).set k x) (by rw [hlen]; rw [hlen] at hr0; exact hr0) lk
  have S0 : Step w w0 pq pm (.slice (some ⟨g, 0, none⟩) l.length cap) (.slice (some ⟨g, 0, none⟩) l.length cap) := by
    have s := Step.row (pq := pq) (pm := pm) (v := .slice (some ⟨g, 0, none⟩) l.length cap) HG.out
    exact s.trans (Step.of ⟨hb0.os, hb0.tape, hb0.output, hb0.size, hb0.block⟩)
  have b0 : w0.heap[pq]? = w.heap[pq]? := (congrArg (·[pq]?) hh0).trans (HG.out.block pq hq (by simpa using fun e => hgq e.symm))
  have m0 : w0.heap[pm]? = w.heap[pm]? := (congrArg (·[pm]?) hh0).trans (HG.out.block pm HQ.out.ltm (by simpa using fun e => hgm e.symm))
  have M0 := HM.out.same m0
  have hfy : Fits y.2 := (HQ.out.good y (List.mem_of_getElem? hk)).fits
  have hfx : Fits x.2 := (HQ.out.good x (List.mem_of_getElem? hi)).fits
  have hll := HQ.out.len
  have hln : l.length < maxLen := by unfold maxLen; omega
  have hasy := (HP.out.1 k y hk).1
  have hasx := (HP.out.1 i x hi).1
  have hiy : Fits (i : Int) := ⟨by omega, by omega⟩
  have hkx : Fits (k : Int) := ⟨by omega, by omega⟩
  obtain ⟨v1, st1, w1, E1, m1, G1, F1⟩ := M0.entry hln hfy hasy
  obtain ⟨w2, E2, M2, G2⟩ := F1 w1 i m1 hiy
  have hasx2 : has (D.put (.int .i64 y.2) (.lit (.int .i64 (i : Int)))) (.int .i64 x.2) = true := by
    by_cases e : x.2 = y.2
    · rw [e, Maps.has_put_same M0.tidy.isMap (by trivial)]
    · rw [Maps.has_put_other (int_ne e)]
      exact hasx
  obtain ⟨v3, st3, w3, E3, m3, G3, F3⟩ := M2.entry hln hfx hasx2
  obtain ⟨w4, E4, M4, G4⟩ := F3 w3 k m3 hkx
  have K1 := kept_of G1
  have K2 := kept_of G2
  have K3 := kept_of G3
  have K4 := kept_of G4
  have S1 := Lib.hid (((((S0.trans (Step.map G1)).trans (Step.map G2)).trans (Step.map G3)).trans (Step.map G4)))
  have GA := Lib.hid (grown_trans (grown_trans (grown_trans G1 G2) G3) G4)
  have M5 := Lib.hid M4
  have HR0 := Lib.hid hr0
  have HTD := Lib.hid M0.tidy
  have c1 : w0.cell? ⟨pq, 0, none⟩ = some (.slice (some ⟨g, 0, none⟩) l.length cap) := blk_cell (b0.trans HQ.out.blk) 0
  have c6 : w0.cell? ⟨pq, 1, none⟩ = some (.map (some pm)) := blk_cell (b0.trans HQ.out.blk) 1
  have q0 : pq < w0.heap.size := Nat.lt_of_lt_of_le hq S0.size
  have q1 : g < w0.heap.size := Nat.lt_of_lt_of_le hgl S0.size
  have q2 : pq ≠ pm := HQ.out.apart.1
  have B0 := Lib.hid b0
  clear M0 M2 M4 F1 F3 m1 m3 G1 G2 G3 G4 hr0 hr1 hh0 hb0 S0 m0 b0 hasx hasy hasx2 HM HG H2 c2 c3 c4 c5 f2 f3 f4 f5
  iterate 26
    refine chain_now (by rfl) (by rfl) (fun K hK => ?_)
    replace hK := Lib.hid hK
    go_simp
    refine hK.out _ _ ?_; clear hK K
  refine chain_do (by rfl) (fun K hK => ?_)
  replace hK := Lib.hid hK
  go_simp
  refine hK.out _ _ ?_; clear hK K
  refine chain_now (by rfl) (by rfl) (fun K hK => ?_)
  replace hK := Lib.hid hK
  go_simp
  refine hK.out _ _ ?_; clear hK K
  refine chain_do (by rfl) (fun K hK => ?_)
  replace hK := Lib.hid hK
  go_simp
  refine hK.out _ _ ?_; clear hK K
  refine chain_do (by rfl) (fun K hK => ?_)
  replace hK := Lib.hid hK
  go_simp
  refine hK.out _ _ ?_; clear hK K
  refine chain_now (by rfl) (by rfl) (fun K hK => ?_)
  replace hK := Lib.hid hK
  go_simp
  refine hK.out _ _ ?_; clear hK K
  refine chain_do (by rfl) (fun K hK => ?_)
  replace hK := Lib.hid hK
  go_simp
  refine hK.out _ _ ?_; clear hK K
  refine chain_end ?_
  go_wp2
  go_returns
  refine ⟨rfl, S1.out, ?_⟩
  refine ⟨?_, ?_, ⟨_, by rw [hlen]; exact M5.out, places_swap HP.out HTD.out HQ.out.ids hi hk⟩, ?_, ?_, by rw [hlen]; exact HQ.out.len, HQ.out.lowq, HQ.out.lowm⟩
  · rw [GA.out.block pq q0 (by simpa using q2), B0.out]
    exact HQ.out.blk
  · exact HR0.out.kept GA.out (.inr (by simpa [Value.ownBlock] using hgm))
  · intro z hz
    exact HQ.out.good z ((swap_perm hi hk).mem_iff.1 hz)
  · exact ((swap_perm hi hk).map (·.2)).nodup_iff.2 HQ.out.ids
end Go.Proofs.Ytickfnedplbleaa
