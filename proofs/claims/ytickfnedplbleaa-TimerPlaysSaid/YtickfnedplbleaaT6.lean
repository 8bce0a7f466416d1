/- The contracts of Push and Pop of a queue's row. -/
import Derived.Test.YtickfnedplbleaaT4
import Derived.Laws.AppendOwn
import Derived.OwnWalk
import Derived.Deep.RegionLaw
namespace Go.Proofs.Ytickfnedplbleaa
open Go.RowKit
open Go.Maps (Keyed has size Tidy IsMap)
attribute [local go_sem] cell_over frozen_over lt_over le_over ne_over over_ne cell_set_same softAt softUpon lightUpon heavyUpon cell_kept frozen_kept

theorem info43 : (Try.prog.info? 43).map (fun i => (i.zero, i.size, i.bytes)) = some (some (.agg #[.int .i64 0, .int .i64 0]), 2, 16) := by kernel_rfl

theorem blk_same {w : World} {n : Nat} (h : n < w.heap.size) (o : Obj) : (w.alloc o).drew.heap[n]? = w.heap[n]? := Below.heap_alloc _ _ _ h
theorem own_far {w : World} {B E sz : Nat} {v : Value} {n : Nat} {xs : List Value} (h : w.ownsRow B E sz v n xs) {a : Addr} {u : Value} (hf : ∀ k, v.ownBlock = some k → k ≠ a.block) : (w.setCell a u).ownsRow B E sz v n xs := by
  obtain ⟨h1, h2⟩ := h
  refine ⟨h1, h2.imp id ?_⟩
  rintro ⟨g, cap, cur, e, hg, hh, rest⟩
  exact ⟨g, cap, cur, e, hg, (blk_far (hf g (by rw [e]; rfl))).trans hh, rest⟩
/-- Where an appended row lies: where it lay, or in a new block. -/
theorem append_where {w : World} {B : Nat} {v : Value} {n : Nat} {xs : List Value} (hown : w.ownsRow B 43 2 v n xs) {ty : TypeId} {a : Addr} {m c : Nat} {news : List Value} (hl : news.length = m * 2) (hnews : ∀ j u, news[j]? = some u → w.cell? (a.add j) = some u) (h1 : ∀ u ∈ news, u.oneCell' = true)
    (h0 : 0 < m) (hsm : n + m ≤ 100000) {v' : Value} {w' : World} (hr : (Builtin.append_ #[32, 32] ty #[v, .slice (some a) m c]).run Try.prog w = .ok v' w') : ∀ k, v'.ownBlock = some k → v.ownBlock = some k ∨ w.heap.size ≤ k := by
  obtain ⟨i0, hi, hz, hsz, hbz⟩ := info_parts info43
  rcases hown.2 with ⟨rfl, rfl⟩ | ⟨g, cap, cur, rfl, hbg, hg, hnc, hcm, hcs, htake⟩
  · have := run_append_nil (P := Try.prog) w 32 ty 43 i0 _ Try.underlying32 hi hz a m c news (by rw [hsz]; exact hl) hnews h0 (by omega) (by rw [hbz]; omega)
    rw [this] at hr
    cases hr
    intro k hk
    cases hk
    exact .inr (Nat.le_refl _)
  · by_cases hroom : n + m ≤ cap
    · have := run_append_room (P := Try.prog) w 32 ty 43 i0 Try.underlying32 hi g n cap cur hg a m c news (by rw [hsz]; exact hl) hnews h1 hroom (by rw [hsz]; omega)
      rw [this] at hr
      cases hr
      intro k hk
      exact .inl hk
    · have := run_append_grow (P := Try.prog) w 32 ty 43 i0 _ Try.underlying32 hi hz ⟨g, 0, none⟩ n cap xs (by rw [hsz]; exact hown.1) (hown.cells (g := g) rfl) a m c news (by rw [hsz]; exact hl) hnews (by omega) (by omega) (growslice_fits (by omega) (by rw [hbz]; omega))
      rw [this] at hr
      cases hr
      intro k hk
      cases hk
      exact .inr (Nat.le_refl _)

/-- One item more. -/
theorem places_push {D : D0} {l : List It} (h : Places D l) (hD : Tidy D) {x : It} (hid : ∀ z ∈ l, z.2 ≠ x.2) : Places (D.put (.int .i64 x.2) (.lit (.int .i64 (l.length : Int)))) (l ++ [x]) := by
  refine ⟨fun j z hj => ?_, fun id hh => ?_⟩
  · rcases Nat.lt_or_ge j l.length with hl | hl
    · rw [List.getElem?_append_left hl] at hj
      have hne := hid z (List.mem_of_getElem? hj)
      rw [Maps.has_put_other (int_ne hne), Maps.atKey_put_other (int_ne hne)]
      exact h.1 j z hj
    · rw [List.getElem?_append_right hl] at hj
      obtain ⟨h1, h2⟩ := List.getElem?_eq_some_iff.1 hj
      simp only [List.length_cons, List.length_nil] at h1
      obtain rfl : j = l.length := by omega
      simp at h2
      subst h2
      exact ⟨Maps.has_put_same hD.isMap (by trivial) _, at_put_same hD.isMap _ _ _⟩
  · by_cases e1 : id = x.2
    · exact ⟨x, by simp, e1.symm⟩
    · rw [Maps.has_put_other (int_ne e1)] at hh
      obtain ⟨u, hu, he⟩ := h.2 id hh
      exact ⟨u, by simp [hu], he⟩
theorem ids_push {l : List It} (h : (l.map (·.2)).Nodup) {x : It} (hid : ∀ z ∈ l, z.2 ≠ x.2) : ((l ++ [x]).map (·.2)).Nodup := by
  rw [List.map_append, List.nodup_append]
  refine ⟨h, by simp, fun a ha b hb => ?_⟩
  obtain ⟨z, hz, rfl⟩ := List.mem_map.1 ha
  simp at hb
  subst hb
  exact hid z hz

/-- An append whose run is known, as one step of a region that draws its order. -/
theorem step_append_is {P : Program} {ops : Array Oper} {o : Oper} {a : Act} {w : World} {K : Act → World → Prop} {Q : Exit → Act → World → Prop} {E : Prop} (hgd : o.guard = none) (s x : Operand) (t : TypeId)
    (ho : o.op = .call { callee := .builtin .append, args := #[s, x], argTypes := #[t, t] }) (v xv v' : Value) (w' : World) (hs : a.eval s = v) (hx : a.eval x = xv) (hrun : RowKit.Hid ((Builtin.append_ #[t, t] o.type #[v, xv]).run P w = .ok v' w')) (h : K (a.put o.dst v') w') :
    if Region.wanted o (yielded ops a.tmps) = true then Oper.wp P o a w K Q else E := by
  have hw : Region.wanted o (yielded ops a.tmps) = true := by simp [Region.wanted, hgd]
  rw [if_pos hw]
  have hrun := hrun.out
  unfold Oper.wp
  simp [execOp, ho, resolve, invoke, builtin, hs, hx, hrun, Result.andThen]
  exact h

set_option maxRecDepth 100000 in
set_option maxHeartbeats 4000000 in
theorem rowpush_any {w : World} {B pq pm : Nat} {v : Value} {l : List It} (h : QIs w B pq pm v l) (hB : B ≤ w.heap.size) (x : It) (hx : Good x) (hlen : l.length < 64) (hid : ∀ z ∈ l, z.2 ≠ x.2) : Calls Try.prog 74 #[.pointer (some ⟨pq, 0, none⟩), .iface 43 (.agg #[.int .i64 x.1, .int .i64 x.2])] w
    fun e w' => e = .returned (.tuple #[]) ∧ ∃ v', Step w w' pq pm v v' ∧ QIs w' B pq pm v' (l ++ [x]) := by
  obtain ⟨a, c, rfl⟩ : ∃ a c, v = .slice a l.length c := by
    rcases h.row.2 with ⟨h1, h2⟩ | ⟨g, cap, cur, h1, _⟩
    · exact ⟨none, 0, by rw [h1, h2]⟩
    · exact ⟨_, _, h1⟩
  have HQ := Lib.hid h
  have c1 : w.cell? ⟨pq, 0, none⟩ = some (.slice a l.length c) := blk_cell h.blk 0
  have c6 : w.cell? ⟨pq, 1, none⟩ = some (.map (some pm)) := blk_cell h.blk 1
  have hq := h.ltq
  have hm := h.ltm
  have q2 : pq ≠ pm := HQ.out.apart.1
  clear h
  have hta : ∀ (u : Value) (W : World), (Instr.typeAssert (.iface 43 u) 20 43 true).run Try.prog W = .ok (.tuple #[u, .bool true]) W := fun _ _ => by kernel_rfl
  go_enter Try.func74, Try.ntmps74
  go_wp2
  obtain ⟨pt, hpt⟩ : ∃ pt, pt = w.heap.size := ⟨_, rfl⟩
  have hb1 : Below w.heap.size w (w.alloc (.cells #[.int .i64 x.1, .int .i64 x.2] 43)) := bta (Below.refl _ _) _
  have hw1 : (w.alloc (.cells #[.int .i64 x.1, .int .i64 x.2] 43)).heap[pt]? = some (.cells #[.int .i64 x.1, .int .i64 x.2] 43) := blk_new hpt
  rw [← hpt]
  generalize hW1 : w.alloc (.cells #[.int .i64 x.1, .int .i64 x.2] 43) = W1 at hb1 hw1 ⊢
  have HB1 := Lib.hid hb1
  have HW1 := Lib.hid hw1
  have HPT := Lib.hid hpt
  clear hW1 hpt
  refine wp_chain [pm] [11] [] (by kernel_rfl) (by kernel_rfl) ?_
  intro w0 hb0 hh0
  have B0 := bt HB1.out hb0
  have Q0 := HQ.out.grow B0
  obtain ⟨D, hM, hP⟩ := Q0.places
  have hfx := hx.fits
  have hnot : has D (.int .i64 x.2) = false := by
    cases e : has D (.int .i64 x.2) with
    | false => rfl
    | true =>
      obtain ⟨z, hz, he⟩ := hP.2 _ e
      exact absurd he (hid z hz)
  obtain ⟨w2, E2, M2, G2⟩ := hM.add (by omega) hfx (v := (l.length : Int)) ⟨by omega, by omega⟩ hnot
  have ht0 : w0.heap[pt]? = some (.cells #[.int .i64 x.1, .int .i64 x.2] 43) := blk_grow hb0 HW1.out
  have d1 : w0.cell? ⟨pq, 0, none⟩ = some (.slice a l.length c) := blk_cell Q0.blk 0
  have d6 : w0.cell? ⟨pq, 1, none⟩ = some (.map (some pm)) := blk_cell Q0.blk 1
  have d7 : w0.cell? ⟨pt, 1, none⟩ = some (.int .i64 x.2) := blk_cell ht0 1
  have q0 : pq < w0.heap.size := Q0.ltq
  have q3 : pt < w0.heap.size := blk_lt ht0
  have q4 : pt ≠ pm := by have := HPT.out; omega
  have q5 : pt ≠ pq := by have := HPT.out; omega
  have K2 := kept_of G2
  have HQ0 := Lib.hid Q0
  have HM2 := Lib.hid M2
  have HG2 := Lib.hid G2
  have HT0 := Lib.hid ht0
  have HP := Lib.hid hP
  have HM := Lib.hid hM
  have HB0 := Lib.hid B0
  clear Q0 M2 G2 ht0 hP hM B0 c1 c6 hb1 hw1
  clear hh0 hb0
  iterate 11
    refine chain_now (by rfl) (by rfl) (fun K hK => ?_)
    replace hK := Lib.hid hK
    go_simp
    refine hK.out _ _ ?_; clear hK K
  refine chain_do (by rfl) (fun K hK => ?_)
  replace hK := Lib.hid hK
  go_simp
  refine hK.out _ _ ?_; clear hK K
  refine chain_end ?_
  have q2' : pq ≠ pm := q2
  have t2 : w2.heap[pt]? = some (.cells #[.int .i64 x.1, .int .i64 x.2] 43) := (HG2.out.block pt q3 (by simpa using q4)).trans HT0.out
  have b2 : w2.heap[pq]? = some (.cells #[.slice a l.length c, .map (some pm)] 63 (0, 0)) := (HG2.out.block pq q0 (by simpa using q2)).trans HQ0.out.blk
  have r2 : w2.ownsRow B 43 2 (.slice a l.length c) l.length (itvs l) := HQ0.out.row.kept HG2.out (by
    cases a with
    | none => exact .inl rfl
    | some g => exact .inr (by have := (HQ0.out.apart.2 g.block rfl).2; simpa [Value.ownBlock] using this))
  obtain ⟨i0, hi, hz, hsz, hbz⟩ := info_parts info43
  have hs2 : w0.heap.size ≤ w2.heap.size := HG2.out.size
  have hB2 : B ≤ w2.heap.size := by have := HB0.out.size; omega
  have hown3 : (w2.alloc (.cells #[.int .i64 x.1, .int .i64 x.2] 43)).drew.ownsRow B 43 2 (.slice a l.length c) l.length (itvs l) := own_heap (r2.alloc (.cells #[.int .i64 x.1, .int .i64 x.2] 43)) rfl
  have hnew : ∀ j u, (itvs [x])[j]? = some u → (w2.alloc (.cells #[.int .i64 x.1, .int .i64 x.2] 43)).drew.cell? ((⟨w2.heap.size, 0, none⟩ : Addr).add j) = some u := fun j u hj => by
    have hh : (w2.alloc (.cells #[.int .i64 x.1, .int .i64 x.2] 43)).drew.heap[w2.heap.size]? = some (.cells #[.int .i64 x.1, .int .i64 x.2] 43 (0, 0)) := heap_alloc_new w2 _
    have e : (⟨w2.heap.size, 0, none⟩ : Addr).add j = ⟨w2.heap.size, j, none⟩ := by unfold Addr.add; split <;> simp_all
    rw [e, blk_cell hh]
    simpa [itvs, itv] using hj
  obtain ⟨v', w4, E4, R4, G4, _⟩ := run_append_own (P := Try.prog) (w2.alloc (.cells #[.int .i64 x.1, .int .i64 x.2] 43)).drew B 32 32 43 i0 _ 2 16 Try.underlying32 hi hz hsz hbz rfl (by decide) (.slice a l.length c) l.length (itvs l)
    hown3 ⟨w2.heap.size, 0, none⟩ 1 1 (itvs [x]) rfl hnew (itvs_oneCell _) (by unfold maxLen; omega) (by omega) (by simp; omega)
  obtain ⟨a', c', rfl⟩ : ∃ a' c', v' = .slice a' (l.length + 1) c' := by
    rcases R4.2 with ⟨_, h2⟩ | ⟨g, cap, cur, h1, _⟩
    · omega
    · exact ⟨_, _, h1⟩
  have hq2 : pq < w2.heap.size := Nat.lt_of_lt_of_le q0 hs2
  have b3 : (w2.alloc (.cells #[.int .i64 x.1, .int .i64 x.2] 43)).drew.heap[pq]? = some (.cells #[.slice a l.length c, .map (some pm)] 63 (0, 0)) := blk_old b2
  have b4 : w4.heap[pq]? = some (.cells #[.slice a l.length c, .map (some pm)] 63 (0, 0)) := (G4.block pq (by simp; omega) (by
    cases a with
    | none => simp [Value.ownBlock]
    | some g => have := (HQ0.out.apart.2 g.block rfl).1; simpa [Value.ownBlock] using fun e => this e.symm)).trans b3
  have e1 : w2.cell? ⟨pq, 0, none⟩ = some (.slice a l.length c) := blk_cell b2 0
  have e2 : w2.cell? ⟨pt, 0, none⟩ = some (.int .i64 x.1) := blk_cell t2 0
  have e3 : w2.cell? ⟨pt, 1, none⟩ = some (.int .i64 x.2) := blk_cell t2 1
  have e4 : w4.cell? ⟨pq, 0, none⟩ = some (.slice a l.length c) := blk_cell b4 0
  have e5 : w4.frozen? ⟨pq, 0, none⟩ = false := blk_free b4 0
  have ht2 : pt < w2.heap.size := blk_lt t2
  have hall : ((l ++ [x]).length) = l.length + 1 := by simp
  have hfin : ∃ v', Step w (w4.setCell ⟨pq, 0, none⟩ (.slice a' (l.length + 1) c')) pq pm (.slice a l.length c) v' ∧ QIs (w4.setCell ⟨pq, 0, none⟩ (.slice a' (l.length + 1) c')) B pq pm v' (l ++ [x]) := by
    refine ⟨.slice a' (l.length + 1) c', ?_, ?_⟩
    · have s1 : Step w w2 pq pm (.slice a l.length c) (.slice a l.length c) := (Step.of HB0.out).trans (Step.map HG2.out)
      have s2a : Step w2 w4 pq pm (.slice a l.length c) (.slice a l.length c) := (Step.of (w' := (w2.alloc (.cells #[.int .i64 x.1, .int .i64 x.2] 43)).drew) (btd (bta (Below.refl _ _) _))).trans (Step.row G4)
      have s2 : Step w2 w4 pq pm (.slice a l.length c) (.slice a' (l.length + 1) c') := ⟨s2a.os, s2a.tape, s2a.output, s2a.size, s2a.block, fun k hk => by
        rcases append_where hown3 rfl hnew (itvs_oneCell _) (by omega) (by omega) E4 k hk with h | h
        · exact .inl h
        · have : w2.heap.size ≤ k := by simp at h; omega
          exact .inr this⟩
      have s3 := Step.cell w4 pq pm (.slice a' (l.length + 1) c') (.slice a' (l.length + 1) c') 0 (.slice a' (l.length + 1) c') fun k hk => .inl hk
      exact (s1.trans s2).trans s3
    · have hb5 := blk_set b4 0 (.slice a' (l.length + 1) c')
      refine ⟨hb5, ?_, ⟨_, ?_, places_push HP.out HM.out.tidy hid⟩, ?_, ids_push HQ0.out.ids hid, by omega, HQ0.out.lowq, HQ0.out.lowm⟩
      · rw [hall, itvs_app]
        refine own_far R4 fun k hk => ?_
        rcases append_where hown3 rfl hnew (itvs_oneCell _) (by omega) (by omega) E4 k hk with h | h
        · exact (HQ0.out.apart.2 k h).1
        · have : w2.heap.size ≤ k := by simp at h; omega
          show k ≠ pq
          omega
      · rw [hall]
        have ham : pm < w2.heap.size := HM2.out.lt
        refine HM2.out.same ((blk_far (by simpa using fun e => q2 e.symm)).trans ((G4.block pm (by simp; omega) ?_).trans (blk_same ham _)))
        cases a with
        | none => simp [Value.ownBlock]
        | some g => have := (HQ0.out.apart.2 g.block rfl).2; simpa [Value.ownBlock] using fun e => this e.symm
      · intro z hz
        rcases List.mem_append.1 hz with hz | hz
        · exact HQ0.out.good z hz
        · simp at hz
          subst hz
          exact hx
  have HB4 := Lib.hid b4
  have HR4 := Lib.hid R4
  have HE4 := Lib.hid E4
  have HG4 := Lib.hid G4
  have HFIN := Lib.hid hfin
  clear b2 b3 b4 t2 r2 hown3 hnew hi hz hsz hbz R4 G4 E4 hfin hall
  go_wp2
  go_region_law (refine step_append_is rfl (.tmp 28) (.tmp 30) 32 rfl _ _ (.slice a' (l.length + 1) c') w4 rfl rfl HE4 ?_)
  all_goals
    go_wp2
    go_returns
    exact ⟨rfl, HFIN.out⟩
end Go.Proofs.Ytickfnedplbleaa
