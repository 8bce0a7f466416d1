/- The document's Set: where it refuses; and its item put among the rest. -/
import Derived.Test.YtickfnedplbleaaT36
import Derived.Test.YtickfnedplbleaaS3
import Derived.Outline
import Derived.Deep.CutRange
namespace Go.Proofs.Ytickfnedplbleaa
open Go.RowKit
attribute [local go_sem] cell_over frozen_over lt_over le_over ne_over over_ne cell_set_same softAt softUpon lightUpon heavyUpon cell_kept frozen_kept

/-- Where a number stands first. -/
theorem first_in {m : List It} {id : Int} (h : isIn m id = true) : ∃ (i : Nat) (x : It), m[i]? = some x ∧ x.2 = id ∧ ∀ (j : Nat) (y : It), j < i → m[j]? = some y → y.2 ≠ id := by
  induction m with
  | nil => simp [isIn] at h
  | cons z m ih =>
    by_cases hz : z.2 = id
    · exact ⟨0, z, rfl, hz, fun j y hj => absurd hj (Nat.not_lt_zero _)⟩
    · have h' : isIn m id = true := by simpa [isIn, hz] using h
      obtain ⟨i, x, h1, h2, h3⟩ := ih h'
      refine ⟨i + 1, x, by simpa using h1, h2, fun j y hj hy => ?_⟩
      cases j with
      | zero => simp at hy; subst hy; exact hz
      | succ j => exact h3 j y (by omega) (by simpa using hy)
theorem not_in {m : List It} {id : Int} (h : isIn m id = false) : ∀ y ∈ m, y.2 ≠ id := by simpa [isIn] using h
theorem less_idx : ∀ {m : List It} {i : Nat} {x : It}, m[i]? = some x → (m.map (·.2)).Nodup → less m x.2 = m.take i ++ m.drop (i + 1)
  | [], i, x, h, _ => by simp at h
  | y :: t, 0, x, h, hn => by
    simp at h
    subst h
    rw [less_cons_eq, less_none (tail_ne hn)]
    rfl
  | y :: t, i + 1, x, h, hn => by
    have hx : t[i]? = some x := by simpa using h
    rw [less_cons_ne (fun e => tail_ne hn x (List.mem_of_getElem? hx) e.symm), less_idx hx (List.nodup_cons.1 hn).2]
    rfl

/-- What the document's Stop tells. -/
def RestR (w : World) (v : Value) (m : List It) (id : Int) (e : Ending) (w' : World) : Prop :=
  ∃ v', e = .returned (.tuple #[v', .bool (isIn m id)]) ∧ Below w.heap.size w w' ∧ RSl w' v' (less m id) ∧ ∀ g, v'.ownBlock = some g → v.ownBlock = some g ∨ w.heap.size ≤ g
theorem rstop_any {w : World} {v : Value} {m : List It} (h : RSl w v m) (hlen : m.length ≤ 64) (hn : (m.map (·.2)).Nodup) (id : Int) : Calls Try.prog 10 #[v, .int .i64 id] w (RestR w v m id) := by
  cases hin : isIn m id with
  | false =>
    refine (rstop_out h hlen id (not_in hin)).mono fun e w' ⟨e1, hb⟩ => ⟨v, by rw [hin]; exact e1, hb, ?_, fun g hg => .inl hg⟩
    rw [less_none (not_in hin)]
    exact h.grow hb
  | true =>
    obtain ⟨i, x, hi, rfl, hf⟩ := first_in hin
    refine (rstop_in h hlen i x hi hf).mono fun e w' ⟨v', e1, hb, hr⟩ => ⟨v', by rw [hin]; exact e1, hb, ?_, fun g hg => .inr (World.ownsRow.lt hr g hg).1⟩
    rw [less_idx hi hn]
    exact hr.rsl
theorem rset_range {w : World} (v : Value) (id a : Int) (hr : id < 0 ∨ 4611686018427387903 < id ∨ a < 0 ∨ 1099511627776 < a) : Calls Try.prog 16 #[v, .int .i64 id, .int .i64 a] w fun e w' => e = .returned (.tuple #[v, .int .i64 8]) ∧ Below w.heap.size w w' := by
  rcases (show id < 0 ∨ (¬ id < 0 ∧ 4611686018427387903 < id) ∨ (¬ id < 0 ∧ ¬ 4611686018427387903 < id ∧ a < 0) ∨ (¬ id < 0 ∧ ¬ 4611686018427387903 < id ∧ ¬ a < 0 ∧ 1099511627776 < a) by omega) with h | ⟨h1, h⟩ | ⟨h1, h2, h⟩ | ⟨h1, h2, h3, h⟩
  all_goals
    clear hr
    go_enter Try.func16, Try.ntmps16
    go_wp2
    go_returns
    exact ⟨rfl, Below.refl _ _⟩
theorem rset_full {w : World} {v : Value} {m : List It} (h : RSl w v m) (hlen : m.length = 64) (x : It) (hx : Good x) (hf : ∀ y ∈ m, y.2 ≠ x.2) : Calls Try.prog 16 #[v, .int .i64 x.2, .int .i64 x.1] w fun e w' => e = .returned (.tuple #[v, .int .i64 7]) ∧ Below w.heap.size w w' := by
  have HP := Lib.hid (place_out h (by omega) x.2 hf)
  obtain ⟨a, c, rfl, _⟩ := h
  rw [hlen] at HP ⊢
  obtain ⟨g1, g2, g3, g4⟩ := hx
  have r1 : ¬ x.2 < 0 := by omega
  have r2 : ¬ 4611686018427387903 < x.2 := by omega
  have r3 : ¬ x.1 < 0 := by omega
  have r4 : ¬ 1099511627776 < x.1 := by omega
  clear hf
  go_enter Try.func16, Try.ntmps16
  go_wp2_with (first | ((with_reducible refine (HP.out).mono ?_); rintro e w1 ⟨rfl, hb⟩; have B1 := Lib.hid hb; clear hb))
  go_returns
  exact ⟨rfl, B1.out⟩

/-- Where an item goes. -/
structure Among (rest : List It) (x : It) (k : Nat) : Prop where
  le : k ≤ rest.length
  low : ∀ j y, j < k → rest[j]? = some y → ltI y x
  high : ∀ y, rest[k]? = some y → ¬ ltI y x
def SetR (w : World) (rest : List It) (x : It) (k : Nat) (e : Ending) (w' : World) : Prop :=
  ∃ v', e = .returned (.tuple #[v', .int .i64 0]) ∧ Below w.heap.size w w' ∧ RItems w' w.heap.size v' (rest.take k ++ x :: rest.drop k)
theorem lit_new (W : World) (x : It) : RSl (W.alloc (.cells #[.int .i64 x.1, .int .i64 x.2] 49)) (.slice (some ⟨W.heap.size, 0, none⟩) 1 1) [x] := by
  have h := heap_alloc_new W (.cells #[.int .i64 x.1, .int .i64 x.2] 49)
  refine ⟨_, _, rfl, Nat.le_refl _, by unfold maxLen; omega, (fun e => by cases e), fun i y hy => ?_⟩
  have h0 : i = 0 := by have := (List.getElem?_eq_some_iff.1 hy).1; simp at this; exact this
  subst h0
  simp at hy
  subst hy
  exact ⟨W.heap.size, 0, rfl, by simp, blk_cell h 0, blk_cell h 1⟩
theorem below_grown {w w' : World} (h : w.grownBy w' none) : Below w.heap.size w w' := ⟨h.os, h.tape, h.output, h.size, fun b hb => h.block b hb (by simp)⟩

set_option maxRecDepth 100000 in
set_option maxHeartbeats 8000000 in
theorem rset_put {w : World} {v : Value} {m : List It} (h : RSl w v m) (hlen : m.length ≤ 64) (hn : (m.map (·.2)).Nodup) (x : It) (hx : Good x) (hroom : isIn m x.2 = true ∨ m.length < 64) (k : Nat) (hk : Among (less m x.2) x k) :
    Calls Try.prog 16 #[v, .int .i64 x.2, .int .i64 x.1] w (SetR w (less m x.2) x k) := by
  have HST := Lib.hid (fun W (hb : Below w.heap.size w W) => rstop_any (h.grow hb) hlen hn x.2)
  have hp : (∃ p : Nat, Calls Try.prog 19 #[v, .int .i64 x.2] w fun e w' => e = .returned (.int .i64 (p : Nat)) ∧ Below w.heap.size w w') ∨ (m.length < 64 ∧ Calls Try.prog 19 #[v, .int .i64 x.2] w fun e w' => e = .returned (.int .i64 (-1)) ∧ Below w.heap.size w w') := by
    cases hin : isIn m x.2 with
    | true =>
      obtain ⟨i, y, hi, he, hf⟩ := first_in hin
      have K := place_in h hlen i y hi (by rw [he]; exact hf)
      rw [he] at K
      exact .inl ⟨i, K⟩
    | false =>
      rw [hin] at hroom
      exact .inr ⟨hroom.resolve_left (by simp), place_out h hlen x.2 (not_in hin)⟩
  obtain ⟨a, c, rfl, _⟩ := h
  obtain ⟨g1, g2, g3, g4⟩ := hx
  have r1 : ¬ x.2 < 0 := by omega
  have r2 : ¬ 4611686018427387903 < x.2 := by omega
  have r3 : ¬ x.1 < 0 := by omega
  have r4 : ¬ 1099511627776 < x.1 := by omega
  have HK := Lib.hid hk
  have HP := Lib.hid hp
  clear hn hroom hk hp
  have hll : (less m x.2).length ≤ 64 := Nat.le_trans (List.length_filter_le _ _) hlen
  generalize hrest : less m x.2 = rest at *
  go_enter Try.func16, Try.ntmps16
  go_upto_region 3 with fail
  go_cut [29] from 30 to 38 (fun o wx => o = .bool false ∧ Below w.heap.size w wx)
  case first =>
    rcases HP.out with ⟨p, hp⟩ | ⟨hl, hp⟩
    · have p0 : ¬ (p : Int) < 0 := by omega
      go_wp2_with (first | ((with_reducible refine hp.mono ?_); rintro e w1 ⟨rfl, hb⟩))
      go_meet
      exact ⟨rfl, hb⟩
    · have l0 : ¬ (64 : Int) ≤ m.length := by omega
      go_wp2_with (first | ((with_reducible refine hp.mono ?_); rintro e w1 ⟨rfl, hb⟩))
      go_meet
      exact ⟨by simp; omega, hb⟩
  case rest =>
    obtain ⟨rfl, B1⟩ := hcut
    have HS := Lib.hid (HST.out _ B1)
    have HB1 := Lib.hid B1
    clear B1 HST HP
    go_wp2_with (first | ((with_reducible refine (HS.out).mono ?_); refine unhalt ?_))
    unfold Halted
    rintro e w2 ⟨v', rfl, hb, hr, hg⟩
    have HB2 := Lib.hid (bt HB1.out hb)
    rw [hrest] at hr
    have HR := Lib.hid hr
    obtain ⟨a', c', rfl, d1, d2, d3, _⟩ := hr
    clear hb hg HS HB1
    dsimp only
    go_wp2
    have hB3 : Below w2.heap.size w2 (w2.alloc (.cells #[.int .i64 x.1, .int .i64 x.2] 49)) := bta (Below.refl _ _) _
    have hx3 : (w2.alloc (.cells #[.int .i64 x.1, .int .i64 x.2] 49)).heap[w2.heap.size]? = some (.cells #[.int .i64 x.1, .int .i64 x.2] 49 (0, 0)) := blk_new rfl
    have HB3 := Lib.hid (bt HB2.out hB3)
    have HR3 := Lib.hid (HR.out.grow hB3)
    generalize w2.alloc (.cells #[.int .i64 x.1, .int .i64 x.2] 49) = w3 at *
    generalize w2.heap.size = px at *
    have HX3 := Lib.hid hx3
    clear hB3 hx3 HR HB2
    go_loopw [11] (fun s wr => ∃ j : Nat, j ≤ k ∧ s = .int .i64 (j : Int) ∧ Below w3.heap.size w3 wr) (fun s _ => 64 - (intOf s).toNat)
    case atStart => exact ⟨0, Nat.zero_le _, rfl, Below.refl _ _⟩
    case round =>
      obtain ⟨j, hj, rfl, hB⟩ := hrel
      have hkl := HK.out.le
      have q0 : (0 : Int) ≤ (j : Int) := by omega
      have q1 : (rest.length : Int) ≤ 64 := by omega
      go_upto_region 8 with fail
      go_cut [60] from 49 to 59 (fun o wx => o = .bool (decide (j < k)) ∧ Below w3.heap.size w3 wx)
      case first =>
        by_cases hjl : j < rest.length
        · have q2 : (j : Int) < rest.length := by omega
          obtain ⟨y, hy⟩ : ∃ y, rest[j]? = some y := ⟨_, List.getElem?_eq_getElem hjl⟩
          have hlt : decide (ltI y x) = decide (j < k) := by
            apply decide_eq_decide.2
            constructor
            · intro h
              rcases Nat.lt_or_ge j k with h1 | h1
              · exact h1
              · obtain rfl : j = k := by omega
                exact absurd h (HK.out.high y hy)
            · exact fun h => HK.out.low j y h hy
          refine wp_chain [] [10] [] (by kernel_rfl) (by kernel_rfl) ?_
          intro w4 hb4 _
          have B4 := bt hB hb4
          obtain ⟨_, _, e, _, _, _, hc⟩ := HR3.out.grow B4
          cases e
          obtain ⟨g, o, rfl, hgl, c1, c2⟩ := hc j y hy
          have x0 : w4.cell? ⟨px, 0, none⟩ = some (.int .i64 x.1) := blk_cell (blk_grow B4 HX3.out) 0
          have x1 : w4.cell? ⟨px, 1, none⟩ = some (.int .i64 x.2) := blk_cell (blk_grow B4 HX3.out) 1
          have x2 : px < w4.heap.size := blk_lt (blk_grow B4 HX3.out)
          have HA := Lib.hid (rahead_any y x w4)
          have HLT := Lib.hid hlt
          clear hc hy hlt hb4
          have k1 : ∀ X, (kept [] w4 X).cell? ⟨g, o + j * 2, none⟩ = some (.int .i64 y.1) := fun X => by rw [cell_kept hgl (by simp)]; exact c1
          have k2 : ∀ X, (kept [] w4 X).cell? ⟨g, o + j * 2 + 1, none⟩ = some (.int .i64 y.2) := fun X => by rw [cell_kept hgl (by simp)]; exact c2
          have k3 : ∀ X, (kept [] w4 X).cell? ⟨px, 0, none⟩ = some (.int .i64 x.1) := fun X => by rw [cell_kept x2 (by simp)]; exact x0
          have k4 : ∀ X, (kept [] w4 X).cell? ⟨px, 1, none⟩ = some (.int .i64 x.2) := fun X => by rw [cell_kept x2 (by simp)]; exact x1
          iterate 10
            refine chain_now (by rfl) (by rfl) (fun K hK => ?_)
            replace hK := Lib.hid hK
            go_simp
            refine hK.out _ _ ?_; clear hK K
          refine chain_do (by rfl) (fun K hK => ?_)
          replace hK := Lib.hid hK
          go_simp
          refine HA.out.mono ?_
          rintro e w5 ⟨rfl, hb⟩
          refine ⟨_, rfl, Below.kept _ hb, hK.out _ _ ?_⟩; clear hK K
          have B5 := bt B4 hb
          refine chain_now (by rfl) (by rfl) (fun K hK => ?_)
          replace hK := Lib.hid hK
          go_simp
          refine hK.out _ _ ?_; clear hK K
          refine chain_end ?_
          go_wp2
          go_meet
          exact ⟨by rw [HLT.out], B5⟩
        · have q2 : ¬ (j : Int) < rest.length := by omega
          have hjk : decide (j < k) = false := by simp; omega
          refine wp_chain [] [10] [] (by kernel_rfl) (by kernel_rfl) ?_
          intro w4 hb4 _
          have B4 := bt hB hb4
          clear hb4
          iterate 10
            refine chain_now (by rfl) (by rfl) (fun K hK => ?_)
            replace hK := Lib.hid hK
            go_simp
            refine hK.out _ _ ?_; clear hK K
          refine chain_do (by rfl) (fun K hK => ?_)
          replace hK := Lib.hid hK
          go_simp
          refine hK.out _ _ ?_; clear hK K
          refine chain_now (by rfl) (by rfl) (fun K hK => ?_)
          replace hK := Lib.hid hK
          go_simp
          refine hK.out _ _ ?_; clear hK K
          refine chain_end ?_
          go_wp2
          go_meet
          exact ⟨by rw [hjk], B4⟩
      case rest =>
        obtain ⟨rfl, hB4⟩ := hcut
        clear hB
        by_cases hjk : j < k
        · have hd : decide (j < k) = true := by simpa using hjk
          rw [hd]
          go_wp2
          go_roundw
          case rel => exact ⟨j + 1, by omega, by go_num, hB4⟩
          case measure => simp [intOf]; omega
        · have hd : decide (j < k) = false := by simpa using hjk
          rw [hd]
          obtain rfl : j = k := by omega
          have HRc := HR3.out.grow hB4
          have RT := Lib.hid (rsl_take HRc (k := j) hkl)
          have RD := Lib.hid (rsl_drop HRc (k := j) hkl)
          have hxc : ∀ W, Below wc.heap.size wc W → W.cell? ⟨px, 0, none⟩ = some (.int .i64 x.1) ∧ W.cell? ⟨px, 1, none⟩ = some (.int .i64 x.2) := fun W hW => ⟨blk_cell (blk_grow hW (blk_grow hB4 HX3.out)) 0, blk_cell (blk_grow hW (blk_grow hB4 HX3.out)) 1⟩
          have HXC := Lib.hid hxc
          have BC := Lib.hid (bt HB3.out hB4)
          have B5 := Lib.hid (btd (Below.refl wc.heap.size wc))
          have n1 : j ≤ c' := by omega
          have n2 : (j : Int) ≤ c' := by omega
          have n3 : (j : Int) ≤ rest.length := by omega
          have n4 : (rest.length : Int) ≤ c' := by omega
          clear hxc HRc hB4
          go_wp2
          go_region_held3 (fun w' => w'.cell? ⟨px, 0, none⟩ = some (.int .i64 x.1) ∧ w'.cell? ⟨px, 1, none⟩ = some (.int .i64 x.2))
            (first | exact HXC.out _ B8.out | exact HXC.out _ B7.out | exact HXC.out _ (bta B6.out _) | exact HXC.out _ B6.out | exact HXC.out _ (bta B5.out _) | exact HXC.out _ B5.out)
            (first
            | (refine step_append_row (by rfl) (.tmp 63) (.tmp 66) (by rfl) wc.heap.size _ _ _ _ (rest.take j) (by rfl) (by rfl) (World.ownsRow_nil _ _ _ _) (by first | exact B5.out.size | exact (bta B5.out _).size) (by first | exact RT.out.grow B5.out | exact RT.out.grow (bta B5.out _)) (by simp; omega) ?_; intro v1 w6 R1 L1 G1; have B6' : Below wc.heap.size wc w6 := (by first | exact L1 wc B5.out | exact L1 wc (bta B5.out _)); have B6 := Lib.hid B6'; clear B6' L1)
            | (refine step_append_row (by rfl) (.tmp 67) (.tmp 69) (by rfl) wc.heap.size _ _ _ _ [x] (by rfl) (by rfl) (by first | exact R1 | exact World.ownsRow.alloc R1 _) (by first | exact B6.out.size | exact (bta B6.out _).size) (by first | exact lit_new _ x | exact (lit_new wc.drew x).grow (below_grown G1)) (by simp; omega) ?_; intro v2 w7 R2 L2 G2; have B7' : Below wc.heap.size wc w7 := (by first | exact L2 wc B6.out | exact L2 wc (bta B6.out _)); have B7 := Lib.hid B7'; clear B7' L2 G2)
            | (refine step_append_row (by rfl) (.tmp 70) (.tmp 73) (by rfl) wc.heap.size _ _ _ _ (rest.drop j) (by rfl) (by rfl) R2 B7.out.size (RD.out.grow B7.out) (by simp; omega) ?_; intro v3 w8 R3 L3 G3; have B8 := Lib.hid (L3 wc B7.out); clear L3 G3))
          all_goals
            have HF := Lib.hid (show RItems w8 w.heap.size v3 (rest.take j ++ x :: rest.drop j) from by
              have h1 : (rest.take j ++ x :: rest.drop j).length = 0 + (rest.take j).length + [x].length + (rest.drop j).length := by simp; omega
              have h2 : itvs (rest.take j ++ x :: rest.drop j) = [] ++ itvs (rest.take j) ++ itvs [x] ++ itvs (rest.drop j) := by
                rw [show x :: rest.drop j = [x] ++ rest.drop j from rfl, itvs_app, itvs_app, List.nil_append, List.append_assoc]
              unfold RItems
              rw [h1, h2]
              obtain ⟨s1, s2⟩ := R3
              refine ⟨s1, s2.imp id ?_⟩
              rintro ⟨g, cap, cur, e, hg, rest'⟩
              exact ⟨g, cap, cur, e, Nat.le_trans BC.out.size hg, rest'⟩)
            clear R1 R2 R3 G1
            go_wp2
            all_goals
              go_returns
              exact ⟨v3, rfl, bt BC.out B8.out, HF.out⟩
end Go.Proofs.Ytickfnedplbleaa
