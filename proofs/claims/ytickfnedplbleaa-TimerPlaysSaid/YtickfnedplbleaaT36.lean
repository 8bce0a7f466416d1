/- The document's ahead and Stop: what is left, in a slice of its own. -/
import Derived.Test.YtickfnedplbleaaT35
import Derived.Maps.AppendAt
import Derived.Deep.RegionHeld3
import Derived.Deep.DrawnRows
namespace Go.Proofs.Ytickfnedplbleaa
open Go.RowKit
attribute [local go_sem] cell_over frozen_over lt_over le_over ne_over over_ne cell_set_same softAt softUpon lightUpon heavyUpon cell_kept frozen_kept

theorem rahead_any (a b : It) (w : World) : Calls Try.prog 26 #[.agg #[.int .i64 a.1, .int .i64 a.2], .agg #[.int .i64 b.1, .int .i64 b.2]] w
    fun e w' => e = .returned (.bool (decide (ltI a b))) ∧ Below w.heap.size w w' := by
  by_cases h1 : a.1 < b.1
  · have hd : decide (ltI a b) = true := by simp [ltI, h1]
    rw [hd]
    go_enter Try.func26, Try.ntmps26
    go_wp2
    go_returns
    exact ⟨rfl, bta (bta (Below.refl _ _) _) _⟩
  · by_cases h2 : a.1 = b.1
    · have e0 : (a.1 == b.1) = true := by simpa using h2
      by_cases h3 : a.2 < b.2
      · have hd : decide (ltI a b) = true := by simp [ltI, h2, h3]
        rw [hd]
        clear h2
        go_enter Try.func26, Try.ntmps26
        go_wp2
        go_returns
        exact ⟨rfl, bta (bta (Below.refl _ _) _) _⟩
      · have hd : decide (ltI a b) = false := by simp [ltI, h1, h3]
        rw [hd]
        clear h2
        go_enter Try.func26, Try.ntmps26
        go_wp2
        go_returns
        exact ⟨rfl, bta (bta (Below.refl _ _) _) _⟩
    · have e0 : (a.1 == b.1) = false := by simpa using h2
      have hd : decide (ltI a b) = false := by simp [ltI, h1, h2]
      rw [hd]
      go_enter Try.func26, Try.ntmps26
      go_wp2
      go_returns
      exact ⟨rfl, bta (bta (Below.refl _ _) _) _⟩

/-- append to a row of a call's own of what a slice reads. -/
theorem app_run {w : World} {B : Nat} {v : Value} {n : Nat} {xs : List Value} (hown : w.ownsRow B 49 2 v n xs) (hB : B ≤ w.heap.size) (ty : TypeId) (src : Value) (l : List It) (hs : RSl w src l) (hlen : n + l.length ≤ 1000) :
    ∃ v' w', (Builtin.append_ #[26, 26] ty #[v, src]).run Try.prog w = .ok v' w' ∧ w'.ownsRow B 49 2 v' (n + l.length) (xs ++ itvs l) ∧ w.grownBy w' v.ownBlock ∧ (v'.ownBlock = v.ownBlock ∨ v'.ownBlock = some w.heap.size) := by
  obtain ⟨i0, hi, hz, hsz, hbz⟩ := info_parts info49
  obtain ⟨a, c, rfl, h1, h2, h3, h4⟩ := hs
  cases a with
  | none =>
    obtain rfl := h3 rfl
    obtain rfl : l = [] := List.eq_nil_of_length_eq_zero (by omega)
    refine ⟨v, w, run_append_owned_none (P := Try.prog) w B 26 ty 49 i0 2 Try.underlying26 hi v n xs hown, by simpa [itvs] using hown, ⟨rfl, rfl, rfl, Nat.le_refl _, fun _ _ _ => rfl⟩, .inl rfl⟩
  | some ad =>
    by_cases h0 : l.length = 0
    · obtain rfl : l = [] := List.eq_nil_of_length_eq_zero h0
      obtain ⟨v', w', e1, e2, e3, _, e4⟩ := run_append_own_at (P := Try.prog) (w := w) B 26 ty 49 i0 _ 2 16 Try.underlying26 hi hz hsz hbz rfl (by decide) v n xs hown ad 0 c [] rfl (fun j u hj => by simp at hj) (fun u hu => by simp at hu) (by unfold maxLen; simp at hlen; omega) (by simp at hlen; omega) hB
      exact ⟨v', w', e1, by simpa [itvs] using e2, e3, e4⟩
    · obtain ⟨x0, hx0⟩ : ∃ x, l[0]? = some x := ⟨_, List.getElem?_eq_getElem (by omega)⟩
      obtain ⟨g, o, e, _⟩ := h4 0 x0 hx0
      cases e
      have hnews : ∀ j u, (itvs l)[j]? = some u → w.cell? ((⟨g, o, none⟩ : Addr).add j) = some u := fun j u hj => by
        have ea : (⟨g, o, none⟩ : Addr).add j = ⟨g, o + j, none⟩ := by unfold Addr.add; split <;> simp_all
        rw [ea]
        have hj2 : j < l.length * 2 := by
          have := (List.getElem?_eq_some_iff.1 hj).1
          rwa [itvs_len] at this
        obtain ⟨x, hx⟩ : ∃ x, l[j / 2]? = some x := ⟨_, List.getElem?_eq_getElem (by omega)⟩
        obtain ⟨_, _, e, _, c0, c1⟩ := h4 _ x hx
        cases e
        obtain ⟨i1, i2⟩ := itvs_at l _ x hx
        rcases Nat.mod_two_eq_zero_or_one j with e | e
        · rw [show j / 2 * 2 = j by omega] at c0 i1
          rw [c0, ← i1, hj]
        · rw [show o + j / 2 * 2 + 1 = o + j by omega] at c1
          rw [show j / 2 * 2 + 1 = j by omega] at i2
          rw [c1, ← i2, hj]
      obtain ⟨v', w', e1, e2, e3, _, e4⟩ := run_append_own_at (P := Try.prog) (w := w) B 26 ty 49 i0 _ 2 16 Try.underlying26 hi hz hsz hbz rfl (by decide) v n xs hown ⟨g, o, none⟩ l.length c (itvs l) (itvs_len l) hnews (itvs_oneCell l) (by unfold maxLen; omega) (by omega) hB
      exact ⟨v', w', e1, e2, e3, e4⟩

/-- .. as one step of a region that draws its order. -/
theorem step_append_row {ops : Array Oper} {o : Oper} {a : Act} {w : World} {K : Act → World → Prop} {Q : Exit → Act → World → Prop} {E : Prop} (hgd : o.guard = none) (s x : Operand)
    (ho : o.op = .call { callee := .builtin .append, args := #[s, x], argTypes := #[26, 26] }) (B : Nat) (v xv : Value) (n : Nat) (xs : List Value) (l : List It) (hs : a.eval s = v) (hx : a.eval x = xv) (hown : w.ownsRow B 49 2 v n xs) (hB : B ≤ w.heap.size) (hsrc : RSl w xv l) (hlen : n + l.length ≤ 1000)
    (h : ∀ v' w', w'.ownsRow B 49 2 v' (n + l.length) (xs ++ itvs l) → (∀ w0, Below B w0 w → Below B w0 w') → w.grownBy w' v.ownBlock → K (a.put o.dst v') w') :
    if Region.wanted o (yielded ops a.tmps) = true then Oper.wp Try.prog o a w K Q else E := by
  obtain ⟨v', w', e1, e2, e3, e4⟩ := app_run hown hB o.type xv l hsrc hlen
  exact step_append_is hgd s x 26 ho v xv v' w' hs hx e1 (h v' w' e2 (fun w0 hb => hb.grown e3 hB fun k hk => (hown.lt k hk).1) e3)

/-- What the document's Stop tells of what is there. -/
def StopR (w : World) (m : List It) (i : Nat) (e : Ending) (w' : World) : Prop :=
  ∃ v', e = .returned (.tuple #[v', .bool true]) ∧ Below w.heap.size w w' ∧ RItems w' w.heap.size v' (m.take i ++ m.drop (i + 1))
theorem rstop_out {w : World} {v : Value} {m : List It} (h : RSl w v m) (hlen : m.length ≤ 64) (id : Int) (hf : ∀ y ∈ m, y.2 ≠ id) :
    Calls Try.prog 10 #[v, .int .i64 id] w fun e w' => e = .returned (.tuple #[v, .bool false]) ∧ Below w.heap.size w w' := by
  have HP := Lib.hid (place_out h hlen id hf)
  clear h hf
  go_enter Try.func10, Try.ntmps10
  go_wp2_with (first | ((with_reducible refine (HP.out).mono ?_); rintro e w1 ⟨rfl, hb⟩; have B1 := Lib.hid hb; clear hb))
  go_returns
  exact ⟨rfl, B1.out⟩
set_option maxHeartbeats 4000000 in
theorem rstop_in {w : World} {v : Value} {m : List It} (h : RSl w v m) (hlen : m.length ≤ 64) (i : Nat) (x : It) (hi : m[i]? = some x) (hf : ∀ j y, j < i → m[j]? = some y → y.2 ≠ x.2) :
    Calls Try.prog 10 #[v, .int .i64 x.2] w (StopR w m i) := by
  have HP := Lib.hid (place_in h hlen i x hi hf)
  have HH := Lib.hid h
  have hil := (List.getElem?_eq_some_iff.1 hi).1
  obtain ⟨a, c, rfl, hc1, hc2, hc3, _⟩ := h
  clear hi hf
  have q0 : (0 : Int) ≤ (i : Int) := by omega
  have q1 : (i : Int) ≤ m.length := by omega
  have q2 : (m.length : Int) ≤ c := by omega
  have q3 : IntKind.i64.wrap ((i : Int) + 1) = (i : Int) + 1 := IntWalk.i64_in _ (by omega)
  have q4 : (i : Int) + 1 ≤ m.length := by omega
  have q5 : (0 : Int) ≤ (i : Int) + 1 := by omega
  have q6 : ¬ (i : Int) < 0 := by omega
  have n1 : i ≤ c := by omega
  have n2 : i + 1 ≤ m.length := by omega
  have n3 : i + 1 ≤ c := by omega
  go_enter Try.func10, Try.ntmps10
  go_wp2_with (first | ((with_reducible refine (HP.out).mono ?_); rintro e w1 ⟨rfl, hb⟩; have B1 := Lib.hid hb; clear hb))
  have T0 := Lib.hid (rsl_take HH.out (k := i) (by omega))
  have T1 := Lib.hid (rsl_drop HH.out (k := i + 1) (by omega))
  have B1' := Lib.hid (btd B1.out)
  go_region_held3 (fun _ => True) (exact trivial) (first
    | (refine step_append_row (by rfl) (.tmp 14) (.tmp 17) (by rfl) w.heap.size _ _ _ _ (m.take i) (by rfl) (by rfl) (World.ownsRow_nil _ _ _ _) B1'.out.size (T0.out.grow B1'.out) (by simp; omega) ?_; intro v1 w2 R1 L1 _; have B2 := Lib.hid (L1 w B1'.out))
    | (refine step_append_row (by rfl) (.tmp 18) (.tmp 22) (by rfl) w.heap.size _ _ _ _ (m.drop (i + 1)) (by rfl) (by rfl) R1 B2.out.size (T1.out.grow B2.out) (by simp; omega) ?_; intro v2 w3 R2 L2 _; have B3 := Lib.hid (L2 w B2.out)))
  all_goals
    have HF := Lib.hid (show RItems w3 w.heap.size v2 (m.take i ++ m.drop (i + 1)) from by
      unfold RItems
      rw [itvs_app, List.length_append]
      simpa only [Nat.zero_add, List.nil_append] using R2)
    clear R1 R2 L1 L2
    go_wp2
    all_goals
      go_returns
      exact ⟨v2, rfl, B3.out, HF.out⟩
end Go.Proofs.Ytickfnedplbleaa
