/- The library's iterator over a slice of items, and what AppendSeq collects of it. (After the kit's worked texts on ranges over a function.) -/
import Derived.Test.YtickfnedplbleaaT13
import Derived.RangeFuncBox
import Derived.RangeFuncLeaves
import Derived.Shelf.Abstract
import Derived.OwnWalkIn
import Derived.TacticsInMore
import Derived.LoopNIn
import Derived.LoopIn
import Derived.Maps.AppendAt
namespace Go.Proofs.Ytickfnedplbleaa
open Go.RowKit Go.Shelf
attribute [local go_sem] Oper.semAt_some

/-- The slice sv holds the items l, in a block below n₀. -/
def Its (n₀ : Nat) (W : World) (sv : Value) (l : List It) : Prop :=
  (∃ a c, sv = .slice a l.length c) ∧ (0 < l.length → ∃ g c, sv = .slice (some ⟨g, 0, none⟩) l.length c ∧ g < n₀ ∧ ∀ (i : Nat) (x : It), l[i]? = some x → W.cell? ⟨g, i * 2, none⟩ = some (.int .i64 x.1) ∧ W.cell? ⟨g, i * 2 + 1, none⟩ = some (.int .i64 x.2))
theorem Its.below {n₀ : Nat} {A B : World} (h : Below n₀ A B) {sv : Value} {l : List It} (k : Its n₀ A sv l) : Its n₀ B sv l :=
  ⟨k.1, fun hl => by
    obtain ⟨g, c, e, hg, hc⟩ := k.2 hl
    exact ⟨g, c, e, hg, fun i x hx => ⟨(h.cell (p := ⟨g, i * 2, none⟩) hg).trans (hc i x hx).1, (h.cell (p := ⟨g, i * 2 + 1, none⟩) hg).trans (hc i x hx).2⟩⟩⟩

set_option maxRecDepth 100000 in
set_option maxHeartbeats 2000000 in
theorem values1_in (F : Fence) (n : Nat) (h34 : F.fn 34) (hro : F.round = none) (hn : 1 ≤ n) (lp Bs n₀ : Nat) (sv : Value) (l : List It) (hlen : l.length ≤ 64) (J Jx : List It → World → Prop) (W : World) (hn0 : n₀ ≤ W.heap.size) (hJ : AbidesFrom W.heap.size J)
    (hY : ∀ pre x W1, J pre W1 → pre.length < l.length → YieldAt F (n - 1) Try.prog lp #[.agg #[.int .i64 x.1, .int .i64 x.2]] W1 fun e W' =>
      (e = .returned (.bool true) ∧ J (pre ++ [x]) W' ∧ Below n₀ W1 W') ∨ (e = .returned (.bool false) ∧ Jx (pre ++ [x]) W'))
    (hBs : W.cell? ⟨Bs, 0, none⟩ = some sv) (hc : Its n₀ W sv l) (h0 : J [] W) :
    CallsIn F n Try.prog 34 #[.func (.yield lp) #[] #[], .pointer (some ⟨Bs, 0, none⟩)] W fun e W' => (∃ v, e = .returned v) ∧
      ((∃ ys, ys = l ∧ J ys W') ∨ (∃ pre, pre <+: l ∧ Jx pre W')) := by
  obtain ⟨⟨a, c, rfl⟩, hcs⟩ := hc
  refine callsIn_of_wp Try.func34 rfl h34 ?_ hro
  simp only [Try.ntmps34, List.size_toArray, List.length_cons, List.length_nil, Nat.reduceAdd, Nat.reduceSub, Array.replicate_succ, Array.replicate_zero, List.push_toArray, List.append_toArray, List.nil_append, List.cons_append]
  gi_wp2
  gi_loopw [7] (fun i wr => ∃ k : Nat, k ≤ l.length ∧ i = .int .i64 k ∧ J (l.take k) wr ∧ Below n₀ W wr)
    (fun i _ => l.length - (intOf i).toNat)
  case atStart => exact ⟨0, Nat.zero_le _, rfl, by simpa using h0, Below.refl _ _⟩
  case round =>
    obtain ⟨k, hk, rfl, hJs, hnx⟩ := hrel
    by_cases hlt : k < l.length
    · obtain ⟨g, c', e, hg, hcg⟩ := hcs (by omega)
      simp only [Value.slice.injEq, true_and] at e
      obtain ⟨rfl, rfl⟩ := e
      obtain ⟨x, hx⟩ : ∃ x, l[k]? = some x := ⟨_, List.getElem?_eq_getElem hlt⟩
      have c1 := (hnx.cell (p := ⟨g, k * 2, none⟩) hg).trans (hcg k x hx).1
      have c2 := (hnx.cell (p := ⟨g, k * 2 + 1, none⟩) hg).trans (hcg k x hx).2
      have hJ2 : J (l.take k) (wr.alloc (.cells #[.int .i64 x.1, .int .i64 x.2] 43)) := hJ _ _ _ none hJs (World.grownBy_alloc _ _ _) (fun r e => by cases e)
      have hB2 : Below n₀ W (wr.alloc (.cells #[.int .i64 x.1, .int .i64 x.2] 43)) := hnx.alloc (by have := hnx.size; omega) _
      obtain ⟨fn, tmps, assign, body, hy, hR⟩ := hY _ x _ hJ2 (by rw [List.length_take]; omega)
      have htk : l.take (k + 1) = l.take k ++ [x] := by rw [List.take_add_one, hx]; rfl
      have HTK := Lib.hid htk
      clear htk hx
      gi_wp2
      refine hR.mono ?_
      rintro e W3 (⟨rfl, hJ3, hk3⟩ | ⟨rfl, hJx3⟩)
      · gi_wp2
        go_roundw
        case rel => exact ⟨k + 1, by omega, by simp, by rw [HTK.out]; exact hJ3, hB2.trans hk3⟩
        case measure => simp [intOf]; omega
      · gi_wp2
        refine bodyPost_ret (results_none rfl _ _ _) rfl ?_
        exact ⟨⟨_, rfl⟩, .inr ⟨_, by rw [← HTK.out]; exact List.take_prefix _ _, hJx3⟩⟩
    · obtain rfl : k = l.length := by omega
      gi_wp2
      go_end0
      exact ⟨⟨_, rfl⟩, .inl ⟨_, rfl, by simpa using hJs⟩⟩
end Go.Proofs.Ytickfnedplbleaa
