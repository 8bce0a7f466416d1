/- The contract of List of a queue that holds nothing. -/
import Derived.Test.YtickfnedplbleaaT17
namespace Go.Proofs.Ytickfnedplbleaa
open Go.RowKit Go.Shelf

theorem appseq_any (Bs : Nat) (sv : Value) (l : List It) (hlen : l.length ≤ 64) (w : World) (hBl : Bs < w.heap.size) (hBs : w.cell? ⟨Bs, 0, none⟩ = some sv) (hI : Its w.heap.size w sv l) :
    Calls Try.prog 35 #[.slice none 0 0, .func (.func 34) #[] #[.pointer (some ⟨Bs, 0, none⟩)]] w fun e W' => ∃ v, e = .returned v ∧ W'.ownsRow w.heap.size 43 2 v l.length (itvs l) ∧ Below w.heap.size w W' :=
  callsIn_wide.1 (appseq_in _ 3 trivial trivial rfl (by omega) Bs sv l hlen w hBl hBs hI)

set_option maxRecDepth 100000 in
set_option maxHeartbeats 4000000 in
theorem bitslen0 (w : World) : Calls Try.prog 37 #[.int .u64 0] w fun e w' => (∃ n : Int, e = .returned (.int .i64 n)) ∧ Below w.heap.size w w' := by
  go_enter Try.func37, Try.ntmps37
  go_wp2
  go_returns
  exact ⟨⟨_, rfl⟩, Below.refl _ _⟩
theorem insert0 (a : Option Addr) (c : Nat) (w : World) : Calls Try.prog 38 #[.slice a 0 c, .int .i64 0, .int .i64 0, .func (.func 29) #[] #[]] w fun e w' => e = .returned (.tuple #[]) ∧ Below w.heap.size w w' := by
  go_enter Try.func38, Try.ntmps38
  go_wp2
  refine wp_loop_rounds 1 ?_
  rw [rounds_succ]
  go_wp2
  go_returns
  exact ⟨rfl, Below.refl _ _⟩
set_option maxRecDepth 100000 in
set_option maxHeartbeats 4000000 in
theorem pdq0 (a : Option Addr) (c : Nat) (m : Int) (w : World) : Calls Try.prog 36 #[.slice a 0 c, .int .i64 0, .int .i64 0, .int .i64 m, .func (.func 29) #[] #[]] w fun e w' => e = .returned (.tuple #[]) ∧ Below w.heap.size w w' := by
  go_enter Try.func36, Try.ntmps36
  go_wp2
  refine wp_loop_rounds 1 ?_
  rw [rounds_succ]
  go_wp2_with (first | ((with_reducible refine (insert0 _ _ _).mono ?_); rintro e w2 ⟨rfl, hb⟩; have B2 := Lib.hid hb; clear hb))
  go_returns
  exact ⟨rfl, B2.out⟩

set_option maxRecDepth 100000 in
set_option maxHeartbeats 4000000 in
theorem sort_none (a : Option Addr) (c : Nat) (w : World) : Calls Try.prog 33 #[.slice a 0 c, .func (.func 29) #[] #[]] w fun e w' => e = .returned (.tuple #[]) ∧ Below w.heap.size w w' := by
  go_enter Try.func33, Try.ntmps33
  go_wp2_with (first
    | ((with_reducible refine (bitslen0 _).mono ?_); rintro e w2 ⟨⟨m, rfl⟩, hb⟩; have B2 := Lib.hid hb; clear hb)
    | ((with_reducible refine (pdq0 _ _ _ _).mono ?_); rintro e w3 ⟨rfl, hb⟩; have B3 := Lib.hid (bt B2.out hb); clear hb))
  go_returns
  exact ⟨rfl, B3.out⟩

theorem vals_any (a : Option Addr) (n c : Nat) (w : World) : Calls Try.prog 28 #[.slice a n c] w fun e w' => e = .returned (.func (.func 34) #[] #[.pointer (some ⟨w.heap.size, 0, none⟩)]) ∧ w' = w.alloc (.cells #[.slice a n c] 32) := by
  go_enter Try.func28, Try.ntmps28
  go_wp2
  go_returns
  exact ⟨rfl, rfl⟩
/-- What Collect tells of a slice of items. -/
def CollIs (w : World) (l : List It) (e : Ending) (w' : World) : Prop := ∃ v, e = .returned v ∧ w'.ownsRow w.heap.size 43 2 v l.length (itvs l) ∧ Below w.heap.size w w'
theorem collect_any (Bs : Nat) (sv : Value) (l : List It) (hlen : l.length ≤ 64) (w : World) (hBl : Bs < w.heap.size) (hBs : w.cell? ⟨Bs, 0, none⟩ = some sv) (hI : Its w.heap.size w sv l) :
    Calls Try.prog 32 #[.func (.func 34) #[] #[.pointer (some ⟨Bs, 0, none⟩)]] w (CollIs w l) := by
  have HA := Lib.hid (appseq_any Bs sv l hlen w hBl hBs hI)
  clear hBs hI
  go_enter Try.func32, Try.ntmps32
  go_wp2_with (first | ((with_reducible refine (HA.out).mono ?_); refine unhalt ?_))
  unfold Halted
  rintro e w2 ⟨v2, rfl, hr⟩
  have HR := Lib.hid hr
  clear hr
  dsimp only
  go_wp2
  go_returns
  exact ⟨v2, rfl, HR.out⟩
theorem sorted_none (Bs : Nat) (sv : Value) (w : World) (hBl : Bs < w.heap.size) (hBs : w.cell? ⟨Bs, 0, none⟩ = some sv) (hI : Its w.heap.size w sv []) :
    Calls Try.prog 27 #[.func (.func 34) #[] #[.pointer (some ⟨Bs, 0, none⟩)], .func (.func 29) #[] #[]] w fun e w' => (∃ a c, e = .returned (.slice a 0 c)) ∧ Below w.heap.size w w' := by
  have HA := Lib.hid (collect_any Bs sv [] (by simp) w hBl hBs hI)
  clear hBs hI
  go_enter Try.func27, Try.ntmps27
  go_wp2_with (first | ((with_reducible refine (HA.out).mono ?_); refine unhalt ?_))
  unfold Halted
  rintro e w2 ⟨v2, rfl, hr, hb⟩
  obtain ⟨a2, c2, rfl⟩ : ∃ a2 c2, v2 = .slice a2 0 c2 := by
    rcases hr.2 with ⟨h1, h2⟩ | ⟨g, cap, cur, h1, _⟩
    · exact ⟨none, 0, h1⟩
    · exact ⟨_, _, h1⟩
  have B2 := Lib.hid hb
  clear hr hb HA
  dsimp only
  go_wp2_with (first
    | ((with_reducible refine (sort_none _ _ _).mono ?_); rintro e w3 ⟨rfl, hb⟩; have B3 := Lib.hid (bt B2.out hb); clear hb))
  go_returns
  exact ⟨⟨_, _, rfl⟩, B3.out⟩

theorem list_none {w : World} {B pq pm : Nat} {v : Value} (h : HIs w B pq pm v []) : Calls Try.prog 21 #[.pointer (some ⟨pq, 0, none⟩)] w fun e w' => (∃ a c, e = .returned (.slice a 0 c)) ∧ Below w.heap.size w w' := by
  obtain ⟨a, c, rfl⟩ := q_slice h.1
  have c1 : w.cell? ⟨pq, 0, none⟩ = some (.slice a 0 c) := blk_cell h.1.blk 0
  have A := sorted_none w.heap.size (.slice a 0 c) (w.alloc (.cells #[.slice a 0 c] 32)) (by simp) (blk_cell (blk_new (o := .cells #[.slice a 0 c] 32 (0, 0)) rfl) 0) ⟨⟨a, c, rfl⟩, fun h => by simp at h⟩
  have HA := Lib.hid A
  have HV := Lib.hid (vals_any a 0 c w)
  clear h A
  go_enter Try.func21, Try.ntmps21
  go_wp2_with (first
    | ((with_reducible refine (HV.out).mono ?_); rintro e w1 ⟨rfl, rfl⟩)
    | ((with_reducible refine (HA.out).mono ?_); rintro e w2 ⟨⟨a2, c2, rfl⟩, hb⟩; have B2 := Lib.hid (bt (bta (Below.refl _ _) _) hb); clear hb))
  go_returns
  exact ⟨⟨_, _, rfl⟩, B2.out⟩
end Go.Proofs.Ytickfnedplbleaa
