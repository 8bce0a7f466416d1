/- The contracts of back and of Same of equal items. -/
import Derived.Test.YtickfnedplbleaaT14
namespace Go.Proofs.Ytickfnedplbleaa
open Go.RowKit
attribute [local go_sem] cell_over frozen_over lt_over le_over ne_over over_ne cell_set_same softAt softUpon lightUpon heavyUpon cell_kept frozen_kept

theorem info49 : (Try.prog.info? 49).map (fun i => (i.zero, i.size, i.bytes)) = some (some (.agg #[.int .i64 0, .int .i64 0]), 2, 16) := by kernel_rfl
/-- A row of the document's items. -/
def RItems (w : World) (B : Nat) (o : Value) (l : List It) : Prop := w.ownsRow B 49 2 o l.length (itvs l)
def BackIs (w : World) (l : List It) (e : Ending) (w' : World) : Prop := ∃ v, e = .returned v ∧ Below w.heap.size w w' ∧ RItems w' w.heap.size v l
theorem row_cells2 {w : World} {B E g cap n : Nat} {l : List It} (hr : w.ownsRow B E 2 (.slice (some ⟨g, 0, none⟩) n cap) n (itvs l)) (hn : n = l.length) {i : Nat} {x : It} (hx : l[i]? = some x) :
    w.cell? ⟨g, i * 2, none⟩ = some (.int .i64 x.1) ∧ w.cell? ⟨g, i * 2 + 1, none⟩ = some (.int .i64 x.2) := by
  obtain ⟨e1, e2⟩ := itvs_at l i x hx
  have hi : i < l.length := (List.getElem?_eq_some_iff.1 hx).1
  exact ⟨(hr.cellAt _ (by omega)).trans e1, (hr.cellAt _ (by omega)).trans e2⟩
theorem cell_two49 (w : World) (x : It) : ∀ j u, (itvs [x])[j]? = some u → (w.alloc (.cells #[.int .i64 x.1, .int .i64 x.2] 49)).cell? ((⟨w.heap.size, 0, none⟩ : Addr).add j) = some u := by
  intro j u hj
  have e : (⟨w.heap.size, 0, none⟩ : Addr).add j = ⟨w.heap.size, j, none⟩ := by unfold Addr.add; split <;> simp_all
  rw [e, blk_cell (heap_alloc_new w _)]
  simpa [itvs, itv] using hj

set_option maxHeartbeats 2000000 in
theorem back_any {w : World} {B : Nat} {o : Value} {l : List It} (h : Items w B o l) (hlen : l.length ≤ 64) : Calls Try.prog 14 #[o] w (BackIs w l) := by
  obtain ⟨a, c, rfl⟩ := items_slice h
  have HH := Lib.hid h
  clear h
  obtain ⟨i0, hi, hz, hsz, hbz⟩ := info_parts info49
  have HI := Lib.hid hi
  have HZ := Lib.hid hz
  have HSZ := Lib.hid hsz
  have HBZ := Lib.hid hbz
  clear hi hz hsz hbz
  go_enter Try.func14, Try.ntmps14
  go_wp2
  go_loopw [3, 4] (fun v i wr => ∃ k : Nat, k ≤ l.length ∧ i = .int .i64 (k : Int) ∧ Below w.heap.size w wr ∧ RItems wr w.heap.size v (l.take k)) (fun _ i _ => l.length - (intOf i).toNat)
  case atStart => exact ⟨0, Nat.zero_le _, rfl, Below.refl _ _, World.ownsRow_nil _ _ _ _⟩
  case round =>
    obtain ⟨k, hk, rfl, hB, hrow⟩ := hrel
    by_cases hlt : k < l.length
    · obtain ⟨x, hx⟩ : ∃ x, l[k]? = some x := ⟨_, List.getElem?_eq_getElem hlt⟩
      have htk : l.take (k + 1) = l.take k ++ [x] := by rw [List.take_add_one, hx]; rfl
      have hr := own_below HH.out hB
      rcases hr.2 with ⟨_, h0⟩ | ⟨g, cap, cur, e, hg, hh, _⟩
      · omega
      · cases e
        obtain ⟨c1, c2⟩ := row_cells2 hr rfl hx
        have i0' : (0 : Int) ≤ (k : Int) := by omega
        have i1 : (k : Int) < l.length := by omega
        have hkl : (l.take k).length = k := by simp; omega
        have HTK := Lib.hid htk
        have HX := Lib.hid hx
        clear htk hx hr hh
        go_wp2_with (at_builtin; refine unhalt ?_)
        unfold Halted
        refine wpList_append_own _ rfl (.tmp 11) (.tmp 16) 26 rfl w.heap.size 49 i0 _ 2 16 Try.underlying26 HI.out HZ.out HSZ.out HBZ.out rfl (by decide) _ k (itvs (l.take k)) rfl (by have := World.ownsRow.alloc hrow (.cells #[.int .i64 x.1, .int .i64 x.2] 49); rw [hkl] at this; exact this) ⟨wr.heap.size, 0, none⟩ 1 1 (itvs [x]) rfl rfl (cell_two49 _ _) (itvs_oneCell _) (by unfold maxLen; omega) (by omega) (by have := hB.size; simp; omega) ?_
        intro v' w' h2 h3 _
        have B2 : Below w.heap.size w w' := (bta hB _).grown h3 (by have := hB.size; simp; omega) fun j hj => (World.ownsRow.lt hrow j hj).1
        have HR2 := Lib.hid (show RItems w' w.heap.size v' (l.take (k + 1)) by
          unfold RItems
          rw [HTK.out, itvs_app, List.length_append, hkl]
          exact h2)
        clear h2 h3 hrow
        go_wp2
        go_roundw
        case rel => exact ⟨k + 1, by omega, by go_num, B2, HR2.out⟩
        case measure => simp [intOf]; omega
    · obtain rfl : k = l.length := by omega
      rw [List.take_length] at hrow
      have HR := Lib.hid hrow
      clear hrow
      go_wp2
      go_returns
      exact ⟨_, rfl, hB, HR.out⟩
end Go.Proofs.Ytickfnedplbleaa
