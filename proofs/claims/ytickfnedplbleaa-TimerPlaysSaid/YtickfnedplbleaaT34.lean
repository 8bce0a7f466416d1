/- The contract of List of a queue: its items in order. -/
import Derived.Test.YtickfnedplbleaaT33
namespace Go.Proofs.Ytickfnedplbleaa
open Go.RowKit Go.Shelf

/-- What List tells. -/
def ListIs (w : World) (l : List It) (e : Ending) (w' : World) : Prop :=
  ∃ v l', e = .returned v ∧ l'.Perm l ∧ l'.Pairwise ltI ∧ Items w' w.heap.size v l' ∧ Below w.heap.size w w'
theorem sorted_any (Bs : Nat) (sv : Value) (l : List It) (hlen : l.length ≤ 64) (hg : ∀ x ∈ l, Good x) (hn : (l.map (·.2)).Nodup) (w : World) (hBl : Bs < w.heap.size) (hBs : w.cell? ⟨Bs, 0, none⟩ = some sv) (hI : Its w.heap.size w sv l) :
    Calls Try.prog 27 #[.func (.func 34) #[] #[.pointer (some ⟨Bs, 0, none⟩)], .func (.func 29) #[] #[]] w (ListIs w l) := by
  have HA := Lib.hid (collect_any Bs sv l hlen w hBl hBs hI)
  have HG := Lib.hid hg
  have HN := Lib.hid hn
  clear hBs hI hg hn
  go_enter Try.func27, Try.ntmps27
  go_wp2_with (first | ((with_reducible refine (HA.out).mono ?_); refine unhalt ?_))
  unfold Halted
  rintro e w2 ⟨v2, rfl, hr, hb⟩
  have HS := Lib.hid (sort_any hr hb.size HG.out HN.out hlen)
  have B2 := Lib.hid hb
  clear hr hb HA
  dsimp only
  go_wp2_with (first | ((with_reducible refine (HS.out).mono ?_); refine unhalt ?_))
  unfold Halted
  rintro e w3 ⟨rfl, ⟨l', h1, h2, h3⟩, h4⟩
  have B3 := Lib.hid (h4 w B2.out)
  have HF := Lib.hid (show Items w3 w.heap.size v2 l' from by unfold Items; rw [h1.length_eq]; exact h3)
  have H1 := Lib.hid h1
  have H2 := Lib.hid h2
  clear h1 h2 h3 h4
  dsimp only
  go_wp2
  go_returns
  exact ⟨_, l', rfl, H1.out, H2.out, HF.out, B3.out⟩
theorem q_its {w : World} {B pq pm : Nat} {v : Value} {l : List It} (h : QIs w B pq pm v l) : Its w.heap.size w v l := by
  obtain ⟨a, c, rfl⟩ := q_slice h
  refine ⟨⟨a, c, rfl⟩, fun hl => ?_⟩
  obtain ⟨g, cap, e, _, _, hgl, _, _, _, hc⟩ := h.some hl
  exact ⟨g, cap, e, hgl, hc⟩
theorem list_any {w : World} {B pq pm : Nat} {v : Value} {l : List It} (h : HIs w B pq pm v l) : Calls Try.prog 21 #[.pointer (some ⟨pq, 0, none⟩)] w (ListIs w l) := by
  have hI := q_its h.1
  have hg := h.1.good
  have hn := h.1.ids
  have hl := h.1.len
  obtain ⟨a, c, rfl⟩ := q_slice h.1
  have c1 : w.cell? ⟨pq, 0, none⟩ = some (.slice a l.length c) := blk_cell h.1.blk 0
  have hb : Below w.heap.size w (w.alloc (.cells #[.slice a l.length c] 32)) := bta (Below.refl _ _) _
  have A := sorted_any w.heap.size (.slice a l.length c) l hl hg hn (w.alloc (.cells #[.slice a l.length c] 32)) (by simp) (blk_cell (blk_new (o := .cells #[.slice a l.length c] 32 (0, 0)) rfl) 0)
    ⟨⟨a, c, rfl⟩, fun h0 => by
      obtain ⟨g, c', e, h1, h2⟩ := hI.2 h0
      exact ⟨g, c', e, Nat.lt_of_lt_of_le h1 hb.size, fun i x hx => ⟨cell_below hb (h2 i x hx).1, cell_below hb (h2 i x hx).2⟩⟩⟩
  have A' : Calls Try.prog 27 #[.func (.func 34) #[] #[.pointer (some ⟨w.heap.size, 0, none⟩)], .func (.func 29) #[] #[]] (w.alloc (.cells #[.slice a l.length c] 32)) (ListIs w l) :=
    A.mono fun e w' ⟨v, l', h1, h2, h3, h4, h5⟩ => ⟨v, l', h1, h2, h3, items_base h4 hb.size, bt hb h5⟩
  have HA := Lib.hid A'
  have HV := Lib.hid (vals_any a l.length c w)
  clear h A A' hI hg hn hb
  go_enter Try.func21, Try.ntmps21
  go_wp2_with (first
    | ((with_reducible refine (HV.out).mono ?_); rintro e w1 ⟨rfl, rfl⟩)
    | ((with_reducible refine (HA.out).mono ?_); refine unhalt ?_))
  unfold Halted
  rintro e w3 ⟨v, l', rfl, h⟩
  have HF := Lib.hid h
  clear h
  dsimp only
  go_wp2
  go_returns
  exact ⟨v, l', rfl, HF.out⟩
end Go.Proofs.Ytickfnedplbleaa
