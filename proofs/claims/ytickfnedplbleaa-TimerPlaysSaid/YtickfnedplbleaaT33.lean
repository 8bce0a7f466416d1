/- The library's SortFunc at a row of items: the row holds them in order. -/
import Derived.Test.YtickfnedplbleaaL1
import Derived.Test.YtickfnedplbleaaT26
namespace Go.Proofs.Ytickfnedplbleaa
open Go.RowKit

/-- An item that may be. -/
abbrev GIt := {x : It // Good x}
instance : Inhabited GIt := ⟨⟨(0, 0), by unfold Good; omega⟩⟩
def encG (x : GIt) : List Value := itv x.1
def cmpG (x y : GIt) : Int := if x.1.1 = y.1.1 then x.1.2 - y.1.2 else x.1.1 - y.1.1
theorem ltG (x y : GIt) : ltOf cmpG x y = decide (ltI x.1 y.1) := by
  unfold ltOf cmpG
  apply decide_eq_decide.2
  unfold ltI
  split <;> omega
theorem swoG : Go.Sort.SWO (ltOf cmpG) where
  irrefl x := by rw [ltG]; unfold ltI; simp
  trans x y z h1 h2 := by rw [ltG] at *; simp only [decide_eq_true_eq] at *; unfold ltI at *; omega
  ntrans x y z h1 h2 := by rw [ltG] at *; simp only [decide_eq_false_iff_not] at *; unfold ltI at *; omega
theorem ahead_grows (a b : It) (ha : Good a) (hb : Good b) (w : World) : Calls Try.prog 29 #[.agg #[.int .i64 a.1, .int .i64 a.2], .agg #[.int .i64 b.1, .int .i64 b.2]] w
    fun e w' => e = .returned (.int .i64 (if a.1 = b.1 then a.2 - b.2 else a.1 - b.1)) ∧ ∃ q os', w' = Go.Sort.grow (w.drewN q) os' := by
  obtain ⟨a1, a2, a3, a4⟩ := ha
  obtain ⟨b1, b2, b3, b4⟩ := hb
  have x1 : IntKind.i64.wrap (a.1 - b.1) = a.1 - b.1 := IntWalk.i64_in _ (by omega)
  have x2 : IntKind.i64.wrap (a.2 - b.2) = a.2 - b.2 := IntWalk.i64_in _ (by omega)
  by_cases h : a.1 = b.1
  · rw [if_pos h]
    have H := Lib.hid h
    have e0 : (a.1 == b.1) = true := by simpa using h
    have e1 : (a.1 != b.1) = false := by simpa using h
    clear h
    go_enter Try.func29, Try.ntmps29
    go_wp2
    go_returns
    exact ⟨rfl, 0, _, by rw [Go.Sort.alloc_eq_grow, Go.Sort.alloc_eq_grow, Go.Sort.grow_grow]; rfl⟩
  · rw [if_neg h]
    have e0 : (a.1 == b.1) = false := by simpa using h
    have e1 : (a.1 != b.1) = true := by simpa using h
    go_enter Try.func29, Try.ntmps29
    go_wp2
    go_returns
    exact ⟨rfl, 0, _, by rw [Go.Sort.alloc_eq_grow, Go.Sort.alloc_eq_grow, Go.Sort.grow_grow]; rfl⟩
theorem cmpLaysG (blk off size : Nat) (w : World) : CmpLays Try.prog 29 #[] encG 2 cmpG blk off size w :=
  fun _ _ _ _ x y => ahead_grows x.1 y.1 x.2 y.2 _

section
variable {w : World} {g m : Nat} {d : Array GIt} {os : Array Obj}
theorem sw_blk {cur : Array Value} {e : TypeId} {fz : Nat × Nat} (h : w.heap[g]? = some (.cells cur e fz)) : ∃ cur', (sortWorldK encG 2 w g 0 m d os).heap[g]? = some (.cells cur' e fz) ∧ cur'.size = cur.size := by
  unfold sortWorldK
  rw [Go.Sort.heap_grow_old _ _ (by unfold Go.Sort.putRowK; rw [Go.Sort.size_putRow]; exact blk_lt h)]
  unfold Go.Sort.putRowK Go.Sort.putRow Go.Sort.mapBlock
  simp only [Array.getElem?_modify, Go.Sort.heap_ahead, h]
  refine ⟨Go.Sort.putCells id 0 (Go.Sort.flatK encG 2 d) cur, ?_, ?_⟩
  · simp [Go.Sort.onCells]
  · simp [Go.Sort.putCells]
theorem sw_far {b : Nat} (h : b < w.heap.size) (hb : b ≠ g) : (sortWorldK encG 2 w g 0 m d os).heap[b]? = w.heap[b]? := by
  unfold sortWorldK
  rw [Go.Sort.heap_grow_old _ _ (by unfold Go.Sort.putRowK; rw [Go.Sort.size_putRow]; exact h)]
  unfold Go.Sort.putRowK Go.Sort.putRow Go.Sort.mapBlock
  simp only [Array.getElem?_modify, Go.Sort.heap_ahead]
  rw [if_neg (fun e => hb e.symm)]
theorem sw_size : w.heap.size ≤ (sortWorldK encG 2 w g 0 m d os).heap.size := size_sortWorldK_c encG 2 w g 0 m d os
theorem sw_below {w0 : World} {B : Nat} (h : Below B w0 w) (hg : B ≤ g) (hB : B ≤ w.heap.size) : Below B w0 (sortWorldK encG 2 w g 0 m d os) :=
  ⟨h.os, h.tape, h.output, Nat.le_trans h.size sw_size, fun b hb => (sw_far (by omega) (by omega)).trans (h.block b hb)⟩
end

/-- What SortFunc leaves. -/
def SortIs (w : World) (B : Nat) (v : Value) (l : List It) (e : Ending) (w' : World) : Prop :=
  e = .returned (.tuple #[]) ∧ (∃ l', l'.Perm l ∧ l'.Pairwise ltI ∧ w'.ownsRow B 43 2 v l.length (itvs l')) ∧ ∀ w0, Below B w0 w → Below B w0 w'

theorem attach_list (l : List It) (h : ∀ x ∈ l, Good x) : ∃ d : Array GIt, d.toList.map (·.1) = l ∧ d.size = l.length := by
  refine ⟨(l.attachWith Good h).toArray, ?_, ?_⟩
  · simpa using List.attach_map_subtype_val l
  · simp
theorem holds_items {w : World} {B g cap : Nat} {l : List It} (d : Array GIt) (hd : d.toList.map (·.1) = l) (hs : d.size = l.length) (h : w.ownsRow B 43 2 (.slice (some ⟨g, 0, none⟩) l.length cap) l.length (itvs l)) : Go.Sort.HoldsK encG 2 w g 0 d := by
  intro j hj
  rw [Go.Sort.size_flatK, hs] at hj
  refine ⟨?_, h.frozenAt _⟩
  rw [Nat.zero_add, h.cellAt j hj, Go.Sort.get_flatK _ _ _ _ (by rw [hs]; exact hj)]
  have hi : j / 2 < d.size := by omega
  have hl : l[j / 2]? = some (d[j / 2]!).1 := by
    rw [← hd, List.getElem?_map, Array.getElem?_toList, getElem!_pos d _ hi, Array.getElem?_eq_getElem hi]
    rfl
  obtain ⟨c0, c1⟩ := itvs_at l (j / 2) _ hl
  rcases Nat.mod_two_eq_zero_or_one j with e | e
  · rw [show j / 2 * 2 = j by omega] at c0
    rw [c0, e]
    rfl
  · rw [show j / 2 * 2 + 1 = j by omega] at c1
    rw [c1, e]
    rfl
theorem items_holds {w : World} {B g cap n : Nat} {cur : Array Value} (d : Array GIt) (hs : d.size = n) (hB : B ≤ g) (hb : w.heap[g]? = some (.cells cur 43 (0, 0))) (hn : n ≤ cap) (hc : cap ≤ maxLen) (hsz : cur.size = cap * 2) (h : Go.Sort.HoldsK encG 2 w g 0 d) :
    w.ownsRow B 43 2 (.slice (some ⟨g, 0, none⟩) n cap) n (itvs (d.toList.map (·.1))) := by
  refine ⟨by rw [itvs_len, List.length_map, Array.length_toList, hs], .inr ⟨g, cap, cur, rfl, hB, hb, hn, hc, hsz, ?_⟩⟩
  apply List.ext_getElem?
  intro j
  by_cases hj : j < n * 2
  · have h1 := (h j (by rw [Go.Sort.size_flatK, hs]; exact hj)).1
    rw [Nat.zero_add, blk_cell hb, Go.Sort.get_flatK _ _ _ _ (by rw [hs]; exact hj)] at h1
    rw [List.getElem?_take_of_lt hj, Array.getElem?_toList, h1]
    have hi : j / 2 < d.size := by omega
    have hl : (d.toList.map (·.1))[j / 2]? = some (d[j / 2]!).1 := by
      rw [List.getElem?_map, Array.getElem?_toList, getElem!_pos d _ hi, Array.getElem?_eq_getElem hi]
      rfl
    obtain ⟨c0, c1⟩ := itvs_at _ (j / 2) _ hl
    rcases Nat.mod_two_eq_zero_or_one j with e | e
    · rw [show j / 2 * 2 = j by omega] at c0
      rw [c0, e]
      rfl
    · rw [show j / 2 * 2 + 1 = j by omega] at c1
      rw [c1, e]
      rfl
  · rw [List.getElem?_eq_none (by rw [List.length_take]; omega), List.getElem?_eq_none (by rw [itvs_len, List.length_map, Array.length_toList]; omega)]
theorem sort_any {w : World} {B : Nat} {v : Value} {l : List It} (h : w.ownsRow B 43 2 v l.length (itvs l)) (hB : B ≤ w.heap.size) (hg : ∀ x ∈ l, Good x) (hn : (l.map (·.2)).Nodup) (hlen : l.length ≤ 64) :
    Calls Try.prog 33 #[v, .func (.func 29) #[] #[]] w (SortIs w B v l) := by
  by_cases h0 : l.length = 0
  · obtain rfl : l = [] := List.eq_nil_of_length_eq_zero h0
    obtain ⟨a, c, rfl⟩ : ∃ a c, v = .slice a 0 c := by
      rcases h.2 with ⟨h1, _⟩ | ⟨g, cap, cur, h1, _⟩
      · exact ⟨none, 0, h1⟩
      · exact ⟨_, _, h1⟩
    exact (sort_none a c w).mono fun e w' ⟨e1, hb⟩ => ⟨e1, ⟨[], List.Perm.refl _, List.Pairwise.nil, own_below h hb⟩, fun w0 h2 => h2.trans (hb.mono hB)⟩
  · obtain ⟨d, hd, hs⟩ := attach_list l hg
    rcases h.2 with ⟨_, h1⟩ | ⟨g, cap, cur, rfl, hgB, hh, hnc, hcm, hcs, _⟩
    · exact absurd h1 h0
    have eg : ∀ args w, (callFunc 29 args).run Try.prog w = .ok (.enter 29 args) w := enters_of Try.func29 (by kernel_rfl) rfl
    have hH := holds_items d hd hs h
    have hcon := AnyQ.slices_SortFunc Try.sortIt 2 Try.isAgg43 Try.sizeOf43 encG (fun _ => rfl) (fun x v hv => by simp [encG, itv] at hv; rcases hv with rfl | rfl <;> rfl) cmpG swoG 29 #[] g 0 cap d w eg (cmpLaysG g 0 d.size w) hH (blk_lt hh) (by omega)
    change Calls Try.prog 33 _ _ _ at hcon
    rw [hs] at hcon
    refine hcon.mono fun e w' ⟨e1, d', m, os, hp, hsd, hw⟩ => ⟨e1, ⟨d'.toList.map (·.1), ?_, ?_, ?_⟩, fun w0 h2 => ?_⟩
    · have h2 := hp.2.2
      have e1 : d'.extract 0 l.length = d' := by rw [← hs, ← hp.1]; simp
      have e2 : d.extract 0 l.length = d := by rw [← hs]; simp
      rw [e1, e2] at h2
      have h3 := h2.map (·.1)
      rw [hd] at h3
      exact h3
    · rw [List.pairwise_map, List.pairwise_iff_getElem]
      intro i j hi hj hij
      have hi' : i < d'.size := by simpa using hi
      have hj' : j < d'.size := by simpa using hj
      have h2 := hsd i j (Nat.zero_le _) hij (by have := hp.1; omega)
      rw [ltG, getElem!_pos d' i hi', getElem!_pos d' j hj'] at h2
      have h3 : ¬ ltI d'[j].1 d'[i].1 := by simpa using h2
      have hpp : (d'.toList.map (·.1)).Perm l := by
        have h2 := hp.2.2
        have e1 : d'.extract 0 l.length = d' := by rw [← hs, ← hp.1]; simp
        have e2 : d.extract 0 l.length = d := by rw [← hs]; simp
        rw [e1, e2] at h2
        have h3 := h2.map (·.1)
        rw [hd] at h3
        exact h3
      have hnd := (hpp.map (·.2)).nodup_iff.2 hn
      have hne : d'[j].1.2 ≠ d'[i].1.2 := fun e => by
        rw [List.map_map, List.nodup_iff_pairwise_ne, List.pairwise_map, List.pairwise_iff_getElem] at hnd
        exact hnd i j hi hj hij (by simpa using e.symm)
      have := lt_total h3 hne
      simpa using this
    · obtain ⟨cur', hb', hsz'⟩ := sw_blk (m := m) (d := d') (os := os) hh
      rw [hw]
      exact items_holds d' (by rw [hp.1, hs]) hgB hb' hnc hcm (hsz'.trans hcs) (holdsK_sortWorldK encG 2 w g 0 m d d' os (blk_lt hh) hH hp.1)
    · rw [hw]
      exact sw_below h2 hgB hB
end Go.Proofs.Ytickfnedplbleaa
