/- Plain facts for TimerOnce: an array of 64 numbers beside a list of items. -/
import Derived.Test.YtickfnedplbleaaT29
namespace Go.Proofs.Ytickfnedplbleaa
open Go.RowKit

/-- A block of 64 numbers. -/
def Arr (o : Obj) (g : Nat → Int) : Prop := ∃ cs, o = .cells cs 55 (0, 0) ∧ cs.size = 64 ∧ ∀ i, i < 64 → cs[i]? = some (.int .i64 (g i))
def put (g : Nat → Int) (k : Nat) (a : Int) : Nat → Int := fun i => if i = k then a else g i
theorem Arr.cell {o : Obj} {g : Nat → Int} (h : Arr o g) {w : World} {b : Nat} (hb : w.heap[b]? = some o) (i : Nat) (hi : i < 64) : w.cell? ⟨b, i, none⟩ = some (.int .i64 (g i)) := by
  obtain ⟨cs, rfl, _, h2⟩ := h
  rw [blk_cell hb]
  exact h2 i hi
theorem Arr.free {o : Obj} {g : Nat → Int} (h : Arr o g) {w : World} {b : Nat} (hb : w.heap[b]? = some o) (i : Nat) : w.frozen? ⟨b, i, none⟩ = false := by
  obtain ⟨cs, rfl, _, h2⟩ := h
  exact blk_free hb i
theorem hk_put {w0 w : World} {pq pm b : Nat} {L : List It} {o : Obj} {g : Nat → Int} (h : HandK w0 w pq pm L b o) (ha : Arr o g) (hb : w0.heap.size ≤ b) (i : Nat) (a : Int) :
    ∃ o', HandK w0 (w.setCell ⟨b, i, none⟩ (.int .i64 a)) pq pm L b o' ∧ Arr o' (put g i a) := by
  obtain ⟨cs, rfl, h1, h2⟩ := ha
  refine ⟨_, h.store hb i _, _, rfl, by simpa using h1, fun j hj => ?_⟩
  unfold put
  by_cases e : j = i
  · subst e
    rw [if_pos rfl, Array.getElem?_setIfInBounds_self_of_lt (by omega)]
  · rw [if_neg e, Array.getElem?_setIfInBounds_ne (fun e' => e e'.symm)]
    exact h2 j hj
theorem arr_zero : Arr (.cells (Array.replicate 64 (.int .i64 0)) 55 (0, 0)) (fun _ => 0) :=
  ⟨_, rfl, by simp, fun i hi => by simp [hi]⟩

/-- The array has each item's tick, and -1 besides. -/
def Rel (L : List It) (g : Nat → Int) : Prop :=
  (∀ z ∈ L, ∃ id : Nat, id < 64 ∧ z.2 = id ∧ g id = z.1 ∧ 0 ≤ z.1 ∧ z.1 ≤ 255) ∧ ∀ id, id < 64 → g id = -1 ∨ (g id, (id : Int)) ∈ L
theorem mem_less {L : List It} {id : Int} {z : It} : z ∈ less L id ↔ z ∈ L ∧ z.2 ≠ id := by simp [less]
theorem rel_none {g : Nat → Int} (h : ∀ i, i < 64 → g i = -1) : Rel [] g := ⟨fun z hz => by simp at hz, fun id hid => .inl (h id hid)⟩
theorem rel_set {L : List It} {g : Nat → Int} (h : Rel L g) (id a : Nat) (hid : id < 64) (ha : a ≤ 255) : Rel (less L id ++ [((a : Int), (id : Int))]) (put g id a) := by
  refine ⟨fun z hz => ?_, fun j hj => ?_⟩
  · rcases List.mem_append.1 hz with hz | hz
    · obtain ⟨hz, hne⟩ := mem_less.1 hz
      obtain ⟨k, h1, h2, h3, h4⟩ := h.1 z hz
      refine ⟨k, h1, h2, ?_, h4⟩
      unfold put
      rw [if_neg (fun e => hne (by rw [h2, e])), h3]
    · simp at hz
      subst hz
      exact ⟨id, hid, rfl, by simp [put], by simp, by simp; omega⟩
  · unfold put
    by_cases e : j = id
    · subst e
      right
      simp
    · rw [if_neg e]
      rcases h.2 j hj with h1 | h1
      · exact .inl h1
      · exact .inr (List.mem_append.2 (.inl (mem_less.2 ⟨h1, fun e2 => e (by have : (j : Int) = id := e2; omega)⟩)))
theorem less_len (L : List It) (id : Int) : (less L id).length ≤ L.length := List.length_filter_le _ _

/-- The array behind the taking of some. -/
def gone (g : Nat → Int) (l : List It) : Nat → Int := fun i => if (i : Int) ∈ l.map (·.2) then -1 else g i
theorem gone_nil (g : Nat → Int) : gone g [] = g := by funext i; simp [gone]
theorem gone_put (g : Nat → Int) (l : List It) (x : It) (id : Nat) (hx : x.2 = id) : put (gone g l) id (-1) = gone g (l ++ [x]) := by
  funext i
  unfold put gone
  by_cases e : i = id
  · subst e
    rw [if_pos rfl, if_pos (by simp [hx])]
  · rw [if_neg e]
    have : ((i : Int) ∈ (l ++ [x]).map (·.2)) ↔ ((i : Int) ∈ l.map (·.2)) := by
      simp only [List.map_append, List.mem_append, List.map_cons, List.map_nil, List.mem_singleton, hx]
      constructor
      · rintro (h | h)
        · exact h
        · omega
      · exact .inl
    by_cases h : (i : Int) ∈ l.map (·.2)
    · rw [if_pos h, if_pos (this.2 h)]
    · rw [if_neg h, if_neg (fun h2 => h (this.1 h2))]
theorem rel_due {L out : List It} {g : Nat → Int} {now : Int} (h : Rel L g) (hn : (L.map (·.2)).Nodup) (hp : out.Perm (L.filter fun x => decide (x.1 ≤ now))) : Rel (L.filter fun x => !decide (x.1 ≤ now)) (gone g out) := by
  have hout : ∀ z, z ∈ out ↔ z ∈ L ∧ z.1 ≤ now := fun z => by rw [hp.mem_iff]; simp
  have inj : ∀ y ∈ L, ∀ z ∈ L, y.2 = z.2 → y = z := fun y hy z hz e => by
    obtain ⟨k, h1, h2, h3, _⟩ := h.1 y hy
    obtain ⟨k', h1', h2', h3', _⟩ := h.1 z hz
    have : k = k' := by omega
    subst this
    exact Prod.ext (by rw [← h3, ← h3']) e
  refine ⟨fun z hz => ?_, fun j hj => ?_⟩
  · obtain ⟨hz, hlt⟩ := List.mem_filter.1 hz
    obtain ⟨k, h1, h2, h3, h4⟩ := h.1 z hz
    refine ⟨k, h1, h2, ?_, h4⟩
    unfold gone
    rw [if_neg, h3]
    intro hm
    obtain ⟨y, hy, he⟩ := List.mem_map.1 hm
    obtain ⟨hyL, hyn⟩ := (hout y).1 hy
    have := inj y hyL z hz (by rw [h2]; exact he)
    subst this
    simp at hlt
    omega
  · unfold gone
    by_cases hm : (j : Int) ∈ out.map (·.2)
    · rw [if_pos hm]
      exact .inl rfl
    · rw [if_neg hm]
      rcases h.2 j hj with h1 | h1
      · exact .inl h1
      · refine .inr (List.mem_filter.2 ⟨h1, ?_⟩)
        simp only [Bool.not_eq_true', decide_eq_false_iff_not]
        intro hle
        exact hm (List.mem_map.2 ⟨_, (hout _).2 ⟨h1, hle⟩, rfl⟩)
/-- What is due at a tick, of items that are not ahead of it: all at that tick, by number. -/
theorem due_at {L out : List It} {g : Nat → Int} {now : Nat} (h : Rel L g) (hn : (L.map (·.2)).Nodup) (hlow : ∀ z ∈ L, (now : Int) ≤ z.1) (hp : out.Perm (L.filter fun x => decide (x.1 ≤ (now : Int)))) (ho : out.Pairwise ltI) (k : Nat) (x : It) (hx : out[k]? = some x) :
    ∃ id : Nat, id < 64 ∧ x = ((now : Int), (id : Int)) ∧ gone g (out.take k) id = now ∧ ∀ j y, j < k → out[j]? = some y → y.2 < id := by
  have hout : ∀ z, z ∈ out → z ∈ L ∧ z.1 = now := fun z hz => by
    have := hp.mem_iff.1 hz
    simp at this
    exact ⟨this.1, by have := hlow z this.1; omega⟩
  obtain ⟨hxL, hx1⟩ := hout x (List.mem_of_getElem? hx)
  obtain ⟨id, h1, h2, h3, _⟩ := h.1 x hxL
  have hlt : ∀ j y, j < k → out[j]? = some y → y.2 < id := fun j y hj hy => by
    obtain ⟨hjl, hje⟩ := List.getElem?_eq_some_iff.1 hy
    obtain ⟨hkl, hke⟩ := List.getElem?_eq_some_iff.1 hx
    have := List.pairwise_iff_getElem.1 ho j k hjl hkl hj
    rw [hje, hke] at this
    have hy1 := (hout y (List.mem_of_getElem? hy)).2
    unfold ltI at this
    omega
  refine ⟨id, h1, Prod.ext hx1 h2, ?_, hlt⟩
  unfold gone
  rw [if_neg, h3, hx1]
  intro hm
  obtain ⟨y, hy, he⟩ := List.mem_map.1 hm
  obtain ⟨j, hj⟩ := List.getElem?_of_mem hy
  have hjk : j < k := by
    have := (List.getElem?_eq_some_iff.1 hj).1
    simp at this
    omega
  rw [List.getElem?_take_of_lt hjk] at hj
  have := hlt j y hjk hj
  have he : y.2 = id := he
  omega
end Go.Proofs.Ytickfnedplbleaa
