/- Set, Stop, Due, When and Len of a queue, by what it holds in whatever order. -/
import Derived.Test.YtickfnedplbleaaT24
namespace Go.Proofs.Ytickfnedplbleaa
open Go.RowKit

/-- All but those of a number. -/
def less (l : List It) (id : Int) : List It := l.filter fun z => decide (z.2 ≠ id)
theorem less_perm {l m : List It} (h : l.Perm m) (id : Int) : (less l id).Perm (less m id) := h.filter _
theorem less_none {l : List It} {id : Int} (h : ∀ z ∈ l, z.2 ≠ id) : less l id = l := List.filter_eq_self.2 fun z hz => by simpa using h z hz
theorem less_cons_eq (x : It) (l : List It) : less (x :: l) x.2 = less l x.2 := by simp [less]
theorem less_cons_ne {x : It} {l : List It} {id : Int} (h : x.2 ≠ id) : less (x :: l) id = x :: less l id := by simp [less, h]
theorem tail_ne {x : It} {l : List It} (h : ((x :: l).map (·.2)).Nodup) : ∀ z ∈ l, z.2 ≠ x.2 := fun z hz e => by
  rw [List.map_cons, List.nodup_cons] at h
  exact h.1 (by rw [← e]; exact List.mem_map.2 ⟨z, hz, rfl⟩)
theorem set_perm (a : Int) : ∀ {l : List It} {i : Nat} {x : It}, l[i]? = some x → (l.map (·.2)).Nodup → (l.set i (a, x.2)).Perm (less l x.2 ++ [(a, x.2)])
  | [], i, x, h, _ => by simp at h
  | y :: t, 0, x, h, hn => by
    simp at h
    subst h
    rw [less_cons_eq, less_none (tail_ne hn)]
    exact (List.perm_append_singleton _ _).symm
  | y :: t, i + 1, x, h, hn => by
    have hx : t[i]? = some x := by simpa using h
    have hne : y.2 ≠ x.2 := fun e => tail_ne hn x (List.mem_of_getElem? hx) e.symm
    rw [less_cons_ne hne]
    exact (set_perm a hx (List.nodup_cons.1 hn).2).cons y
theorem stop_perm {l l' : List It} {x : It} (h : (x :: l').Perm l) (hn : (l.map (·.2)).Nodup) : l'.Perm (less l x.2) := by
  have h1 := less_perm h x.2
  rw [less_cons_eq, less_none (tail_ne ((h.map (·.2)).nodup_iff.2 hn))] at h1
  exact h1

/-- A queue in a caller's hand that holds what L has, in whatever order. -/
def HandP (w0 w : World) (pq pm : Nat) (L : List It) (rows : List (Value × List It)) : Prop := ∃ l, Hand w0 w pq pm l rows ∧ l.Perm L
variable {w0 w : World} {pq pm : Nat} {L : List It} {rows : List (Value × List It)}
theorem HandP.grow {w' : World} (h : HandP w0 w pq pm L rows) (hb : Below w.heap.size w w') : HandP w0 w' pq pm L rows := by
  obtain ⟨l, h1, h2⟩ := h
  exact ⟨l, h1.grow hb, h2⟩
theorem HandP.below (h : HandP w0 w pq pm L rows) : Below w0.heap.size w0 w := by
  obtain ⟨l, h1, h2⟩ := h
  exact hand_below h1
theorem HandP.ids (h : HandP w0 w pq pm L rows) : (L.map (·.2)).Nodup := by
  obtain ⟨l, ⟨v, hv, _⟩, h2⟩ := h
  exact (h2.map (·.2)).nodup_iff.1 hv.1.ids
theorem HandP.good (h : HandP w0 w pq pm L rows) : ∀ z ∈ L, Good z := by
  obtain ⟨l, ⟨v, hv, _⟩, h2⟩ := h
  exact fun z hz => hv.1.good z (h2.mem_iff.2 hz)
theorem HandP.len (h : HandP w0 w pq pm L rows) : L.length ≤ 64 := by
  obtain ⟨l, ⟨v, hv, _⟩, h2⟩ := h
  rw [← h2.length_eq]
  exact hv.1.len
theorem HandP.row (h : HandP w0 w pq pm L rows) {r : Value × List It} (hm : r ∈ rows) : Items w w0.heap.size r.1 r.2 := by
  obtain ⟨l, h1, h2⟩ := h
  exact hand_row h1 hm
theorem hp_new (w : World) : Calls Try.prog 8 #[] w fun e w' => ∃ pq pm, e = .returned (.pointer (some ⟨pq, 0, none⟩)) ∧ HandP w w' pq pm [] [] :=
  (hand_new w).mono fun _ _ ⟨pq, pm, h1, h2⟩ => ⟨pq, pm, h1, [], h2, List.Perm.refl _⟩
theorem hp_set (h : HandP w0 w pq pm L rows) (x : It) (hx : Good x) (hr : (∃ z ∈ L, z.2 = x.2) ∨ L.length < 64) :
    Calls Try.prog 15 #[.pointer (some ⟨pq, 0, none⟩), .int .i64 x.2, .int .i64 x.1] w fun e w' => e = .returned (.int .i64 0) ∧ HandP w0 w' pq pm (less L x.2 ++ [x]) rows := by
  obtain ⟨l, h1, h2⟩ := h
  by_cases hz : ∃ z ∈ l, z.2 = x.2
  · obtain ⟨z, hz, he⟩ := hz
    obtain ⟨i, hi⟩ := List.getElem?_of_mem hz
    have hn : (l.map (·.2)).Nodup := by
      obtain ⟨v, hv, _⟩ := h1
      exact hv.1.ids
    have K := hand_set_old h1 i z hi x.1 ⟨hx.1, hx.2.1⟩
    rw [he] at K
    refine K.mono fun e w' ⟨e1, l', k1, k2⟩ => ⟨e1, l', k1, k2.trans ?_⟩
    have S := set_perm x.1 hi hn
    rw [he] at S
    exact S.trans ((less_perm h2 x.2).append_right [x])
  · have hz2 : ∀ z ∈ l, z.2 ≠ x.2 := fun z hz1 e => hz ⟨z, hz1, e⟩
    have hlen : l.length < 64 := by
      rcases hr with ⟨z, h3, h4⟩ | h3
      · exact absurd h4 (hz2 z (h2.mem_iff.2 h3))
      · rw [h2.length_eq]
        exact h3
    refine (hand_set_new h1 x hx hz2 hlen).mono fun e w' ⟨e1, l', k1, k2⟩ => ⟨e1, l', k1, k2.trans ?_⟩
    have := less_perm h2 x.2
    rw [less_none hz2] at this
    exact this.append_right [x]
theorem hp_full (h : HandP w0 w pq pm L rows) (x : It) (hx : Good x) (hn : ∀ z ∈ L, z.2 ≠ x.2) (hlen : 64 ≤ L.length) :
    Calls Try.prog 15 #[.pointer (some ⟨pq, 0, none⟩), .int .i64 x.2, .int .i64 x.1] w fun e w' => e = .returned (.int .i64 7) ∧ HandP w0 w' pq pm L rows := by
  obtain ⟨l, h1, h2⟩ := h
  obtain ⟨v, hv, h3⟩ := id h1
  exact (set_full hv x hx (fun z hz => hn z (h2.mem_iff.1 hz)) (by rw [h2.length_eq]; exact hlen)).mono fun e w' ⟨e1, hb⟩ => ⟨e1, l, h1.grow hb, h2⟩
theorem hp_range (h : HandP w0 w pq pm L rows) (id a : Int) (hr : id < 0 ∨ 4611686018427387903 < id ∨ a < 0 ∨ 1099511627776 < a) :
    Calls Try.prog 15 #[.pointer (some ⟨pq, 0, none⟩), .int .i64 id, .int .i64 a] w fun e w' => e = .returned (.int .i64 8) ∧ HandP w0 w' pq pm L rows :=
  (set_range id a hr).mono fun e w' ⟨e1, hb⟩ => ⟨e1, h.grow hb⟩
/-- Is a number there? -/
def isIn (L : List It) (id : Int) : Bool := L.any fun z => decide (z.2 = id)
theorem isIn_perm {l : List It} (h : l.Perm L) (id : Int) : isIn l id = isIn L id := h.any_eq
theorem hp_stop (h : HandP w0 w pq pm L rows) (id : Int) (hf : Fits id) :
    Calls Try.prog 9 #[.pointer (some ⟨pq, 0, none⟩), .int .i64 id] w fun e w' => e = .returned (.bool (isIn L id)) ∧ HandP w0 w' pq pm (less L id) rows := by
  obtain ⟨l, h1, h2⟩ := h
  have hn : (l.map (·.2)).Nodup := by
    obtain ⟨v, hv, _⟩ := h1
    exact hv.1.ids
  by_cases hz : ∃ z ∈ l, z.2 = id
  · obtain ⟨z, hz, rfl⟩ := hz
    obtain ⟨i, hi⟩ := List.getElem?_of_mem hz
    have : isIn L z.2 = true := by
      rw [← isIn_perm h2, isIn, List.any_eq_true]
      exact ⟨z, hz, by simp⟩
    rw [this]
    exact (hand_stop_in h1 i z hi).mono fun e w' ⟨e1, l', k1, k2⟩ => ⟨e1, l', k1, (stop_perm k2 hn).trans (less_perm h2 z.2)⟩
  · have hz2 : ∀ z ∈ l, z.2 ≠ id := fun z hz1 e => hz ⟨z, hz1, e⟩
    have : isIn L id = false := by
      rw [← isIn_perm h2, isIn, List.any_eq_false]
      intro z hz1
      simpa using hz2 z hz1
    rw [this]
    obtain ⟨v, hv, h3⟩ := _root_.id h1
    refine (stop_out hv id hf hz2).mono fun e w' ⟨e1, hb⟩ => ⟨e1, l, h1.grow hb, ?_⟩
    have := less_perm h2 id
    rw [less_none hz2] at this
    exact this
/-- What Due tells. -/
def DueP (w0 : World) (pq pm : Nat) (L : List It) (rows : List (Value × List It)) (now : Int) (e : Ending) (w' : World) : Prop :=
  ∃ a c out, e = .returned (.slice a out.length c) ∧ HandP w0 w' pq pm (L.filter fun x => !decide (x.1 ≤ now)) ((.slice a out.length c, out) :: rows) ∧ out.Perm (L.filter fun x => decide (x.1 ≤ now)) ∧ out.Pairwise ltI
theorem hp_due (h : HandP w0 w pq pm L rows) (now : Int) : Calls Try.prog 11 #[.pointer (some ⟨pq, 0, none⟩), .int .i64 now] w (DueP w0 pq pm L rows now) := by
  obtain ⟨l, h1, h2⟩ := h
  refine (hand_due h1 now).mono fun e w' ⟨o, out, l', e1, k1, k2, k3, k4, k5⟩ => ?_
  obtain ⟨p1, p2⟩ := due_parts (k2.trans h2) k4 k5
  obtain ⟨a, c, ho⟩ := items_slice (hand_row k1 (r := (o, out)) (by simp))
  dsimp only at ho
  subst ho
  exact ⟨a, c, out, e1, ⟨l', k1, p2⟩, p1, k3⟩
theorem hp_len (h : HandP w0 w pq pm L rows) : Calls Try.prog 20 #[.pointer (some ⟨pq, 0, none⟩)] w fun e w' => e = .returned (.int .i64 (L.length : Nat)) ∧ HandP w0 w' pq pm L rows := by
  obtain ⟨l, h1, h2⟩ := h
  obtain ⟨v, hv, h3⟩ := id h1
  rw [← h2.length_eq]
  exact (qlen_any hv).mono fun e w' ⟨e1, hb⟩ => ⟨e1, l, h1.grow hb, h2⟩
theorem hp_when_in (h : HandP w0 w pq pm L rows) (x : It) (hx : x ∈ L) : Calls Try.prog 18 #[.pointer (some ⟨pq, 0, none⟩), .int .i64 x.2] w fun e w' => e = .returned (.tuple #[.int .i64 x.1, .bool true]) ∧ HandP w0 w' pq pm L rows := by
  obtain ⟨l, h1, h2⟩ := h
  obtain ⟨v, hv, h3⟩ := id h1
  obtain ⟨i, hi⟩ := List.getElem?_of_mem (h2.mem_iff.2 hx)
  exact (when_in hv i x hi).mono fun e w' ⟨e1, hb⟩ => ⟨e1, l, h1.grow hb, h2⟩
theorem hp_when_out (h : HandP w0 w pq pm L rows) (id : Int) (hf : Fits id) (hn : ∀ z ∈ L, z.2 ≠ id) : Calls Try.prog 18 #[.pointer (some ⟨pq, 0, none⟩), .int .i64 id] w fun e w' => e = .returned (.tuple #[.int .i64 0, .bool false]) ∧ HandP w0 w' pq pm L rows := by
  obtain ⟨l, h1, h2⟩ := h
  obtain ⟨v, hv, h3⟩ := _root_.id h1
  exact (when_out hv id hf (fun z hz => hn z (h2.mem_iff.1 hz))).mono fun e w' ⟨e1, hb⟩ => ⟨e1, l, h1.grow hb, h2⟩
end Go.Proofs.Ytickfnedplbleaa
