/- Stop, Due, Next, When, Len and List of the queue beside the document's list. -/
import Derived.Test.YtickfnedplbleaaT38
namespace Go.Proofs.Ytickfnedplbleaa
open Go.RowKit
variable {w0 w w' : World} {pq pm : Nat} {m M : List It} {sv : Value} {ba : Nat} {oa : Obj}

theorem mid_stop (h : Mid w0 w pq pm m m sv ba oa) (id : Int) (hid : Fits id) :
    Calls Try.prog 9 #[.pointer (some ⟨pq, 0, none⟩), .int .i64 id] w fun e w' => e = .returned (.bool (isIn m id)) ∧ Mid w0 w' pq pm (less m id) m sv ba oa := by
  obtain ⟨bs, hm, h2, h3, h4, h5⟩ := h
  have stay : ∀ W, Below w.heap.size w W → Mid w0 W pq pm m m sv ba oa := fun W hb => ⟨bs, hm.grow hb, h2.grow hb, h3, (hm.sameB hb ba h5).trans h4, h5⟩
  obtain ⟨v, l, k1, k2, k3, k4⟩ := hm
  cases hin : isIn m id with
  | true =>
    have hl : isIn l id = true := by rw [isIn_perm k3]; exact hin
    obtain ⟨i, x, hi, rfl, _⟩ := first_in hl
    exact (stop_in k1 i x hi).mono fun e w' ⟨e1, v', l', hs, hq, hp⟩ => ⟨e1, mid_of h2 h3 h4 h5 (hm_step k1 k2 k4 hs hq ((stop_perm hp k1.1.ids).trans (less_perm k3 x.2)))⟩
  | false =>
    have hn := not_in hin
    rw [less_none hn]
    exact (stop_out k1 id hid (fun z hz => hn z (k3.mem_iff.1 hz))).mono fun e w' ⟨e1, hb⟩ => ⟨e1, stay w' hb⟩
/-- What the document's Stop tells. -/
def StopP (w0 : World) (pq pm : Nat) (m' : List It) (b : Bool) (e : Ending) (w' : World) : Prop := ∃ v', e = .returned (.tuple #[v', .bool b]) ∧ Play w0 w' pq pm m' v'
theorem play_stop (id : Int) (h : Mid w0 w pq pm (less m id) m sv ba oa) (hlen : m.length ≤ 64) (hn : (m.map (·.2)).Nodup) (ho : m.Pairwise ltI) :
    Calls Try.prog 10 #[sv, .int .i64 id] w (StopP w0 pq pm (less m id) (isIn m id)) := by
  have hrs := h.rsl
  cases hin : isIn m id with
  | false =>
    have hn' := not_in hin
    rw [less_none hn'] at h ⊢
    exact (rstop_out hrs hlen id hn').mono fun e w' ⟨e1, hb⟩ => ⟨sv, e1, play_of h hb (hrs.grow hb) (fun g hg => .inl hg) ho⟩
  | true =>
    obtain ⟨i, x, hi, rfl, hf⟩ := first_in hin
    refine (rstop_in hrs hlen i x hi hf).mono fun e w' ⟨v', e1, hb, hr⟩ => ⟨v', e1, play_of h hb ?_ (fun g hg => .inr (World.ownsRow.lt hr g hg)) (ho.filter _)⟩
    rw [less_idx hi hn]
    exact hr.rsl

/-! Due. -/
/-- What the queue's Due tells. -/
def DueM (w0 w : World) (pq pm : Nat) (m : List It) (sv : Value) (ba : Nat) (oa : Obj) (now : Int) (e : Ending) (w' : World) : Prop :=
  ∃ v, e = .returned v ∧ Mid w0 w' pq pm (m.filter fun x => !decide (x.1 ≤ now)) m sv ba oa ∧ Items w' w.heap.size v (m.filter fun x => decide (x.1 ≤ now))
theorem mid_due (h : Mid w0 w pq pm m m sv ba oa) (ho : m.Pairwise ltI) (now : Int) : Calls Try.prog 11 #[.pointer (some ⟨pq, 0, none⟩), .int .i64 now] w (DueM w0 w pq pm m sv ba oa now) := by
  obtain ⟨bs, hm, h2, h3, h4, h5⟩ := h
  obtain ⟨v, l, k1, k2, k3, k4⟩ := hm
  refine (due_any k1 now).mono fun e w' ⟨o', out, v', l', e1, hs, hq, hi, ha, hp, ht, hn, hr⟩ => ?_
  obtain ⟨p1, p2⟩ := due_parts (hp.trans k3) hn hr
  obtain rfl : out = m.filter fun x => decide (x.1 ≤ now) := sorted_eq ht (ho.filter _) p1
  exact ⟨o', e1, mid_of h2 h3 h4 h5 (hm_step k1 k2 k4 hs hq p2), hi⟩
/-- In order, what is due stands ahead. -/
theorem due_split (now : Int) : ∀ {m : List It}, m.Pairwise ltI → (m.takeWhile fun x => decide (x.1 ≤ now)) = m.filter (fun x => decide (x.1 ≤ now)) ∧ (m.dropWhile fun x => decide (x.1 ≤ now)) = m.filter (fun x => !decide (x.1 ≤ now))
  | [], _ => ⟨rfl, rfl⟩
  | x :: m, h => by
    obtain ⟨h1, h2⟩ := List.pairwise_cons.1 h
    by_cases hx : x.1 ≤ now
    · obtain ⟨i1, i2⟩ := due_split now h2
      have hd : decide (x.1 ≤ now) = true := by simpa using hx
      rw [List.takeWhile_cons, List.dropWhile_cons, hd]
      refine ⟨?_, ?_⟩
      · rw [if_pos rfl, i1, List.filter_cons_of_pos (by simpa using hx)]
      · rw [if_pos rfl, i2, List.filter_cons_of_neg (by simpa using hx)]
    · have hd : decide (x.1 ≤ now) = false := by simpa using hx
      have hall : ∀ z ∈ m, ¬ z.1 ≤ now := fun z hz => by
        have := h1 z hz
        unfold ltI at this
        omega
      rw [List.takeWhile_cons, List.dropWhile_cons, hd]
      refine ⟨?_, ?_⟩
      · rw [if_neg (by decide)]
        symm
        rw [List.filter_eq_nil_iff]
        intro z hz
        rcases List.mem_cons.1 hz with rfl | hz
        · simpa using hx
        · simpa using hall z hz
      · rw [if_neg (by decide)]
        symm
        rw [List.filter_eq_self]
        intro z hz
        rcases List.mem_cons.1 hz with rfl | hz
        · simpa using hx
        · simpa using hall z hz
/-- What the document's Due tells. -/
def DueQ (w0 : World) (pq pm : Nat) (m : List It) (now : Int) (w : World) (e : Ending) (w' : World) : Prop :=
  ∃ v1 v2, e = .returned (.tuple #[v1, v2]) ∧ Below w.heap.size w w' ∧ Play w0 w' pq pm (m.filter fun x => !decide (x.1 ≤ now)) v1 ∧ RSl w' v2 (m.filter fun x => decide (x.1 ≤ now))
theorem play_due (now : Int) (h : Mid w0 w pq pm (m.filter fun x => !decide (x.1 ≤ now)) m sv ba oa) (hlen : m.length ≤ 64) (ho : m.Pairwise ltI) : Calls Try.prog 12 #[sv, .int .i64 now] w (DueQ w0 pq pm m now w) := by
  obtain ⟨d1, d2⟩ := due_split now ho
  obtain ⟨t1, t2⟩ := take_len (p := fun x => decide (x.1 ≤ now)) m
  have hk : (m.takeWhile fun x => decide (x.1 ≤ now)).length ≤ m.length := by
    have := congrArg List.length t1
    rw [List.length_take] at this
    omega
  refine (rdue_any h.rsl hlen now _ hk (fun j y hj hy => ?_) (fun y hy => ?_)).mono fun e w' ⟨v1, v2, e1, hb, r1, r2, b1, b2⟩ => ?_
  · have h3 : (m.takeWhile fun x => decide (x.1 ≤ now))[j]? = some y := by
      rw [← t1, List.getElem?_take_of_lt (by rw [← t1, List.length_take] at hj; omega)]
      exact hy
    have := take_all (List.mem_of_getElem? h3)
    simpa using this
  · have h3 : (m.dropWhile fun x => decide (x.1 ≤ now))[0]? = some y := by
      rw [← t2, List.getElem?_drop, Nat.add_zero]
      exact hy
    have := drop_head m y h3
    have h4 : ¬ y.1 ≤ now := by simpa using this
    omega
  · rw [t2, d2] at r1
    rw [t1, d1] at r2
    exact ⟨v1, v2, e1, hb, play_of h hb r1 (fun g hg => .inl (b1 g hg)) (ho.filter _), r2⟩

/-! What only looks. -/
theorem play_len (h : Play w0 w pq pm m sv) : Calls Try.prog 20 #[.pointer (some ⟨pq, 0, none⟩)] w fun e w' => e = .returned (.int .i64 (m.length : Nat)) ∧ Below w.heap.size w w' := by
  obtain ⟨bs, ⟨v, l, k1, k2, k3, k4⟩, _⟩ := h
  rw [← k3.length_eq]
  exact qlen_any k1
theorem play_next_none (h : Play w0 w pq pm [] sv) : Calls Try.prog 17 #[.pointer (some ⟨pq, 0, none⟩)] w fun e w' => e = .returned (.tuple #[.agg #[.int .i64 0, .int .i64 0], .bool false]) ∧ Below w.heap.size w w' := by
  obtain ⟨bs, ⟨v, l, k1, k2, k3, k4⟩, _⟩ := h
  obtain rfl := List.perm_nil.1 k3
  exact next_none k1
theorem play_next_some {x : It} {r : List It} (h : Play w0 w pq pm (x :: r) sv) : Calls Try.prog 17 #[.pointer (some ⟨pq, 0, none⟩)] w fun e w' => e = .returned (.tuple #[.agg #[.int .i64 x.1, .int .i64 x.2], .bool true]) ∧ Below w.heap.size w w' := by
  have ho := h.sorted
  obtain ⟨bs, ⟨v, l, k1, k2, k3, k4⟩, _⟩ := h
  refine next_some k1 x (first_of_min k1.2 (k3.mem_iff.2 (by simp)) fun z hz hne => ?_)
  rcases List.mem_cons.1 (k3.mem_iff.1 hz) with rfl | hz
  · exact absurd rfl hne
  · exact (List.pairwise_cons.1 ho).1 z hz
theorem play_when_in (h : Play w0 w pq pm m sv) (x : It) (hx : x ∈ m) : Calls Try.prog 18 #[.pointer (some ⟨pq, 0, none⟩), .int .i64 x.2] w fun e w' => e = .returned (.tuple #[.int .i64 x.1, .bool true]) ∧ Below w.heap.size w w' := by
  obtain ⟨bs, ⟨v, l, k1, k2, k3, k4⟩, _⟩ := h
  obtain ⟨i, hi⟩ := List.getElem?_of_mem (k3.mem_iff.2 hx)
  exact when_in k1 i x hi
theorem play_when_out (h : Play w0 w pq pm m sv) (id : Int) (hf : Fits id) (hn : ∀ z ∈ m, z.2 ≠ id) : Calls Try.prog 18 #[.pointer (some ⟨pq, 0, none⟩), .int .i64 id] w fun e w' => e = .returned (.tuple #[.int .i64 0, .bool false]) ∧ Below w.heap.size w w' := by
  obtain ⟨bs, ⟨v, l, k1, k2, k3, k4⟩, _⟩ := h
  exact when_out k1 id hf fun z hz => hn z (k3.mem_iff.1 hz)
/-- What List tells. -/
def ListP (w : World) (m : List It) (e : Ending) (w' : World) : Prop := ∃ v, e = .returned v ∧ Items w' w.heap.size v m ∧ Below w.heap.size w w'
theorem play_list (h : Play w0 w pq pm m sv) : Calls Try.prog 21 #[.pointer (some ⟨pq, 0, none⟩)] w (ListP w m) := by
  have ho := h.sorted
  obtain ⟨bs, ⟨v, l, k1, k2, k3, k4⟩, _⟩ := h
  refine (list_any k1).mono fun e w' ⟨v', l', e1, p1, s1, i1, hb⟩ => ⟨v', e1, ?_, hb⟩
  obtain rfl : l' = m := sorted_eq s1 ho (p1.trans k3)
  exact i1
end Go.Proofs.Ytickfnedplbleaa
