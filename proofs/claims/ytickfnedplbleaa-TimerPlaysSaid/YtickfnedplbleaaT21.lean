/- A queue in the hand of a caller who began in w0, and the rows of items that it was told. -/
import Derived.Test.YtickfnedplbleaaT18
import Derived.Test.YtickfnedplbleaaT20
namespace Go.Proofs.Ytickfnedplbleaa
open Go.RowKit

/-- The queue at pq holds l; rows are slices of items told before, which nothing has changed since. -/
def Hand (w0 w : World) (pq pm : Nat) (l : List It) (rows : List (Value × List It)) : Prop :=
  ∃ v, HIs w w0.heap.size pq pm v l ∧ Below w0.heap.size w0 w ∧ ∀ r ∈ rows, Items w w0.heap.size r.1 r.2 ∧ Aloof r.1 pq pm v
theorem items_base {w : World} {B B' : Nat} {o : Value} {l : List It} (h : Items w B o l) (hb : B' ≤ B) : Items w B' o l := by
  obtain ⟨h1, h2⟩ := h
  refine ⟨h1, h2.imp id ?_⟩
  rintro ⟨g, cap, cur, e, hg, rest⟩
  exact ⟨g, cap, cur, e, by omega, rest⟩
theorem Hand.size {w0 w : World} {pq pm : Nat} {l : List It} {rows : List (Value × List It)} (h : Hand w0 w pq pm l rows) : w0.heap.size ≤ w.heap.size := by
  obtain ⟨v, _, hb, _⟩ := h
  exact hb.size
theorem Hand.grow {w0 w w' : World} {pq pm : Nat} {l : List It} {rows : List (Value × List It)} (h : Hand w0 w pq pm l rows) (hb : Below w.heap.size w w') : Hand w0 w' pq pm l rows := by
  obtain ⟨v, h1, h2, h3⟩ := h
  exact ⟨v, ⟨h1.1.grow hb, h1.2⟩, bt h2 hb, fun r hr => ⟨own_below (h3 r hr).1 hb, (h3 r hr).2⟩⟩
theorem Hand.of_step {w0 w w' : World} {pq pm : Nat} {v v' : Value} {l l' : List It} {rows : List (Value × List It)} (h1 : HIs w w0.heap.size pq pm v l) (h2 : Below w0.heap.size w0 w) (h3 : ∀ r ∈ rows, Items w w0.heap.size r.1 r.2 ∧ Aloof r.1 pq pm v) (hs : Step w w' pq pm v v') (hq : HIs w' w0.heap.size pq pm v' l') : Hand w0 w' pq pm l' rows :=
  ⟨v', hq, hs.below h2 h1.1.lowq h1.1.lowm (fun k hk => (h1.1.lowv k hk).1) h2.size, fun r hr => items_step (h3 r hr).1 (h3 r hr).2 hs⟩
/-- What a call that changes the queue tells. -/
def HandIs (w0 : World) (pq pm : Nat) (rows : List (Value × List It)) (r : Value) (P : List It → Prop) (e : Ending) (w' : World) : Prop := e = .returned r ∧ ∃ l', Hand w0 w' pq pm l' rows ∧ P l'
theorem hand_new (w : World) : Calls Try.prog 8 #[] w fun e w' => ∃ pq pm, e = .returned (.pointer (some ⟨pq, 0, none⟩)) ∧ Hand w w' pq pm [] [] :=
  (new_any w).mono fun _ _ ⟨pq, pm, h1, h2, h3⟩ => ⟨pq, pm, h1, _, h3, h2, fun r hr => by simp at hr⟩
theorem hand_q {w0 w : World} {pq pm : Nat} {l : List It} {rows : List (Value × List It)} (h : Hand w0 w pq pm l rows) {f : Nat} {ar : Array Value} {r : Value} {P : List It → Prop}
    (k : ∀ v, HIs w w0.heap.size pq pm v l → Calls Try.prog f ar w (QStep w w0.heap.size pq pm v r P)) : Calls Try.prog f ar w (HandIs w0 pq pm rows r P) := by
  obtain ⟨v, h1, h2, h3⟩ := h
  exact (k v h1).mono fun e w' ⟨e1, v', l', hs, hq, hp⟩ => ⟨e1, l', Hand.of_step h1 h2 h3 hs hq, hp⟩
theorem hand_set_new {w0 w : World} {pq pm : Nat} {l : List It} {rows : List (Value × List It)} (h : Hand w0 w pq pm l rows) (x : It) (hx : Good x) (hn : ∀ z ∈ l, z.2 ≠ x.2) (hlen : l.length < 64) :
    Calls Try.prog 15 #[.pointer (some ⟨pq, 0, none⟩), .int .i64 x.2, .int .i64 x.1] w (HandIs w0 pq pm rows (.int .i64 0) fun l' => l'.Perm (l ++ [x])) :=
  hand_q h fun _ hv => set_new hv h.size x hx hn hlen
theorem hand_set_old {w0 w : World} {pq pm : Nat} {l : List It} {rows : List (Value × List It)} (h : Hand w0 w pq pm l rows) (i : Nat) (x : It) (hi : l[i]? = some x) (a : Int) (ha : 0 ≤ a ∧ a ≤ 1099511627776) :
    Calls Try.prog 15 #[.pointer (some ⟨pq, 0, none⟩), .int .i64 x.2, .int .i64 a] w (HandIs w0 pq pm rows (.int .i64 0) fun l' => l'.Perm (l.set i (a, x.2))) :=
  hand_q h fun _ hv => set_old hv i x hi a ha
theorem hand_stop_in {w0 w : World} {pq pm : Nat} {l : List It} {rows : List (Value × List It)} (h : Hand w0 w pq pm l rows) (i : Nat) (x : It) (hi : l[i]? = some x) :
    Calls Try.prog 9 #[.pointer (some ⟨pq, 0, none⟩), .int .i64 x.2] w (HandIs w0 pq pm rows (.bool true) fun l' => (x :: l').Perm l) :=
  hand_q h fun _ hv => stop_in hv i x hi
/-- What Due tells a caller. -/
def HandDue (w0 : World) (pq pm : Nat) (l : List It) (rows : List (Value × List It)) (now : Int) (e : Ending) (w' : World) : Prop :=
  ∃ o out l', e = .returned o ∧ Hand w0 w' pq pm l' ((o, out) :: rows) ∧ (out ++ l').Perm l ∧ out.Pairwise ltI ∧ (∀ x ∈ out, x.1 ≤ now) ∧ (∀ x ∈ l', now < x.1)
theorem hand_due {w0 w : World} {pq pm : Nat} {l : List It} {rows : List (Value × List It)} (h : Hand w0 w pq pm l rows) (now : Int) : Calls Try.prog 11 #[.pointer (some ⟨pq, 0, none⟩), .int .i64 now] w (HandDue w0 pq pm l rows now) := by
  obtain ⟨v, h1, h2, h3⟩ := h
  refine (due_any h1 now).mono fun e w' ⟨o, out, v', l', e1, hs, hq, hi, ha, hp, ht, hn, hr⟩ => ⟨o, out, l', e1, ?_, hp, ht, hn, hr⟩
  obtain ⟨v2, q1, q2, q3⟩ := Hand.of_step h1 h2 h3 hs hq
  refine ⟨v', hq, q2, fun r hr => ?_⟩
  rcases List.mem_cons.1 hr with rfl | hr
  · exact ⟨items_base hi h2.size, ha⟩
  · exact items_step (h3 r hr).1 (h3 r hr).2 hs
/-- An item in a block of its own is a row as well. -/
theorem hand_box {w0 w : World} {pq pm : Nat} {l : List It} {rows : List (Value × List It)} (h : Hand w0 w pq pm l rows) (x : It) : Hand w0 (w.alloc (.cells #[.int .i64 x.1, .int .i64 x.2] 43)) pq pm l ((.slice (some ⟨w.heap.size, 0, none⟩) 1 1, [x]) :: rows) := by
  have hs := h.size
  obtain ⟨v, h1, h2, h3⟩ := h.grow (bta (Below.refl _ _) (.cells #[.int .i64 x.1, .int .i64 x.2] 43))
  obtain ⟨v2, k1, k2, k3⟩ := h
  refine ⟨v2, ⟨k1.1.grow (bta (Below.refl _ _) _), k1.2⟩, h2, fun r hr => ?_⟩
  rcases List.mem_cons.1 hr with rfl | hr
  · refine ⟨World.ownsRow_lit w _ 1 hs (by unfold maxLen; omega) rfl, fun k hk => ?_⟩
    cases hk
    exact ⟨Nat.ne_of_gt k1.1.ltq, Nat.ne_of_gt k1.1.ltm, fun e => Nat.lt_irrefl _ (k1.1.lowv _ e).2⟩
  · exact ⟨own_below (k3 r hr).1 (bta (Below.refl _ _) _), (k3 r hr).2⟩
end Go.Proofs.Ytickfnedplbleaa
