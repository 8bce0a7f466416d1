/- A queue in a caller's hand beside a block of the caller's own: what Set, Due and Len tell, and leave. -/
import Derived.Test.YtickfnedplbleaaT26
namespace Go.Proofs.Ytickfnedplbleaa
open Go.RowKit

theorem grown_setCell (w : World) (a : Addr) (u : Value) : w.grownBy (w.setCell a u) (some a.block) :=
  ⟨rfl, rfl, rfl, by simp, fun i _ hne => Below.heap_setCell w a u i fun e => hne (by rw [e])⟩
/-- The queue at pq holds what L has; the block b is none of its own. -/
def HandK (w0 w : World) (pq pm : Nat) (L : List It) (b : Nat) (o : Obj) : Prop :=
  ∃ v l, HIs w w0.heap.size pq pm v l ∧ Below w0.heap.size w0 w ∧ l.Perm L ∧ w.heap[b]? = some o ∧ b ≠ pq ∧ b ≠ pm ∧ v.ownBlock ≠ some b
variable {w0 w w' : World} {pq pm b : Nat} {L : List It} {o : Obj}
theorem HandK.base (h : HandK w0 w pq pm L b o) : Below w0.heap.size w0 w := by
  obtain ⟨v, l, _, h2, _⟩ := h
  exact h2
theorem HandK.at (h : HandK w0 w pq pm L b o) : w.heap[b]? = some o := by
  obtain ⟨v, l, _, _, _, h4, _⟩ := h
  exact h4
theorem HandK.lt (h : HandK w0 w pq pm L b o) : b < w.heap.size := blk_lt h.at
theorem HandK.ids (h : HandK w0 w pq pm L b o) : (L.map (·.2)).Nodup := by
  obtain ⟨v, l, h1, _, h3, _⟩ := h
  exact (h3.map (·.2)).nodup_iff.1 h1.1.ids
theorem HandK.len (h : HandK w0 w pq pm L b o) : L.length ≤ 64 := by
  obtain ⟨v, l, h1, _, h3, _⟩ := h
  rw [← h3.length_eq]
  exact h1.1.len
theorem HandK.grow (h : HandK w0 w pq pm L b o) (hb : Below w.heap.size w w') : HandK w0 w' pq pm L b o := by
  obtain ⟨v, l, h1, h2, h3, h4, h5⟩ := h
  exact ⟨v, l, ⟨h1.1.grow hb, h1.2⟩, bt h2 hb, h3, blk_grow hb h4, h5⟩
theorem HandP.keep {rows : List (Value × List It)} (h : HandP w0 w pq pm L rows) (o : Obj) : HandK w0 (w.alloc o) pq pm L w.heap.size o := by
  obtain ⟨l, ⟨v, h1, h2, h3⟩, hp⟩ := h
  have hb : Below w.heap.size w (w.alloc o) := bta (Below.refl _ _) o
  exact ⟨v, l, ⟨h1.1.grow hb, h1.2⟩, bt h2 hb, hp, blk_new rfl, Nat.ne_of_gt h1.1.ltq, Nat.ne_of_gt h1.1.ltm, fun e => Nat.lt_irrefl _ (h1.1.lowv _ e).2⟩
/-- A store into that block. -/
theorem HandK.store {cs : Array Value} {t : TypeId} (h : HandK w0 w pq pm L b (.cells cs t (0, 0))) (hb : w0.heap.size ≤ b) (i : Nat) (u : Value) : HandK w0 (w.setCell ⟨b, i, none⟩ u) pq pm L b (.cells (cs.setIfInBounds i u) t (0, 0)) := by
  obtain ⟨v, l, h1, h2, h3, h4, h5, h6, h7⟩ := h
  have hg := grown_setCell w ⟨b, i, none⟩ u
  refine ⟨v, l, ⟨q_other h1.1 hg (fun e => h5 (Option.some.inj e)) (fun e => h6 (Option.some.inj e)) ?_, h1.2⟩, ⟨h2.os, h2.tape, h2.output, by simpa using h2.size, fun k hk => (Below.heap_setCell w ⟨b, i, none⟩ u k (by show k ≠ b; omega)).trans (h2.block k hk)⟩, h3, blk_set h4 i u, h5, h6, h7⟩
  cases hv : v.ownBlock with
  | none => exact .inl rfl
  | some k => exact .inr fun e => h7 (by rw [hv]; exact e)
theorem hk_step {v v' : Value} {l l' : List It} (h1 : HIs w w0.heap.size pq pm v l) (h2 : Below w0.heap.size w0 w) (h4 : w.heap[b]? = some o) (h5 : b ≠ pq) (h6 : b ≠ pm) (h7 : v.ownBlock ≠ some b) (hs : Step w w' pq pm v v') (hq : HIs w' w0.heap.size pq pm v' l') (hp : l'.Perm L) : HandK w0 w' pq pm L b o := by
  refine ⟨v', l', hq, hs.below h2 h1.1.lowq h1.1.lowm (fun k hk => (h1.1.lowv k hk).1) h2.size, hp, (hs.block b (blk_lt h4) h5 h6 h7).trans h4, h5, h6, fun e => ?_⟩
  rcases hs.own b e with h | h
  · exact h7 h
  · have := blk_lt h4
    omega
theorem hk_set (h : HandK w0 w pq pm L b o) (x : It) (hx : Good x) (hr : L.length < 64) :
    Calls Try.prog 15 #[.pointer (some ⟨pq, 0, none⟩), .int .i64 x.2, .int .i64 x.1] w fun e w' => e = .returned (.int .i64 0) ∧ HandK w0 w' pq pm (less L x.2 ++ [x]) b o := by
  obtain ⟨v, l, h1, h2, h3, h4, h5, h6, h7⟩ := h
  by_cases hz : ∃ z ∈ l, z.2 = x.2
  · obtain ⟨z, hz, he⟩ := hz
    obtain ⟨i, hi⟩ := List.getElem?_of_mem hz
    have K := set_old h1 i z hi x.1 ⟨hx.1, hx.2.1⟩
    rw [he] at K
    refine K.mono fun e w' ⟨e1, v', l', hs, hq, hp⟩ => ⟨e1, hk_step h1 h2 h4 h5 h6 h7 hs hq (hp.trans ?_)⟩
    have S := set_perm x.1 hi h1.1.ids
    rw [he] at S
    exact S.trans ((less_perm h3 x.2).append_right [x])
  · have hz2 : ∀ z ∈ l, z.2 ≠ x.2 := fun z hz1 e => hz ⟨z, hz1, e⟩
    refine (set_new h1 h2.size x hx hz2 (by rw [h3.length_eq]; exact hr)).mono fun e w' ⟨e1, v', l', hs, hq, hp⟩ => ⟨e1, hk_step h1 h2 h4 h5 h6 h7 hs hq (hp.trans ?_)⟩
    have := less_perm h3 x.2
    rw [less_none hz2] at this
    exact this.append_right [x]
theorem hk_len (h : HandK w0 w pq pm L b o) : Calls Try.prog 20 #[.pointer (some ⟨pq, 0, none⟩)] w fun e w' => e = .returned (.int .i64 (L.length : Nat)) ∧ HandK w0 w' pq pm L b o := by
  obtain ⟨v, l, h1, h2, h3, h4⟩ := id h
  rw [← h3.length_eq]
  exact (qlen_any h1).mono fun e w' ⟨e1, hb⟩ => ⟨e1, h.grow hb⟩
/-- What Due tells. -/
def DueK (w0 w : World) (pq pm : Nat) (L : List It) (b : Nat) (o : Obj) (now : Int) (e : Ending) (w' : World) : Prop :=
  ∃ a c out, e = .returned (.slice a out.length c) ∧ HandK w0 w' pq pm (L.filter fun x => !decide (x.1 ≤ now)) b o ∧ Items w' w.heap.size (.slice a out.length c) out ∧ out.Perm (L.filter fun x => decide (x.1 ≤ now)) ∧ out.Pairwise ltI
theorem hk_due (h : HandK w0 w pq pm L b o) (now : Int) : Calls Try.prog 11 #[.pointer (some ⟨pq, 0, none⟩), .int .i64 now] w (DueK w0 w pq pm L b o now) := by
  obtain ⟨v, l, h1, h2, h3, h4, h5, h6, h7⟩ := h
  refine (due_any h1 now).mono fun e w' ⟨o', out, v', l', e1, hs, hq, hi, ha, hp, ht, hn, hr⟩ => ?_
  obtain ⟨p1, p2⟩ := due_parts (hp.trans h3) hn hr
  obtain ⟨a, c, ho⟩ := items_slice hi
  subst ho
  exact ⟨a, c, out, e1, hk_step h1 h2 h4 h5 h6 h7 hs hq p2, hi, p1, ht⟩
end Go.Proofs.Ytickfnedplbleaa
