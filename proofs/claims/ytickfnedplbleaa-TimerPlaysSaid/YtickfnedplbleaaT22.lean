/- Plain facts on items: which one a heap has first, and what Due parts. No conditions beyond those that each states. -/
import Derived.Test.YtickfnedplbleaaT8
namespace Go.Proofs.Ytickfnedplbleaa

theorem first_of_min {l : List It} {x : It} (h : HeapN l.length l) (hx : x ∈ l) (hm : ∀ z ∈ l, z ≠ x → ltI x z) : l[0]? = some x := by
  obtain ⟨c, hc⟩ := List.getElem?_of_mem hx
  have hcl := (List.getElem?_eq_some_iff.1 hc).1
  have h0 : l[0]? = some (itAt l 0) := itAt_some (by omega)
  have h1 := heap_first h c hcl
  rw [itAt_of hc] at h1
  by_cases e : itAt l 0 = x
  · rw [h0, e]
  · exact absurd (hm _ (List.mem_of_getElem? h0) e) h1
/-- Two orders of the same items are one. -/
theorem sorted_eq : ∀ {l m : List It}, l.Pairwise ltI → m.Pairwise ltI → l.Perm m → l = m
  | [], m, _, _, h => (List.nil_perm.1 h).symm
  | a :: l, [], _, _, h => by simpa using h.length_eq
  | a :: l, b :: m, h1, h2, h => by
    have h1' := List.pairwise_cons.1 h1
    have h2' := List.pairwise_cons.1 h2
    have hab : a = b := by
      have ha : a ∈ b :: m := h.mem_iff.1 (by simp)
      have hb : b ∈ a :: l := h.mem_iff.2 (by simp)
      rcases List.mem_cons.1 ha with e | ha
      · exact e
      · rcases List.mem_cons.1 hb with e | hb
        · exact e.symm
        · exact absurd (h1'.1 b hb) (lt_asym (h2'.1 a ha))
    subst hab
    rw [sorted_eq h1'.2 h2'.2 ((List.perm_cons a).1 h)]
/-- What is due, and what is left, are those at or behind the tick. -/
theorem due_parts {out l' l : List It} {now : Int} (hp : (out ++ l').Perm l) (h1 : ∀ x ∈ out, x.1 ≤ now) (h2 : ∀ x ∈ l', now < x.1) : out.Perm (l.filter fun x => decide (x.1 ≤ now)) ∧ l'.Perm (l.filter fun x => !decide (x.1 ≤ now)) := by
  have a := hp.filter fun x => decide (x.1 ≤ now)
  have b := hp.filter fun x => !decide (x.1 ≤ now)
  rw [List.filter_append, List.filter_eq_self.2 (fun x hx => by simpa using h1 x hx), List.filter_eq_nil_iff.2 (fun x hx => by have := h2 x hx; simp; omega), List.append_nil] at a
  rw [List.filter_append, List.filter_eq_nil_iff.2 (fun x hx => by have := h1 x hx; simp; omega), List.filter_eq_self.2 (fun x hx => by have := h2 x hx; simp; omega), List.nil_append] at b
  exact ⟨a, b⟩
end Go.Proofs.Ytickfnedplbleaa
