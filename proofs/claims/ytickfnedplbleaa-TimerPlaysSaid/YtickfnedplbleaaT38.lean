/- The queue beside the document's list: what each call of the law tells, and leaves. -/
import Derived.Test.YtickfnedplbleaaT37
import Derived.Test.YtickfnedplbleaaT34
namespace Go.Proofs.Ytickfnedplbleaa
open Go.RowKit

/-- The queue at pq holds what L has; the blocks bs are none of its own. -/
def HandM (w0 w : World) (pq pm : Nat) (L : List It) (bs : List Nat) : Prop :=
  ∃ v l, HIs w w0.heap.size pq pm v l ∧ Below w0.heap.size w0 w ∧ l.Perm L ∧ ∀ b ∈ bs, b < w.heap.size ∧ b ≠ pq ∧ b ≠ pm ∧ v.ownBlock ≠ some b
def SameB (bs : List Nat) (w w' : World) : Prop := ∀ b ∈ bs, w'.heap[b]? = w.heap[b]?
variable {w0 w w' : World} {pq pm : Nat} {L : List It} {bs : List Nat}
theorem HandM.base (h : HandM w0 w pq pm L bs) : Below w0.heap.size w0 w := by
  obtain ⟨v, l, _, h2, _⟩ := h
  exact h2
theorem HandM.ids (h : HandM w0 w pq pm L bs) : (L.map (·.2)).Nodup := by
  obtain ⟨v, l, h1, _, h3, _⟩ := h
  exact (h3.map (·.2)).nodup_iff.1 h1.1.ids
theorem HandM.len (h : HandM w0 w pq pm L bs) : L.length ≤ 64 := by
  obtain ⟨v, l, h1, _, h3, _⟩ := h
  rw [← h3.length_eq]
  exact h1.1.len
theorem HandM.good (h : HandM w0 w pq pm L bs) : ∀ z ∈ L, Good z := by
  obtain ⟨v, l, h1, _, h3, _⟩ := h
  exact fun z hz => h1.1.good z (h3.mem_iff.2 hz)
theorem HandM.perm {M : List It} (h : HandM w0 w pq pm L bs) (hp : L.Perm M) : HandM w0 w pq pm M bs := by
  obtain ⟨v, l, h1, h2, h3, h4⟩ := h
  exact ⟨v, l, h1, h2, h3.trans hp, h4⟩
theorem HandM.grow (h : HandM w0 w pq pm L bs) (hb : Below w.heap.size w w') : HandM w0 w' pq pm L bs := by
  obtain ⟨v, l, h1, h2, h3, h4⟩ := h
  exact ⟨v, l, ⟨h1.1.grow hb, h1.2⟩, bt h2 hb, h3, fun b hm => ⟨Nat.lt_of_lt_of_le (h4 b hm).1 hb.size, (h4 b hm).2⟩⟩
theorem HandM.sameB (h : HandM w0 w pq pm L bs) (hb : Below w.heap.size w w') : SameB bs w w' := by
  obtain ⟨v, l, h1, h2, h3, h4⟩ := h
  exact fun b hm => hb.block b (h4 b hm).1
/-- New blocks are none of its own either. -/
theorem HandM.more (h : HandM w0 w pq pm L bs) (hb : Below w.heap.size w w') (g : Nat) (h1 : w.heap.size ≤ g) (h2 : g < w'.heap.size) : HandM w0 w' pq pm L (g :: bs) := by
  have hg := h.grow hb
  obtain ⟨v, l, k1, k2, k3, k4⟩ := h
  refine ⟨v, l, ⟨k1.1.grow hb, k1.2⟩, bt k2 hb, k3, fun b hm => ?_⟩
  rcases List.mem_cons.1 hm with rfl | hm
  · refine ⟨h2, by have := k1.1.ltq; omega, by have := k1.1.ltm; omega, fun e => ?_⟩
    have := (k1.1.lowv _ e).2
    omega
  · exact ⟨Nat.lt_of_lt_of_le (k4 b hm).1 hb.size, (k4 b hm).2⟩
theorem hm_step {v v' : Value} {l l' M : List It} (h1 : HIs w w0.heap.size pq pm v l) (h2 : Below w0.heap.size w0 w) (h4 : ∀ b ∈ bs, b < w.heap.size ∧ b ≠ pq ∧ b ≠ pm ∧ v.ownBlock ≠ some b) (hs : Step w w' pq pm v v') (hq : HIs w' w0.heap.size pq pm v' l') (hp : l'.Perm M) :
    HandM w0 w' pq pm M bs ∧ SameB bs w w' ∧ w.heap.size ≤ w'.heap.size := by
  refine ⟨⟨v', l', hq, hs.below h2 h1.1.lowq h1.1.lowm (fun k hk => (h1.1.lowv k hk).1) h2.size, hp, fun b hb => ?_⟩, fun b hb => ?_, hs.size⟩
  · obtain ⟨k1, k2, k3, k4⟩ := h4 b hb
    refine ⟨Nat.lt_of_lt_of_le k1 hs.size, k2, k3, fun e => ?_⟩
    rcases hs.own b e with h | h
    · exact k4 h
    · omega
  · obtain ⟨k1, k2, k3, k4⟩ := h4 b hb
    exact hs.block b k1 k2 k3 k4

/-! What stands in the law between the queue's call and the document's. -/
/-- The queue holds M; the slice sv, none of its own, reads as m; so does the block of what is played. -/
def Mid (w0 w : World) (pq pm : Nat) (M m : List It) (sv : Value) (ba : Nat) (oa : Obj) : Prop :=
  ∃ bs, HandM w0 w pq pm M bs ∧ RSl w sv m ∧ (∀ g, sv.ownBlock = some g → g ∈ bs) ∧ w.heap[ba]? = some oa ∧ ba ∈ bs
def Play (w0 w : World) (pq pm : Nat) (m : List It) (sv : Value) : Prop :=
  ∃ bs, HandM w0 w pq pm m bs ∧ RSl w sv m ∧ (∀ g, sv.ownBlock = some g → g ∈ bs) ∧ m.Pairwise ltI
variable {m M : List It} {sv : Value} {ba : Nat} {oa : Obj}
theorem Play.base (h : Play w0 w pq pm m sv) : Below w0.heap.size w0 w := by
  obtain ⟨bs, h1, _⟩ := h
  exact h1.base
theorem Play.len (h : Play w0 w pq pm m sv) : m.length ≤ 64 := by
  obtain ⟨bs, h1, _⟩ := h
  exact h1.len
theorem Play.ids (h : Play w0 w pq pm m sv) : (m.map (·.2)).Nodup := by
  obtain ⟨bs, h1, _⟩ := h
  exact h1.ids
theorem Play.sorted (h : Play w0 w pq pm m sv) : m.Pairwise ltI := by
  obtain ⟨bs, _, _, _, h1⟩ := h
  exact h1
theorem Play.rsl (h : Play w0 w pq pm m sv) : RSl w sv m := by
  obtain ⟨bs, _, h1, _⟩ := h
  exact h1
theorem Play.grow (h : Play w0 w pq pm m sv) (hb : Below w.heap.size w w') : Play w0 w' pq pm m sv := by
  obtain ⟨bs, h1, h2, h3, h4⟩ := h
  exact ⟨bs, h1.grow hb, h2.grow hb, h3, h4⟩
theorem Play.mid (h : Play w0 w pq pm m sv) (o : Obj) : Mid w0 (w.alloc o) pq pm m m sv w.heap.size o := by
  obtain ⟨bs, h1, h2, h3, h4⟩ := h
  have hb : Below w.heap.size w (w.alloc o) := bta (Below.refl _ _) o
  exact ⟨_, h1.more hb w.heap.size (Nat.le_refl _) (by simp), h2.grow hb, fun g hg => List.mem_cons_of_mem _ (h3 g hg), blk_new rfl, by simp⟩
theorem play_start (w : World) (pq pm : Nat) (h : HandP w0 w pq pm [] []) : Play w0 w pq pm [] (.slice none 0 0) := by
  obtain ⟨l, ⟨v, h1, h2, _⟩, hp⟩ := h
  refine ⟨[], ⟨v, l, h1, h2, hp, fun b hb => by simp at hb⟩, ⟨none, 0, rfl, Nat.le_refl _, Nat.zero_le _, fun _ => rfl, fun i x hx => by simp at hx⟩, (fun g hg => by cases hg), List.Pairwise.nil⟩
theorem Mid.blk (h : Mid w0 w pq pm M m sv ba oa) : w.heap[ba]? = some oa := by
  obtain ⟨bs, _, _, _, h1, _⟩ := h
  exact h1
theorem Mid.rsl (h : Mid w0 w pq pm M m sv ba oa) : RSl w sv m := by
  obtain ⟨bs, _, h1, _⟩ := h
  exact h1
theorem rsl_kept {bs : List Nat} (h : RSl w sv m) (hsv : ∀ g, sv.ownBlock = some g → g ∈ bs) (hs : SameB bs w w') (hz : w.heap.size ≤ w'.heap.size) : RSl w' sv m := by
  obtain ⟨a, c, rfl, h2, h3, h4, h5⟩ := h
  refine ⟨a, c, rfl, h2, h3, h4, fun i x hx => ?_⟩
  obtain ⟨g, o, rfl, hg, c1, c2⟩ := h5 i x hx
  have e := hs g (hsv g rfl)
  exact ⟨g, o, rfl, Nat.lt_of_lt_of_le hg hz, by simp only [World.cell?, e] at c1 ⊢; exact c1, by simp only [World.cell?, e] at c2 ⊢; exact c2⟩
theorem mid_of {bs : List Nat} (h2 : RSl w sv m) (h3 : ∀ g, sv.ownBlock = some g → g ∈ bs) (h4 : w.heap[ba]? = some oa) (h5 : ba ∈ bs) (k : HandM w0 w' pq pm M bs ∧ SameB bs w w' ∧ w.heap.size ≤ w'.heap.size) : Mid w0 w' pq pm M m sv ba oa :=
  ⟨bs, k.1, rsl_kept h2 h3 k.2.1 k.2.2, h3, (k.2.1 ba h5).trans h4, h5⟩
/-- The document's call behind the queue's: its new slice is none of the queue's own. -/
theorem play_of (h : Mid w0 w pq pm M m sv ba oa) (hb : Below w.heap.size w w') {sv' : Value} (hr : RSl w' sv' M) (hsv : ∀ g, sv'.ownBlock = some g → sv.ownBlock = some g ∨ (w.heap.size ≤ g ∧ g < w'.heap.size)) (ho : M.Pairwise ltI) : Play w0 w' pq pm M sv' := by
  obtain ⟨bs, h1, h2, h3, h4, h5⟩ := h
  cases hv : sv'.ownBlock with
  | none => exact ⟨bs, h1.grow hb, hr, fun g hg => (by rw [hv] at hg; cases hg), ho⟩
  | some g =>
    rcases hsv g hv with h6 | ⟨h6, h7⟩
    · exact ⟨bs, h1.grow hb, hr, fun g' hg => (by rw [hv] at hg; cases hg; exact h3 g h6), ho⟩
    · exact ⟨g :: bs, h1.more hb g h6 h7, hr, fun g' hg => (by rw [hv] at hg; cases hg; simp), ho⟩

/-! Set. -/
/-- An item among others in order. -/
def ins (rest : List It) (x : It) : List It := rest.takeWhile (fun z => decide (ltI z x)) ++ x :: rest.dropWhile (fun z => decide (ltI z x))
theorem ins_perm (rest : List It) (x : It) : (rest ++ [x]).Perm (ins rest x) := by
  unfold ins
  have h : rest = rest.takeWhile (fun z => decide (ltI z x)) ++ rest.dropWhile (fun z => decide (ltI z x)) := (List.takeWhile_append_dropWhile).symm
  refine (List.perm_append_singleton x rest).trans ?_
  conv => lhs; rw [h]
  exact (List.perm_middle).symm
theorem drop_head {p : It → Bool} : ∀ (l : List It), ∀ y, (l.dropWhile p)[0]? = some y → p y = false
  | [], y, h => by simp at h
  | z :: l, y, h => by
    rw [List.dropWhile_cons] at h
    by_cases hz : p z = true
    · rw [if_pos hz] at h
      exact drop_head l y h
    · rw [if_neg hz] at h
      simp at h
      subst h
      simpa using hz
theorem take_all {p : It → Bool} : ∀ {l : List It} {z : It}, z ∈ l.takeWhile p → p z = true
  | [], z, h => by simp at h
  | y :: l, z, h => by
    rw [List.takeWhile_cons] at h
    by_cases hy : p y = true
    · rw [if_pos hy] at h
      rcases List.mem_cons.1 h with rfl | h
      · exact hy
      · exact take_all h
    · rw [if_neg hy] at h
      simp at h
theorem take_len {p : It → Bool} (l : List It) : l.take (l.takeWhile p).length = l.takeWhile p ∧ l.drop (l.takeWhile p).length = l.dropWhile p := by
  have h : l = l.takeWhile p ++ l.dropWhile p := (List.takeWhile_append_dropWhile).symm
  constructor
  · conv => lhs; arg 2; rw [h]
    rw [List.take_left]
  · conv => lhs; arg 2; rw [h]
    rw [List.drop_left]
theorem among_ins (rest : List It) (x : It) : Among rest x (rest.takeWhile (fun z => decide (ltI z x))).length := by
  obtain ⟨h1, h2⟩ := take_len (p := fun z => decide (ltI z x)) rest
  refine ⟨?_, fun j y hj hy => ?_, fun y hy => ?_⟩
  · have := congrArg List.length h1
    rw [List.length_take] at this
    omega
  · have h3 : (rest.takeWhile (fun z => decide (ltI z x)))[j]? = some y := by
      rw [← h1, List.getElem?_take_of_lt (by rw [← h1, List.length_take] at hj; omega)]
      exact hy
    have := take_all (List.mem_of_getElem? h3)
    simpa using this
  · have h3 : (rest.dropWhile (fun z => decide (ltI z x)))[0]? = some y := by
      rw [← h2, List.getElem?_drop, Nat.add_zero]
      exact hy
    simpa using drop_head rest y h3
theorem lt_tr {a b c : It} (h : ltI a b) (k : ltI b c) : ltI a c := by unfold ltI at *; omega
theorem ins_sorted {rest : List It} (h : rest.Pairwise ltI) {x : It} (hx : ∀ z ∈ rest, z.2 ≠ x.2) : (ins rest x).Pairwise ltI := by
  unfold ins
  have hs : rest = rest.takeWhile (fun z => decide (ltI z x)) ++ rest.dropWhile (fun z => decide (ltI z x)) := (List.takeWhile_append_dropWhile).symm
  have h' := h
  rw [hs, List.pairwise_append] at h'
  obtain ⟨p1, p2, p3⟩ := h'
  have hlow : ∀ z ∈ rest.takeWhile (fun z => decide (ltI z x)), ltI z x := fun z hz => by simpa using take_all hz
  have hhigh : ∀ z ∈ rest.dropWhile (fun z => decide (ltI z x)), ltI x z := by
    intro z hz
    cases hd : rest.dropWhile (fun z => decide (ltI z x)) with
    | nil => rw [hd] at hz; simp at hz
    | cons y r =>
      have hy := drop_head rest y (by rw [hd]; rfl)
      have hym : y ∈ rest := by rw [hs, hd]; simp
      have hxy : ltI x y := lt_total (by simpa using hy) (hx y hym)
      rw [hd] at hz p2
      rcases List.mem_cons.1 hz with rfl | hz
      · exact hxy
      · exact lt_tr hxy ((List.pairwise_cons.1 p2).1 z hz)
  rw [List.pairwise_append]
  refine ⟨p1, List.pairwise_cons.2 ⟨hhigh, p2⟩, fun a ha b hb => ?_⟩
  rcases List.mem_cons.1 hb with rfl | hb
  · exact hlow a ha
  · exact p3 a ha b hb
def badArg (id a : Int) : Bool := decide (id < 0 ∨ 4611686018427387903 < id ∨ a < 0 ∨ 1099511627776 < a)
/-- What Set makes of a list, and tells. -/
def setL (m : List It) (id a : Int) : List It × Int :=
  if badArg id a = true then (m, 8) else if isIn m id = false ∧ 64 ≤ m.length then (m, 7) else (ins (less m id) (a, id), 0)
theorem bad_good {id a : Int} (h : badArg id a = false) : Good (a, id) := by
  have h' : ¬ (id < 0 ∨ 4611686018427387903 < id ∨ a < 0 ∨ 1099511627776 < a) := by simpa [badArg] using h
  unfold Good
  show 0 ≤ a ∧ a ≤ 1099511627776 ∧ 0 ≤ id ∧ id ≤ 4611686018427387903
  omega
theorem setL_sorted {m : List It} (h : m.Pairwise ltI) (id a : Int) : (setL m id a).1.Pairwise ltI := by
  unfold setL
  split
  · exact h
  · split
    · exact h
    · exact ins_sorted (h.filter _) fun z hz => by simpa [less] using (List.mem_filter.1 hz).2
theorem mid_set (h : Mid w0 w pq pm m m sv ba oa) (id a : Int) :
    Calls Try.prog 15 #[.pointer (some ⟨pq, 0, none⟩), .int .i64 id, .int .i64 a] w fun e w' => e = .returned (.int .i64 (setL m id a).2) ∧ Mid w0 w' pq pm (setL m id a).1 m sv ba oa := by
  obtain ⟨bs, hm, h2, h3, h4, h5⟩ := h
  have stay : ∀ W, Below w.heap.size w W → Mid w0 W pq pm m m sv ba oa := fun W hb => ⟨bs, hm.grow hb, h2.grow hb, h3, (hm.sameB hb ba h5).trans h4, h5⟩
  unfold setL
  cases hbad : badArg id a with
  | true =>
    rw [if_pos rfl]
    have h' : id < 0 ∨ 4611686018427387903 < id ∨ a < 0 ∨ 1099511627776 < a := by simpa [badArg] using hbad
    exact (set_range id a h').mono fun e w' ⟨e1, hb⟩ => ⟨e1, stay w' hb⟩
  | false =>
    rw [if_neg (by decide)]
    have hg := bad_good hbad
    obtain ⟨v, l, k1, k2, k3, k4⟩ := hm
    by_cases hfull : isIn m id = false ∧ 64 ≤ m.length
    · rw [if_pos hfull]
      exact (set_full k1 (a, id) hg (fun z hz => not_in hfull.1 z (k3.mem_iff.1 hz)) (by rw [k3.length_eq]; exact hfull.2)).mono fun e w' ⟨e1, hb⟩ => ⟨e1, stay w' hb⟩
    · rw [if_neg hfull]
      cases hin : isIn m id with
      | true =>
        have hl : isIn l id = true := by rw [isIn_perm k3]; exact hin
        obtain ⟨i, x, hi, rfl, _⟩ := first_in hl
        refine (set_old k1 i x hi a ⟨hg.1, hg.2.1⟩).mono fun e w' ⟨e1, v', l', hs, hq, hp⟩ => ⟨e1, mid_of h2 h3 h4 h5 (hm_step k1 k2 k4 hs hq (hp.trans ?_))⟩
        exact ((set_perm a hi k1.1.ids).trans ((less_perm k3 x.2).append_right _)).trans (ins_perm _ _)
      | false =>
        have hn := not_in hin
        refine (set_new k1 k2.size (a, id) hg (fun z hz => hn z (k3.mem_iff.1 hz)) (by rw [k3.length_eq]; rw [hin] at hfull; simp at hfull; omega)).mono fun e w' ⟨e1, v', l', hs, hq, hp⟩ => ⟨e1, mid_of h2 h3 h4 h5 (hm_step k1 k2 k4 hs hq (hp.trans ?_))⟩
        rw [less_none hn]
        exact (k3.append_right _).trans (ins_perm _ _)
/-- What the document's Set tells. -/
def SetP (w0 : World) (pq pm : Nat) (m' : List It) (c : Int) (e : Ending) (w' : World) : Prop := ∃ v', e = .returned (.tuple #[v', .int .i64 c]) ∧ Play w0 w' pq pm m' v'
theorem play_set (id a : Int) (h : Mid w0 w pq pm (setL m id a).1 m sv ba oa) (hlen : m.length ≤ 64) (hn : (m.map (·.2)).Nodup) (ho : m.Pairwise ltI) :
    Calls Try.prog 16 #[sv, .int .i64 id, .int .i64 a] w (SetP w0 pq pm (setL m id a).1 (setL m id a).2) := by
  have hrs := h.rsl
  have hso := setL_sorted ho id a
  unfold setL at h hso ⊢
  cases hbad : badArg id a with
  | true =>
    rw [hbad, if_pos rfl] at h hso
    rw [if_pos rfl]
    have h' : id < 0 ∨ 4611686018427387903 < id ∨ a < 0 ∨ 1099511627776 < a := by simpa [badArg] using hbad
    exact (rset_range sv id a h').mono fun e w' ⟨e1, hb⟩ => ⟨sv, e1, play_of h hb (hrs.grow hb) (fun g hg => .inl hg) hso⟩
  | false =>
    rw [hbad, if_neg (by decide)] at h hso
    rw [if_neg (by decide)]
    have hg := bad_good hbad
    by_cases hfull : isIn m id = false ∧ 64 ≤ m.length
    · rw [if_pos hfull] at h hso ⊢
      exact (rset_full hrs (by omega) (a, id) hg (not_in hfull.1)).mono fun e w' ⟨e1, hb⟩ => ⟨sv, e1, play_of h hb (hrs.grow hb) (fun g hg => .inl hg) hso⟩
    · rw [if_neg hfull] at h hso ⊢
      have hroom : isIn m id = true ∨ m.length < 64 := by
        cases hin : isIn m id with
        | true => exact .inl rfl
        | false => rw [hin] at hfull; simp at hfull; exact .inr hfull
      refine (rset_put hrs hlen hn (a, id) hg hroom _ (among_ins _ _)).mono fun e w' ⟨v', e1, hb, hr⟩ => ⟨v', e1, ?_⟩
      obtain ⟨t1, t2⟩ := take_len (p := fun z => decide (ltI z (a, id))) (less m id)
      rw [t1, t2] at hr
      exact play_of h hb hr.rsl (fun g hg => .inr (World.ownsRow.lt hr g hg)) hso
end Go.Proofs.Ytickfnedplbleaa
