/- The contracts of Push, Pop, Fix and Remove of the library's heap, at a queue's row. -/
import Derived.Test.YtickfnedplbleaaT10
import Derived.Test.YtickfnedplbleaaT7
namespace Go.Proofs.Ytickfnedplbleaa
open Go.RowKit
attribute [local go_sem] cell_over frozen_over lt_over le_over ne_over over_ne cell_set_same softAt softUpon lightUpon heavyUpon cell_kept frozen_kept

/-- A queue that is a heap. -/
def HIs (w : World) (B pq pm : Nat) (v : Value) (l : List It) : Prop := QIs w B pq pm v l ∧ HeapN l.length l
/-- What a call tells, and leaves. -/
def QStep (w : World) (B pq pm : Nat) (v : Value) (r : Value) (P : List It → Prop) (e : Ending) (w' : World) : Prop :=
  e = .returned r ∧ ∃ v' l', Step w w' pq pm v v' ∧ HIs w' B pq pm v' l' ∧ P l'
theorem heap_same {n : Nat} {l l' : List It} (h : HeapN n l) (hl : ∀ c, c < n → itAt l' c = itAt l c) : HeapN n l' := fun c h1 h2 => by
  rw [hl c h2, hl _ (by omega)]
  exact h c h1 h2
theorem heap_put {n i : Nat} {l l' : List It} (h : HeapN n l) (hl : ∀ c, c < n → c ≠ i → itAt l' c = itAt l c) : DownN n i i l' := by
  refine ⟨fun c h1 h2 h3 h4 => ?_, fun c h1 h2 h3 h4 => ?_⟩
  · rw [hl c h2 (by omega), hl _ (by omega) h3]
    exact h c h1 h2
  · rw [hl c h2 (by omega), hl _ (by omega) (by omega)]
    have a := h c h1 h2
    have b := h i h4 (by omega)
    rw [h3] at a
    exact ge_trans a b
/-- The last one taken away. -/
theorem cut_last {l : List It} {m : Nat} (h : l.length = m + 1) : ∃ l', l = l' ++ [itAt l m] ∧ l'.length = m ∧ ∀ c, c < m → itAt l' c = itAt l c := by
  refine ⟨l.take m, ?_, by simp; omega, fun c hc => ?_⟩
  · apply List.ext_getElem?
    intro j
    rcases Nat.lt_trichotomy j m with hj | hj | hj
    · rw [List.getElem?_append_left (by simp; omega), List.getElem?_take_of_lt hj]
    · subst hj
      rw [List.getElem?_append_right (by rw [List.length_take]; omega)]
      rw [List.length_take, Nat.min_eq_left (by omega), Nat.sub_self]
      exact itAt_some (by omega)
    · rw [List.getElem?_eq_none (by omega), List.getElem?_eq_none (by simp; omega)]
  · unfold itAt
    simp only [List.getD_eq_getElem?_getD]
    rw [List.getElem?_take_of_lt hc]

theorem hpush_any {w : World} {B pq pm : Nat} {v : Value} {l : List It} (h : HIs w B pq pm v l) (hB : B ≤ w.heap.size) (x : It) (hx : Good x) (hlen : l.length < 64) (hid : ∀ z ∈ l, z.2 ≠ x.2) :
    Calls Try.prog 25 #[.iface 65 (.pointer (some ⟨pq, 0, none⟩)), .iface 43 (.agg #[.int .i64 x.1, .int .i64 x.2])] w (QStep w B pq pm v (.tuple #[]) fun l' => l'.Perm (l ++ [x])) := by
  have hall : (l ++ [x]).length = l.length + 1 := by simp
  have HP := Lib.hid (rowpush_any h.1 hB x hx hlen hid)
  have HU := Lib.hid (heap_up h.2 x rfl)
  clear h hid hx
  go_enter Try.func25, Try.ntmps25
  go_wp2_with (first | ((with_reducible refine (HP.out).mono ?_); refine unhalt ?_))
  unfold Halted
  rintro e w1 ⟨rfl, v', hs, hq⟩
  have HL := Lib.hid (len_any hq)
  rw [hall] at HL
  have HUP := Lib.hid (fun W (hb : Below w1.heap.size w1 W) => up_any (hq.grow hb) (l.length + 1) l.length (by omega) (by omega) HU.out)
  have HS := Lib.hid hs
  clear hs hq
  dsimp only
  go_wp2_with (first
    | ((with_reducible refine (HL.out).mono ?_); rintro e w2 ⟨rfl, hb⟩; have HUP2 := Lib.hid (HUP.out _ hb); have B2 := Lib.hid hb; clear hb)
    | ((with_reducible refine (HUP2.out).mono ?_); refine unhalt ?_))
  unfold Halted
  rintro e w3 ⟨rfl, l', hI, hH⟩
  dsimp only
  go_wp2
  go_returns
  have hl := hI.2.2.1.length_eq
  rw [hall] at hl
  exact ⟨rfl, v', l', (HS.out.grow B2.out).trans hI.1, ⟨hI.2.1, by rw [hl]; exact hH⟩, hI.2.2.1⟩

/-- The end of Pop and of Remove. -/
theorem pop_rest {w w1 : World} {B pq pm : Nat} {v : Value} {l l2 : List It} {m : Nat} {x : It} (hs : Step w w1 pq pm v v) (hq : QIs w1 B pq pm v l2) (hp : l2.Perm l) (hm : l2.length = m + 1) (hH : HeapN m l2) (hx : itAt l2 m = x) :
    Calls Try.prog 73 #[.pointer (some ⟨pq, 0, none⟩)] w1 (QStep w B pq pm v (.iface 43 (.agg #[.int .i64 x.1, .int .i64 x.2])) fun l' => (x :: l').Perm l) := by
  obtain ⟨l', h1, h2, h3⟩ := cut_last hm
  rw [hx] at h1
  rw [h1] at hq
  refine (rowpop_any hq).mono fun e w2 ⟨h4, v', h5, h6⟩ => ⟨h4, v', l', hs.trans h5, ⟨h6, ?_⟩, ?_⟩
  · rw [h2]
    exact heap_same hH h3
  · rw [h1] at hp
    exact (List.perm_append_singleton x l').symm.trans hp
/-- down, then up if it did not move. -/
theorem heap_of {n i : Nat} {l : List It} (h : UpN n i l) (hi : i = 0) : HeapN n l := up_end h (.inl hi)

theorem down_zero {w : World} {B pq pm : Nat} {v : Value} {l : List It} (h : QIs w B pq pm v l) (n : Nat) (hn : n ≤ l.length) (hd : DownN n 0 0 l) : Calls Try.prog 30 #[.iface 65 (.pointer (some ⟨pq, 0, none⟩)), .int .i64 0, .int .i64 n] w (DownIs w B pq pm v l n 0) := down_any h n 0 hn (by omega) hd

theorem hpop_any {w : World} {B pq pm : Nat} {v : Value} {l : List It} (h : HIs w B pq pm v l) (m : Nat) (hm : l.length = m + 1) (x : It) (hx : itAt l 0 = x) :
    Calls Try.prog 23 #[.iface 65 (.pointer (some ⟨pq, 0, none⟩))] w (QStep w B pq pm v (.iface 43 (.agg #[.int .i64 x.1, .int .i64 x.2])) fun l' => (x :: l').Perm l) := by
  have hll := h.1.len
  rw [hm] at hll
  have h0 := h.1
  have hH := h.2
  rw [hm] at hH
  have L := len_any h0
  rw [hm] at L
  have HL := Lib.hid L
  have SW := fun W (hb : Below w.heap.size w W) => (show Calls Try.prog 75 #[.pointer (some ⟨pq, 0, none⟩), .int .i64 0, .int .i64 m] W fun e w' => e = .returned (.tuple #[]) ∧ Step W w' pq pm v v ∧ QIs w' B pq pm v (sw l 0 m) from swap_sw (h0.grow hb) 0 m (by omega) (by omega))
  have hp := sw_perm (l := l) (i := 0) (j := m) (by omega) (by omega)
  have hlast : itAt (sw l 0 m) m = x := by rw [sw_at (by omega) (by omega), if_pos rfl]; exact hx
  have hdn : DownN m 0 0 (sw l 0 m) := heap_put (heap_less hH (by omega)) fun c h1 h2 => by rw [sw_at (by omega) (by omega), if_neg (by omega), if_neg h2]
  have hl1 : (sw l 0 m).length = m + 1 := by rw [sw_len]; exact hm
  have HSW := Lib.hid SW
  have HPE := Lib.hid hp
  have HLA := Lib.hid hlast
  have HDN := Lib.hid hdn
  have HL1 := Lib.hid hl1
  clear h L h0 hH hm hx SW hp hlast hdn hl1
  go_enter Try.func23, Try.ntmps23
  go_wp2_with (first
    | ((with_reducible refine (HL.out).mono ?_); rintro e w1 ⟨rfl, hb⟩; have HSW2 := Lib.hid (HSW.out _ hb); have B1 := Lib.hid hb; clear hb)
    | ((with_reducible refine (HSW2.out).mono ?_); rintro e w2 ⟨rfl, hs, hq⟩; have HD := Lib.hid (down_zero hq m (by rw [HL1.out]; omega) HDN.out); have S2 := Lib.hid ((Step.of B1.out).trans hs); clear hs hq)
    | ((with_reducible refine (HD.out).mono ?_); refine unhalt ?_))
  unfold Halted
  rintro e w3 ⟨b, l2, rfl, hI, hb1, hb2⟩
  have hH2 : HeapN m l2 := by
    cases b with
    | true => exact hb1 rfl
    | false => exact heap_of (hb2 rfl) rfl
  have HR := Lib.hid (pop_rest (S2.out.trans hI.1) hI.2.1 (hI.2.2.1.trans HPE.out) (hI.2.2.1.length_eq.trans HL1.out) hH2 ((hI.2.2.2 m (Nat.le_refl _)).trans HLA.out))
  clear hI hb1 hb2 hH2
  dsimp only
  go_wp2_with (first | ((with_reducible refine (HR.out).mono ?_); refine unhalt ?_))
  unfold Halted
  rintro e w4 ⟨rfl, hfin⟩
  have HF := Lib.hid hfin
  clear hfin
  dsimp only
  go_wp2
  go_returns
  exact ⟨rfl, HF.out⟩

/-- Where down did not move the item, up does. -/
theorem fix_rest {w w1 : World} {B pq pm : Nat} {v : Value} {l l2 : List It} {n i : Nat} (hI : UpIs w w1 B pq pm v l n l2) (hn : n ≤ l2.length) (hi : i < n) (h : UpN n i l2) :
    Calls Try.prog 31 #[.iface 65 (.pointer (some ⟨pq, 0, none⟩)), .int .i64 i] w1 fun e w' => e = .returned (.tuple #[]) ∧ ∃ l', UpIs w w' B pq pm v l n l' ∧ HeapN n l' :=
  (up_any hI.2.1 n i hn hi h).mono fun e w' ⟨h1, l', h2, h3⟩ => ⟨h1, l', ⟨hI.1.trans h2.1, h2.2.1, h2.2.2.1.trans hI.2.2.1, fun c hc => (h2.2.2.2 c hc).trans (hI.2.2.2 c hc)⟩, h3⟩

theorem hfix_any {w : World} {B pq pm : Nat} {v : Value} {l : List It} (h : QIs w B pq pm v l) (i : Nat) (hi : i < l.length) (hd : DownN l.length i i l) :
    Calls Try.prog 24 #[.iface 65 (.pointer (some ⟨pq, 0, none⟩)), .int .i64 i] w (QStep w B pq pm v (.tuple #[]) fun l' => l'.Perm l) := by
  have hll := h.len
  have HL := Lib.hid (len_any h)
  have HD := Lib.hid (fun W (hb : Below w.heap.size w W) => down_any (h.grow hb) l.length i (Nat.le_refl _) (by omega) hd)
  clear h hd
  go_enter Try.func24, Try.ntmps24
  go_wp2_with (first
    | ((with_reducible refine (HL.out).mono ?_); rintro e w1 ⟨rfl, hb⟩; have HD2 := Lib.hid (HD.out _ hb); have B1 := Lib.hid hb; clear hb)
    | ((with_reducible refine (HD2.out).mono ?_); refine unhalt ?_))
  unfold Halted
  rintro e w3 ⟨b, l2, rfl, hI, hb1, hb2⟩
  have hle := hI.2.2.1.length_eq
  have hI2 : UpIs w w3 B pq pm v l l.length l2 := ⟨(Step.of B1.out).trans hI.1, hI.2⟩
  cases b with
  | true =>
    have HF := Lib.hid (show ∃ v' l', Step w w3 pq pm v v' ∧ HIs w3 B pq pm v' l' ∧ l'.Perm l from ⟨v, l2, hI2.1, ⟨hI2.2.1, by rw [hle]; exact hb1 rfl⟩, hI2.2.2.1⟩)
    clear hI hb1 hb2 hI2
    dsimp only
    go_wp2
    go_returns
    exact ⟨rfl, HF.out⟩
  | false =>
    have HU := Lib.hid (fix_rest hI2 (by omega) hi (hb2 rfl))
    clear hI hb1 hb2 hI2
    dsimp only
    go_wp2_with (first | ((with_reducible refine (HU.out).mono ?_); refine unhalt ?_))
    unfold Halted
    rintro e w4 ⟨rfl, l3, hJ, hH⟩
    have HF := Lib.hid (show ∃ v' l', Step w w4 pq pm v v' ∧ HIs w4 B pq pm v' l' ∧ l'.Perm l from ⟨v, l3, hJ.1, ⟨hJ.2.1, by rw [hJ.2.2.1.length_eq]; exact hH⟩, hJ.2.2.1⟩)
    clear hJ hH
    dsimp only
    go_wp2
    go_returns
    exact ⟨rfl, HF.out⟩

set_option maxRecDepth 100000 in
set_option maxHeartbeats 4000000 in
theorem hremove_any {w : World} {B pq pm : Nat} {v : Value} {l : List It} (h : HIs w B pq pm v l) (i m : Nat) (hm : l.length = m + 1) (hi : i < l.length) (x : It) (hx : itAt l i = x) :
    Calls Try.prog 22 #[.iface 65 (.pointer (some ⟨pq, 0, none⟩)), .int .i64 i] w (QStep w B pq pm v (.iface 43 (.agg #[.int .i64 x.1, .int .i64 x.2])) fun l' => (x :: l').Perm l) := by
  have hll := h.1.len
  rw [hm] at hll
  have h0 := h.1
  have hH := h.2
  rw [hm] at hH
  have L := len_any h0
  rw [hm] at L
  have HL := Lib.hid L
  clear L h
  by_cases him : i = m
  · subst him
    have R := fun W (hb : Below w.heap.size w W) => pop_rest (Step.of hb) (h0.grow hb) (List.Perm.refl _) hm (heap_less hH (by omega)) hx
    have HR := Lib.hid R
    clear R h0 hH hx hm hi
    go_enter Try.func22, Try.ntmps22
    go_wp2_with (first
      | ((with_reducible refine (HL.out).mono ?_); rintro e w1 ⟨rfl, hb⟩; have HR2 := Lib.hid (HR.out _ hb); clear hb)
      | ((with_reducible refine (HR2.out).mono ?_); refine unhalt ?_))
    unfold Halted
    rintro e w4 ⟨rfl, hfin⟩
    have HF := Lib.hid hfin
    clear hfin
    dsimp only
    go_wp2
    go_returns
    exact ⟨rfl, HF.out⟩
  · have him2 : i < m := by omega
    have SW := fun W (hb : Below w.heap.size w W) => swap_sw (h0.grow hb) i m (by omega) (by omega)
    have hp := sw_perm (l := l) (i := i) (j := m) (by omega) (by omega)
    have hlast : itAt (sw l i m) m = x := by rw [sw_at (by omega) (by omega), if_pos rfl]; exact hx
    have hdn : DownN m i i (sw l i m) := heap_put (heap_less hH (by omega)) fun c h1 h2 => by rw [sw_at (by omega) (by omega), if_neg (by omega), if_neg h2]
    have hl1 : (sw l i m).length = m + 1 := by rw [sw_len]; exact hm
    have him3 : ¬ (m : Int) = i := by omega
    have hbne : ((m : Int) != (i : Int)) = true := by simp; omega
    have HSW := Lib.hid SW
    have HPE := Lib.hid hp
    have HLA := Lib.hid hlast
    have HDN := Lib.hid hdn
    have HL1 := Lib.hid hl1
    clear h0 hH hm hx SW hp hlast hdn hl1 hi
    go_enter Try.func22, Try.ntmps22
    go_wp2_with (first
      | ((with_reducible refine (HL.out).mono ?_); rintro e w1 ⟨rfl, hb⟩; have HSW2 := Lib.hid (HSW.out _ hb); have B1 := Lib.hid hb; clear hb)
      | ((with_reducible refine (HSW2.out).mono ?_); rintro e w2 ⟨rfl, hs, hq⟩; have HD := Lib.hid (down_any hq m i (by rw [HL1.out]; omega) (by omega) HDN.out); have S2 := Lib.hid ((Step.of B1.out).trans hs); clear hs hq)
      | ((with_reducible refine (HD.out).mono ?_); refine unhalt ?_))
    unfold Halted
    rintro e w3 ⟨b, l2, rfl, hI, hb1, hb2⟩
    have hle := hI.2.2.1.length_eq.trans HL1.out
    have hI2 : UpIs w w3 B pq pm v (sw l i m) m l2 := ⟨S2.out.trans hI.1, hI.2⟩
    cases b with
    | true =>
      have HR := Lib.hid (pop_rest hI2.1 hI2.2.1 (hI2.2.2.1.trans HPE.out) hle (hb1 rfl) ((hI2.2.2.2 m (Nat.le_refl _)).trans HLA.out))
      clear hI hb1 hb2 hI2
      dsimp only
      go_wp2_with (first | ((with_reducible refine (HR.out).mono ?_); refine unhalt ?_))
      unfold Halted
      rintro e w4 ⟨rfl, hfin⟩
      have HF := Lib.hid hfin
      clear hfin
      dsimp only
      go_wp2
      go_returns
      exact ⟨rfl, HF.out⟩
    | false =>
      have HU := Lib.hid (fix_rest hI2 (by omega) him2 (hb2 rfl))
      clear hI hb1 hb2 hI2
      dsimp only
      go_wp2_with (first | ((with_reducible refine (HU.out).mono ?_); refine unhalt ?_))
      unfold Halted
      rintro e w4 ⟨rfl, l3, hJ, hH⟩
      have HR := Lib.hid (pop_rest hJ.1 hJ.2.1 (hJ.2.2.1.trans HPE.out) (hJ.2.2.1.length_eq.trans HL1.out) hH ((hJ.2.2.2 m (Nat.le_refl _)).trans HLA.out))
      clear hJ hH
      dsimp only
      go_wp2_with (first | ((with_reducible refine (HR.out).mono ?_); refine unhalt ?_))
      unfold Halted
      rintro e w5 ⟨rfl, hfin⟩
      have HF := Lib.hid hfin
      clear hfin
      dsimp only
      go_wp2
      go_returns
      exact ⟨rfl, HF.out⟩
end Go.Proofs.Ytickfnedplbleaa
