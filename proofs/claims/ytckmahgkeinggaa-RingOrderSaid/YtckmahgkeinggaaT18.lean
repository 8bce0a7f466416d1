/- What a ring tells as a slice, and bytes that came in, as lists of bytes; Push, Peek, Drop and Pop of the package ring in these words. -/
import Derived.Test.YtckmahgkeinggaaT17
import Derived.Test.YtckmahgkeinggaaT7
namespace Go.Proofs.Ytckmahgkeinggaa
open Go.RowKit

/-- Bytes as the cells of a row. -/
def bv (l : List UInt8) : List Value := l.map fun b => .int .u8 (b.toNat : Int)
theorem bv_len (l : List UInt8) : (bv l).length = l.length := by simp [bv]
theorem bv_take (l : List UInt8) (n : Nat) : (bv l).take n = bv (l.take n) := by simp [bv, List.map_take]
theorem bv_drop (l : List UInt8) (n : Nat) : (bv l).drop n = bv (l.drop n) := by simp [bv, List.map_drop]
theorem bv_append (l m : List UInt8) : bv l ++ bv m = bv (l ++ m) := by simp [bv]
theorem bytes1_bv (l : List UInt8) : Bytes1 (bv l) := by
  intro v hv
  obtain ⟨b, _, rfl⟩ := List.mem_map.1 hv
  rfl

/-- What Peek tells. -/
def look (l : List UInt8) (f n : Int) : List UInt8 := if f < 0 ∨ n < 1 then [] else (l.drop f.toNat).take n.toNat
theorem lookV_bv (l : List UInt8) (f n : Int) : lookV (bv l) f n = bv (look l f n) := by
  unfold lookV look
  split
  · rfl
  · rw [bv_drop, bv_take]
theorem look_len (l : List UInt8) (f n : Int) : (look l f n).length ≤ l.length := by
  unfold look
  split
  · exact Nat.zero_le _
  · simp; omega

/-- A slice of bytes of the ring's own make. -/
structure Told (w : World) (B pr pc : Nat) (v : Value) (l : List UInt8) : Prop where
  is : (v = .slice none 0 0 ∧ l = []) ∨ ∃ pb, v = .slice (some ⟨pb, 0, none⟩) l.length l.length ∧ B ≤ pb ∧ pb ≠ pr ∧ pb ≠ pc ∧ w.heap[pb]? = some (.cells (bv l).toArray 5 (0, 0))

theorem Told.below {w w' : World} {B pr pc : Nat} {v : Value} {l : List UInt8} (h : Told w B pr pc v l) (hb : Below w.heap.size w w') : Told w' B pr pc v l := by
  rcases h.is with h | ⟨pb, h1, h2, h3, h4, h5⟩
  · exact ⟨.inl h⟩
  · exact ⟨.inr ⟨pb, h1, h2, h3, h4, blk_grow hb h5⟩⟩
theorem Told.touch {w w' : World} {B pr pc : Nat} {v : Value} {l : List UInt8} (h : Told w B pr pc v l) (hb : Touch w w' pr pc) : Told w' B pr pc v l := by
  rcases h.is with h | ⟨pb, h1, h2, h3, h4, h5⟩
  · exact ⟨.inl h⟩
  · exact ⟨.inr ⟨pb, h1, h2, h3, h4, hb.other _ _ h3 h4 h5⟩⟩
theorem Told.base {w : World} {B B' pr pc : Nat} {v : Value} {l : List UInt8} (h : Told w B pr pc v l) (hb : B' ≤ B) : Told w B' pr pc v l := by
  rcases h.is with h | ⟨pb, h1, h2, h3, h4, h5⟩
  · exact ⟨.inl h⟩
  · exact ⟨.inr ⟨pb, h1, by omega, h3, h4, h5⟩⟩
theorem conv_nil (w : World) : (convert 33 9 (.slice none 0 0)).run Try.prog w = .ok (.string ⟨#[]⟩) w := by kernel_rfl
/-- string(b) of it. -/
theorem Told.conv {w : World} {B pr pc : Nat} {v : Value} {l : List UInt8} (h : Told w B pr pc v l) : (convert 33 9 v).run Try.prog w = .ok (.string ⟨l.toArray⟩) w := by
  rcases h.is with ⟨rfl, rfl⟩ | ⟨pb, rfl, _, _, _, h5⟩
  · exact conv_nil w
  · refine conv_str w pb l _ h5 (fun j hj => ?_)
    simp [bv, hj]
theorem Told.slice {w : World} {B pr pc : Nat} {v : Value} {l : List UInt8} (h : Told w B pr pc v l) : ∃ a, v = .slice a l.length l.length := by
  rcases h.is with ⟨rfl, rfl⟩ | ⟨pb, rfl, _⟩
  · exact ⟨none, rfl⟩
  · exact ⟨_, rfl⟩

/-- A slice of bytes that came in. -/
structure Came (w : World) (B : Nat) (a : Option Addr) (len cap : Nat) (l : List UInt8) : Prop where
  size : l.length = len
  fits : len ≤ cap
  most : cap ≤ maxLen
  place : ∀ x, a = some x → len ≠ 0 → x.block < B
  bys : Bys w a (bv l)

theorem Came.under {w w' : World} {B : Nat} {a : Option Addr} {len cap : Nat} {l : List UInt8} (h : Came w B a len cap l) (hb : Below B w w') : Came w' B a len cap l := by
  refine { h with bys := fun j v hj => ?_ }
  obtain ⟨b, o, e, hc⟩ := h.bys j v hj
  refine ⟨b, o, e, ?_⟩
  have hlt : j < len := by
    have := (List.getElem?_eq_some_iff.1 hj).1
    rw [bv_len, h.size] at this
    exact this
  have := h.place _ e (by omega)
  rw [hb.cell (p := ⟨b, o + j, none⟩) this]
  exact hc
theorem Came.touch {w w' : World} {B pr pc : Nat} {a : Option Addr} {len cap : Nat} {l : List UInt8} (h : Came w B a len cap l) (ht : Touch w w' pr pc) (h1 : B ≤ pr) (h2 : B ≤ pc) : Came w' B a len cap l :=
  h.under (ht.below B w h1 h2 (Below.refl _ _))

/-- A slice of integers that came in: nil, or a row of cells. -/
def IsRow (k : IntKind) (w : World) (a : Option Addr) (len cap : Nat) (zs : List Int) : Prop :=
  (a = none ∧ len = 0 ∧ cap = 0 ∧ zs = []) ∨
  ∃ x, a = some x ∧ len ≤ cap ∧ cap ≤ maxLen ∧ zs.length = cap ∧ (∀ i, i < zs.length → w.cell? (x.add i) = some (.int k (zs.getD i 0))) ∧ ∀ n ∈ zs, (Lit.int k n).wf = true

theorem IsRow.came {w : World} {a : Option Addr} {len cap : Nat} {zs : List Int} (h : IsRow .u8 w a len cap zs) : ∃ l, Came w w.heap.size a len cap l := by
  rcases h with ⟨rfl, rfl, rfl, rfl⟩ | ⟨x, rfl, hl, hm, hz, hc, hw⟩
  · exact ⟨[], rfl, Nat.le_refl _, Nat.zero_le _, (fun x hx => by cases hx), (fun j v hj => by simp [bv] at hj)⟩
  · have hb : ∀ k, 0 ≤ zs.getD k 0 ∧ zs.getD k 0 ≤ 255 := by
      intro k
      rcases Nat.lt_or_ge k zs.length with h | h
      · have hm : zs.getD k 0 ∈ zs := by
          rw [List.getD_eq_getElem?_getD, List.getElem?_eq_getElem h]
          exact List.getElem_mem h
        simpa [Lit.wf, IntKind.min, IntKind.max, IntKind.signed, IntKind.bits] using hw _ hm
      · rw [List.getD_eq_getElem?_getD, List.getElem?_eq_none h]
        exact ⟨Int.le_refl _, by show (0 : Int) ≤ 255; omega⟩
    refine ⟨(List.range len).map fun k => UInt8.ofNat (zs.getD k 0).toNat, by simp, hl, hm, fun y hy h0 => ?_, fun j v hj => ?_⟩
    · cases hy
      have h0 := hc 0 (by omega)
      have hx : x.add 0 = x := by simp [Addr.add]
      rw [hx] at h0
      exact World.block_lt_of_cell? w x h0
    · have hjl : j < len := by
        have := (List.getElem?_eq_some_iff.1 hj).1
        simpa [bv] using this
      have hs : x.spot = none := by
        have h0 := hc 0 (by omega)
        have hx : x.add 0 = x := by simp [Addr.add]
        rw [hx] at h0
        cases hsp : x.spot with
        | none => rfl
        | some s =>
          simp only [World.cell?, hsp] at h0
          split at h0 <;> simp_all
      obtain ⟨b, o, s⟩ := x
      simp only at hs
      subst hs
      refine ⟨b, o, rfl, ?_⟩
      have h1 := hc j (by omega)
      have e : (⟨b, o, none⟩ : Addr).add j = ⟨b, o + j, none⟩ := by unfold Addr.add; split <;> simp_all
      rw [e] at h1
      rw [h1]
      have := hb j
      have hv : v = .int .u8 ((UInt8.ofNat (zs.getD j 0).toNat).toNat : Int) := by
        simp [bv, hjl] at hj
        rw [← hj]
        simp
      rw [hv, UInt8.toNat_ofNat_of_lt' (by show (zs.getD j 0).toNat < 256; omega)]
      rw [show ((zs.getD j 0).toNat : Int) = zs.getD j 0 by omega]

theorem push_u {w : World} {pr pc m B : Nat} {t : Int} {c l : List UInt8} (hr : RingIs w pr pc m t (bv c)) {a : Option Addr} {len cap : Nat} (hc : Came w B a len cap l) (h1 : B ≤ pr) (h2 : B ≤ pc) (hl : len ≤ 1000) (ht : 0 ≤ t ∧ t ≤ 1000000) :
    Calls Try.prog 13 #[.pointer (some ⟨pr, 0, none⟩), .slice a len cap] w fun e w' => e = .returned (.int .i64 ((min len (m - c.length) : Nat) : Int)) ∧ Touch w w' pr pc ∧ RingIs w' pr pc m (t + (min len (m - c.length) : Nat)) (bv (c ++ l.take (min len (m - c.length)))) := by
  rcases Nat.eq_zero_or_pos len with h0 | h0
  · subst h0
    refine (push_nothing hr a cap).mono ?_
    rintro e w' ⟨rfl, hb⟩
    rw [Nat.zero_min, List.take_zero, List.append_nil]
    exact ⟨rfl, (Touch.refl w pr pc).grow hb hr.lt.1, by simpa using hr.below hb⟩
  · have hlen := hc.size
    have hbl : 0 < (bv l).length := by rw [bv_len]; omega
    obtain ⟨b, o, rfl, _⟩ := hc.bys 0 _ (List.getElem?_eq_getElem hbl)
    have hlt := hc.place _ rfl (by omega)
    have hlt2 : b < B := hlt
    have := push_is hr b o cap (min len (m - c.length)) hc.bys (by omega) (by omega) (by rw [bv_len]; omega) (bytes1_bv l) (by rw [bv_len, hlen]; exact hc.fits) (by rw [bv_len, bv_len]; split <;> omega) ht
    rw [bv_len, hlen, bv_take, bv_append] at this
    exact this
theorem peek_u {w : World} {pr pc m : Nat} {t : Int} {c : List UInt8} (hr : RingIs w pr pc m t (bv c)) (f n : Int) :
    Calls Try.prog 18 #[.pointer (some ⟨pr, 0, none⟩), .int .i64 f, .int .i64 n] w fun e w' => Below w.heap.size w w' ∧ ∃ v, e = .returned v ∧ Told w' w.heap.size pr pc v (look c f n) := by
  obtain ⟨l1, l2⟩ := hr.lt
  refine (peek_is hr f n).mono ?_
  rintro e w' ⟨hb, h⟩
  rw [lookV_bv] at h
  refine ⟨hb, ?_⟩
  rcases h with ⟨rfl, h⟩ | ⟨pb, rfl, hp, hh⟩
  · exact ⟨_, rfl, ⟨.inl ⟨rfl, by simpa [bv] using h⟩⟩⟩
  · exact ⟨_, rfl, ⟨.inr ⟨pb, by rw [bv_len], hp, by omega, by omega, hh⟩⟩⟩
theorem pop_u {w : World} {pr pc m : Nat} {t : Int} {c : List UInt8} (hr : RingIs w pr pc m t (bv c)) (n : Int) :
    Calls Try.prog 10 #[.pointer (some ⟨pr, 0, none⟩), .int .i64 n] w fun e w' => Touch w w' pr pc ∧ RingIs w' pr pc m t (bv (c.drop (look c 0 n).length)) ∧ ∃ v, e = .returned v ∧ Told w' w.heap.size pr pc v (look c 0 n) := by
  obtain ⟨l1, l2⟩ := hr.lt
  refine (pop_is hr n).mono ?_
  rintro e w' ⟨hT, hR, h⟩
  rw [lookV_bv] at h
  rw [lookV_bv, bv_len, bv_drop] at hR
  refine ⟨hT, hR, ?_⟩
  rcases h with ⟨rfl, h⟩ | ⟨pb, rfl, hp, hh⟩
  · exact ⟨_, rfl, ⟨.inl ⟨rfl, by simpa [bv] using h⟩⟩⟩
  · exact ⟨_, rfl, ⟨.inr ⟨pb, by rw [bv_len], hp, by omega, by omega, hh⟩⟩⟩
theorem drop_u {w : World} {pr pc m : Nat} {t : Int} {c : List UInt8} (hr : RingIs w pr pc m t (bv c)) (n : Int) :
    Calls Try.prog 12 #[.pointer (some ⟨pr, 0, none⟩), .int .i64 n] w fun e w' => e = .returned (.int .i64 ((look c 0 n).length : Int)) ∧ Touch w w' pr pc ∧ RingIs w' pr pc m t (bv (c.drop (look c 0 n).length)) := by
  have := drop_is hr n
  have e : goV (bv c) n = (look c 0 n).length := by
    by_cases h : n < 1
    · unfold goV look
      rw [if_pos h, if_pos (.inr h)]; rfl
    · have e2 : look c 0 n = c.take n.toNat := by
        unfold look
        rw [if_neg (by omega)]
        rfl
      unfold goV
      rw [bv_len, e2, List.length_take, if_neg h]
      split <;> omega
  rw [e, bv_drop] at this
  exact this
theorem len_u {w : World} {pr pc m : Nat} {t : Int} {c : List UInt8} (hr : RingIs w pr pc m t (bv c)) : Calls Try.prog 15 #[.pointer (some ⟨pr, 0, none⟩)] w fun e w' => e = .returned (.int .i64 c.length) ∧ Below w.heap.size w w' := by
  have := len_is hr
  rw [bv_len] at this
  exact this
theorem room_u {w : World} {pr pc m : Nat} {t : Int} {c : List UInt8} (hr : RingIs w pr pc m t (bv c)) : Calls Try.prog 16 #[.pointer (some ⟨pr, 0, none⟩)] w fun e w' => e = .returned (.int .i64 ((m : Int) - c.length)) ∧ Below w.heap.size w w' := by
  have := room_is hr
  rw [bv_len] at this
  exact this
theorem new_u (w : World) (m : Nat) (m1 : 1 ≤ m) (m2 : m ≤ 4096) : Calls Try.prog 8 #[.int .i64 m] w fun e w' => ∃ pr pc, e = .returned (.tuple #[.pointer (some ⟨pr, 0, none⟩), .int .i64 0]) ∧ Below w.heap.size w w' ∧ w.heap.size ≤ pr ∧ w.heap.size ≤ pc ∧ RingIs w' pr pc m 0 (bv []) := new_is w m m1 m2
end Go.Proofs.Ytckmahgkeinggaa
