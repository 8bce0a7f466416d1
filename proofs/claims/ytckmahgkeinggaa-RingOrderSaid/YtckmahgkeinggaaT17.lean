/- The contracts of New, Len, Room and Total of the package ring by what stands there; and Push of nothing. -/
import Derived.Test.YtckmahgkeinggaaT16
namespace Go.Proofs.Ytckmahgkeinggaa
open Go.RowKit

theorem new_is (w : World) (m : Nat) (m1 : 1 ≤ m) (m2 : m ≤ 4096) : Calls Try.prog 8 #[.int .i64 m] w fun e w' => ∃ pr pc, e = .returned (.tuple #[.pointer (some ⟨pr, 0, none⟩), .int .i64 0]) ∧ Below w.heap.size w w' ∧ w.heap.size ≤ pr ∧ w.heap.size ≤ pc ∧ RingIs w' pr pc m 0 [] := by
  refine (new_any w m m1 m2).mono ?_
  rintro e w' ⟨pr, pc, rfl, hb, h1, h2, hm⟩
  exact ⟨pr, pc, rfl, hb, h1, h2, ⟨0, 0, zeros m, hm, bytes1_zeros m, by simp [cont]⟩⟩
theorem len_is {w : World} {pr pc m : Nat} {t : Int} {l : List Value} (hr : RingIs w pr pc m t l) : Calls Try.prog 15 #[.pointer (some ⟨pr, 0, none⟩)] w fun e w' => e = .returned (.int .i64 l.length) ∧ Below w.heap.size w w' := by
  obtain ⟨h, k, cur, hm, _, rfl⟩ := hr.is
  have g1 := hm.h1
  have g2 := hm.k1
  have g3 := hm.len
  rw [cont_len (by omega) (by omega)]
  exact len_any hm.ring
theorem room_is {w : World} {pr pc m : Nat} {t : Int} {l : List Value} (hr : RingIs w pr pc m t l) : Calls Try.prog 16 #[.pointer (some ⟨pr, 0, none⟩)] w fun e w' => e = .returned (.int .i64 ((m : Int) - l.length)) ∧ Below w.heap.size w w' := by
  obtain ⟨h, k, cur, hm, _, rfl⟩ := hr.is
  have g1 := hm.h1
  have g2 := hm.k1
  have g3 := hm.len
  rw [cont_len (by omega) (by omega)]
  exact room_any hm.ring hm.m2 hm.k0 hm.k1
theorem total_is {w : World} {pr pc m : Nat} {t : Int} {l : List Value} (hr : RingIs w pr pc m t l) : Calls Try.prog 17 #[.pointer (some ⟨pr, 0, none⟩)] w fun e w' => e = .returned (.int .i64 t) ∧ Below w.heap.size w w' := by
  obtain ⟨h, k, cur, hm, _, rfl⟩ := hr.is
  exact total_any hm.ring
theorem push_nothing {w : World} {pr pc m : Nat} {t : Int} {l : List Value} (hr : RingIs w pr pc m t l) (a : Option Addr) (c : Nat) : Calls Try.prog 13 #[.pointer (some ⟨pr, 0, none⟩), .slice a 0 c] w fun e w' => e = .returned (.int .i64 0) ∧ Below w.heap.size w w' := by
  obtain ⟨h, k, cur, hm, _, rfl⟩ := hr.is
  exact push_zero hm a 0 c (.inl rfl)
end Go.Proofs.Ytckmahgkeinggaa
