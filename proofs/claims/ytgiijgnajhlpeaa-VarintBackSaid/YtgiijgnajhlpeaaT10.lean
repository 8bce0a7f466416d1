/- The contracts of All and SameInts of the document's: the numbers that bytes are, and whether numbers are the same. -/
import Derived.Test.YtgiijgnajhlpeaaT9
namespace Go.Proofs.Ytgiijgnajhlpeaa
open Go.RowKit
attribute [local go_sem] cell_over frozen_over lt_over le_over ne_over over_ne cell_set_same softAt softUpon lightUpon heavyUpon cell_kept frozen_kept

theorem all_self (l : List UInt8) : allP l = behindR [] (allP l) := by
  unfold behindR
  by_cases h : (allP l).2 = 0
  · rw [if_pos h, List.nil_append, ← h]
  · rw [if_neg h]
    cases l with
    | nil => simp [all_nil] at h
    | cons b r =>
      by_cases hg : (getP (b :: r)).2.2 = 0
      · rw [all_ok hg] at h ⊢
        unfold behindR at h ⊢
        split
        · rename_i h2; rw [if_pos h2] at h; simp at h
        · rfl
      · rw [all_bad (by simp) hg]

set_option maxHeartbeats 4000000 in
theorem refall_any (l : List UInt8) (w : World) (hl : l.length ≤ 1000) : Calls Try.prog 17 #[.string ⟨l.toArray⟩] w (AllIs w l) := by
  obtain ⟨S, hS⟩ : ∃ S : ByteArray, S = ⟨l.toArray⟩ := ⟨_, rfl⟩
  have hsz : S.size = l.length := by rw [hS]; rfl
  rw [← hS]
  have HSS := Lib.hid hS
  clear hS
  go_enter Try.func17, Try.ntmps17
  go_wp2
  go_loopw [4, 5] (fun v i wr => ∃ (t : Nat) (xs : List Nat), i = .int .i64 (t : Nat) ∧ t ≤ l.length ∧ xs.length ≤ t ∧ allP l = behindR xs (allP (l.drop t)) ∧ Below w.heap.size w wr ∧ IRow wr w.heap.size v xs)
    (fun _ i _ => l.length - (intOf i).toNat)
  case atStart => exact ⟨0, [], rfl, Nat.zero_le _, Nat.zero_le _, all_self l, Below.refl _ _, irow_nil _ _⟩
  case round =>
    obtain ⟨t, xs, rfl, ht, hxl, hall, B, hrow⟩ := hrel
    by_cases hlt : t < l.length
    · obtain ⟨r, hr⟩ : ∃ r, r = l.drop t := ⟨_, rfl⟩
      have hrl : r.length = l.length - t := by rw [hr, List.length_drop]
      have hne2 : r ≠ [] := by intro hc; rw [hc] at hrl; simp at hrl; omega
      have hex := ext_tail l t
      have HS2 := HSS.out
      rw [← hr] at hex hall
      rw [← HS2] at hex
      have G := fun W => refget_any r W (by omega)
      have t0 : (0 : Int) ≤ (t : Int) := by omega
      have t1 : (t : Int) < l.length := by omega
      have t2 : (t : Int) ≤ l.length := by omega
      by_cases he : (getP r).2.2 = 0
      · have hok := all_ok he
        rw [hok, behind_behind] at hall
        obtain ⟨g1, g2, g3, g4⟩ := get_pos he
        unfold GetIs at G
        rw [he] at G
        have hdd : r.drop (getP r).2.1 = l.drop (t + (getP r).2.1) := by rw [hr, List.drop_drop]
        rw [hdd] at hall
        obtain ⟨n, hn⟩ : ∃ n, n = (getP r).1 := ⟨_, rfl⟩
        obtain ⟨k, hk⟩ : ∃ k, k = (getP r).2.1 := ⟨_, rfl⟩
        rw [← hn, ← hk] at G hall
        rw [← hk] at g1 g2
        have HN := Lib.hid hall
        have HG := Lib.hid (show ∀ W, Calls Try.prog 15 #[.string ⟨r.toArray⟩] W fun e w' => e = .returned (.tuple #[.int .i64 (n : Int), .int .i64 (k : Int), .int .i64 0]) ∧ Below W.heap.size W w' from G)
        have HROW := Lib.hid hrow
        clear G hall hok hn hk HS2 he hrow hr hne2 hdd
        go_wp2_with (first
          | (at_builtin; refine unhalt ?_)
          | ((with_reducible refine (HG.out _).mono ?_); rintro e w2 ⟨rfl, hb2⟩))
        unfold Halted
        have hrow2 := own_below HROW.out hb2
        have B2 := bt B hb2
        refine append_rows Try.underlying22 info3 rfl (by decide) rfl (.tmp 24) (.tmp 26) rfl w.heap.size w.heap.size u4 (.slice (some ⟨w2.heap.size, 0, none⟩) 1 1) xs.length 1 (iv xs) (iv [n]) rfl rfl (hrow2.alloc _) (World.ownsRow_lit (base := w.heap.size) (e := 3) (size := 1) w2 (iv [n]).toArray 1 B2.size (by unfold maxLen; omega) rfl) (by have := B2.size; simp; omega) (oneCell_iv _) (by omega) ?_
        intro v' w' h1 _ h3
        have B3 := h3 w (bta B2 _)
        clear h3 B2 hrow2 B hb2
        go_wp2
        go_roundw
        case rel => exact ⟨t + k, xs ++ [n], by go_num, by omega, by rw [List.length_append, List.length_singleton]; omega, HN.out, B3, by unfold IRow; rw [List.length_append, ← iv_append]; exact h1⟩
        case measure => simp [intOf]; omega
      · have hbad := all_bad hne2 he
        rw [hbad, behind_bad _ _ he] at hall
        have her := get_err r
        rcases her with her | her | her
        · exact absurd her he
        all_goals
          unfold GetIs at G
          rw [her] at G hall
          have HG := Lib.hid G
          have HA := Lib.hid hall
          clear G hall hbad HS2 he hrow hr hne2 her
          go_wp2_with (first
            | ((with_reducible refine (HG.out _).mono ?_); rintro e w2 ⟨rfl, hb2⟩))
          go_returns
          refine ⟨bt B hb2, .slice none 0 0, ?_, ?_⟩
          · rw [HA.out]; rfl
          · rw [HA.out]; exact irow_nil _ _
    · obtain rfl : t = l.length := by omega
      rw [List.drop_length, all_nil, behind_ok, List.append_nil] at hall
      have HA := Lib.hid hall
      have HR := Lib.hid hrow
      clear hall hrow
      go_wp2
      go_returns
      refine ⟨B, u4, ?_, ?_⟩
      · rw [HA.out]; rfl
      · rw [HA.out]; exact HR.out

/-- Two slices of the same numbers. -/
theorem same_any (a1 a2 : Option Addr) (n c1 c2 : Nat) (zs : List Int) (w : World) (h1 : IntsIn w a1 zs) (h2 : IntsIn w a2 zs) (hl : zs.length = n) (hn : n ≤ 1000) : Calls Try.prog 18 #[.slice a1 n c1, .slice a2 n c2] w fun e w' => e = .returned (.bool true) ∧ Below w.heap.size w w' := by
  have H1 := Lib.hid h1
  have H2 := Lib.hid h2
  have HL := Lib.hid hl
  clear h1 h2 hl
  go_enter Try.func18, Try.ntmps18
  go_wp2
  go_loopw [5] (fun i wr => ∃ k : Nat, k ≤ n ∧ i = .int .i64 (k : Nat) ∧ Below w.heap.size w wr)
    (fun i _ => n - (intOf i).toNat)
  case atStart => exact ⟨0, Nat.zero_le _, rfl, Below.refl _ _⟩
  case round =>
    obtain ⟨k, hk, rfl, B⟩ := hrel
    by_cases hlt : k < n
    · have hlt2 : (k : Int) < n := by omega
      have k0 : (0 : Int) ≤ (k : Int) := by omega
      have hll := HL.out
      obtain ⟨z, hzk⟩ : ∃ z, zs[k]? = some z := ⟨_, List.getElem?_eq_getElem (by omega)⟩
      obtain ⟨b, o, rfl, hc⟩ := (H1.out.below B) k z hzk
      obtain ⟨b', o', rfl, hc'⟩ := (H2.out.below B) k z hzk
      have hb1 := World.block_lt_of_cell? wr _ hc
      have hb2 := World.block_lt_of_cell? wr _ hc'
      simp only at hb1 hb2
      clear hll hzk
      go_wp2
      refine wp_soft0 9 (by kernel_rfl) (by kernel_rfl) (tail_end (by kernel_rfl)) ?_
      simp only [List.take_succ_cons, List.take_zero]
      repeat (refine softLex_step (by rfl) (by rfl) (fun K hK => ?_); go_simp; (refine hK _ ?_; clear hK K))
      refine softLex_nil ?_
      intro w2 hb
      have B2 := bt B hb
      clear B hb hc hc' hb1 hb2
      go_wp2
      go_roundw
      case rel => exact ⟨k + 1, by omega, by go_num, B2⟩
      case measure => simp [intOf]; omega
    · obtain rfl : k = n := by omega
      go_wp2
      go_returns
      exact ⟨rfl, B⟩

theorem IRow.ints {w : World} {B : Nat} {v : Value} {xs : List Nat} (h : IRow w B v xs) : ∃ a c, v = .slice a xs.length c ∧ IntsIn w a (xs.map fun (n : Nat) => (n : Int)) := by
  obtain ⟨h1, ⟨rfl, h0⟩ | ⟨g, cap, cur, rfl, _, hh, hn, _, hs, ht⟩⟩ := h
  · refine ⟨none, 0, by rw [h0], fun i z hi => ?_⟩
    obtain rfl : xs = [] := List.eq_nil_of_length_eq_zero h0
    simp at hi
  · refine ⟨some ⟨g, 0, none⟩, cap, rfl, fun i z hi => ⟨g, 0, rfl, ?_⟩⟩
    have hil : i < xs.length := by
      have := (List.getElem?_eq_some_iff.1 hi).1
      simpa using this
    rw [Nat.zero_add, blk_cell hh, ← Array.getElem?_toList]
    have h2 : cur.toList[i]? = (iv xs)[i]? := by rw [← ht, List.getElem?_take_of_lt (by omega)]
    rw [h2]
    simp [iv, hil] at hi ⊢
    exact hi
end Go.Proofs.Ytgiijgnajhlpeaa
