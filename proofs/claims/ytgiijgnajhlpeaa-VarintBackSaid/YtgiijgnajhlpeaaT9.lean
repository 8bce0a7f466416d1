/- The contracts of All of the package varint and of the document's: the numbers that bytes are. -/
import Derived.Test.YtgiijgnajhlpeaaT8
import Derived.Test.YtgiijgnajhlpeaaV2
namespace Go.Proofs.Ytgiijgnajhlpeaa
open Go.RowKit
attribute [local go_sem] cell_over frozen_over lt_over le_over ne_over over_ne cell_set_same softAt softUpon lightUpon heavyUpon cell_kept frozen_kept

/-- Numbers as the cells of a row. -/
def iv (xs : List Nat) : List Value := xs.map fun (n : Nat) => Value.int .i64 (n : Int)
theorem iv_append (l m : List Nat) : iv l ++ iv m = iv (l ++ m) := by simp [iv]
theorem oneCell_iv (l : List Nat) : ∀ u ∈ iv l, u.oneCell' = true := by
  intro v hv
  obtain ⟨b, _, rfl⟩ := List.mem_map.1 hv
  rfl
def IRow (w : World) (B : Nat) (v : Value) (xs : List Nat) : Prop := w.ownsRow B 3 1 v xs.length (iv xs)
def AllIs (w : World) (l : List UInt8) (e : Ending) (w' : World) : Prop := Below w.heap.size w w' ∧ ∃ v, e = .returned (.tuple #[v, .int .i64 ((allP l).2 : Nat)]) ∧ IRow w' w.heap.size v (allP l).1

theorem ext_tail (l : List UInt8) (k : Nat) : (⟨l.toArray⟩ : ByteArray).extract k l.length = ⟨(l.drop k).toArray⟩ := by
  apply ByteArray.ext
  simp
  exact List.take_of_length_le (by simp)
theorem ext_head (l : List UInt8) (k : Nat) : (⟨l.toArray⟩ : ByteArray).extract 0 k = ⟨(l.take k).toArray⟩ := by
  apply ByteArray.ext
  simp

theorem irow_nil (w : World) (B : Nat) : IRow w B (.slice none 0 0) [] := World.ownsRow_nil _ _ _ _

set_option maxHeartbeats 4000000 in
theorem all_any (l : List UInt8) (w : World) (hl : l.length ≤ 1000) : Calls Try.prog 16 #[.string ⟨l.toArray⟩] w (AllIs w l) := by
  go_enter Try.func16, Try.ntmps16
  go_wp2
  go_loopw [0, 4] (fun s v wr => ∃ (r : List UInt8) (xs : List Nat), s = .string ⟨r.toArray⟩ ∧ r.length ≤ l.length ∧ xs.length + r.length ≤ l.length ∧ allP l = behindR xs (allP r) ∧ Below w.heap.size w wr ∧ IRow wr w.heap.size v xs)
    (fun s _ _ => match s with | .string S => S.size | _ => 0)
  case atStart => exact ⟨l, [], rfl, Nat.le_refl _, by simp, by
    unfold behindR
    by_cases h : (allP l).2 = 0
    · rw [if_pos h, List.nil_append, ← h]
    · rw [if_neg h]
      cases l with
      | nil => simp [all_nil] at h
      | cons b r =>
        by_cases hg : (getP (b :: r)).2.2 = 0
        · rw [all_ok hg] at h ⊢
          unfold behindR at h ⊢
          split
          · rename_i h2; rw [if_pos h2] at h; simp at h
          · rfl
        · rw [all_bad (by simp) hg], Below.refl _ _, irow_nil _ _⟩
  case round =>
    obtain ⟨r, xs, rfl, hr, hxl, hall, B, hrow⟩ := hrel
    cases hr0 : r with
    | nil =>
      subst hr0
      rw [all_nil, behind_ok, List.append_nil] at hall
      have HA := Lib.hid hall
      have HR := Lib.hid hrow
      clear hall hrow
      go_wp2
      go_returns
      refine ⟨B, u4, ?_, ?_⟩
      · rw [HA.out]; rfl
      · rw [HA.out]; exact HR.out
    | cons b q =>
      rw [← hr0]
      have hne : (⟨r.toArray⟩ : ByteArray).toList.isEmpty = false := by rw [hr0]; exact not_empty b q
      have hne2 : r ≠ [] := by rw [hr0]; simp
      have G := fun W => get_any r W (by omega)
      obtain ⟨S, hS⟩ : ∃ S : ByteArray, S = ⟨r.toArray⟩ := ⟨_, rfl⟩
      rw [← hS] at hne G
      have hsz : S.size = r.length := by rw [hS]; rfl
      by_cases he : (getP r).2.2 = 0
      · have hok := all_ok he
        rw [hok, behind_behind] at hall
        obtain ⟨g1, g2, g3, g4⟩ := get_pos he
        have hex := ext_tail r (getP r).2.1
        unfold GetIs at G
        rw [he] at G
        obtain ⟨n, hn⟩ : ∃ n, n = (getP r).1 := ⟨_, rfl⟩
        obtain ⟨k, hk⟩ : ∃ k, k = (getP r).2.1 := ⟨_, rfl⟩
        rw [← hn, ← hk] at G hall
        rw [← hk] at g1 g2 hex
        rw [← hS] at hex
        have HN := Lib.hid hall
        have HG := Lib.hid (show ∀ W, Calls Try.prog 14 #[.string S] W fun e w' => e = .returned (.tuple #[.int .i64 (n : Int), .int .i64 (k : Int), .int .i64 0]) ∧ Below W.heap.size W w' from G)
        have HSS := Lib.hid hS
        have HROW := Lib.hid hrow
        rw [← hS]
        have g2' : (k : Int) ≤ r.length := by omega
        have g1' : (0 : Int) ≤ k := by omega
        clear G hall hok hn hk hS he hrow hr0 hne2
        go_wp2_with (first
          | (at_builtin; refine unhalt ?_)
          | ((with_reducible refine (HG.out _).mono ?_); rintro e w2 ⟨rfl, hb2⟩))
        unfold Halted
        have hrow2 := own_below HROW.out hb2
        have B2 := bt B hb2
        refine append_rows Try.underlying22 info3 rfl (by decide) rfl (.tmp 19) (.tmp 21) rfl w.heap.size w.heap.size u4 (.slice (some ⟨w2.heap.size, 0, none⟩) 1 1) xs.length 1 (iv xs) (iv [n]) rfl rfl (hrow2.alloc _) (World.ownsRow_lit (base := w.heap.size) (e := 3) (size := 1) w2 (iv [n]).toArray 1 B2.size (by unfold maxLen; omega) rfl) (by have := B2.size; simp; omega) (oneCell_iv _) (by omega) ?_
        intro v' w' h1 _ h3
        have B3 := h3 w (bta B2 _)
        clear h3 B2 hrow2 B hb2
        go_wp2
        go_roundw
        case rel => exact ⟨r.drop k, xs ++ [n], rfl, by rw [List.length_drop]; omega, by rw [List.length_drop, List.length_append, List.length_singleton]; omega, HN.out, B3, by unfold IRow; rw [List.length_append, ← iv_append]; exact h1⟩
        case measure =>
          show (⟨(r.drop k).toArray⟩ : ByteArray).size < S.size
          rw [hsz]
          show (r.drop k).toArray.size < r.length
          rw [List.size_toArray, List.length_drop]
          omega
      · have hbad := all_bad hne2 he
        rw [hbad, behind_bad _ _ he] at hall
        have her := get_err r
        rcases her with her | her | her
        · exact absurd her he
        all_goals
          unfold GetIs at G
          rw [her] at G hall
          have HG := Lib.hid G
          have HA := Lib.hid hall
          rw [← hS]
          clear G hall hbad hS he hrow hr0 hne2 her
          go_wp2_with (first
            | ((with_reducible refine (HG.out _).mono ?_); rintro e w2 ⟨rfl, hb2⟩))
          go_returns
          refine ⟨bt B hb2, .slice none 0 0, ?_, ?_⟩
          · rw [HA.out]; rfl
          · rw [HA.out]; exact irow_nil _ _
end Go.Proofs.Ytgiijgnajhlpeaa
