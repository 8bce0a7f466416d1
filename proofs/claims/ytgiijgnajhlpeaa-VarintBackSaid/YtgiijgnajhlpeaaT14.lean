/- The law VarintOne: where a number is got, its bytes are those that are put for it, and no shorter beginning is a number. -/
import Derived.Test.YtgiijgnajhlpeaaT13
namespace Go.Proofs.Ytgiijgnajhlpeaa
open Go.RowKit
attribute [local go_sem] cell_over frozen_over lt_over le_over ne_over over_ne cell_set_same softAt softUpon lightUpon heavyUpon cell_kept frozen_kept

theorem own_kept {w : World} {B E sz : Nat} {v : Value} {n : Nat} {xs : List Value} (h : w.ownsRow B E sz v n xs) (x : World) : (kept [] w x).ownsRow B E sz v n xs := by
  obtain ⟨h1, h2⟩ := h
  refine ⟨h1, h2.imp id ?_⟩
  rintro ⟨g, cap, cur, e, hg, hh, rest⟩
  exact ⟨g, cap, cur, e, hg, blk_kept hh (by simp), rest⟩
theorem Row.kept {w : World} {B : Nat} {v : Value} {l : List UInt8} (h : Row w B v l) (x : World) : Row (Go.Proofs.Ytgiijgnajhlpeaa.kept [] w x) B v l := own_kept h x

def PutTk (w : World) (l : List UInt8) (e : Ending) (w' : World) : Prop := ∃ v, e = .returned (.tuple #[v, .int .i64 0]) ∧ Below w.heap.size w w' ∧ Row w' w.heap.size v l

set_option maxRecDepth 100000 in
set_option maxHeartbeats 4000000 in
theorem one_any (l : List UInt8) (w : World) : Calls Try.prog 6 #[.string ⟨l.toArray⟩] w fun e w' => e = .returned (.bool true) ∧ Below w.heap.size w w' := by
  by_cases hlen : 100 < l.length
  · have h1 : (l.length : Int) > 100 := by omega
    go_enter Try.func6, Try.ntmps6
    go_wp2_with (first | ((with_reducible refine (awake_any _).mono ?_); rintro e w1 ⟨rfl, hb⟩))
    go_returns
    exact ⟨rfl, hb⟩
  · have h1 : ¬ (l.length : Int) > 100 := by omega
    have G0 := fun W => get_any l W (by omega)
    unfold GetIs at G0
    by_cases he : (getP l).2.2 = 0
    · rw [he] at G0
      obtain ⟨n, hn⟩ : ∃ n, n = (getP l).1 := ⟨_, rfl⟩
      obtain ⟨k, hk⟩ : ∃ k, k = (getP l).2.1 := ⟨_, rfl⟩
      obtain ⟨p1, p2, p3, p4, p5, p6, b, r, p7, p8⟩ := get_ok (l := l) (n := n) (s := k) (by rw [hn, hk, ← he])
      rw [← hn, ← hk] at G0
      have HG := Lib.hid (show ∀ W, Calls Try.prog 14 #[.string ⟨l.toArray⟩] W fun e w' => e = .returned (.tuple #[.int .i64 (n : Int), .int .i64 (k : Int), .int .i64 0]) ∧ Below W.heap.size W w' from G0)
      have P := fun W => put_some n W p6
      have Z := fun W => size_any n W
      rw [size_kN p6, ← p5] at Z
      have HC := Lib.hid (fun i (hi : i < k) W => (show Calls Try.prog 14 #[.string ⟨(l.take i).toArray⟩] W fun e w' => e = .returned (.tuple #[.int .i64 0, .int .i64 0, .int .i64 3]) ∧ Below W.heap.size W w' from by
        have hcut : getP (l.take i) = (0, 0, 3) := by rw [p7]; exact get_cut (by omega)
        have := get_any (l.take i) W (by rw [List.length_take]; omega)
        unfold GetIs at this
        rw [hcut] at this
        exact this))
      have HP := Lib.hid (show ∀ W, Calls Try.prog 8 #[.int .i64 (n : Int)] W (PutTk W (l.take k)) from fun W => (P W).mono fun e w' ⟨v, h1, h2, h3⟩ => ⟨v, h1, h2, by rw [← p1]; exact h3⟩)
      have HZ := Lib.hid Z
      have HXE := Lib.hid (fun i => ext_head l i)
      have k1 : ¬ (k : Int) < 1 := by omega
      have k2 : ¬ (k : Int) > l.length := by omega
      have k3 : ¬ (k : Int) > 8 := by omega
      have d1 : decide ((k : Int) < 1) = false := by simp; omega
      have d2 : decide ((8 : Int) < k) = false := by simp; omega
      have d3 : decide ((l.length : Int) < k) = false := by simp; omega
      have d4 : decide (l.length < k) = false := by simp; omega
      clear G0 he hn hk p1 p5 p7 p8 P Z
      go_enter Try.func6, Try.ntmps6
      go_wp2_with (first
        | ((with_reducible refine (HG.out _).mono ?_); rintro e w1 ⟨rfl, B1⟩)
        | ((with_reducible refine (HP.out _).mono ?_); refine unhalt ?_))
      unfold Halted
      rintro e w2 ⟨v, rfl, hb, hr⟩
      have B2 := bt B1 hb
      have R2 := Lib.hid hr
      clear hb hr B1
      dsimp only
      go_wp2
      go_loopw [8] (fun i wr => ∃ j : Nat, j ≤ k ∧ i = .int .i64 (j : Nat) ∧ Below w.heap.size w wr ∧ Row wr w1.heap.size v (l.take k))
        (fun i _ => k - (intOf i).toNat)
      case atStart => exact ⟨0, Nat.zero_le _, rfl, B2, R2.out⟩
      case round =>
        clear B2 R2
        obtain ⟨j, hj, rfl, B, hrow⟩ := hrel
        have HR := Lib.hid hrow
        clear hrow
        by_cases hlt : j < k
        · have j0 : (0 : Int) ≤ (j : Int) := by omega
          have j1 : (j : Int) < k := by omega
          have j2 : (j : Int) ≤ l.length := by omega
          have hex := HXE.out j
          have HJ := Lib.hid (HC.out j hlt)
          go_wp2_with (first
            | ((with_reducible refine (HJ.out _).mono ?_); rintro e w3 ⟨rfl, hb⟩; have B3 := bt B hb; have R3 := Lib.hid (HR.out.below hb); clear hb))
          go_roundw
          case rel => exact ⟨j + 1, by omega, by go_num, B3, R3.out⟩
          case measure => simp [intOf]; omega
        · obtain rfl : j = k := by omega
          go_wp2
          refine wp_chain [] [12, 17] [] (by kernel_rfl) (by kernel_rfl) ?_
          intro w4 hb4 hh4
          have B4 := bt B hb4
          have hcv := fun x => ((HR.out.below hb4).kept x).conv
          have hex := HXE.out j
          have j0 : (0 : Int) ≤ (j : Int) := by omega
          have j2 : (j : Int) ≤ l.length := by omega
          clear hb4 hh4 HR B
          iterate 12
            refine chain_now (by rfl) (by rfl) (fun K hK => ?_)
            replace hK := Lib.hid hK
            go_simp
            refine hK.out _ _ ?_; clear hK K
          refine chain_do (by rfl) (fun K hK => ?_)
          replace hK := Lib.hid hK
          go_simp
          refine (HZ.out _).mono ?_
          rintro e w5 ⟨rfl, hb⟩
          refine ⟨_, rfl, Below.kept _ hb, hK.out _ _ ?_⟩; clear hK K
          have B5 := bt B4 hb
          clear hb
          iterate 4
            refine chain_now (by rfl) (by rfl) (fun K hK => ?_)
            replace hK := Lib.hid hK
            go_simp
            refine hK.out _ _ ?_; clear hK K
          refine chain_do (by rfl) (fun K hK => ?_)
          replace hK := Lib.hid hK
          go_simp
          refine (awake_any _).mono ?_
          rintro e w6 ⟨rfl, hb⟩
          refine ⟨_, rfl, Below.kept _ hb, hK.out _ _ ?_⟩; clear hK K
          have B6 := bt B5 hb
          clear hb
          iterate 2
            refine chain_now (by rfl) (by rfl) (fun K hK => ?_)
            replace hK := Lib.hid hK
            go_simp
            refine hK.out _ _ ?_; clear hK K
          refine chain_end ?_
          go_wp2
          go_returns
          exact ⟨rfl, B6⟩
    · have her := get_err l
      rcases her with her | her | her
      · exact absurd her he
      all_goals
        rw [her] at G0
        have HG := Lib.hid G0
        clear G0 he her
        go_enter Try.func6, Try.ntmps6
        go_wp2_with (first
          | ((with_reducible refine (HG.out _).mono ?_); rintro e w1 ⟨rfl, B1⟩)
          | ((with_reducible refine (awake_any _).mono ?_); rintro e w2 ⟨rfl, hb⟩; have B2 := bt B1 hb; clear hb))
        go_returns
        exact ⟨rfl, B2⟩

theorem one_raw {W : World} (S : ByteArray) (_ : S.size ≤ maxLen) : Calls Try.prog 6 #[.string S] W fun e w' => e = .returned (.bool true) ∧ Below W.heap.size W w' := by
  obtain ⟨l, rfl⟩ := list_of S
  exact one_any l W
end Go.Proofs.Ytgiijgnajhlpeaa
