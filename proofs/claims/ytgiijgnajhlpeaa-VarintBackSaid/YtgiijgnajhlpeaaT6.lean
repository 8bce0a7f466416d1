/- The contracts of Join of the package varint, and of the document's: the bytes of many numbers, or the error. -/
import Derived.Test.YtgiijgnajhlpeaaT5
namespace Go.Proofs.Ytgiijgnajhlpeaa
open Go.RowKit
attribute [local go_sem] cell_over frozen_over lt_over le_over ne_over over_ne cell_set_same softAt softUpon lightUpon heavyUpon cell_kept frozen_kept

set_option maxHeartbeats 4000000 in
theorem refjoin_any (a : Option Addr) (n c : Nat) (zs : List Int) (w : World) (hz : IntsIn w a zs) (hl : zs.length = n) (hn : n ≤ 1000) : Calls Try.prog 11 #[.slice a n c] w (JoinIs w zs) := by
  have HZ := Lib.hid hz
  have HL := Lib.hid hl
  clear hz hl
  go_enter Try.func11, Try.ntmps11
  go_wp2
  go_loopw [4, 5] (fun v i wr => ∃ k : Nat, k ≤ n ∧ i = .int .i64 (k : Nat) ∧ (∀ z ∈ zs.take k, ¬ badN z) ∧ Below w.heap.size w wr ∧ Row wr w.heap.size v (joinB (zs.take k)))
    (fun _ i _ => n - (intOf i).toNat)
  case atStart => exact ⟨0, Nat.zero_le _, rfl, by simp, Below.refl _ _, row_nil _ _⟩
  case round =>
    obtain ⟨k, hk, rfl, hgood, B, hrow⟩ := hrel
    by_cases hlt : k < n
    · have hlt2 : (k : Int) < n := by omega
      have hll := HL.out
      obtain ⟨z, hzk⟩ : ∃ z, zs[k]? = some z := ⟨_, List.getElem?_eq_getElem (by omega)⟩
      obtain ⟨b, o, rfl, hc⟩ := (HZ.out.below B) k z hzk
      have hzm : z ∈ zs := List.mem_of_getElem? hzk
      have k0 : (0 : Int) ≤ (k : Int) := by omega
      by_cases hbad : badN z
      · have hR : joinR zs = ([], 8) := by unfold joinR; rw [if_pos ⟨z, hzm, hbad⟩]
        have P := fun W => refput_none z W hbad
        have HP := Lib.hid P
        have HR := Lib.hid hR
        have HB := Lib.hid hrow
        have hg := Lib.hid hgood
        clear P hR hll hzk hrow hgood
        go_wp2_with (first | ((with_reducible refine (HP.out _).mono ?_); rintro e w2 ⟨rfl, hb2⟩))
        go_returns
        refine ⟨bt B hb2, .slice none 0 0, ?_, ?_⟩
        · rw [HR.out]; rfl
        · rw [HR.out]; exact row_nil _ _
      · obtain ⟨m, rfl⟩ : ∃ m : Nat, z = m := ⟨z.toNat, by unfold badN at hbad; omega⟩
        have P := fun W => refput_some m W (by unfold badN at hbad; omega)
        have hsn := take_snoc zs k m hzk
        have hgood2 : ∀ z ∈ zs.take (k + 1), ¬ badN z := by
          rw [hsn]
          intro z hz
          rcases List.mem_append.1 hz with hz | hz
          · exact hgood z hz
          · rw [List.mem_singleton.1 hz]; exact hbad
        have hjl := joinB_len (zs.take k)
        have hpl := putB_le8 m
        have hjs := joinB_snoc (zs.take k) m
        rw [← hsn, Int.toNat_natCast] at hjs
        rw [List.length_take] at hjl
        have HJ := Lib.hid hjs
        have HG := Lib.hid hgood2
        have HP := Lib.hid P
        have hjl2 : (joinB (zs.take k)).length ≤ 8000 := by omega
        clear P hll hzk hgood hsn hgood2 hjs hbad hjl
        generalize joinB (zs.take k) = l at *
        go_wp2_with (first
          | ((with_reducible refine (HP.out _).mono ?_); refine unhalt ?_)
          | (at_builtin; refine unhalt ?_))
        unfold Halted
        rintro e w2 ⟨v2, rfl, hb2, hrow2⟩
        have B2 := bt B hb2
        have hrow3 := hrow.below hb2
        have HROW2 := Lib.hid hrow2
        have HROW3 := Lib.hid hrow3
        clear hrow2 hrow3 hrow B hb2
        dsimp only
        go_wp2_with (at_builtin; refine unhalt ?_)
        unfold Halted
        refine append_rows Try.underlying24 info5 rfl (by decide) rfl (.tmp 25) (.tmp 26) rfl w.heap.size wr.heap.size u4 v2 l.length (putB m).length (bv l) (bv (putB m)) rfl rfl HROW3.out HROW2.out B2.size (oneCell_bv _) (by omega) ?_
        intro v' w' h1 _ h3
        have B3 := h3 w B2
        clear h3 B2
        go_wp2
        go_roundw
        case rel => exact ⟨k + 1, by omega, by go_num, HG.out, B3, by rw [HJ.out]; unfold Row; rw [List.length_append, ← bv_append]; exact h1⟩
        case measure => simp [intOf]; omega
    · obtain rfl : k = n := by omega
      have hR : joinR zs = (joinB zs, 0) := by
        unfold joinR
        rw [if_neg]
        rintro ⟨z, hz, hb⟩
        exact hgood z (by rw [List.take_of_length_le (by have := HL.out; omega)]; exact hz) hb
      have hT : zs.take k = zs := List.take_of_length_le (by have := HL.out; omega)
      rw [hT] at hrow
      have HR := Lib.hid hR
      have HB := Lib.hid hrow
      clear hR hT hrow hgood
      go_wp2
      go_returns
      refine ⟨B, u4, ?_, ?_⟩
      · rw [HR.out]; rfl
      · rw [HR.out]; exact HB.out

theorem join_top (a : Option Addr) (n c : Nat) (zs : List Int) (w : World) (hz : IntsIn w a zs) (hl : zs.length = n) (hn : n ≤ 1000) : Calls Try.prog 10 #[.slice a n c] w (JoinIs w zs) := by
  have J := join_any a n c zs w hz hl hn
  have HJ := Lib.hid J
  clear J hz hl hn
  go_enter Try.func10, Try.ntmps10
  go_wp2_with (first | ((with_reducible refine HJ.out.mono ?_); refine unhalt ?_))
  unfold Halted
  rintro e w2 ⟨hb, v, rfl, hr⟩
  have HR := Lib.hid hr
  clear hr HJ
  dsimp only
  go_wp2
  go_returns
  exact ⟨hb, v, rfl, HR.out⟩
end Go.Proofs.Ytgiijgnajhlpeaa
