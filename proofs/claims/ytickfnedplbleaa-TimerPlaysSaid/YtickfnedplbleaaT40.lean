/- The law TimerPlays: its walk. -/
import Derived.Test.YtickfnedplbleaaT39
import Derived.Test.YtickfnedplbleaaT31
import Derived.Deep.CutBlock
namespace Go.Proofs.Ytickfnedplbleaa
open Go.RowKit
attribute [local go_sem] cell_over frozen_over lt_over le_over ne_over over_ne cell_set_same softAt softUpon lightUpon heavyUpon cell_kept frozen_kept

/-- A call: its kind, its number, its tick. -/
structure ActV where
  k : Nat
  id : Int
  n : Int
/-- What is played, as it came in. -/
def ActsIn (w : World) (a : Option Addr) (n : Nat) (f : Nat → ActV) : Prop :=
  ∀ i, i < n → ∃ b o, a = some ⟨b, o, none⟩ ∧ b < w.heap.size ∧ w.cell? ⟨b, o + i * 3, none⟩ = some (.int .u8 (f i).k) ∧ w.cell? ⟨b, o + i * 3 + 1, none⟩ = some (.int .i64 (f i).id) ∧ w.cell? ⟨b, o + i * 3 + 2, none⟩ = some (.int .i64 (f i).n) ∧ (f i).k ≤ 255 ∧ Fits (f i).id
theorem ActsIn.below {w w' : World} {a : Option Addr} {n : Nat} {f : Nat → ActV} (h : ActsIn w a n f) (hb : Below w.heap.size w w') : ActsIn w' a n f := fun i hi => by
  obtain ⟨b, o, h1, h2, h3, h4, h5, h6⟩ := h i hi
  exact ⟨b, o, h1, Nat.lt_of_lt_of_le h2 hb.size, cell_below hb h3, cell_below hb h4, cell_below hb h5, h6⟩

set_option maxRecDepth 100000 in
set_option maxHeartbeats 8000000 in
theorem plays_in (w : World) (a1 : Option Addr) (n c1 : Nat) (f : Nat → ActV) (hf : ActsIn w a1 n f) (id : Int) (hid : Fits id) (hn : n ≤ 120) :
    Calls Try.prog 3 #[.slice a1 n c1, .int .i64 id] w fun e w' => e = .returned (.bool true) ∧ Below w.heap.size w w' := by
  have t1 : ¬ (120 : Int) < (n : Int) := by omega
  have HF := Lib.hid hf
  have HID := Lib.hid hid
  clear hf hid
  go_enter Try.func3, Try.ntmps3
  go_wp2_with (first
    | ((with_reducible refine (hp_new' _).mono ?_); refine unhalt ?_))
  unfold Halted
  rintro e w1 ⟨pq, pm, rfl, h1⟩
  have H1 := Lib.hid (play_start w1 pq pm h1)
  clear h1
  dsimp only
  go_wp2
  go_loopw [6, 7] (fun s6 s7 wr => ∃ (k : Nat) (m : List It), k ≤ n ∧ s7 = .int .i64 k ∧ Play w wr pq pm m s6) (fun _ i _ => n - (intOf i).toNat)
  case atStart => exact ⟨0, [], Nat.zero_le _, rfl, H1.out⟩
  case round =>
    clear H1
    obtain ⟨k, m, hk, rfl, P⟩ := hrel
    by_cases hlt : k < n
    · have HP := Lib.hid P
      obtain ⟨b, ob, rfl, hb, d0, d1, d2, hkd, hfid⟩ := (HF.out.below P.base) k hlt
      have i0 : (0 : Int) ≤ (k : Int) := by omega
      have i1 : (k : Int) < n := by omega
      clear P
      generalize (f k).k = kd at *
      generalize (f k).id = aid at *
      generalize (f k).n = an at *
      obtain ⟨r, hr⟩ : ∃ r, kd % 5 = r := ⟨_, rfl⟩
      have v1 : (kd : Int).tmod 5 = (r : Int) := by rw [Int.tmod_eq_emod_of_nonneg (by omega)]; omega
      have v2 : (kd : Int) % 5 = (r : Int) := by omega
      have v3 : IntKind.u8.wrap (r : Int) = r := by simp [IntKind.wrap, IntKind.bits, IntKind.signed]; omega
      have HFA := Lib.hid hfid
      clear hkd hfid hr
      go_upto_block 2 with fail
      have hm0 := HP.out.mid (.cells #[.int .u8 kd, .int .i64 aid, .int .i64 an] 28)
      have ML := Lib.hid HP.out.len
      have MI := Lib.hid HP.out.ids
      have MS := Lib.hid HP.out.sorted
      generalize wr.alloc (.cells #[.int .u8 kd, .int .i64 aid, .int .i64 an] 28) = wa at *
      generalize wr.heap.size = pa at *
      have g0 := blk_cell hm0.blk 0
      have g1 := blk_cell hm0.blk 1
      have g2 := blk_cell hm0.blk 2
      have g3 := blk_lt hm0.blk
      have HM := Lib.hid hm0
      clear hm0 HP
      go_cut [6, 9, 10, 11, 12, 13, 14, 15, 16, 17] from 41 to 95 (fun s6 _ _ _ _ _ _ _ _ _ wx => ∃ m', Play w wx pq pm m' s6)
      case first =>
        by_cases h3 : r = 3
        · have q3 : ((r : Int) == 3) = true := by simp; omega
          clear h3
          have HS1 := Lib.hid (mid_stop HM.out aid HFA.out)
          clear HM
          go_wp2_with (first
            | ((with_reducible refine (HS1.out).mono ?_); rintro e w2 ⟨rfl, M2⟩; have e1 := blk_cell M2.blk 1; have e3 := blk_lt M2.blk; have HS2 := Lib.hid (play_stop aid M2 ML.out MI.out MS.out); clear M2)
            | ((with_reducible refine (HS2.out).mono ?_); refine unhalt ?_))
          unfold Halted
          rintro e w3 ⟨v', rfl, P3⟩
          have HP3 := Lib.hid P3
          clear P3
          dsimp only
          go_wp2
          go_meet
          exact ⟨_, HP3.out⟩
        · have q3 : ((r : Int) == 3) = false := by simp; omega
          by_cases h4 : r = 4
          · have q4 : ((r : Int) == 4) = true := by simp; omega
            clear h4
            have HS1 := Lib.hid (mid_due HM.out MS.out an)
            clear HM
            go_wp2_with (first
              | ((with_reducible refine (HS1.out).mono ?_); refine unhalt ?_))
            unfold Halted
            rintro e w2 ⟨v2, rfl, M2, I2⟩
            have e1 := blk_cell M2.blk 2
            have e3 := blk_lt M2.blk
            have HS2 := Lib.hid (play_due an M2 ML.out MS.out)
            have HI2 := Lib.hid I2
            clear M2 I2
            dsimp only
            go_wp2_with (first
              | ((with_reducible refine (HS2.out).mono ?_); refine unhalt ?_))
            unfold Halted
            rintro e w3 ⟨v3, v4, rfl, hb, P3, R3⟩
            have hll : (m.filter fun x => decide (x.1 ≤ an)).length ≤ 64 := Nat.le_trans (List.length_filter_le _ _) ML.out
            have HBK := Lib.hid (back_any (own_below HI2.out hb) hll)
            have HP3 := Lib.hid P3
            have HR3 := Lib.hid R3
            clear P3 R3 hb
            dsimp only
            go_wp2_with (first
              | ((with_reducible refine (HBK.out).mono ?_); refine unhalt ?_))
            unfold Halted
            rintro e w4 ⟨v5, rfl, hb, R4⟩
            have HSM := Lib.hid (same_rsl R4.rsl (HR3.out.grow hb) hll)
            have HP4 := Lib.hid (HP3.out.grow hb)
            clear R4 hb hll
            dsimp only
            go_wp2_with (first
              | ((with_reducible refine (HSM.out).mono ?_); rintro e w5 ⟨rfl, hb⟩; have HP5 := Lib.hid (HP4.out.grow hb); clear hb))
            go_meet
            exact ⟨_, HP5.out⟩
          · have q4 : ((r : Int) == 4) = false := by simp; omega
            have HS1 := Lib.hid (mid_set HM.out aid an)
            clear HM
            go_wp2_with (first
              | ((with_reducible refine (HS1.out).mono ?_); rintro e w2 ⟨rfl, M2⟩; have e1 := blk_cell M2.blk 1; have e2 := blk_cell M2.blk 2; have e3 := blk_lt M2.blk; have HS2 := Lib.hid (play_set aid an M2 ML.out MI.out MS.out); clear M2)
              | ((with_reducible refine (HS2.out).mono ?_); refine unhalt ?_))
            unfold Halted
            rintro e w3 ⟨v', rfl, P3⟩
            have HP3 := Lib.hid P3
            clear P3
            dsimp only
            generalize (setL m aid an).2 = code at *
            go_wp2
            go_meet
            exact ⟨_, HP3.out⟩
      case rest =>
        obtain ⟨m', P5⟩ := hcut
        have HP5 := Lib.hid P5
        have hml := P5.len
        have hwh : (isIn m' id = false ∧ (∀ W, Below wc.heap.size wc W → Calls Try.prog 18 #[.pointer (some ⟨pq, 0, none⟩), .int .i64 id] W fun e w' => e = .returned (.tuple #[.int .i64 0, .bool false]) ∧ Below W.heap.size W w') ∧ (∀ W, Below wc.heap.size wc W → Calls Try.prog 19 #[u6, .int .i64 id] W fun e w' => e = .returned (.int .i64 (-1)) ∧ Below W.heap.size W w')) ∨
            ∃ (i : Nat) (y : It), m'[i]? = some y ∧ (∀ W, Below wc.heap.size wc W → Calls Try.prog 18 #[.pointer (some ⟨pq, 0, none⟩), .int .i64 id] W fun e w' => e = .returned (.tuple #[.int .i64 y.1, .bool true]) ∧ Below W.heap.size W w') ∧ (∀ W, Below wc.heap.size wc W → Calls Try.prog 19 #[u6, .int .i64 id] W fun e w' => e = .returned (.int .i64 (i : Nat)) ∧ Below W.heap.size W w') := by
          cases hin : isIn m' id with
          | false => exact .inl ⟨rfl, fun W hb => play_when_out (P5.grow hb) id HID.out (not_in hin), fun W hb => place_out (P5.grow hb).rsl hml id (not_in hin)⟩
          | true =>
            obtain ⟨i, y, hy, rfl, hf⟩ := first_in hin
            exact .inr ⟨i, y, hy, fun W hb => play_when_in (P5.grow hb) y (List.mem_of_getElem? hy), fun W hb => place_in (P5.grow hb).rsl hml i y hy hf⟩
        have hnx : m' = [] ∨ ∃ x, m'[0]? = some x ∧ 0 < m'.length ∧ Calls Try.prog 17 #[.pointer (some ⟨pq, 0, none⟩)] wc fun e w' => e = .returned (.tuple #[.agg #[.int .i64 x.1, .int .i64 x.2], .bool true]) ∧ Below wc.heap.size wc w' := by
          cases m' with
          | nil => exact .inl rfl
          | cons x r => exact .inr ⟨x, rfl, by simp, play_next_some P5⟩
        obtain ⟨a', c', rfl, hc1, hc2, hc3, hc4⟩ := P5.rsl
        rcases hnx with rfl | ⟨x, hx0, hlp, hnx⟩
        · have HNX := Lib.hid (play_next_none P5)
          rcases hwh with ⟨_, hw1, hw2⟩ | ⟨i, y, hy, _⟩
          · simp only [List.length_nil] at hw2
            have HWH := Lib.hid hw1
            have HPL := Lib.hid hw2
            clear P5 hw1 hw2 hc4 hc3
            go_wp2_with (first
              | ((with_reducible refine (HNX.out).mono ?_); rintro e w6 ⟨rfl, hb⟩; have B6 := Lib.hid (bta hb (.cells #[.int .i64 0, .int .i64 0] 43)); clear hb)
              | ((with_reducible refine (HWH.out _ B6.out).mono ?_); rintro e w8 ⟨rfl, hb⟩; have B8 := Lib.hid (bt B6.out hb); have b8 := Lib.hid hb; clear hb)
              | ((with_reducible refine (HPL.out _ B8.out).mono ?_); rintro e w9 ⟨rfl, hb⟩; have B9 := Lib.hid (bt B8.out hb); have b9 := Lib.hid (bt b8.out hb); clear hb))
            have hx9 := blk_grow b9.out (blk_new (w := w6) (o := .cells #[.int .i64 0, .int .i64 0] 43 (0, 0)) rfl)
            have HX9 := Lib.hid hx9
            generalize w6.heap.size = px at *
            clear b9 hx9
            refine wp_chain [] [17, 24, 25, 27] [] (by kernel_rfl) (by kernel_rfl) ?_
            intro w10 hb10 _
            have B10 := Lib.hid (bt B9.out hb10)
            have hx10 := blk_grow hb10 HX9.out
            have P10 := Lib.hid (HP5.out.grow B10.out)
            have ML := P10.out.len
            have PL := Lib.hid (play_len P10.out)
            clear hb10 hx10
            iterate 17
              refine chain_now (by rfl) (by rfl) (fun K hK => ?_)
              replace hK := Lib.hid hK
              go_simp
              refine hK.out _ _ ?_; clear hK K
            refine chain_do (by rfl) (fun K hK => ?_)
            replace hK := Lib.hid hK
            go_simp
            refine PL.out.mono ?_
            rintro e w11 ⟨rfl, hb⟩
            refine ⟨_, rfl, Below.kept _ hb, hK.out _ _ ?_⟩; clear hK K
            have B11 := Lib.hid (bt B10.out hb)
            have PI := Lib.hid (play_list (HP5.out.grow B11.out))
            clear hb
            iterate 6
              refine chain_now (by rfl) (by rfl) (fun K hK => ?_)
              replace hK := Lib.hid hK
              go_simp
              refine hK.out _ _ ?_; clear hK K
            refine chain_do (by rfl) (fun K hK => ?_)
            replace hK := Lib.hid hK
            go_simp
            refine PI.out.mono ?_
            rintro e w12 ⟨v12, rfl, i12, hb⟩
            refine ⟨_, rfl, Below.kept _ hb, hK.out _ _ ?_⟩; clear hK K
            have B12 := Lib.hid (bt B11.out hb)
            have BK := Lib.hid (back_any i12 ML)
            clear hb i12
            refine chain_do (by rfl) (fun K hK => ?_)
            replace hK := Lib.hid hK
            go_simp
            refine BK.out.mono ?_
            rintro e w13 ⟨v13, rfl, hb, r13⟩
            refine ⟨_, rfl, Below.kept _ hb, hK.out _ _ ?_⟩; clear hK K
            have B13 := Lib.hid (bt B12.out hb)
            have sm := same_rsl r13.rsl (HP5.out.grow B13.out).rsl ML
            try simp only [List.length_nil] at sm
            have SM := Lib.hid sm
            clear hb r13 sm
            iterate 1
              refine chain_now (by rfl) (by rfl) (fun K hK => ?_)
              replace hK := Lib.hid hK
              go_simp
              refine hK.out _ _ ?_; clear hK K
            refine chain_do (by rfl) (fun K hK => ?_)
            replace hK := Lib.hid hK
            go_simp
            refine SM.out.mono ?_
            rintro e w14 ⟨rfl, hb⟩
            refine ⟨_, rfl, Below.kept _ hb, hK.out _ _ ?_⟩; clear hK K
            have B14 := Lib.hid (bt B13.out hb)
            clear hb
            iterate 20
              refine chain_now (by rfl) (by rfl) (fun K hK => ?_)
              replace hK := Lib.hid hK
              go_simp
              refine hK.out _ _ ?_; clear hK K
            refine chain_end ?_
            have HP14 := Lib.hid (HP5.out.grow B14.out)
            go_wp2
            go_roundw
            case rel => exact ⟨k + 1, [], by omega, by go_num, HP14.out⟩
            case measure => simp [intOf]; omega
          · simp at hy
        · have HNX := Lib.hid hnx
          have jp : (0 : Int) < m'.length := by omega
          have j0 : (m'.length : Int) ≤ 64 := by omega
          obtain ⟨g, o, rfl, _⟩ := hc4 0 x hx0
          rcases hwh with ⟨_, hw1, hw2⟩ | ⟨i, y, hy, hw1, hw2⟩
          · have HWH := Lib.hid hw1
            have HPL := Lib.hid hw2
            clear P5 hw1 hw2 hc4 hc3 hnx
            go_wp2_with (first
              | ((with_reducible refine (HNX.out).mono ?_); rintro e w6 ⟨rfl, hb⟩; have B6 := Lib.hid (bta hb (.cells #[.int .i64 x.1, .int .i64 x.2] 43)); clear hb)
              | ((with_reducible refine (HWH.out _ B6.out).mono ?_); rintro e w8 ⟨rfl, hb⟩; have B8 := Lib.hid (bt B6.out hb); have b8 := Lib.hid hb; clear hb)
              | ((with_reducible refine (HPL.out _ B8.out).mono ?_); rintro e w9 ⟨rfl, hb⟩; have B9 := Lib.hid (bt B8.out hb); have b9 := Lib.hid (bt b8.out hb); clear hb))
            have hx9 := blk_grow b9.out (blk_new (w := w6) (o := .cells #[.int .i64 x.1, .int .i64 x.2] 43 (0, 0)) rfl)
            have HX9 := Lib.hid hx9
            generalize w6.heap.size = px at *
            clear b9 hx9
            refine wp_chain [] [17, 24, 25, 27] [] (by kernel_rfl) (by kernel_rfl) ?_
            intro w10 hb10 _
            have B10 := Lib.hid (bt B9.out hb10)
            have hx10 := blk_grow hb10 HX9.out
            have P10 := Lib.hid (HP5.out.grow B10.out)
            have l0 := blk_lt hx10
            have s1 : ∀ X, (kept [] w10 X).cell? ⟨px, 0, none⟩ = some (.int .i64 x.1) := fun X => by rw [cell_kept l0 (by simp)]; exact blk_cell hx10 0
            have s2 : ∀ X, (kept [] w10 X).cell? ⟨px, 1, none⟩ = some (.int .i64 x.2) := fun X => by rw [cell_kept l0 (by simp)]; exact blk_cell hx10 1
            obtain ⟨_, _, e, _, _, _, hc⟩ := P10.out.rsl
            cases e
            obtain ⟨_, _, e, hgl, c1, c2⟩ := hc 0 x hx0
            cases e
            rw [Nat.zero_mul, Nat.add_zero] at c1 c2
            have s3 : ∀ X, (kept [] w10 X).cell? ⟨g, o, none⟩ = some (.int .i64 x.1) := fun X => by rw [cell_kept hgl (by simp)]; exact c1
            have s4 : ∀ X, (kept [] w10 X).cell? ⟨g, o + 1, none⟩ = some (.int .i64 x.2) := fun X => by rw [cell_kept hgl (by simp)]; exact c2
            clear c1 c2 hc
            have ML := P10.out.len
            have PL := Lib.hid (play_len P10.out)
            clear hb10 hx10
            iterate 17
              refine chain_now (by rfl) (by rfl) (fun K hK => ?_)
              replace hK := Lib.hid hK
              go_simp
              refine hK.out _ _ ?_; clear hK K
            refine chain_do (by rfl) (fun K hK => ?_)
            replace hK := Lib.hid hK
            go_simp
            refine PL.out.mono ?_
            rintro e w11 ⟨rfl, hb⟩
            refine ⟨_, rfl, Below.kept _ hb, hK.out _ _ ?_⟩; clear hK K
            have B11 := Lib.hid (bt B10.out hb)
            have PI := Lib.hid (play_list (HP5.out.grow B11.out))
            clear hb
            iterate 6
              refine chain_now (by rfl) (by rfl) (fun K hK => ?_)
              replace hK := Lib.hid hK
              go_simp
              refine hK.out _ _ ?_; clear hK K
            refine chain_do (by rfl) (fun K hK => ?_)
            replace hK := Lib.hid hK
            go_simp
            refine PI.out.mono ?_
            rintro e w12 ⟨v12, rfl, i12, hb⟩
            refine ⟨_, rfl, Below.kept _ hb, hK.out _ _ ?_⟩; clear hK K
            have B12 := Lib.hid (bt B11.out hb)
            have BK := Lib.hid (back_any i12 ML)
            clear hb i12
            refine chain_do (by rfl) (fun K hK => ?_)
            replace hK := Lib.hid hK
            go_simp
            refine BK.out.mono ?_
            rintro e w13 ⟨v13, rfl, hb, r13⟩
            refine ⟨_, rfl, Below.kept _ hb, hK.out _ _ ?_⟩; clear hK K
            have B13 := Lib.hid (bt B12.out hb)
            have sm := same_rsl r13.rsl (HP5.out.grow B13.out).rsl ML
            try simp only [List.length_nil] at sm
            have SM := Lib.hid sm
            clear hb r13 sm
            iterate 1
              refine chain_now (by rfl) (by rfl) (fun K hK => ?_)
              replace hK := Lib.hid hK
              go_simp
              refine hK.out _ _ ?_; clear hK K
            refine chain_do (by rfl) (fun K hK => ?_)
            replace hK := Lib.hid hK
            go_simp
            refine SM.out.mono ?_
            rintro e w14 ⟨rfl, hb⟩
            refine ⟨_, rfl, Below.kept _ hb, hK.out _ _ ?_⟩; clear hK K
            have B14 := Lib.hid (bt B13.out hb)
            clear hb
            iterate 20
              refine chain_now (by rfl) (by rfl) (fun K hK => ?_)
              replace hK := Lib.hid hK
              go_simp
              refine hK.out _ _ ?_; clear hK K
            refine chain_end ?_
            have HP14 := Lib.hid (HP5.out.grow B14.out)
            go_wp2
            go_roundw
            case rel => exact ⟨k + 1, m', by omega, by go_num, HP14.out⟩
            case measure => simp [intOf]; omega
          · have HWH := Lib.hid hw1
            have HPL := Lib.hid hw2
            have hil := (List.getElem?_eq_some_iff.1 hy).1
            have j1 : (0 : Int) ≤ (i : Int) := by omega
            have j2 : (i : Int) < m'.length := by omega
            clear P5 hw1 hw2 hc4 hc3 hnx
            go_wp2_with (first
              | ((with_reducible refine (HNX.out).mono ?_); rintro e w6 ⟨rfl, hb⟩; have B6 := Lib.hid (bta hb (.cells #[.int .i64 x.1, .int .i64 x.2] 43)); clear hb)
              | ((with_reducible refine (HWH.out _ B6.out).mono ?_); rintro e w8 ⟨rfl, hb⟩; have B8 := Lib.hid (bt B6.out hb); have b8 := Lib.hid hb; clear hb)
              | ((with_reducible refine (HPL.out _ B8.out).mono ?_); rintro e w9 ⟨rfl, hb⟩; have B9 := Lib.hid (bt B8.out hb); have b9 := Lib.hid (bt b8.out hb); clear hb))
            have hx9 := blk_grow b9.out (blk_new (w := w6) (o := .cells #[.int .i64 x.1, .int .i64 x.2] 43 (0, 0)) rfl)
            have HX9 := Lib.hid hx9
            generalize w6.heap.size = px at *
            clear b9 hx9
            refine wp_chain [] [17, 24, 25, 27] [] (by kernel_rfl) (by kernel_rfl) ?_
            intro w10 hb10 _
            have B10 := Lib.hid (bt B9.out hb10)
            have hx10 := blk_grow hb10 HX9.out
            have P10 := Lib.hid (HP5.out.grow B10.out)
            have l0 := blk_lt hx10
            have s1 : ∀ X, (kept [] w10 X).cell? ⟨px, 0, none⟩ = some (.int .i64 x.1) := fun X => by rw [cell_kept l0 (by simp)]; exact blk_cell hx10 0
            have s2 : ∀ X, (kept [] w10 X).cell? ⟨px, 1, none⟩ = some (.int .i64 x.2) := fun X => by rw [cell_kept l0 (by simp)]; exact blk_cell hx10 1
            obtain ⟨_, _, e, _, _, _, hc⟩ := P10.out.rsl
            cases e
            obtain ⟨_, _, e, hgl, c1, c2⟩ := hc 0 x hx0
            cases e
            rw [Nat.zero_mul, Nat.add_zero] at c1 c2
            have s3 : ∀ X, (kept [] w10 X).cell? ⟨g, o, none⟩ = some (.int .i64 x.1) := fun X => by rw [cell_kept hgl (by simp)]; exact c1
            have s4 : ∀ X, (kept [] w10 X).cell? ⟨g, o + 1, none⟩ = some (.int .i64 x.2) := fun X => by rw [cell_kept hgl (by simp)]; exact c2
            obtain ⟨_, _, e, _, c3, c4⟩ := hc i y hy
            cases e
            have s5 : ∀ X, (kept [] w10 X).cell? ⟨g, o + i * 2, none⟩ = some (.int .i64 y.1) := fun X => by rw [cell_kept hgl (by simp)]; exact c3
            clear c1 c2 hc c3 c4
            have ML := P10.out.len
            have PL := Lib.hid (play_len P10.out)
            clear hb10 hx10
            iterate 17
              refine chain_now (by rfl) (by rfl) (fun K hK => ?_)
              replace hK := Lib.hid hK
              go_simp
              refine hK.out _ _ ?_; clear hK K
            refine chain_do (by rfl) (fun K hK => ?_)
            replace hK := Lib.hid hK
            go_simp
            refine PL.out.mono ?_
            rintro e w11 ⟨rfl, hb⟩
            refine ⟨_, rfl, Below.kept _ hb, hK.out _ _ ?_⟩; clear hK K
            have B11 := Lib.hid (bt B10.out hb)
            have PI := Lib.hid (play_list (HP5.out.grow B11.out))
            clear hb
            iterate 6
              refine chain_now (by rfl) (by rfl) (fun K hK => ?_)
              replace hK := Lib.hid hK
              go_simp
              refine hK.out _ _ ?_; clear hK K
            refine chain_do (by rfl) (fun K hK => ?_)
            replace hK := Lib.hid hK
            go_simp
            refine PI.out.mono ?_
            rintro e w12 ⟨v12, rfl, i12, hb⟩
            refine ⟨_, rfl, Below.kept _ hb, hK.out _ _ ?_⟩; clear hK K
            have B12 := Lib.hid (bt B11.out hb)
            have BK := Lib.hid (back_any i12 ML)
            clear hb i12
            refine chain_do (by rfl) (fun K hK => ?_)
            replace hK := Lib.hid hK
            go_simp
            refine BK.out.mono ?_
            rintro e w13 ⟨v13, rfl, hb, r13⟩
            refine ⟨_, rfl, Below.kept _ hb, hK.out _ _ ?_⟩; clear hK K
            have B13 := Lib.hid (bt B12.out hb)
            have sm := same_rsl r13.rsl (HP5.out.grow B13.out).rsl ML
            try simp only [List.length_nil] at sm
            have SM := Lib.hid sm
            clear hb r13 sm
            iterate 1
              refine chain_now (by rfl) (by rfl) (fun K hK => ?_)
              replace hK := Lib.hid hK
              go_simp
              refine hK.out _ _ ?_; clear hK K
            refine chain_do (by rfl) (fun K hK => ?_)
            replace hK := Lib.hid hK
            go_simp
            refine SM.out.mono ?_
            rintro e w14 ⟨rfl, hb⟩
            refine ⟨_, rfl, Below.kept _ hb, hK.out _ _ ?_⟩; clear hK K
            have B14 := Lib.hid (bt B13.out hb)
            clear hb
            iterate 20
              refine chain_now (by rfl) (by rfl) (fun K hK => ?_)
              replace hK := Lib.hid hK
              go_simp
              refine hK.out _ _ ?_; clear hK K
            refine chain_end ?_
            have HP14 := Lib.hid (HP5.out.grow B14.out)
            go_wp2
            go_roundw
            case rel => exact ⟨k + 1, m', by omega, by go_num, HP14.out⟩
            case measure => simp [intOf]; omega
    · obtain rfl : k = n := by omega
      have HB := Lib.hid P.base
      clear P
      go_wp2_with (first
        | ((with_reducible refine (awake_any _).mono ?_); rintro e w3 ⟨rfl, hb⟩; have B3 := Lib.hid (bt HB.out hb); clear hb))
      go_returns
      exact ⟨rfl, B3.out⟩
end Go.Proofs.Ytickfnedplbleaa
