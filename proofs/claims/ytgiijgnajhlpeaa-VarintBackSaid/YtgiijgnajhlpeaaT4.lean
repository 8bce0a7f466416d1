/- The contract of Put of the document's: the same bytes, in a slice of its own. -/
import Derived.Test.YtgiijgnajhlpeaaT3
import Derived.Laws.AppendOwnNone
namespace Go.Proofs.Ytgiijgnajhlpeaa
open Go.RowKit
attribute [local go_sem] cell_over frozen_over lt_over le_over ne_over over_ne cell_set_same softAt softUpon lightUpon heavyUpon cell_kept frozen_kept

theorem info5 : (Try.prog.info? 5).map (fun i => (i.zero, i.size, i.bytes)) = some (some (.int .u8 0), 1, 1) := by kernel_rfl
theorem info3 : (Try.prog.info? 3).map (fun i => (i.zero, i.size, i.bytes)) = some (some (.int .i64 0), 1, 8) := by kernel_rfl

theorem own_below {w w' : World} {B E sz : Nat} {v : Value} {n : Nat} {xs : List Value} (h : w.ownsRow B E sz v n xs) (hb : Below w.heap.size w w') : w'.ownsRow B E sz v n xs := by
  obtain ⟨h1, h2⟩ := h
  refine ⟨h1, h2.imp id ?_⟩
  rintro ⟨g, cap, cur, e, hg, hh, rest⟩
  exact ⟨g, cap, cur, e, hg, blk_grow hb hh, rest⟩
/-- append(v, x...) where both are rows of a call's own. -/
theorem append_rows {T E : TypeId} {z : Value} {bytes : Nat} (hT : Try.prog.underlying T = some (.slice E)) (hinfo : (Try.prog.info? E).map (fun i => (i.zero, i.size, i.bytes)) = some (some z, 1, bytes)) (hz1 : z.cells.size = 1) (hby : bytes ≤ 8)
    {ops : Array Oper} {rest : List Oper} {o : Oper} {a : Act} {Q : Exit → Act → World → Prop} {w : World} (hgd : o.guard = none) (s x : Operand)
    (ho : o.op = .call { callee := .builtin .append, args := #[s, x], argTypes := #[T, T] }) (B B' : Nat) (v xv : Value) (n m : Nat) (xs ys : List Value) (hs : a.eval s = v) (hx : a.eval x = xv) (hv : w.ownsRow B E 1 v n xs) (hxv : w.ownsRow B' E 1 xv m ys)
    (hB : B ≤ w.heap.size) (h1 : ∀ u ∈ ys, u.oneCell' = true) (hlen : n + m ≤ 1000000)
    (h : ∀ v' w', w'.ownsRow B E 1 v' (n + m) (xs ++ ys) → w.grownBy w' v.ownBlock → (∀ w0, Below B w0 w → Below B w0 w') → wpList Try.prog ops Q rest (a.put o.dst v') w') : wpList Try.prog ops Q (o :: rest) a w := by
  obtain ⟨i0, hi, hz, hsz, hbz⟩ := info_parts hinfo
  obtain ⟨hl, ⟨rfl, rfl⟩ | ⟨g, cap, cur, rfl, hg, hh, hn, hc, hsc, ht⟩⟩ := hxv
  · have hys : ys = [] := List.eq_nil_of_length_eq_zero (by simpa using hl)
    refine wpList_append_own_none hgd s x T ho B E i0 1 hT hi v n xs hs hv hx (h v w (by rw [hys]; simpa using hv) ⟨rfl, rfl, rfl, Nat.le_refl _, fun _ _ _ => rfl⟩ fun _ h => h)
  · refine wpList_append_own _ hgd s x T ho B E i0 z 1 bytes hT hi hz hsz hbz hz1 (by decide) v n xs hs hv ⟨g, 0, none⟩ m cap ys hx (by omega) (fun j u hj => ?_) h1 (by unfold maxLen; omega) (by
      have : (n + m) * bytes ≤ 1000000 * 8 := Nat.mul_le_mul hlen hby
      omega) hB ?_
    · have e : (⟨g, 0, none⟩ : Addr).add j = ⟨g, j, none⟩ := by unfold Addr.add; split <;> simp_all
      rw [e, blk_cell hh, ← Array.getElem?_toList]
      rw [← ht] at hj
      have hjm : j < m * 1 := by
        have := (List.getElem?_eq_some_iff.1 hj).1
        rw [List.length_take] at this
        omega
      rw [List.getElem?_take_of_lt hjm] at hj
      exact hj
    · intro v' w' h2 h3 _
      refine h v' w' h2 h3 fun w0 hb => hb.grown h3 (by
        have := hb.size
        rcases hv.2 with ⟨rfl, _⟩ | ⟨g', _, _, rfl, hg', hh', _⟩
        · exact hB
        · exact hB) fun k hk => (hv.lt k hk).1

theorem oneCell_bv (l : List UInt8) : ∀ u ∈ bv l, u.oneCell' = true := by
  intro v hv
  obtain ⟨b, _, rfl⟩ := List.mem_map.1 hv
  rfl

theorem refput_none (n : Int) (w : World) (h : n < 0 ∨ 4611686018427387903 < n) : Calls Try.prog 9 #[.int .i64 n] w fun e w' => e = .returned (.tuple #[.slice none 0 0, .int .i64 8]) ∧ Below w.heap.size w w' := by
  have K := fun W => refsize_any n W
  have hz : sizeN n = 0 := by unfold sizeN; rw [if_pos h]
  rw [hz] at K
  have HK := Lib.hid K
  clear K h hz
  go_enter Try.func9, Try.ntmps9
  go_wp2_with (first | ((with_reducible refine (HK.out _).mono ?_); rintro e w1 ⟨rfl, hb⟩))
  go_returns
  exact ⟨rfl, hb⟩

set_option maxHeartbeats 4000000 in
theorem refput_some (n : Nat) (w : World) (h : n ≤ 4611686018427387903) : Calls Try.prog 9 #[.int .i64 n] w (PutIs w n) := by
  have K := fun W => refsize_any n W
  rw [size_kN h] at K
  obtain ⟨s, hs⟩ : ∃ s, s = 2 ^ kN n := ⟨_, rfl⟩
  rw [← hs] at K
  have hs1 : 1 ≤ s := by rw [hs]; exact pow_pos2 _
  have hs8 : s ≤ 8 := by
    have h4 : kN n = 0 ∨ kN n = 1 ∨ kN n = 2 ∨ kN n = 3 := by have := kN_lt n; omega
    rcases h4 with h4 | h4 | h4 | h4 <;> rw [h4] at hs <;> omega
  have M := fun W => refmark_any (kN n) (kN_lt n) W
  rw [← hs] at M
  have HM := Lib.hid M
  have HK := Lib.hid K
  have HS := Lib.hid hs
  have e1 : ¬ (s : Int) = 0 := by omega
  have e2 : ((s : Int) == 0) = false := by simp; omega
  have e3 : ¬ s = 0 := by omega
  clear K hs M
  go_enter Try.func9, Try.ntmps9
  go_wp2_with (first | ((with_reducible refine (HK.out _).mono ?_); rintro e w1 ⟨rfl, hb⟩))
  go_loopw [0, 5, 6] (fun a0 v i wr => ∃ j : Nat, j ≤ s ∧ i = .int .i64 (j : Nat) ∧ a0 = .int .i64 ((n / 256 ^ j : Nat) : Int) ∧ Below w.heap.size w wr ∧ wr.ownsRow w.heap.size 5 1 v j (bv (be j n)))
    (fun _ _ i _ => s - (intOf i).toNat)
  case atStart => exact ⟨0, Nat.zero_le _, rfl, by simp, hb, World.ownsRow_nil _ _ _ _⟩
  case round =>
    clear hb
    obtain ⟨j, hj, rfl, rfl, B, hown⟩ := hrel
    by_cases hlt : j < s
    · have hlt2 : (j : Int) < s := by omega
      have hd : n / 256 ^ j / 256 = n / 256 ^ (j + 1) := by rw [Nat.div_div_eq_div_mul, Nat.pow_succ]
      have hle : n / 256 ^ j ≤ n := Nat.div_le_self _ _
      have hby : (UInt8.ofNat (n / 256 ^ j)).toNat = n / 256 ^ j % 256 := byte_nat _
      have hbe : be (j + 1) n = UInt8.ofNat (n / 256 ^ j) :: be j n := rfl
      generalize n / 256 ^ j = x at *
      have HBY := Lib.hid hby
      have HD := Lib.hid hd
      have HBE := Lib.hid hbe
      clear hd hby hbe
      go_wp2_with (at_builtin; refine unhalt ?_)
      unfold Halted
      refine append_rows Try.underlying24 info5 rfl (by decide) rfl (.tmp 19) (.tmp 20) rfl w.heap.size w.heap.size (.slice (some ⟨wr.heap.size, 0, none⟩) 1 1) u5 1 j (bv [UInt8.ofNat x]) (bv (be j n)) ?_ rfl ?_ (hown.alloc _) (by have := B.size; simp; omega) (oneCell_bv _) (by omega) ?_
      · rfl
      · have := World.ownsRow_lit (base := w.heap.size) (e := 5) (size := 1) wr (bv [UInt8.ofNat x]).toArray 1 B.size (by unfold maxLen; omega) rfl
        simp only [bv, List.map_cons, List.map_nil, HBY.out] at this ⊢
        exact this
      · intro v' w' h1 _ h3
        have B2 := h3 w (bta B _)
        clear h3 hown B
        go_wp2
        go_roundw
        case rel => exact ⟨j + 1, by omega, by go_num, by rw [← HD.out]; go_num, B2, by rw [HBE.out, Nat.add_comm j 1]; exact h1⟩
        case measure => simp [intOf]; omega
    · obtain rfl : j = s := by omega
      obtain ⟨j', rfl⟩ : ∃ j', j = j' + 1 := ⟨j - 1, by omega⟩
      obtain ⟨hfb2, hpb⟩ := first_byte2 h rfl HS.out
      obtain ⟨y, hy⟩ : ∃ y, n / 256 ^ j' = y := ⟨_, rfl⟩
      have hk4 := kN_lt n
      have hbe : be (j' + 1) n = UInt8.ofNat (n / 256 ^ j') :: be j' n := rfl
      rw [hy] at hfb2 hpb hbe
      have hyb : (UInt8.ofNat y).toNat = y := by rw [byte_nat]; omega
      rw [hbe] at hown
      have hown' := hown
      rcases hown'.2 with ⟨_, h0⟩ | ⟨g, cap, cur, rfl, hg, hh, hn, hcm, hsc, ht⟩
      · omega
      · have c1 : wr.cell? ⟨g, 0, none⟩ = some (.int .u8 (y : Int)) := by
          rw [hown.cellAt 0 (by omega)]
          simp [bv, hyb]
        have c2 := hown.frozenAt 0
        have c3 := blk_lt hh
        have x1 : IntKind.u8.wrap ((64 * kN n : Nat) : Int) = ((64 * kN n : Nat) : Int) := IntWalk.u8_in _ (by omega)
        have x2 : IntKind.u8.wrap ((y : Int) + ((64 * kN n : Nat) : Int)) = ((y + 64 * kN n : Nat) : Int) := by rw [IntWalk.u8_in _ (by omega)]; simp
        have HY := Lib.hid (show (bv (UInt8.ofNat y :: be j' n))[0]? = some (.int .u8 (y : Int)) by simp [bv, hyb])
        obtain ⟨mk, hmk⟩ : ∃ mk, mk = 64 * kN n := ⟨_, rfl⟩
        have hmk2 : mk ≤ 192 := by omega
        rw [← hmk] at x1 x2 hpb HM
        have HMK := Lib.hid (show y + mk < 256 by omega)
        have HP := Lib.hid hpb
        have HOWN := Lib.hid hown
        clear hown hown' hy hbe hyb hpb hh ht hsc hlt hmk
        have HM2 := Lib.hid (show ∀ W, Calls Try.prog 20 #[.int .i64 ((j' : Int) + 1)] W fun e w' => e = .returned (.int .i64 (mk : Int)) ∧ Below W.heap.size W w' from HM.out)
        go_wp2
        refine wp_soft0 8 (by kernel_rfl) (by kernel_rfl) (tail_seq (by kernel_rfl)) ?_
        simp only [List.take_succ_cons, List.take_zero]
        repeat (first | (refine softLex_step (by rfl) (by rfl) (fun K hK => ?_); go_simp; first | (refine hK _ ?_; clear hK K) | (apply Exists.intro; refine ⟨fun x => ?_, hK _ ?_⟩; (with_reducible exact HM2.out _); clear hK K)))
        refine softLex_nil ?_
        intro w2 hb2
        simp only [List.drop_succ_cons, List.drop_zero]
        have B2 := bt B hb2
        have hown2 := own_below HOWN.out hb2
        have c1 : w2.cell? ⟨g, 0, none⟩ = some (.int .u8 (y : Int)) := by
          rw [hown2.cellAt 0 (by omega)]
          exact HY.out
        have c2 := hown2.frozenAt 0
        have c3 : g < w2.heap.size := Nat.lt_of_lt_of_le c3 hb2.size
        have hst := (hown2.stored 0 (.int .u8 ((y : Int) + (mk : Int)))).1
        have HST := Lib.hid hst
        clear hown2 hst
        go_wp2
        go_returns
        refine ⟨_, rfl, bst B2 hg _, ?_⟩
        have hpl := HP.out
        have hlen : (putB n).length = j' + 1 := by rw [hpl, List.length_cons, be_len]
        unfold Row
        rw [hlen]
        have hx : bv (putB n) = (bv (UInt8.ofNat y :: be j' n)).set 0 (.int .u8 ((y : Int) + (mk : Int))) := by
          rw [hpl]
          have hmk := HMK.out
          simp only [bv, List.map_cons, List.set_cons_zero, byte_nat]
          congr 2
        rw [hx]
        exact HST.out
end Go.Proofs.Ytgiijgnajhlpeaa
