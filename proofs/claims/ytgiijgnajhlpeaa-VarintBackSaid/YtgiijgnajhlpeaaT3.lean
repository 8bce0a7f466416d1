/- The contract of Put of the package varint: a number's bytes, in a slice of its own. -/
import Derived.Test.YtgiijgnajhlpeaaV1
import Derived.Laws.AppendOwn
import Derived.Laws.OwnMore
import Derived.Laws.IdiomStrings
import Derived.LoopTactic
namespace Go.Proofs.Ytgiijgnajhlpeaa
open Go.RowKit
attribute [local go_sem] cell_over frozen_over lt_over le_over ne_over over_ne cell_set_same softAt softUpon lightUpon heavyUpon cell_kept frozen_kept

/-- Bytes as the cells of a row. -/
def bv (l : List UInt8) : List Value := l.map fun b => .int .u8 (b.toNat : Int)
theorem bv_len (l : List UInt8) : (bv l).length = l.length := by simp [bv]
theorem bv_append (l m : List UInt8) : bv l ++ bv m = bv (l ++ m) := by simp [bv]

/-- A slice of bytes of a call's own. -/
def Row (w : World) (B : Nat) (v : Value) (l : List UInt8) : Prop := w.ownsRow B 5 1 v l.length (bv l)
theorem Row.below {w w' : World} {B : Nat} {v : Value} {l : List UInt8} (h : Row w B v l) (hb : Below w.heap.size w w') : Row w' B v l := by
  obtain ⟨h1, h2⟩ := h
  refine ⟨h1, h2.imp id ?_⟩
  rintro ⟨g, cap, cur, e, hg, hh, rest⟩
  exact ⟨g, cap, cur, e, hg, blk_grow hb hh, rest⟩
theorem Row.base {w : World} {B B' : Nat} {v : Value} {l : List UInt8} (h : Row w B v l) (hb : B' ≤ B) : Row w B' v l := by
  obtain ⟨h1, h2⟩ := h
  refine ⟨h1, h2.imp id ?_⟩
  rintro ⟨g, cap, cur, e, hg, rest⟩
  exact ⟨g, cap, cur, e, by omega, rest⟩
theorem conv_nil (w : World) : (convert 24 9 (.slice none 0 0)).run Try.prog w = .ok (.string ⟨#[]⟩) w := by kernel_rfl
/-- string(b) of it. -/
theorem Row.conv {w : World} {B : Nat} {v : Value} {l : List UInt8} (h : Row w B v l) : (convert 24 9 v).run Try.prog w = .ok (.string ⟨l.toArray⟩) w := by
  obtain ⟨h1, ⟨rfl, h0⟩ | ⟨g, cap, cur, rfl, _, hh, hn, _, hs, ht⟩⟩ := h
  · obtain rfl : l = [] := List.eq_nil_of_length_eq_zero h0
    exact conv_nil w
  · refine run_convert_bytes_back (P := Try.prog) w 24 9 5 ⟨g, 0, none⟩ cap l Try.underlying24 Try.underlying5 Try.underlying9 (fun j hj => ?_)
    have e : (⟨g, 0, none⟩ : Addr).add j = ⟨g, j, none⟩ := by unfold Addr.add; split <;> simp_all
    rw [e, blk_cell hh]
    have h2 : cur.toList[j]? = (bv l)[j]? := by
      rw [← ht, List.getElem?_take_of_lt (by omega)]
    rw [← Array.getElem?_toList, h2]
    simp [bv, hj]
theorem Row.slice {w : World} {B : Nat} {v : Value} {l : List UInt8} (h : Row w B v l) : ∃ a c, v = .slice a l.length c := by
  obtain ⟨h1, ⟨rfl, h0⟩ | ⟨g, cap, cur, rfl, _⟩⟩ := h
  · exact ⟨none, 0, by rw [h0]⟩
  · exact ⟨_, _, rfl⟩

def zeros (n : Nat) : List UInt8 := List.replicate n 0
theorem store_be (s j n : Nat) (h : j < s) : (bv (zeros (s - j) ++ be j n)).toArray.setIfInBounds (s - 1 - j) (.int .u8 ((n / 256 ^ j % 256 : Nat) : Int)) = (bv (zeros (s - (j + 1)) ++ be (j + 1) n)).toArray := by
  have e : s - j = (s - (j + 1)) + 1 := by omega
  have e2 : s - 1 - j = (zeros (s - (j + 1))).length := by simp [zeros]; omega
  rw [e2, e]
  unfold zeros
  rw [List.replicate_succ', List.append_assoc]
  simp only [List.setIfInBounds_toArray, bv, List.map_append]
  rw [List.set_append_right _ _ (by simp)]
  simp [be, byte_nat]

theorem first_byte2 {n k s : Nat} (h : n ≤ 4611686018427387903) (hk : k = kN n) (hs : s + 1 = 2 ^ k) : n / 256 ^ s < 64 ∧ putB n = UInt8.ofNat (n / 256 ^ s + 64 * k) :: be s n := by
  have hs2 : 2 ^ kN n - 1 = s := by rw [← hk, ← hs]; rfl
  have := first_byte h
  unfold putB
  rw [hs2] at this ⊢
  rw [← hk]
  exact ⟨this.2, rfl⟩
theorem or_mark : ∀ (y : Fin 64) (k : Fin 4), bits BinOp.or IntKind.u8 (y.val : Int) ((64 * k.val : Nat) : Int) = ((y.val + 64 * k.val : Nat) : Int) := by decide +kernel
theorem row_put {w : World} {pb B n k j : Nat} (hB : B ≤ pb) (hj : j + 1 ≤ 8) (hn : n ≤ 4611686018427387903) (hk : k = kN n) (hs : j + 1 = 2 ^ k) (hh : w.heap[pb]? = some (.cells (bv (UInt8.ofNat (n / 256 ^ j) :: be j n)).toArray 5 (0, 0))) (c : Int) (hc : c = ((n / 256 ^ j + 64 * k : Nat) : Int)) :
    Row (w.setCell ⟨pb, 0, none⟩ (.int .u8 c)) B (.slice (some ⟨pb, 0, none⟩) (j + 1) (j + 1)) (putB n) := by
  obtain ⟨h1, h2⟩ := first_byte2 hn hk hs
  have hk4 := kN_lt n
  have hl : (putB n).length = j + 1 := by rw [h2, List.length_cons, be_len]
  have hb := blk_set hh 0 (.int .u8 c)
  refine ⟨by rw [bv_len]; omega, .inr ⟨pb, j + 1, _, by rw [hl], hB, hb, by rw [hl]; exact Nat.le_refl _, by unfold maxLen; omega, by simp [bv, be_len], ?_⟩⟩
  rw [hl, h2, hc]
  simp only [bv, List.map_cons, List.setIfInBounds_toArray, List.set_cons_zero, byte_nat]
  rw [List.take_of_length_le (by simp [be_len])]
  congr 3
  have hk5 : k < 4 := by omega
  generalize n / 256 ^ j = q at *
  omega
def PutIs (w : World) (n : Nat) (e : Ending) (w' : World) : Prop := ∃ v, e = .returned (.tuple #[v, .int .i64 0]) ∧ Below w.heap.size w w' ∧ Row w' w.heap.size v (putB n)

theorem put_none (n : Int) (w : World) (h : n < 0 ∨ 4611686018427387903 < n) : Calls Try.prog 8 #[.int .i64 n] w fun e w' => e = .returned (.tuple #[.slice none 0 0, .int .i64 8]) ∧ Below w.heap.size w w' := by
  have K := fun W => kind_none n W h
  have HK := Lib.hid K
  clear K h
  go_enter Try.func8, Try.ntmps8
  go_wp2_with (first | ((with_reducible refine (HK.out _).mono ?_); rintro e w1 ⟨rfl, hb⟩))
  go_returns
  exact ⟨rfl, hb⟩

set_option maxHeartbeats 4000000 in
theorem put_some (n : Nat) (w : World) (h : n ≤ 4611686018427387903) : Calls Try.prog 8 #[.int .i64 n] w (PutIs w n) := by
  have K := fun W => kind_some n W h
  rw [kind_kN h] at K
  obtain ⟨k, hk⟩ : ∃ k, k = kN n := ⟨_, rfl⟩
  rw [← hk] at K
  have HKN := Lib.hid hk
  have h4 : k = 0 ∨ k = 1 ∨ k = 2 ∨ k = 3 := by have := kN_lt n; omega
  clear hk
  have hmk1 : ∀ w, (Instr.makeSlice 24 (.int .i64 1) (.int .i64 1)).run Try.prog w = .ok (.slice (some ⟨w.heap.size, 0, none⟩) 1 1) (w.alloc (.cells #[.int .u8 0] 5)) := fun _ => by kernel_rfl
  have hmk2 : ∀ w, (Instr.makeSlice 24 (.int .i64 2) (.int .i64 2)).run Try.prog w = .ok (.slice (some ⟨w.heap.size, 0, none⟩) 2 2) (w.alloc (.cells #[.int .u8 0, .int .u8 0] 5)) := fun _ => by kernel_rfl
  have hmk4 : ∀ w, (Instr.makeSlice 24 (.int .i64 4) (.int .i64 4)).run Try.prog w = .ok (.slice (some ⟨w.heap.size, 0, none⟩) 4 4) (w.alloc (.cells #[.int .u8 0, .int .u8 0, .int .u8 0, .int .u8 0] 5)) := fun _ => by kernel_rfl
  have hmk8 : ∀ w, (Instr.makeSlice 24 (.int .i64 8) (.int .i64 8)).run Try.prog w = .ok (.slice (some ⟨w.heap.size, 0, none⟩) 8 8) (w.alloc (.cells #[.int .u8 0, .int .u8 0, .int .u8 0, .int .u8 0, .int .u8 0, .int .u8 0, .int .u8 0, .int .u8 0] 5)) := fun _ => by kernel_rfl
  rcases h4 with rfl | rfl | rfl | rfl
  case' inl => obtain ⟨s, hs, hs2⟩ : ∃ s : Nat, s = 1 ∧ s = 2 ^ 0 := ⟨1, rfl, rfl⟩
  case' inr.inl => obtain ⟨s, hs, hs2⟩ : ∃ s : Nat, s = 2 ∧ s = 2 ^ 1 := ⟨2, rfl, rfl⟩
  case' inr.inr.inl => obtain ⟨s, hs, hs2⟩ : ∃ s : Nat, s = 4 ∧ s = 2 ^ 2 := ⟨4, rfl, rfl⟩
  case' inr.inr.inr => obtain ⟨s, hs, hs2⟩ : ∃ s : Nat, s = 8 ∧ s = 2 ^ 3 := ⟨8, rfl, rfl⟩
  all_goals
    have HK := Lib.hid K
    have HS := Lib.hid hs
    have HS2 := Lib.hid hs2
    clear K hs hs2
    go_enter Try.func8, Try.ntmps8
    go_wp2_with (first | ((with_reducible refine (HK.out _).mono ?_); rintro e w1 ⟨rfl, hb⟩))
    have lb : w.heap.size ≤ w1.heap.size := hb.size
    generalize hpb : w1.heap.size = pb at *
    have HPB := Lib.hid hpb
    clear hpb
    go_loopw [0, 6] (fun a0 i wr => ∃ j : Nat, j ≤ s ∧ i = .int .i64 ((s : Int) - 1 - j) ∧ a0 = .int .i64 ((n / 256 ^ j : Nat) : Int) ∧ Below w.heap.size w wr ∧ wr.heap[pb]? = some (.cells (bv (zeros (s - j) ++ be j n)).toArray 5 (0, 0)))
      (fun _ i _ => (intOf i + 1).toNat)
    case atStart => exact ⟨0, Nat.zero_le _, by rw [HS.out]; rfl, by simp, bta hb _, (blk_new HPB.out.symm).trans (by rw [HS.out]; rfl)⟩
    case round =>
      obtain ⟨j, hj, rfl, rfl, B, hh⟩ := hrel
      by_cases hlt : j < s
      · obtain ⟨q, hq⟩ : ∃ q : Nat, (s : Int) - 1 - j = q := ⟨s - 1 - j, by omega⟩
        have hq2 : s - 1 - j = q := by omega
        have hst := store_be s j n hlt
        rw [hq2] at hst
        have hHS := HS.out
        rw [hq]
        have q0 : (0 : Int) ≤ (q : Int) := by omega
        have q1 : (q : Int) < s := by omega
        rw [hHS] at q1
        have c1 : ∃ v, wr.cell? ⟨pb, q, none⟩ = some v := ⟨_, (blk_cell hh q).trans (Array.getElem?_eq_getElem (by simp [bv, zeros, be_len]; omega))⟩
        obtain ⟨v0, c1⟩ := c1
        have c2 := blk_free hh q
        have c3 := blk_lt hh
        have hh2 := blk_set hh q (.int .u8 ((n / 256 ^ j % 256 : Nat) : Int))
        rw [hst] at hh2
        have hd : n / 256 ^ j / 256 = n / 256 ^ (j + 1) := by rw [Nat.div_div_eq_div_mul, Nat.pow_succ]
        have hle : n / 256 ^ j ≤ n := Nat.div_le_self _ _
        have hqs : q + 1 + j = s := by omega
        have HD := Lib.hid hd
        clear hst hq hq2 hHS hd hh
        generalize n / 256 ^ j = x at *
        go_wp2
        go_roundw
        case rel => exact ⟨j + 1, by omega, by go_num, by rw [← HD.out]; go_num, bst B lb _, hh2⟩
        case measure => simp [intOf]
      · obtain rfl : j = s := by omega
        rw [Nat.sub_self] at hh
        have hn1 : (j : Int) - 1 - j = -1 := by omega
        rw [hn1]
        obtain ⟨j', rfl⟩ : ∃ j', j = j' + 1 := ⟨j - 1, by have := HS.out; omega⟩
        have hh1 : wr.heap[pb]? = some (.cells (bv (UInt8.ofNat (n / 256 ^ j') :: be j' n)).toArray 5 (0, 0)) := hh
        obtain ⟨hfb2, _⟩ := first_byte2 h HKN.out HS2.out
        obtain ⟨y, hy⟩ : ∃ y, n / 256 ^ j' = y := ⟨_, rfl⟩
        have HY := Lib.hid hy
        rw [hy] at hfb2
        have hyb : (UInt8.ofNat (n / 256 ^ j')).toNat = y := by rw [byte_nat, hy]; omega
        have c1 := blk_cell hh1 0
        have c1' : wr.cell? ⟨pb, 0, none⟩ = some (.int .u8 (y : Int)) := by rw [c1]; simp [bv, hyb]
        have c2 := blk_free hh1 0
        have c3 := blk_lt hh1
        have HH := Lib.hid hh1
        clear c1 hh hy hyb hn1 hh1
        have m0 := or_mark ⟨y, hfb2⟩ ⟨0, by omega⟩
        have m1 := or_mark ⟨y, hfb2⟩ ⟨1, by omega⟩
        have m2 := or_mark ⟨y, hfb2⟩ ⟨2, by omega⟩
        have m3 := or_mark ⟨y, hfb2⟩ ⟨3, by omega⟩
        have M0 := Lib.hid m0
        have M1 := Lib.hid m1
        have M2 := Lib.hid m2
        have M3 := Lib.hid m3
        have HJ := Lib.hid (show j' + 1 ≤ 8 by have := HS.out; omega)
        clear m0 m1 m2 m3
        go_wp2
        go_returns
        refine ⟨.slice (some ⟨pb, 0, none⟩) (j' + 1) (j' + 1), by rw [HS.out]; rfl, bst B lb _, row_put lb HJ.out h HKN.out HS2.out HH.out _ ?_⟩
        rw [HY.out]
        first
          | exact M0.out
          | exact M1.out
          | exact M2.out
          | exact M3.out
          | (simp; done)
end Go.Proofs.Ytgiijgnajhlpeaa
