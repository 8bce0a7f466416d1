/- The law TimerMoves: its walk, for two numbers and two ticks. -/
import Derived.Test.YtickfnedplbleaaT26
namespace Go.Proofs.Ytickfnedplbleaa
open Go.RowKit
attribute [local go_sem] cell_over frozen_over lt_over le_over ne_over over_ne cell_set_same softAt softUpon lightUpon heavyUpon cell_kept frozen_kept

variable {w0 w : World} {pq pm : Nat} {L : List It} {rows : List (Value × List It)}
theorem m_set (h : HandP w0 w pq pm L rows) (id at' : Int) (M : List It) (hM : less L id ++ [(at', id)] = M) (h1 : 0 ≤ id ∧ id ≤ 1000) (h2 : 0 ≤ at' ∧ at' ≤ 1000) (hl : L.length < 64) :
    Calls Try.prog 15 #[.pointer (some ⟨pq, 0, none⟩), .int .i64 id, .int .i64 at'] w fun e w' => e = .returned (.int .i64 0) ∧ HandP w0 w' pq pm M rows := by
  subst hM
  exact hp_set h (at', id) (good_small _ ⟨h2.1, h2.2, h1.1, h1.2⟩) (.inr hl)
theorem m_stop (h : HandP w0 w pq pm L rows) (id : Int) (M : List It) (b : Bool) (hM : less L id = M) (hb : isIn L id = b) (h1 : 0 ≤ id ∧ id ≤ 1000) :
    Calls Try.prog 9 #[.pointer (some ⟨pq, 0, none⟩), .int .i64 id] w fun e w' => e = .returned (.bool b) ∧ HandP w0 w' pq pm M rows := by
  subst hM hb
  exact hp_stop h id ⟨by omega, by omega⟩
theorem m_due (h : HandP w0 w pq pm L rows) (now : Int) (M : List It) (n : Nat) (hM : (L.filter fun x => !decide (x.1 ≤ now)) = M) (hN : (L.filter fun x => decide (x.1 ≤ now)).length = n) :
    Calls Try.prog 11 #[.pointer (some ⟨pq, 0, none⟩), .int .i64 now] w fun e w' => ∃ a c r, e = .returned (.slice a n c) ∧ HandP w0 w' pq pm M (r :: rows) := by
  subst hM hN
  refine (hp_due h now).mono fun e w' ⟨a, c, out, e1, k1, k2, k3⟩ => ⟨a, c, _, ?_, k1⟩
  rw [e1, k2.length_eq]
theorem m_len (h : HandP w0 w pq pm L rows) (n : Int) (hn : (L.length : Int) = n) : Calls Try.prog 20 #[.pointer (some ⟨pq, 0, none⟩)] w fun e w' => e = .returned (.int .i64 n) ∧ HandP w0 w' pq pm L rows := by
  subst hn
  exact hp_len h
theorem m_when (h : HandP w0 w pq pm L rows) (id at' : Int) (hx : (at', id) ∈ L) : Calls Try.prog 18 #[.pointer (some ⟨pq, 0, none⟩), .int .i64 id] w fun e w' => e = .returned (.tuple #[.int .i64 at', .bool true]) ∧ HandP w0 w' pq pm L rows :=
  hp_when_in h (at', id) hx

theorem HandP.cell (h : HandP w0 w pq pm L rows) {x : Addr} {v : Value} (hc : w0.cell? x = some v) : w.cell? x = some v := cell_below h.below hc
theorem HandP.drew (h : HandP w0 w pq pm L rows) : HandP w0 w.drew pq pm L rows := h.grow (btd (Below.refl _ _))

set_option maxRecDepth 100000 in
set_option maxHeartbeats 8000000 in
theorem moves_two (a b y z : Nat) (hab : a ≠ b) (ha : a ≤ 255) (hb : b ≤ 255) (hy : y ≤ 255) (hz : z ≤ 255) (w : World) :
    Calls Try.prog 6 #[.agg #[.int .u8 a, .int .u8 b], .agg #[.int .u8 y, .int .u8 z]] w fun e w' => e = .returned (.bool true) ∧ Below w.heap.size w w' := by
  have wa : IntKind.i64.wrap (a : Int) = a := IntWalk.i64_in _ (by omega)
  have wb : IntKind.i64.wrap (b : Int) = b := IntWalk.i64_in _ (by omega)
  have wy : IntKind.i64.wrap (y : Int) = y := IntWalk.i64_in _ (by omega)
  have wz : IntKind.i64.wrap (z : Int) = z := IntWalk.i64_in _ (by omega)
  have nab : ¬ (a : Int) = b := by omega
  have nba : ¬ (b : Int) = a := by omega
  have eab : ((a : Int) == b) = false := by simp; omega
  have l1 : less [] (a : Int) ++ [((y : Int), (a : Int))] = [((y : Int), (a : Int))] := rfl
  have l2 : less [((y : Int), (a : Int))] (b : Int) ++ [((300 : Int), (b : Int))] = [((y : Int), (a : Int)), (300, (b : Int))] := by simp [less, nab]
  have l3 : less [((y : Int), (a : Int)), (300, (b : Int))] (a : Int) ++ [((z : Int), (a : Int))] = [(300, (b : Int)), ((z : Int), (a : Int))] := by simp [less, nba]
  have l4 : less [(300, (b : Int)), ((z : Int), (a : Int))] (a : Int) = [(300, (b : Int))] := by simp [less, nba]
  have l5 : less [(300, (b : Int))] (a : Int) = [(300, (b : Int))] := by simp [less, nba]
  have i4 : isIn [(300, (b : Int)), ((z : Int), (a : Int))] (a : Int) = true := by simp [isIn]
  have i5 : isIn [(300, (b : Int))] (a : Int) = false := by simp [isIn, nba]
  have HL1 := Lib.hid l1
  have HL2 := Lib.hid l2
  have HL3 := Lib.hid l3
  have HL4 := Lib.hid l4
  have HL5 := Lib.hid l5
  have HI4 := Lib.hid i4
  have HI5 := Lib.hid i5
  have HA := Lib.hid ha
  have HB := Lib.hid hb
  have HY := Lib.hid hy
  have HZ := Lib.hid hz
  clear l1 l2 l3 l4 l5 i4 i5 ha hb hy hz nba hab
  obtain ⟨wx, hwx⟩ : ∃ wx, (w.alloc (.cells #[.int .u8 a, .int .u8 b] 57)).alloc (.cells #[.int .u8 y, .int .u8 z] 57) = wx := ⟨_, rfl⟩
  obtain ⟨pa, hpa⟩ : ∃ pa, w.heap.size = pa := ⟨_, rfl⟩
  have ba : wx.heap[pa]? = some (.cells #[.int .u8 a, .int .u8 b] 57 (0, 0)) := by rw [← hwx, ← hpa]; exact blk_old (blk_new rfl)
  have bb : wx.heap[pa + 1]? = some (.cells #[.int .u8 y, .int .u8 z] 57 (0, 0)) := by rw [← hwx, ← hpa]; exact blk_new (by simp)
  have BX : Below w.heap.size w wx := by rw [← hwx]; exact bta (bta (Below.refl _ _) _) _
  have HBX := Lib.hid BX
  have a0 : wx.cell? ⟨pa, 0, none⟩ = some (.int .u8 a) := blk_cell ba 0
  have a1 : wx.cell? ⟨pa, 1, none⟩ = some (.int .u8 b) := blk_cell ba 1
  have b0 : wx.cell? ⟨pa + 1, 0, none⟩ = some (.int .u8 y) := blk_cell bb 0
  have b1 : wx.cell? ⟨pa + 1, 1, none⟩ = some (.int .u8 z) := blk_cell bb 1
  have A0 := Lib.hid a0
  have A1 := Lib.hid a1
  have B0 := Lib.hid b0
  have B1 := Lib.hid b1
  clear BX ba bb a0 a1 b0 b1
  go_enter Try.func6, Try.ntmps6
  go_wp2_with (first
    | ((with_reducible refine (hp_new _).mono ?_); refine unhalt ?_))
  clear hwx hpa
  unfold Halted
  rintro e w1 ⟨pq, pm, rfl, h1⟩
  have H1 := Lib.hid h1
  have d0 := h1.cell A0.out
  have d1 := h1.cell A1.out
  clear h1
  dsimp only
  go_wp2
  go_region
  clear d0 d1
  have K1 := Lib.hid (m_set H1.out.drew (a : Int) (y : Int) _ HL1.out (by have := HA.out; omega) (by have := HY.out; omega) (by decide))
  have e1 := H1.out.drew.cell B0.out
  go_wp2_with (first
    | ((with_reducible refine (K1.out).mono ?_); rintro e w2 ⟨rfl, h2⟩; have K2 := Lib.hid (m_set h2 (b : Int) 300 _ HL2.out (by have := HB.out; omega) (by decide) (by simp)); clear h2)
    | ((with_reducible refine (K2.out).mono ?_); rintro e w3 ⟨rfl, h3⟩; have e3 := h3.cell B1.out; have K3 := Lib.hid (m_set h3 (a : Int) (z : Int) _ HL3.out (by have := HA.out; omega) (by have := HZ.out; omega) (by simp)); clear h3)
    | ((with_reducible refine (K3.out).mono ?_); rintro e w4 ⟨rfl, h4⟩; have K4 := Lib.hid (m_when h4 (a : Int) (z : Int) (by simp)); clear h4)
    | ((with_reducible refine (K4.out).mono ?_); rintro e w5 ⟨rfl, h5⟩; have e5 := h5.cell B1.out; have K5 := Lib.hid (m_len h5 2 rfl); clear h5)
    | ((with_reducible refine (K5.out).mono ?_); rintro e w6 ⟨rfl, h6⟩; have K6 := Lib.hid (m_stop h6 (a : Int) _ true HL4.out HI4.out (by have := HA.out; omega)); clear h6)
    | ((with_reducible refine (K6.out).mono ?_); rintro e w7 ⟨rfl, h7⟩; have K7 := Lib.hid (m_stop h7 (a : Int) _ false HL5.out HI5.out (by have := HA.out; omega)); clear h7)
    | ((with_reducible refine (K7.out).mono ?_); rintro e w8 ⟨rfl, h8⟩; have K8 := Lib.hid (m_len h8 1 rfl); clear h8)
    | ((with_reducible refine (K8.out).mono ?_); rintro e w9 ⟨rfl, h9⟩; have K9 := Lib.hid (m_due h9 299 [(300, (b : Int))] 0 rfl rfl); clear h9)
    | ((with_reducible refine (K9.out).mono ?_); rintro e w10 ⟨s1, t1, r1, rfl, h10⟩; have K10 := Lib.hid (m_due h10 300 [] 1 rfl rfl); clear h10)
    | ((with_reducible refine (K10.out).mono ?_); rintro e w11 ⟨s2, t2, r2, rfl, h11⟩; have K11 := Lib.hid (m_len h11 0 rfl); clear h11)
    | ((with_reducible refine (K11.out).mono ?_); rintro e w12 ⟨rfl, h12⟩; have H12 := Lib.hid h12; clear h12)
    | ((with_reducible refine (awake_any _).mono ?_); rintro e w13 ⟨rfl, hb⟩; have H13 := Lib.hid (H12.out.grow hb); clear hb))
  go_returns
  exact ⟨rfl, HBX.out.trans (H13.out.below.mono HBX.out.size)⟩

set_option maxRecDepth 100000 in
set_option maxHeartbeats 8000000 in
theorem moves_one (a y z : Nat) (ha : a ≤ 255) (hy : y ≤ 255) (hz : z ≤ 255) (w : World) :
    Calls Try.prog 6 #[.agg #[.int .u8 a, .int .u8 a], .agg #[.int .u8 y, .int .u8 z]] w fun e w' => e = .returned (.bool true) ∧ Below w.heap.size w w' := by
  have wa : IntKind.i64.wrap (a : Int) = a := IntWalk.i64_in _ (by omega)
  have wy : IntKind.i64.wrap (y : Int) = y := IntWalk.i64_in _ (by omega)
  have wz : IntKind.i64.wrap (z : Int) = z := IntWalk.i64_in _ (by omega)
  have l1 : less [] (a : Int) ++ [((y : Int), (a : Int))] = [((y : Int), (a : Int))] := rfl
  have l2 : less [((y : Int), (a : Int))] (a : Int) ++ [((300 : Int), (a : Int))] = [((300 : Int), (a : Int))] := by simp [less]
  have l3 : less [((300 : Int), (a : Int))] (a : Int) ++ [((z : Int), (a : Int))] = [((z : Int), (a : Int))] := by simp [less]
  have l4 : less [((z : Int), (a : Int))] (a : Int) = [] := by simp [less]
  have l5 : less [] (a : Int) = [] := rfl
  have i4 : isIn [((z : Int), (a : Int))] (a : Int) = true := by simp [isIn]
  have i5 : isIn [] (a : Int) = false := rfl
  have HL1 := Lib.hid l1
  have HL2 := Lib.hid l2
  have HL3 := Lib.hid l3
  have HL4 := Lib.hid l4
  have HL5 := Lib.hid l5
  have HI4 := Lib.hid i4
  have HI5 := Lib.hid i5
  have HA := Lib.hid ha
  have HY := Lib.hid hy
  have HZ := Lib.hid hz
  clear l1 l2 l3 l4 l5 i4 i5 ha hy hz
  obtain ⟨wx, hwx⟩ : ∃ wx, (w.alloc (.cells #[.int .u8 a, .int .u8 a] 57)).alloc (.cells #[.int .u8 y, .int .u8 z] 57) = wx := ⟨_, rfl⟩
  obtain ⟨pa, hpa⟩ : ∃ pa, w.heap.size = pa := ⟨_, rfl⟩
  have ba : wx.heap[pa]? = some (.cells #[.int .u8 a, .int .u8 a] 57 (0, 0)) := by rw [← hwx, ← hpa]; exact blk_old (blk_new rfl)
  have bb : wx.heap[pa + 1]? = some (.cells #[.int .u8 y, .int .u8 z] 57 (0, 0)) := by rw [← hwx, ← hpa]; exact blk_new (by simp)
  have BX : Below w.heap.size w wx := by rw [← hwx]; exact bta (bta (Below.refl _ _) _) _
  have HBX := Lib.hid BX
  have a0 : wx.cell? ⟨pa, 0, none⟩ = some (.int .u8 a) := blk_cell ba 0
  have a1 : wx.cell? ⟨pa, 1, none⟩ = some (.int .u8 a) := blk_cell ba 1
  have b0 : wx.cell? ⟨pa + 1, 0, none⟩ = some (.int .u8 y) := blk_cell bb 0
  have b1 : wx.cell? ⟨pa + 1, 1, none⟩ = some (.int .u8 z) := blk_cell bb 1
  have A0 := Lib.hid a0
  have A1 := Lib.hid a1
  have B0 := Lib.hid b0
  have B1 := Lib.hid b1
  clear BX ba bb a0 a1 b0 b1
  go_enter Try.func6, Try.ntmps6
  go_wp2_with (first
    | ((with_reducible refine (hp_new _).mono ?_); refine unhalt ?_))
  clear hwx hpa
  unfold Halted
  rintro e w1 ⟨pq, pm, rfl, h1⟩
  have H1 := Lib.hid h1
  have d0 := h1.cell A0.out
  have d1 := h1.cell A1.out
  clear h1
  dsimp only
  go_wp2
  go_region
  clear d0 d1
  have K1 := Lib.hid (m_set H1.out.drew (a : Int) (y : Int) _ HL1.out (by have := HA.out; omega) (by have := HY.out; omega) (by decide))
  have e1 := H1.out.drew.cell B0.out
  go_wp2_with (first
    | ((with_reducible refine (K1.out).mono ?_); rintro e w2 ⟨rfl, h2⟩; have K2 := Lib.hid (m_set h2 (a : Int) 300 _ HL2.out (by have := HA.out; omega) (by decide) (by simp)); clear h2)
    | ((with_reducible refine (K2.out).mono ?_); rintro e w3 ⟨rfl, h3⟩; have e3 := h3.cell B1.out; have K3 := Lib.hid (m_set h3 (a : Int) (z : Int) _ HL3.out (by have := HA.out; omega) (by have := HZ.out; omega) (by simp)); clear h3)
    | ((with_reducible refine (K3.out).mono ?_); rintro e w4 ⟨rfl, h4⟩; have K4 := Lib.hid (m_when h4 (a : Int) (z : Int) (by simp)); clear h4)
    | ((with_reducible refine (K4.out).mono ?_); rintro e w5 ⟨rfl, h5⟩; have e5 := h5.cell B1.out; have K5 := Lib.hid (m_len h5 1 rfl); clear h5)
    | ((with_reducible refine (K5.out).mono ?_); rintro e w6 ⟨rfl, h6⟩; have K6 := Lib.hid (m_stop h6 (a : Int) _ true HL4.out HI4.out (by have := HA.out; omega)); clear h6)
    | ((with_reducible refine (K6.out).mono ?_); rintro e w7 ⟨rfl, h7⟩; have K7 := Lib.hid (m_stop h7 (a : Int) _ false HL5.out HI5.out (by have := HA.out; omega)); clear h7)
    | ((with_reducible refine (K7.out).mono ?_); rintro e w8 ⟨rfl, h8⟩; have K8 := Lib.hid (m_len h8 0 rfl); clear h8)
    | ((with_reducible refine (K8.out).mono ?_); rintro e w9 ⟨rfl, h9⟩; have K9 := Lib.hid (m_due h9 299 [] 0 rfl rfl); clear h9)
    | ((with_reducible refine (K9.out).mono ?_); rintro e w10 ⟨s1, t1, r1, rfl, h10⟩; have K10 := Lib.hid (m_due h10 300 [] 0 rfl rfl); clear h10)
    | ((with_reducible refine (K10.out).mono ?_); rintro e w11 ⟨s2, t2, r2, rfl, h11⟩; have K11 := Lib.hid (m_len h11 0 rfl); clear h11)
    | ((with_reducible refine (K11.out).mono ?_); rintro e w12 ⟨rfl, h12⟩; have H12 := Lib.hid h12; clear h12)
    | ((with_reducible refine (awake_any _).mono ?_); rintro e w13 ⟨rfl, hb⟩; have H13 := Lib.hid (H12.out.grow hb); clear hb))
  go_returns
  exact ⟨rfl, HBX.out.trans (H13.out.below.mono HBX.out.size)⟩
end Go.Proofs.Ytickfnedplbleaa
