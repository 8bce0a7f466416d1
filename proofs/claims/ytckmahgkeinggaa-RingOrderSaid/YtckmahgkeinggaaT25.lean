/- The law RingOrder, walked. -/
import Derived.Test.YtckmahgkeinggaaT23
namespace Go.Proofs.Ytckmahgkeinggaa
open Go.RowKit
attribute [local go_sem] cell_over frozen_over lt_over le_over ne_over over_ne cell_set_same softAt softUpon lightUpon heavyUpon cell_kept frozen_kept

def PeekIs (w : World) (pr pc : Nat) (c : List UInt8) (f n : Int) (e : Ending) (w' : World) : Prop := Below w.heap.size w w' ∧ ∃ a, e = .returned (.slice a (look c f n).length (look c f n).length) ∧ Told w' w.heap.size pr pc (.slice a (look c f n).length (look c f n).length) (look c f n)
theorem peek_d {w : World} {pr pc m : Nat} {t : Int} {c : List UInt8} (hr : RingIs w pr pc m t (bv c)) (f n : Int) :
    Calls Try.prog 18 #[.pointer (some ⟨pr, 0, none⟩), .int .i64 f, .int .i64 n] w (PeekIs w pr pc c f n) := (peek_u hr f n).mono fun e w' ⟨hb, v, he, hv⟩ => by
  obtain ⟨a, rfl⟩ := hv.slice
  exact ⟨hb, a, he, hv⟩
def PopIs2 (w : World) (pr pc m : Nat) (t : Int) (c : List UInt8) (n : Int) (e : Ending) (w' : World) : Prop := Touch w w' pr pc ∧ RingIs w' pr pc m t (bv (c.drop (look c 0 n).length)) ∧ ∃ a, e = .returned (.slice a (look c 0 n).length (look c 0 n).length) ∧ Told w' w.heap.size pr pc (.slice a (look c 0 n).length (look c 0 n).length) (look c 0 n)
theorem pop_e {w : World} {pr pc m : Nat} {t : Int} {c : List UInt8} (hr : RingIs w pr pc m t (bv c)) (n : Int) :
    Calls Try.prog 10 #[.pointer (some ⟨pr, 0, none⟩), .int .i64 n] w (PopIs2 w pr pc m t c n) := (pop_u hr n).mono fun e w' ⟨hT, hR, v, he, hv⟩ => by
  obtain ⟨a, rfl⟩ := hv.slice
  exact ⟨hT, hR, a, he, hv⟩
def PushIs2 (w : World) (pr pc m : Nat) (t : Int) (c l : List UInt8) (x : Nat) (e : Ending) (w' : World) : Prop := e = .returned (.int .i64 (x : Int)) ∧ Touch w w' pr pc ∧ RingIs w' pr pc m (t + x) (bv (c ++ l.take x))
theorem push_e {w : World} {pr pc m B : Nat} {t : Int} {c l : List UInt8} (hr : RingIs w pr pc m t (bv c)) {a : Option Addr} {len cap : Nat} (hc : Came w B a len cap l) (h1 : B ≤ pr) (h2 : B ≤ pc) (hl : len ≤ 1000) (ht : 0 ≤ t ∧ t ≤ 1000000) (x : Nat) (hx : x = min len (m - c.length)) :
    Calls Try.prog 13 #[.pointer (some ⟨pr, 0, none⟩), .slice a len cap] w (PushIs2 w pr pc m t c l x) := by
  subst hx
  exact push_u hr hc h1 h2 hl ht

/-- While a slice of the ring's make is overwritten. -/
def Spoilt (w wr : World) (B pr pc : Nat) (a : Option Addr) (n : Nat) : Prop := Below B w wr ∧ wr.heap[pr]? = w.heap[pr]? ∧ wr.heap[pc]? = w.heap[pc]? ∧
  (0 < n → ∃ pb cs, a = some ⟨pb, 0, none⟩ ∧ B ≤ pb ∧ pb ≠ pr ∧ pb ≠ pc ∧ wr.heap[pb]? = some (.cells cs 5 (0, 0)) ∧ cs.size = n)
theorem Told.spoilt {w : World} {B B' pr pc : Nat} {a : Option Addr} {n c : Nat} {l : List UInt8} (h : Told w B' pr pc (.slice a n c) l) (hb : B ≤ B') : Spoilt w w B pr pc a n := by
  refine ⟨Below.refl _ _, rfl, rfl, fun h0 => ?_⟩
  rcases h.is with ⟨h1, _⟩ | ⟨pb, h1, h2, h3, h4, h5⟩
  · simp only [Value.slice.injEq] at h1
    omega
  · simp only [Value.slice.injEq] at h1
    exact ⟨pb, _, h1.1, by omega, h3, h4, h5, by simp [bv]; omega⟩
theorem Spoilt.store {w wr : World} {B pr pc : Nat} {pb n : Nat} (h : Spoilt w wr B pr pc (some ⟨pb, 0, none⟩) n) (h0 : 0 < n) (j : Nat) (v : Value) : Spoilt w (wr.setCell ⟨pb, j, none⟩ v) B pr pc (some ⟨pb, 0, none⟩) n := by
  obtain ⟨hb, h1, h2, h3⟩ := h
  obtain ⟨pb', cs, e, h4, h5, h6, h7, h8⟩ := h3 h0
  cases e
  exact ⟨hb.setCell h4 v, (blk_far (Ne.symm h5)).trans h1, (blk_far (Ne.symm h6)).trans h2, fun _ => ⟨pb, _, rfl, h4, h5, h6, blk_set h7 j v, by simp [h8]⟩⟩

theorem bt' {a b c : World} (h : Below a.heap.size a b) (k : Below a.heap.size b c) : Below a.heap.size a c := h.trans k

set_option maxRecDepth 100000 in
set_option maxHeartbeats 8000000 in
theorem order_in (w : World) (rb : Nat) (hrb : rb < 65536) (a1 : Option Addr) (n c1 : Nat) (f : Nat → RowV) (hf : RowsIn w w.heap.size a1 n f) (a2 : Option Addr) (n2 c2 : Nat) (l2 : List UInt8) (hl2 : Came w w.heap.size a2 n2 c2 l2) (hn : n ≤ 80) (hn2 : n2 ≤ 80) :
    Calls Try.prog 5 #[.int .u16 rb, .slice a1 n c1, .slice a2 n2 c2] w fun e w' => e = .returned (.bool true) ∧ Below w.heap.size w w' := by
  have HF := Lib.hid hf
  have H2 := Lib.hid hl2
  clear hf hl2
  have e1 : ¬ (n : Int) > 80 := by omega
  have e2 : ¬ (n2 : Int) > 80 := by omega
  have e3 : (rb : Int).tmod 4096 = (rb : Int) % 4096 := Int.tmod_eq_emod_of_nonneg (by omega)
  have e4 : IntKind.i64.wrap (1 + (rb : Int) % 4096) = 1 + (rb : Int) % 4096 := IntWalk.i64_in _ (by omega)
  obtain ⟨m, hm⟩ : ∃ m : Nat, 1 + (rb : Int) % 4096 = m := ⟨(1 + (rb : Int) % 4096).toNat, by omega⟩
  have m1 : 1 ≤ m := by omega
  have m2 : m ≤ 4096 := by omega
  go_enter Try.func5, Try.ntmps5
  go_wp2_with (first
    | ((with_reducible refine (new_d _ m m1 m2).mono ?_); refine unhalt ?_))
  unfold Halted
  rintro e w1 ⟨pr, pc, rfl, hb, lr, lc, R1⟩
  have R := Lib.hid R1
  have B1 := hb
  clear hb R1 e3 e4 hm
  dsimp only
  go_wp2
  go_loopw [9, 10, 11] (fun s9 s10 i wr => ∃ (k : Nat) (t : Int) (c inn out : List UInt8), k ≤ n ∧ i = .int .i64 (k : Nat) ∧ s9 = .string ⟨inn.toArray⟩ ∧ s10 = .string ⟨out.toArray⟩ ∧ inn = out ++ c ∧ t = (inn.length : Nat) ∧ inn.length ≤ 100 * k ∧ Below w.heap.size w wr ∧ RingIs wr pr pc m t (bv c))
    (fun _ _ i _ => n - (intOf i).toNat)
  case atStart => exact ⟨0, 0, [], [], [], Nat.zero_le _, rfl, rfl, rfl, rfl, rfl, Nat.le_refl _, B1, R.out⟩
  case round =>
    clear B1 R
    obtain ⟨k, t, c, inn, out, hk, rfl, rfl, rfl, hio, ht, hil, B2, R2⟩ := hrel
    by_cases hlt : k < n
    · obtain ⟨b, o, rfl, hb, g0, hc⟩ := (HF.out.under B2).each k hlt
      have hlt2 : (k : Int) < n := by omega
      by_cases hlong : (f k).n > 100
      · have h100 : ((f k).n : Int) > 100 := by omega
        have HI := Lib.hid hio
        have HT := Lib.hid ht
        have HR := Lib.hid R2
        clear hio ht R2 hc
        go_wp2_with (first
          | ((with_reducible refine (awake_any _).mono ?_); rintro e w3 ⟨rfl, hb⟩; have B3 := bt B2 hb; clear hb))
        go_returns
        exact ⟨rfl, B3⟩
      · have h100 : ¬ ((f k).n : Int) > 100 := by omega
        obtain ⟨x, hx⟩ : ∃ x, x = min (f k).n (m - c.length) := ⟨_, rfl⟩
        have hxl : x ≤ (f k).n := by omega
        have hxr : x < (f k).n → (m : Int) - (c.length + x) = 0 := by have := R2.len; rw [bv_len] at this; omega
        have PU := Lib.hid (push_e R2 hc lr lc (by omega) (by omega) x hx)
        have HI := Lib.hid hio
        have HT := Lib.hid ht
        clear hio ht R2 hc hx
        go_upto_region 13 with (first
          | ((with_reducible refine PU.out.mono ?_); refine unhalt ?_))
        unfold Halted
        rintro e w3 ⟨rfl, hT, R3⟩
        have B3 := hT.below w.heap.size w lr lc B2
        have R := Lib.hid R3
        obtain ⟨_, _, e, hb', g0, hc⟩ := (HF.out.under B3).each k hlt
        cases e
        have hbs : b < w3.heap.size := Nat.lt_of_lt_of_le hb' B3.size
        clear PU R3 hT B2
        dsimp only
        go_upto_region 13 with fail
        have z1 : ¬ (x : Int) < 0 := by omega
        have z2 : ¬ (x : Int) > (f k).n := by omega
        have hcx : (c ++ List.take x (f k).l).length = c.length + x := by have := hc.size; simp; omega
        go_cut [83] from 59 to 82 (fun o wx => o = .bool false ∧ Below w3.heap.size w3 wx)
        case first =>
          by_cases hx : x < (f k).n
          · have z3 : (x : Int) < (f k).n := by omega
            have z4 := hxr hx
            have RM := room_u R.out
            rw [hcx, show ((c.length + x : Nat) : Int) = c.length + x by omega, z4] at RM
            have HRM := Lib.hid RM
            clear RM z4 hcx hc hxr
            go_wp2_with (first
              | ((with_reducible refine HRM.out.mono ?_); rintro e w4 ⟨rfl, hb⟩))
            go_meet
            exact ⟨rfl, hb⟩
          · have z3 : ¬ (x : Int) < (f k).n := by omega
            clear hcx hc hxr
            go_wp2
            go_meet
            exact ⟨rfl, Below.refl _ _⟩
        case rest =>
          obtain ⟨rfl, hb⟩ := hcut
          have B4 := bt B3 hb
          replace R := Lib.hid (R.out.below hb)
          replace g0 := cell_below hb g0
          replace hbs := Nat.lt_of_lt_of_le hbs hb.size
          obtain ⟨_, _, e, _, _, hcv⟩ := (HF.out.under B4).each k hlt
          cases e
          have z3 : (x : Int) ≤ (f k).c := by have := hcv.fits; omega
          have hlx : (List.take x (f k).l).length = x := by have := hcv.size; simp; omega
          replace hcv := hcv.conv x hxl
          have hdd : inn ++ List.take x (f k).l = out ++ (c ++ List.take x (f k).l) := by rw [HI.out, List.append_assoc]
          have z5 : ¬ 9223372036854775807 < inn.length + x := by omega
          have z6 : (0 : Int) ≤ x := by omega
          have HCX := Lib.hid hcx
          clear B3 hb hc hxr hcx
          generalize c ++ List.take x (f k).l = d at *
          generalize hy : List.take x (f k).l = y at *
          have HD := Lib.hid hdd
          clear hdd hy HI
          go_upto_region 16 with fail
          rw [str_app]
          have hil2 : (inn ++ y).length = inn.length + x := by simp [hlx]
          generalize inn ++ y = inn2 at *
          clear hcv z5
          go_upto_region 17 with (first
            | ((with_reducible refine (len_u R.out).mono ?_); rintro e w5 ⟨rfl, hb⟩; have B5 := bt B4 hb; have R5 := Lib.hid (R.out.below hb); clear hb)
            | ((with_reducible refine (peek_d R5.out _ _).mono ?_); refine unhalt ?_))
          unfold Halted
          rintro e w6 ⟨hb, pa, rfl, hv⟩
          have B6 := bt B5 hb
          replace R := Lib.hid (R5.out.below hb)
          have hsp := hv.spoilt (B := w.heap.size) B5.size
          clear R5 B5 hb hv B4 g0
          dsimp only
          go_upto_region 17 with fail
          have hlk : (look d 0 d.length).length ≤ 4096 := by have := look_len d 0 d.length; have := R.out.len; rw [bv_len] at this; omega
          generalize (look d 0 d.length).length = lp at *
          go_wp2
          go_loopw [14] (fun i wr => ∃ j : Nat, j ≤ lp ∧ i = .int .i64 (j : Nat) ∧ Spoilt w6 wr w.heap.size pr pc pa lp)
            (fun i _ => lp - (intOf i).toNat)
          case atStart => exact ⟨0, Nat.zero_le _, rfl, hsp⟩
          case round =>
            clear hsp
            obtain ⟨j, hj, rfl, hsp⟩ := hrel
            by_cases hjl : j < lp
            · obtain ⟨pb, cs, rfl, h1, h2, h3, h4, h5⟩ := hsp.2.2.2 (by omega)
              have hst := hsp.store (by omega) j (.int .u8 0)
              have k0 : (0 : Int) ≤ (j : Int) := by omega
              have k1 : (j : Int) < (lp : Int) := by omega
              have f1 := blk_free h4 j
              have f2 : ∃ v, wr.cell? ⟨pb, j, none⟩ = some v := ⟨_, (blk_cell h4 j).trans (Array.getElem?_eq_getElem (by omega))⟩
              obtain ⟨v0, f3⟩ := f2
              have f4 := blk_lt h4
              clear hsp h4
              go_wp2
              go_roundw
              case rel => exact ⟨j + 1, by omega, by go_num, hst⟩
              case measure => simp [intOf]; omega
            · obtain rfl : j = lp := by omega
              obtain ⟨g1, g2, g3, _⟩ := hsp
              have B7 := bt' B6 g1
              replace R := Lib.hid (R.out.far g2 g3)
              have htx : t + (x : Int) = (inn2.length : Nat) := by rw [HT.out, hil2]; omega
              rw [htx] at R
              have hi2 : inn2.length ≤ 100 * k + 100 := by omega
              clear hil2 htx hil
              go_upto_if 109 with fail
              go_cut [10, 15, 16] from 106 to 129 (fun s10 _ _ wx => ∃ (q out' : List UInt8), s10 = .string ⟨out'.toArray⟩ ∧ inn2 = out' ++ q ∧ Below w.heap.size w wx ∧ RingIs wx pr pc m (inn2.length : Nat) (bv q))
              case first =>
                by_cases hkn : k < n2
                · have hkn2 : (k : Int) < n2 := by omega
                  have hc2 := H2.out.under B7
                  have hb2 : (bv l2)[k]? = some (.int .u8 ((l2.getD k 0).toNat : Int)) := by
                    have := hc2.size
                    have hk2 : k < l2.length := by omega
                    simp [bv, hk2]
                  obtain ⟨ob, hob⟩ : ∃ ob : Nat, (l2.getD k 0).toNat = ob := ⟨_, rfl⟩
                  have hob2 : ob ≤ 255 := by rw [← hob]; have := (l2.getD k 0).toNat_lt; omega
                  rw [hob] at hb2
                  obtain ⟨pb2, o2, rfl, hcell⟩ := hc2.bys k _ hb2
                  have hp2 := hc2.place _ rfl (by omega)
                  have k0 : (0 : Int) ≤ (k : Int) := by omega
                  clear hb2 hc2 hob
                  go_wp2_with (first
                    | ((with_reducible refine (pop_e R.out _).mono ?_); refine unhalt ?_))
                  unfold Halted
                  rintro e w8 ⟨hT, R8, pa2, rfl, hv⟩
                  rw [look_head] at R8 hv ⊢
                  have B8 := hT.below w.heap.size w lr lc B7
                  have hcv := hv.conv
                  have hsp := hv.spoilt (B := w.heap.size) B7.size
                  have hlk2 : (List.take ob d).length ≤ 4096 := by have := R.out.len; rw [bv_len] at this; simp; omega
                  have hbig : ¬ 9223372036854775807 < out.length + (List.take ob d).length := by
                    have h1 := congrArg List.length HD.out
                    rw [List.length_append] at h1
                    omega
                  have hdd : inn2 = (out ++ List.take ob d) ++ d.drop (List.take ob d).length := by
                    rw [HD.out, List.append_assoc]
                    congr 1
                    rw [List.length_take]
                    rcases Nat.le_total ob d.length with h | h
                    · rw [Nat.min_eq_left h, List.take_append_drop]
                    · rw [Nat.min_eq_right h, List.take_of_length_le h, List.drop_eq_nil_of_le (Nat.le_refl _), List.append_nil]
                  have HD2 := Lib.hid hdd
                  replace R := Lib.hid R8
                  clear hv R8 hT B7 hdd
                  generalize List.drop (List.take ob d).length d = q at *
                  generalize List.take ob d = y2 at *
                  dsimp only
                  go_upto_region 24 with fail
                  rw [str_app]
                  clear hcv hbig
                  generalize out ++ y2 = out2 at *
                  generalize y2.length = lp2 at *
                  go_wp2
                  go_loopw [16] (fun i wx => ∃ j2 : Nat, j2 ≤ lp2 ∧ i = .int .i64 (j2 : Nat) ∧ Spoilt w8 wx w.heap.size pr pc pa2 lp2)
                    (fun i _ => lp2 - (intOf i).toNat)
                  case atStart => exact ⟨0, Nat.zero_le _, rfl, hsp⟩
                  case round =>
                    clear hsp
                    obtain ⟨j2, hj2, rfl, hsp⟩ := hrel
                    by_cases hjl2 : j2 < lp2
                    · obtain ⟨pb, cs, rfl, h1, h2, h3, h4, h5⟩ := hsp.2.2.2 (by omega)
                      have hst := hsp.store (by omega) j2 (.int .u8 0)
                      have k0 : (0 : Int) ≤ (j2 : Int) := by omega
                      have k1 : (j2 : Int) < (lp2 : Int) := by omega
                      have f1 := blk_free h4 j2
                      have f2 : ∃ v, wr.cell? ⟨pb, j2, none⟩ = some v := ⟨_, (blk_cell h4 j2).trans (Array.getElem?_eq_getElem (by omega))⟩
                      obtain ⟨v0, f3⟩ := f2
                      have f4 := blk_lt h4
                      clear hsp h4
                      go_wp2
                      go_roundw
                      case rel => exact ⟨j2 + 1, by omega, by go_num, hst⟩
                      case measure => simp [intOf]; omega
                    · obtain rfl : j2 = lp2 := by omega
                      obtain ⟨g1, g2, g3, _⟩ := hsp
                      have B9 := bt' B8 g1
                      replace R := Lib.hid (R.out.far g2 g3)
                      go_wp2
                      go_meet
                      exact ⟨q, out2, rfl, HD2.out, B9, R.out⟩
                · have hkn2 : ¬ (k : Int) < n2 := by omega
                  go_wp2
                  go_meet
                  exact ⟨d, out, rfl, HD.out, B7, R.out⟩
              case rest =>
                obtain ⟨q, out', rfl, rfl, B8, R8⟩ := hcut
                have R := Lib.hid R8
                have hq : look q 0 4096 = q := by
                  have := R8.len
                  rw [bv_len] at this
                  unfold look
                  rw [if_neg (by omega)]
                  show (q.drop 0).take 4096 = q
                  rw [List.drop_zero, List.take_of_length_le (by omega)]
                have PK := peek_d R8 0 4096
                unfold PeekIs at PK
                rw [hq] at PK
                have HPK := Lib.hid PK
                have hsa := str_app out' q
                have hlen : (out' ++ q).length = out'.length + q.length := List.length_append
                have hbig : ¬ 9223372036854775807 < out'.length + q.length := by omega
                have hl9 : (out' ++ q).length ≤ 100 * (k + 1) := by omega
                clear R8 PK hq hi2
                go_wp2_with (first
                  | ((with_reducible refine HPK.out.mono ?_); refine unhalt ?_))
                unfold Halted
                rintro e w9 ⟨hb, pa3, rfl, hv⟩
                have B9 := bt B8 hb
                replace R := Lib.hid (R.out.below hb)
                have hcv := hv.conv
                clear hv hb B8 HPK
                dsimp only
                go_wp2_with (first
                  | ((with_reducible refine (total_is R.out).mono ?_); rintro e w10 ⟨rfl, hb⟩; have B10 := bt B9 hb; have R10 := Lib.hid (R.out.below hb); clear hb hcv))
                go_roundw
                case rel => exact ⟨k + 1, _, q, out' ++ q, out', by omega, by go_num, rfl, rfl, rfl, rfl, hl9, B10, R10.out⟩
                case measure => simp [intOf]; omega
    · obtain rfl : k = n := by omega
      clear hio ht
      go_wp2_with (first
        | ((with_reducible refine (awake_any _).mono ?_); rintro e w3 ⟨rfl, hb⟩; have B3 := bt B2 hb; clear hb))
      go_returns
      exact ⟨rfl, B3⟩
end Go.Proofs.Ytckmahgkeinggaa
