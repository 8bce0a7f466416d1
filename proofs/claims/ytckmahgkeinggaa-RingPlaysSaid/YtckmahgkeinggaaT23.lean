/- The law RingPlays, walked. -/
import Derived.Test.YtckmahgkeinggaaT21
import Derived.Test.YtckmahgkeinggaaT22
import Derived.LoopTactic
import Derived.Deep.CutRange
import Derived.Deep.CutBlock
namespace Go.Proofs.Ytckmahgkeinggaa
open Go.RowKit
attribute [local go_sem] cell_over frozen_over lt_over le_over ne_over over_ne cell_set_same softAt softUpon lightUpon heavyUpon cell_kept frozen_kept

def look2 (x y : Int) : Obj := .cells #[.int .i64 x, .int .i64 y] 23 (0, 0)
def Plays (w wr : World) (pr pc px p5 m : Nat) (x y : Int) (k : Nat) (t : Int) (c : List UInt8) : Prop :=
  Below w.heap.size w wr ∧ RingIs wr pr pc m t (bv c) ∧ 0 ≤ t ∧ t ≤ 100 * k ∧ wr.heap[px]? = some (ref3 m c t) ∧ wr.heap[p5]? = some (look2 x y)

theorem RingIs.far {w w' : World} {pr pc m : Nat} {t : Int} {l : List Value} (h : RingIs w pr pc m t l) (h1 : w'.heap[pr]? = w.heap[pr]?) (h2 : w'.heap[pc]? = w.heap[pc]?) : RingIs w' pr pc m t l := by
  obtain ⟨h0, k, cur, hm, g1, g2⟩ := h.is
  exact ⟨h0, k, cur, { hm with ring := h1.trans hm.ring, cells := h2.trans hm.cells }, g1, g2⟩
theorem plays_put {w w5 : World} {pr pc px p5 m : Nat} {x y : Int} {k : Nat} {t t0 : Int} {c c0 : List UInt8} (B : Below w.heap.size w w5) (R : RingIs w5 pr pc m t (bv c)) (t1 : 0 ≤ t) (t2 : t ≤ 100 * (k : Nat)) (hx : w5.heap[px]? = some (ref3 m c0 t0)) (h5 : w5.heap[p5]? = some (look2 x y))
    (dxr : px ≠ pr) (dxc : px ≠ pc) (dx5 : px ≠ p5) (pxb : w.heap.size ≤ px) :
    Plays w (((w5.setCell ⟨px, 0, none⟩ (.int .i64 m)).setCell ⟨px, 1, none⟩ (.string ⟨c.toArray⟩)).setCell ⟨px, 2, none⟩ (.int .i64 t)) pr pc px p5 m x y k t c :=
  ⟨bst (bst (bst B pxb _) pxb _) pxb _, R.far ((blk_far (Ne.symm dxr)).trans ((blk_far (Ne.symm dxr)).trans (blk_far (Ne.symm dxr)))) ((blk_far (Ne.symm dxc)).trans ((blk_far (Ne.symm dxc)).trans (blk_far (Ne.symm dxc)))), t1, t2,
    (blk_set (blk_set (blk_set hx 0 _) 1 _) 2 _).trans rfl, ((blk_far (Ne.symm dx5)).trans ((blk_far (Ne.symm dx5)).trans (blk_far (Ne.symm dx5)))).trans h5⟩
theorem ActsIn.here {w : World} {B b o n : Nat} {f : Nat → ActV} (h : ActsIn w B (some ⟨b, o, none⟩) n f) (i : Nat) (hi : i < n) : b < B ∧ w.cell? ⟨b, o + i * 3, none⟩ = some (.int .u8 (f i).k) ∧ w.cell? ⟨b, o + i * 3 + 1, none⟩ = some (.slice (f i).a (f i).n (f i).c) ∧ w.cell? ⟨b, o + i * 3 + 2, none⟩ = some (.int .i64 (f i).m) ∧
    (f i).k ≤ 255 ∧ Came w B (f i).a (f i).n (f i).c (f i).l := by
  obtain ⟨b', o', h1, h2⟩ := h.each i hi
  cases h1
  exact h2

def PopIs (w : World) (pr pc m : Nat) (t : Int) (c : List UInt8) (n : Int) (e : Ending) (w' : World) : Prop := Touch w w' pr pc ∧ RingIs w' pr pc m t (bv (c.drop (look c 0 n).length)) ∧ ∃ v, e = .returned v ∧ Told w' w.heap.size pr pc v (look c 0 n)
theorem pop_d {w : World} {pr pc m : Nat} {t : Int} {c : List UInt8} (hr : RingIs w pr pc m t (bv c)) (n : Int) :
    Calls Try.prog 10 #[.pointer (some ⟨pr, 0, none⟩), .int .i64 n] w (PopIs w pr pc m t c n) := pop_u hr n

def DropIs (w : World) (pr pc m : Nat) (t : Int) (c : List UInt8) (n : Int) (e : Ending) (w' : World) : Prop := e = .returned (.int .i64 ((look c 0 n).length : Int)) ∧ Touch w w' pr pc ∧ RingIs w' pr pc m t (bv (c.drop (look c 0 n).length))
theorem drop_d {w : World} {pr pc m : Nat} {t : Int} {c : List UInt8} (hr : RingIs w pr pc m t (bv c)) (n : Int) :
    Calls Try.prog 12 #[.pointer (some ⟨pr, 0, none⟩), .int .i64 n] w (DropIs w pr pc m t c n) := drop_u hr n
def PushIs (w : World) (pr pc m : Nat) (t : Int) (c l : List UInt8) (len : Nat) (e : Ending) (w' : World) : Prop := e = .returned (.int .i64 ((min len (m - c.length) : Nat) : Int)) ∧ Touch w w' pr pc ∧ RingIs w' pr pc m (t + (min len (m - c.length) : Nat)) (bv (c ++ l.take (min len (m - c.length))))
theorem push_d {w : World} {pr pc m B : Nat} {t : Int} {c l : List UInt8} (hr : RingIs w pr pc m t (bv c)) {a : Option Addr} {len cap : Nat} (hc : Came w B a len cap l) (h1 : B ≤ pr) (h2 : B ≤ pc) (hl : len ≤ 1000) (ht : 0 ≤ t ∧ t ≤ 1000000) :
    Calls Try.prog 13 #[.pointer (some ⟨pr, 0, none⟩), .slice a len cap] w (PushIs w pr pc m t c l len) := push_u hr hc h1 h2 hl ht

def NewIs (w : World) (m : Nat) (e : Ending) (w' : World) : Prop := ∃ pr pc, e = .returned (.tuple #[.pointer (some ⟨pr, 0, none⟩), .int .i64 0]) ∧ Below w.heap.size w w' ∧ w.heap.size ≤ pr ∧ w.heap.size ≤ pc ∧ RingIs w' pr pc m 0 (bv [])
theorem new_d (w : World) (m : Nat) (m1 : 1 ≤ m) (m2 : m ≤ 4096) : Calls Try.prog 8 #[.int .i64 m] w (NewIs w m) := new_u w m m1 m2

set_option maxRecDepth 100000 in
set_option maxHeartbeats 8000000 in
theorem plays_in (w : World) (m : Nat) (x y : Int) (a1 : Option Addr) (n c1 : Nat) (f : Nat → ActV) (hf : ActsIn w w.heap.size a1 n f) (hn : n ≤ 80) (m1 : 1 ≤ m) (m2 : m ≤ 4096) :
    Calls Try.prog 3 #[.int .i64 m, .slice a1 n c1, .agg #[.int .i64 x, .int .i64 y]] w fun e w' => e = .returned (.bool true) ∧ Below w.heap.size w w' := by
  have HF := Lib.hid hf
  clear hf
  have e1 : ¬ (n : Int) > 80 := by omega
  go_enter Try.func3, Try.ntmps3
  go_wp2_with (first
    | ((with_reducible refine (new_d _ m m1 m2).mono ?_); refine unhalt ?_))
  unfold Halted
  rintro e w1 ⟨pr, pc, rfl, hb, lr, lc, R1⟩
  have B1 := bt (bta (Below.refl _ _) _) hb
  have h5 := blk_grow hb (blk_new (w := w) (o := look2 x y) rfl)
  have lr' : w.heap.size ≤ pr := by simp at lr; omega
  have lc' : w.heap.size ≤ pc := by simp at lc; omega
  have d5r : w.heap.size ≠ pr := by simp at lr; omega
  have d5c : w.heap.size ≠ pc := by simp at lc; omega
  have R := Lib.hid R1
  clear hb R1 lr lc
  dsimp only
  go_wp2_with (first
    | ((with_reducible refine (refnew_ok m _ m1 m2).mono ?_); refine unhalt ?_))
  unfold Halted
  rintro e w2 ⟨rfl, hb⟩
  have B2 := bt B1 hb
  replace h5 := blk_grow hb h5
  have R2 := R.out.below hb
  clear R hb B1
  have hx := blk_new (w := w2) (o := ref3 m [] 0) rfl
  have dxr : w2.heap.size ≠ pr := by have := R2.lt.1; omega
  have dxc : w2.heap.size ≠ pc := by have := R2.lt.2; omega
  have dx5 : w2.heap.size ≠ w.heap.size := by have := blk_lt h5; omega
  have R := Lib.hid (R2.below ((Below.refl w2.heap.size w2).alloc (Nat.le_refl _) (ref3 m [] 0)))
  have B3 := bta B2 (ref3 m [] 0)
  replace h5 := blk_old (o := ref3 m [] 0) h5
  clear R2 B2
  dsimp only
  unfold refV
  go_wp2
  have hP : Plays w (w2.alloc (ref3 m [] 0)) pr pc w2.heap.size w.heap.size m x y 0 0 [] := ⟨B3, R.out, Int.le_refl _, by omega, hx, h5⟩
  unfold ref3 at hP
  have pxb : w.heap.size ≤ w2.heap.size := by have := blk_lt h5; simp at this; omega
  clear B3 R h5 hx
  generalize w2.heap.size = px at *
  go_loopw [11] (fun i wr => ∃ (k : Nat) (t : Int) (c : List UInt8), k ≤ n ∧ i = .int .i64 (k : Nat) ∧ Plays w wr pr pc px w.heap.size m x y k t c)
    (fun i _ => n - (intOf i).toNat)
  case atStart => exact ⟨0, 0, [], Nat.zero_le _, rfl, hP⟩
  case round =>
    clear hP
    obtain ⟨k, t, c, hk, rfl, hP⟩ := hrel
    by_cases hlt : k < n
    · obtain ⟨b, o, rfl, hb, g0, g1, g2, hk2, hc⟩ := (HF.out.under hP.1).each k hlt
      by_cases hlong : (f k).n > 100
      · have h100 : ((f k).n : Int) > 100 := by omega
        have hlt2 : (k : Int) < n := by omega
        have hP0 := Lib.hid hP
        clear hP hc
        go_wp2_with (first
          | ((with_reducible refine (awake_any _).mono ?_); rintro e w3 ⟨rfl, hb⟩; have B3 := bt hP0.out.1 hb; clear hb))
        go_returns
        exact ⟨rfl, B3⟩
      · have h100 : ¬ ((f k).n : Int) > 100 := by omega
        have hlt2 : (k : Int) < n := by omega
        go_upto_block 2 with fail
        go_cut [12, 13, 14, 15, 16, 17, 18, 19, 20] from 45 to 187 (fun _ _ _ _ _ _ _ _ _ wx => ∃ (t' : Int) (c' : List UInt8), Plays w wx pr pc px w.heap.size m x y (k + 1) t' c')
        case first =>
          generalize ((f k).k : Int) % 4 = q at *
          have hP0 := Lib.hid hP
          have HF1 := Lib.hid (HF.out.under hP.1)
          obtain ⟨B1, R1, t1, t2, hx, h5⟩ := hP
          have R := Lib.hid R1
          clear R1 hc g0
          have hcl : c.length ≤ m := by have := R.out.len; rw [bv_len] at this; exact this
          by_cases q2 : q = 2
          · subst q2
            clear g1
            go_wp2_with (first
              | ((with_reducible refine (pop_d R.out _).mono ?_); refine unhalt ?_))
            unfold Halted
            rintro e w3 ⟨hT, R3, v, rfl, hv⟩
            have B3 := hT.below w.heap.size w lr' lc' B1
            replace hx := hT.other px _ dxr dxc hx
            replace h5 := hT.other w.heap.size _ d5r d5c h5
            replace R := Lib.hid R3
            obtain ⟨hb', _, g1, g2, _, hc⟩ := (HF.out.under B3).here k hlt
            have hbs : b < w3.heap.size := Nat.lt_of_lt_of_le hb' B3.size
            have HP := Lib.hid (fun W => refpop_any m t c (f k).m W (by omega)); unfold refV at HP; have HV := Lib.hid hv; clear hv hc
            clear hT R3 B1 hb' HF1
            dsimp only
            go_wp2
            have hx0 := hx; have pxl := blk_lt hx
            unfold ref3 at hx
            obtain ⟨a0, a1, a2, a3, a4, a5, a6, a7, a8, a9⟩ := cells3 hx
            refine wp_soft1 13 ⟨10, 13, fun b => .pointer (some ⟨b, 0, none⟩), ref3 0 [] 0, some 11, ref3 m (c.drop (look c 0 (f k).m).length) (t)⟩ (by kernel_rfl) (by kernel_rfl) (tail_end (by kernel_rfl)) ?_
            simp only [List.take_succ_cons, List.take_zero]
            repeat (first | (refine softLex_step (by rfl) (by rfl) (fun K hK => ?_); go_simp; first | (refine hK _ ?_; clear hK K) | (apply Exists.intro; refine ⟨fun x => ?_, hK _ ?_⟩; (with_reducible exact HP.out _); clear hK K)))
            refine softLex_new _ rfl rfl rfl (fun y => by go_simp; rfl) ?_
            refine softLex_fill _ rfl rfl rfl rfl (fun y b hb => ?_) ?_
            · unfold ref3 at hb
              obtain ⟨f0, f1, f2, f3, f4, f5, f6, f7, f8, f9⟩ := cells3 hb
              refine ⟨_, ?_, (((Turned.refl hb).setCell 0 _).setCell 1 _).setCell 2 _⟩
              go_simp
            repeat (first | (refine softLex_step (by rfl) (by rfl) (fun K hK => ?_); go_simp; first | (refine hK _ ?_; clear hK K)))
            refine softLex_nil ?_
            intro w5 pn hb5 hpn hn5
            clear a0 a1 a2 a3 a4 a5 a6 a7 a8 a9 g1 g2 hbs
            have B5 := bt B3 hb5
            replace h5 := blk_grow hb5 h5
            replace hx0 := blk_grow hb5 hx0
            have R5 := R.out.below hb5
            replace R := Lib.hid R5
            replace hn5 : w5.heap[pn]? = some (.cells #[.int .i64 m, .string ⟨(c.drop (look c 0 (f k).m).length).toArray⟩, .int .i64 (t)] 30 (0, 0)) := hn5
            have hcv := ((HV.out.below hb5)).conv
            replace hx := hx0
            unfold ref3 at hx
            have dxn : pn ≠ px := by omega
            obtain ⟨a0, a1, a2, a3, a4, a5, a6, a7, a8, a9⟩ := cells3 hx
            obtain ⟨b0, b1, b2, b3, b4, b5, b6, b7, b8, b9⟩ := cells3 hn5
            clear R5 B3 hb5 hpn
            go_wp2
            go_meet
            exact ⟨_, _, plays_put B5 R.out (by omega) (by omega) hx0 h5 dxr dxc dx5 pxb⟩
          · by_cases q3 : q = 3
            · subst q3
              clear g1
              go_wp2_with (first
                | ((with_reducible refine (drop_d R.out _).mono ?_); refine unhalt ?_))
              unfold Halted
              rintro e w3 ⟨rfl, hT, R3⟩
              have B3 := hT.below w.heap.size w lr' lc' B1
              replace hx := hT.other px _ dxr dxc hx
              replace h5 := hT.other w.heap.size _ d5r d5c h5
              replace R := Lib.hid R3
              obtain ⟨hb', _, g1, g2, _, hc⟩ := (HF.out.under B3).here k hlt
              have hbs : b < w3.heap.size := Nat.lt_of_lt_of_le hb' B3.size
              have HP := Lib.hid (fun W => refpop_any m t c (f k).m W (by omega)); unfold refV at HP; clear hc
              clear hT R3 B1 hb' HF1
              dsimp only
              go_wp2
              have hx0 := hx; have pxl := blk_lt hx
              unfold ref3 at hx
              obtain ⟨a0, a1, a2, a3, a4, a5, a6, a7, a8, a9⟩ := cells3 hx
              refine wp_soft1 13 ⟨10, 16, fun b => .pointer (some ⟨b, 0, none⟩), ref3 0 [] 0, some 11, ref3 m (c.drop (look c 0 (f k).m).length) (t)⟩ (by kernel_rfl) (by kernel_rfl) (tail_end (by kernel_rfl)) ?_
              simp only [List.take_succ_cons, List.take_zero]
              repeat (first | (refine softLex_step (by rfl) (by rfl) (fun K hK => ?_); go_simp; first | (refine hK _ ?_; clear hK K) | (apply Exists.intro; refine ⟨fun x => ?_, hK _ ?_⟩; (with_reducible exact HP.out _); clear hK K)))
              refine softLex_new _ rfl rfl rfl (fun y => by go_simp; rfl) ?_
              refine softLex_fill _ rfl rfl rfl rfl (fun y b hb => ?_) ?_
              · unfold ref3 at hb
                obtain ⟨f0, f1, f2, f3, f4, f5, f6, f7, f8, f9⟩ := cells3 hb
                refine ⟨_, ?_, (((Turned.refl hb).setCell 0 _).setCell 1 _).setCell 2 _⟩
                go_simp
              repeat (first | (refine softLex_step (by rfl) (by rfl) (fun K hK => ?_); go_simp; first | (refine hK _ ?_; clear hK K)))
              refine softLex_nil ?_
              intro w5 pn hb5 hpn hn5
              clear a0 a1 a2 a3 a4 a5 a6 a7 a8 a9 g1 g2 hbs
              have B5 := bt B3 hb5
              replace h5 := blk_grow hb5 h5
              replace hx0 := blk_grow hb5 hx0
              have R5 := R.out.below hb5
              replace R := Lib.hid R5
              replace hn5 : w5.heap[pn]? = some (.cells #[.int .i64 m, .string ⟨(c.drop (look c 0 (f k).m).length).toArray⟩, .int .i64 (t)] 30 (0, 0)) := hn5
              skip
              replace hx := hx0
              unfold ref3 at hx
              have dxn : pn ≠ px := by omega
              obtain ⟨a0, a1, a2, a3, a4, a5, a6, a7, a8, a9⟩ := cells3 hx
              obtain ⟨b0, b1, b2, b3, b4, b5, b6, b7, b8, b9⟩ := cells3 hn5
              clear R5 B3 hb5 hpn
              go_wp2
              go_meet
              exact ⟨_, _, plays_put B5 R.out (by omega) (by omega) hx0 h5 dxr dxc dx5 pxb⟩
            · have q4 : (q == 2) = false := by simp [q2]
              have q5 : (q == 3) = false := by simp [q3]
              clear g2
              go_wp2_with (first
                | ((with_reducible refine (push_d R.out (HF1.out.here k hlt).2.2.2.2.2 lr' lc' (by omega) (by omega)).mono ?_); refine unhalt ?_))
              unfold Halted
              rintro e w3 ⟨rfl, hT, R3⟩
              have B3 := hT.below w.heap.size w lr' lc' B1
              replace hx := hT.other px _ dxr dxc hx
              replace h5 := hT.other w.heap.size _ d5r d5c h5
              replace R := Lib.hid R3
              obtain ⟨hb', _, g1, g2, _, hc⟩ := (HF.out.under B3).here k hlt
              have hbs : b < w3.heap.size := Nat.lt_of_lt_of_le hb' B3.size
              have HP0 := fun W (hW : Below w3.heap.size w3 W) => refpush_any m t c (f k).l (f k).a (f k).n (f k).c W (hc.under (hW.mono B3.size)) (Nat.le_trans B3.size hW.size) (by omega) (by omega) (by omega) (by omega); simp only [Int.toNat_natCast] at HP0; have HP := Lib.hid HP0; unfold refV at HP; clear hc HP0
              clear hT R3 B1 hb' HF1
              dsimp only
              go_wp2
              have hx0 := hx; have pxl := blk_lt hx
              unfold ref3 at hx
              obtain ⟨a0, a1, a2, a3, a4, a5, a6, a7, a8, a9⟩ := cells3 hx
              refine wp_soft1 13 ⟨10, 19, fun b => .pointer (some ⟨b, 0, none⟩), ref3 0 [] 0, some 11, ref3 m (c ++ (f k).l.take (min (f k).n (m - c.length))) (t + (min (f k).n (m - c.length) : Nat))⟩ (by kernel_rfl) (by kernel_rfl) (tail_end (by kernel_rfl)) ?_
              simp only [List.take_succ_cons, List.take_zero]
              repeat (first | (refine softLex_step (by rfl) (by rfl) (fun K hK => ?_); go_simp; first | (refine hK _ ?_; clear hK K) | (apply Exists.intro; refine ⟨fun x => ?_, hK _ ?_⟩; (with_reducible exact HP.out _ (over_below _ _)); clear hK K)))
              refine softLex_new _ rfl rfl rfl (fun y => by go_simp; rfl) ?_
              refine softLex_fill _ rfl rfl rfl rfl (fun y b hb => ?_) ?_
              · unfold ref3 at hb
                obtain ⟨f0, f1, f2, f3, f4, f5, f6, f7, f8, f9⟩ := cells3 hb
                refine ⟨_, ?_, (((Turned.refl hb).setCell 0 _).setCell 1 _).setCell 2 _⟩
                go_simp
              repeat (first | (refine softLex_step (by rfl) (by rfl) (fun K hK => ?_); go_simp; first | (refine hK _ ?_; clear hK K)))
              refine softLex_nil ?_
              intro w5 pn hb5 hpn hn5
              clear a0 a1 a2 a3 a4 a5 a6 a7 a8 a9 g1 g2 hbs
              have B5 := bt B3 hb5
              replace h5 := blk_grow hb5 h5
              replace hx0 := blk_grow hb5 hx0
              have R5 := R.out.below hb5
              replace R := Lib.hid R5
              replace hn5 : w5.heap[pn]? = some (.cells #[.int .i64 m, .string ⟨(c ++ (f k).l.take (min (f k).n (m - c.length))).toArray⟩, .int .i64 (t + (min (f k).n (m - c.length) : Nat))] 30 (0, 0)) := hn5
              skip
              replace hx := hx0
              unfold ref3 at hx
              have dxn : pn ≠ px := by omega
              obtain ⟨a0, a1, a2, a3, a4, a5, a6, a7, a8, a9⟩ := cells3 hx
              obtain ⟨b0, b1, b2, b3, b4, b5, b6, b7, b8, b9⟩ := cells3 hn5
              clear R5 B3 hb5 hpn
              go_wp2
              go_meet
              exact ⟨_, _, plays_put B5 R.out (by omega) (by omega) hx0 h5 dxr dxc dx5 pxb⟩
        case rest =>
          obtain ⟨t', c', hP⟩ := hcut
          obtain ⟨B5, R5, t1', t2', hx, h5⟩ := hP
          clear hc hk2 g0 g1 g2
          have R := Lib.hid R5
          clear R5
          have hcl : c'.length ≤ m := by have := R.out.len; rw [bv_len] at this; exact this
          go_wp2
          refine wp_chain [] [1, 8, 19, 30, 37, 44] [31, 45] (by kernel_rfl) (by kernel_rfl) ?_
          intro w6 hb hh6
          have B6 := bt B5 hb
          have R6 := R.out.below hb
          replace R := Lib.hid R6
          replace hx := blk_grow hb hx
          replace h5 := blk_grow hb h5
          clear R6 B5 hb hh6
          have hx6 := hx
          have h56 := h5
          unfold ref3 at hx6
          unfold look2 at h56
          obtain ⟨a0, a1, a2, a3, a4, a5, a6, a7, a8, a9⟩ := cells3 hx6
          have b0 := blk_cell h56 0
          have b1 := blk_cell h56 1
          have b2 := blk_lt h56
          have e2 : IntKind.i64.wrap ((m : Int) - c'.length) = m - c'.length := IntWalk.i64_in _ (by omega)
          clear hx6 h56
          refine chain_now (by rfl) (by rfl) (fun K hK => ?_)
          replace hK := Lib.hid hK
          go_simp
          refine hK.out _ _ ?_; clear hK K
          refine chain_do (by rfl) (fun K hK => ?_)
          replace hK := Lib.hid hK
          go_simp
          refine (len_u R.out).mono ?_
          rintro e w7 ⟨rfl, hb⟩
          refine ⟨_, rfl, Below.kept _ hb, hK.out _ _ ?_⟩; clear hK K
          have B7 := bt B6 hb
          have R7 := R.out.below hb
          replace R := Lib.hid R7
          replace hx := blk_grow hb hx
          replace h5 := blk_grow hb h5
          clear B6 R7 hb
          iterate 6
            refine chain_now (by rfl) (by rfl) (fun K hK => ?_)
            replace hK := Lib.hid hK
            go_simp
            refine hK.out _ _ ?_; clear hK K
          refine chain_do (by rfl) (fun K hK => ?_)
          replace hK := Lib.hid hK
          go_simp
          refine (room_u R.out).mono ?_
          rintro e w8 ⟨rfl, hb⟩
          refine ⟨_, rfl, Below.kept _ hb, hK.out _ _ ?_⟩; clear hK K
          have B8 := bt B7 hb
          have R8 := R.out.below hb
          replace R := Lib.hid R8
          replace hx := blk_grow hb hx
          replace h5 := blk_grow hb h5
          clear B7 R8 hb
          iterate 10
            refine chain_now (by rfl) (by rfl) (fun K hK => ?_)
            replace hK := Lib.hid hK
            go_simp
            refine hK.out _ _ ?_; clear hK K
          refine chain_do (by rfl) (fun K hK => ?_)
          replace hK := Lib.hid hK
          go_simp
          refine (total_is R.out).mono ?_
          rintro e w9 ⟨rfl, hb⟩
          refine ⟨_, rfl, Below.kept _ hb, hK.out _ _ ?_⟩; clear hK K
          have B9 := bt B8 hb
          have R9 := R.out.below hb
          replace R := Lib.hid R9
          replace hx := blk_grow hb hx
          replace h5 := blk_grow hb h5
          clear B8 R9 hb
          iterate 10
            refine chain_now (by rfl) (by rfl) (fun K hK => ?_)
            replace hK := Lib.hid hK
            go_simp
            refine hK.out _ _ ?_; clear hK K
          refine chain_do (by rfl) (fun K hK => ?_)
          replace hK := Lib.hid hK
          go_simp
          refine (peek_u R.out _ _).mono ?_
          rintro e w10 ⟨hb, v1, rfl, hv⟩
          refine ⟨_, rfl, Below.kept _ hb, hK.out _ _ ?_⟩; clear hK K
          have B10 := bt B9 hb
          have R10 := R.out.below hb
          replace R := Lib.hid R10
          replace hx := blk_grow hb hx
          replace h5 := blk_grow hb h5
          have hcv := fun x => (hv.kept (S := []) (by simp) x).conv
          clear B9 R10 hb hv
          refine chain_late (by rfl) (by rfl) (fun K hK => ?_)
          replace hK := Lib.hid hK
          go_simp
          refine hK.out _ _ ?_; clear hK K
          clear hcv
          iterate 5
            refine chain_now (by rfl) (by rfl) (fun K hK => ?_)
            replace hK := Lib.hid hK
            go_simp
            refine hK.out _ _ ?_; clear hK K
          refine chain_do (by rfl) (fun K hK => ?_)
          replace hK := Lib.hid hK
          go_simp
          rw [show (Value.agg #[.int .i64 (m : Int), .string ⟨c'.toArray⟩, .int .i64 t']) = refV m c' t' from rfl]
          refine (refpeek_any m t' c' x y _ (by omega)).mono ?_
          rintro e w11 ⟨rfl, hb⟩
          refine ⟨_, rfl, Below.kept _ hb, hK.out _ _ ?_⟩; clear hK K
          have B11 := bt B10 hb
          have R11 := R.out.below hb
          replace R := Lib.hid R11
          replace hx := blk_grow hb hx
          replace h5 := blk_grow hb h5
          clear B10 R11 hb
          iterate 6
            refine chain_now (by rfl) (by rfl) (fun K hK => ?_)
            replace hK := Lib.hid hK
            go_simp
            refine hK.out _ _ ?_; clear hK K
          refine chain_do (by rfl) (fun K hK => ?_)
          replace hK := Lib.hid hK
          go_simp
          refine (peek_u R.out _ _).mono ?_
          rintro e w12 ⟨hb, v2, rfl, hv⟩
          refine ⟨_, rfl, Below.kept _ hb, hK.out _ _ ?_⟩; clear hK K
          have B12 := bt B11 hb
          have R12 := R.out.below hb
          replace R := Lib.hid R12
          replace hx := blk_grow hb hx
          replace h5 := blk_grow hb h5
          have hcv := fun x => (hv.kept (S := []) (by simp) x).conv
          rw [look_head, List.take_of_length_le hcl] at hcv
          clear B11 R12 hb hv
          refine chain_late (by rfl) (by rfl) (fun K hK => ?_)
          replace hK := Lib.hid hK
          go_simp
          refine hK.out _ _ ?_; clear hK K
          clear hcv
          iterate 4
            refine chain_now (by rfl) (by rfl) (fun K hK => ?_)
            replace hK := Lib.hid hK
            go_simp
            refine hK.out _ _ ?_; clear hK K
          refine chain_end ?_
          clear a0 a1 a2 a3 a4 a5 a6 a7 a8 a9 b0 b1 b2
          go_wp2
          go_roundw
          case rel => exact ⟨k + 1, t', c', by omega, by go_num, B12, R.out, t1', t2', hx, h5⟩
          case measure => simp [intOf]; omega
    · obtain rfl : k = n := by omega
      go_wp2_with (first
        | ((with_reducible refine (awake_any _).mono ?_); rintro e w3 ⟨rfl, hb⟩; have B3 := bt hP.1 hb; clear hb))
      go_returns
      exact ⟨rfl, B3⟩
end Go.Proofs.Ytckmahgkeinggaa
