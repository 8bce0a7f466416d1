/- Run of both packages, own and SameInts: what many acts make of a ledger, one by one. -/
import Derived.Test.YtfdikbbojddbmaaC6
import Derived.Laws.AppendOwn
import Derived.Laws.ResultCell
namespace Go.Proofs.Ytfdikbbojddbmaa
open Go.RowKit
attribute [local go_sem] cell_over frozen_over lt_over le_over ne_over over_ne cell_set_same softAt softUpon

/-- n ints from a on. -/
def Ints (w : World) (a : Option Addr) (n : Nat) (f : Nat → Int) : Prop := ∀ k, k < n → ∃ b o, a = some ⟨b, o, none⟩ ∧ w.cell? ⟨b, o + k, none⟩ = some (.int .i64 (f k))
/-- n acts from a on. -/
def Acts (w : World) (a : Option Addr) (n : Nat) (ks : Nat → Nat) (ns : Nat → Int) : Prop :=
  ∀ i, i < n → ∃ b o, a = some ⟨b, o, none⟩ ∧ w.cell? ⟨b, o + i * 2, none⟩ = some (.int .u8 (ks i)) ∧ w.cell? ⟨b, o + i * 2 + 1, none⟩ = some (.int .i64 (ns i))
theorem Ints.below {w w' : World} {a : Option Addr} {n : Nat} {f : Nat → Int} (h : Ints w a n f) (hb : Below w.heap.size w w') : Ints w' a n f :=
  fun k hk => let ⟨b, o, ha, hc⟩ := h k hk; ⟨b, o, ha, cell_below hb hc⟩
theorem Acts.below {w w' : World} {a : Option Addr} {n : Nat} {ks : Nat → Nat} {ns : Nat → Int} (h : Acts w a n ks ns) (hb : Below w.heap.size w w') : Acts w' a n ks ns :=
  fun k hk => let ⟨b, o, ha, h1, h2⟩ := h k hk; ⟨b, o, ha, cell_below hb h1, cell_below hb h2⟩

def runV (l : L4) (ks : Nat → Nat) (ns : Nat → Int) : Nat → L4
  | 0 => l
  | k + 1 => (oneV (runV l ks ns k) (ks k) (ns k)).1
def resV (l : L4) (ks : Nat → Nat) (ns : Nat → Int) (k : Nat) : Int := (oneV (runV l ks ns k) (ks k) (ns k)).2
def outs (f : Nat → Int) (n : Nat) : List Value := (List.range n).map fun i => .int .i64 (f i)
theorem outs_succ (f : Nat → Int) (n : Nat) : outs f (n + 1) = outs f n ++ [.int .i64 (f n)] := by
  simp [outs, List.range_succ]

theorem own_over {w : World} {base : Nat} {e : TypeId} {size : Nat} {v : Value} {n : Nat} {xs : List Value} (h : w.ownsRow base e size v n xs) (x : World) : (over w x).ownsRow base e size v n xs := by
  refine ⟨h.1, ?_⟩
  rcases h.2 with hn | ⟨g, cap, cur, hv, hb, hg, rest⟩
  · exact .inl hn
  · exact .inr ⟨g, cap, cur, hv, hb, blk_grow (over_below w x) hg, rest⟩

def led26 (l : L4) : Obj := .cells #[.int .i64 l.1, .int .i64 l.2.1, .int .i64 l.2.2.1, .int .i64 l.2.2.2] 26 (0, 0)

theorem info3 : (Try.prog.info? 3).map (fun i => (i.zero, i.size, i.bytes)) = some (some (.int .i64 0), 1, 8) := by kernel_rfl

/-- Two results, the first one a struct in memory. -/
theorem results_row_tmp {P : Program} {fn : Func} {p u : Tmp} {ty : TypeId} (h : fn.results = #[.cell p ty, .tmp u]) (tmps : Array Value) (w : World) (g : Nat) (t : TypeId) (cs : Array Value) (fr : Nat × Nat) (d : TypeDesc)
    (hp : tmps.getD p undef = .pointer (some ⟨g, 0, none⟩)) (hg : w.heap[g]? = some (.cells cs t fr))
    (hu : P.underlying ty = some d) (hd : (match d with | .struct _ | .array _ _ => true | _ => false) = true) (hi : (P.info? ty).map (·.size) = some cs.size) :
    (results fn tmps).run P w = .ok (.tuple #[.agg cs, tmps.getD u undef]) w := by
  rw [results_cell_tmp h, hp]
  simp [asAddr, run_loadVar_row w g t ty cs fr d hg hu hd hi]

/-- A goal at which the walk halts. -/
def Halted (p : Prop) : Prop := p
theorem unhalt {p : Prop} (h : Halted p) : p := h

set_option maxHeartbeats 2000000 in
theorem run_any (t0 t1 t2 t3 : Int) (a1 : Option Addr) (n c1 : Nat) (ks : Nat → Nat) (ns : Nat → Int) (w : World) (ha : Acts w a1 n ks ns) (hks : ∀ i, ks i ≤ 255) (hn : n ≤ 1000) :
    Calls Try.prog 9 #[.agg #[.int .i64 t0, .int .i64 t1, .int .i64 t2, .int .i64 t3], .slice a1 n c1] w fun e w' => ∃ v, e = .returned (.tuple #[.agg #[.int .i64 (runV (t0, t1, t2, t3) ks ns n).1, .int .i64 (runV (t0, t1, t2, t3) ks ns n).2.1, .int .i64 (runV (t0, t1, t2, t3) ks ns n).2.2.1, .int .i64 (runV (t0, t1, t2, t3) ks ns n).2.2.2], v]) ∧
      Below w.heap.size w w' ∧ w'.ownsRow (w.heap.size + 2) 3 1 v n (outs (resV (t0, t1, t2, t3) ks ns) n) := by
  have HA := Lib.hid ha
  have HK := Lib.hid hks
  clear ha hks
  obtain ⟨i0, hi, hz0, hz1, hz2⟩ := info_parts info3
  go_enter Try.func9, Try.ntmps9
  go_wp2
  go_loopw [6, 13] (fun v i wr => ∃ k : Nat, k ≤ n ∧ i = .int .i64 k ∧ Below w.heap.size w wr ∧ wr.heap[w.heap.size]? = some (led26 (runV (t0, t1, t2, t3) ks ns k)) ∧ wr.heap[w.heap.size + 1]? = some (led26 (0, 0, 0, 0)) ∧ wr.ownsRow (w.heap.size + 2) 3 1 v k (outs (resV (t0, t1, t2, t3) ks ns) k))
    (fun _ i _ => n - (intOf i).toNat)
  case atStart =>
    refine ⟨0, Nat.zero_le _, rfl, by go_grown, ?_, ?_, World.ownsRow_nil _ _ _ _⟩
    · exact blk_old (blk_new rfl)
    · exact blk_new (by simp)
  case round =>
    obtain ⟨k, hk, rfl, hb, hA, hB, hown⟩ := hrel
    by_cases hlt : k < n
    · obtain ⟨b, o, rfl, g1, g2⟩ := HA.out k hlt
      have q1 := cell_below hb g1
      have q2 := cell_below hb g2
      have hsz := blk_lt hB
      have S := one_any (runV (t0, t1, t2, t3) ks ns k).1 (runV (t0, t1, t2, t3) ks ns k).2.1 (runV (t0, t1, t2, t3) ks ns k).2.2.1 (runV (t0, t1, t2, t3) ks ns k).2.2.2 (ns k) (ks k) (HK.out k)
      have e1 : runV (t0, t1, t2, t3) ks ns (k + 1) = (oneV (runV (t0, t1, t2, t3) ks ns k) (ks k) (ns k)).1 := rfl
      have e2 : resV (t0, t1, t2, t3) ks ns k = (oneV (runV (t0, t1, t2, t3) ks ns k) (ks k) (ns k)).2 := rfl
      have S2 : ∀ w, Calls Try.prog 26 #[.agg #[.int .i64 (runV (t0, t1, t2, t3) ks ns k).1, .int .i64 (runV (t0, t1, t2, t3) ks ns k).2.1, .int .i64 (runV (t0, t1, t2, t3) ks ns k).2.2.1, .int .i64 (runV (t0, t1, t2, t3) ks ns k).2.2.2], .agg #[.int .u8 (ks k), .int .i64 (ns k)]] w fun e w' => e = .returned (.tuple #[.agg #[.int .i64 (runV (t0, t1, t2, t3) ks ns (k + 1)).1, .int .i64 (runV (t0, t1, t2, t3) ks ns (k + 1)).2.1, .int .i64 (runV (t0, t1, t2, t3) ks ns (k + 1)).2.2.1, .int .i64 (runV (t0, t1, t2, t3) ks ns (k + 1)).2.2.2], .int .i64 (resV (t0, t1, t2, t3) ks ns k)]) ∧ Below w.heap.size w w' := by
        rw [e1, e2]; exact S
      have HS := Lib.hid S2
      have hO0 := outs_succ (resV (t0, t1, t2, t3) ks ns) k
      generalize resV (t0, t1, t2, t3) ks ns k = r at *
      generalize hL1 : runV (t0, t1, t2, t3) ks ns (k + 1) = L' at *
      have HL := Lib.hid hL1
      generalize runV (t0, t1, t2, t3) ks ns k = L at *
      have HO := Lib.hid hO0
      clear S S2 e1 e2 g1 g2 hO0 hL1
      unfold led26 at hA hB
      have c0 := blk_cell hA 0
      have c1 := blk_cell hA 1
      have c2 := blk_cell hA 2
      have c3 := blk_cell hA 3
      have f0 := blk_free hA 0
      have f1 := blk_free hA 1
      have f2 := blk_free hA 2
      have f3 := blk_free hA 3
      simp only [List.getElem?_toArray, List.getElem?_cons_zero, List.getElem?_cons_succ] at c0 c1 c2 c3
      have k0 : (0 : Int) ≤ (k : Int) := by omega
      have k1 : (k : Int) < (n : Int) := by omega
      have l0 : w.heap.size < wr.heap.size := by omega
      have l1 : w.heap.size < wr.heap.size + 1 := by omega
      go_wp2_with (first | ((with_reducible refine (HS.out _).mono ?_); rintro e w1 ⟨rfl, hb1⟩; (first | obtain ⟨x1, rfl⟩ := as_over2 hb1 | obtain ⟨x1, rfl⟩ := as_over hb1); clear hb1) | (at_builtin; refine unhalt ?_))
      unfold Halted
      refine wpList_append_own _ rfl (.tmp 24) (.tmp 26) 32 rfl (w.heap.size + 2) 3 i0 (.int .i64 0) 1 8 Try.underlying32 hi hz0 hz1 hz2 rfl (by decide) u6 k _ rfl (?_ : World.ownsRow _ _ _ _ _ _ (outs (resV (t0, t1, t2, t3) ks ns) k)) _ 1 1 [.int .i64 r] rfl rfl ?_ ?_ ?_ ?_ ?_ ?_
      · exact World.ownsRow.alloc (World.ownsRow.alloc (ownsRow_setCell_below (ownsRow_setCell_below (ownsRow_setCell_below (ownsRow_setCell_below (own_over (hown.alloc _) _) (by simp) _) (by simp) _) (by simp) _) (by simp) _) _) _
      · intro j u hj
        have hj0 : j = 0 := by
          rcases j with _ | j
          · rfl
          · simp at hj
        subst hj0
        have hu : u = .int .i64 r := by simpa using hj.symm
        subst hu
        have := blk_cell (heap_alloc_new ((((((over (wr.alloc (Obj.cells #[Value.int IntKind.u8 (ks k), Value.int IntKind.i64 (ns k)] 64)) x1).setCell ⟨w.heap.size, 0, none⟩ (Value.int IntKind.i64 L'.1)).setCell ⟨w.heap.size, 1, none⟩ (Value.int IntKind.i64 L'.2.1)).setCell ⟨w.heap.size, 2, none⟩ (Value.int IntKind.i64 L'.2.2.1)).setCell ⟨w.heap.size, 3, none⟩ (Value.int IntKind.i64 L'.2.2.2)).alloc (Obj.cells #[Value.int IntKind.i64 L'.1, Value.int IntKind.i64 L'.2.1, Value.int IntKind.i64 L'.2.2.1, Value.int IntKind.i64 L'.2.2.2] 26)) (Obj.cells #[Value.int IntKind.i64 r] 3)) 0
        simpa [Addr.add] using this
      · intro u hu
        have hu : u = .int .i64 r := by simpa using hu
        subst hu
        rfl
      · unfold maxLen; omega
      · omega
      · have := size_over (wr.alloc (Obj.cells #[Value.int IntKind.u8 (ks k), Value.int IntKind.i64 (ns k)] 64)) x1
        simp at this ⊢
        omega
      · intro v' w' hown' hgrow _
        have hlt' := hown.lt
        have hW : Below w.heap.size w ((((((over (wr.alloc (Obj.cells #[Value.int IntKind.u8 (ks k), Value.int IntKind.i64 (ns k)] 64)) x1).setCell ⟨w.heap.size, 0, none⟩ (Value.int IntKind.i64 L'.1)).setCell ⟨w.heap.size, 1, none⟩ (Value.int IntKind.i64 L'.2.1)).setCell ⟨w.heap.size, 2, none⟩ (Value.int IntKind.i64 L'.2.2.1)).setCell ⟨w.heap.size, 3, none⟩ (Value.int IntKind.i64 L'.2.2.2)).alloc (Obj.cells #[Value.int IntKind.i64 L'.1, Value.int IntKind.i64 L'.2.1, Value.int IntKind.i64 L'.2.2.1, Value.int IntKind.i64 L'.2.2.2] 26)) :=
          bta (bst (bst (bst (bst (bov (bta hb _) _) (Nat.le_refl _) _) (Nat.le_refl _) _) (Nat.le_refl _) _) (Nat.le_refl _) _) _
        have hW := bta hW (Obj.cells #[Value.int IntKind.i64 r] 3)
        have h1 := blk_old (o := Obj.cells #[Value.int IntKind.i64 r] 3) (blk_old (o := Obj.cells #[Value.int IntKind.i64 L'.1, Value.int IntKind.i64 L'.2.1, Value.int IntKind.i64 L'.2.2.1, Value.int IntKind.i64 L'.2.2.2] 26) (blk_set (blk_set (blk_set (blk_set (blk_grow (over_below (wr.alloc (Obj.cells #[Value.int IntKind.u8 (ks k), Value.int IntKind.i64 (ns k)] 64)) x1) (blk_old hA)) 0 (Value.int IntKind.i64 L'.1)) 1 (Value.int IntKind.i64 L'.2.1)) 2 (Value.int IntKind.i64 L'.2.2.1)) 3 (Value.int IntKind.i64 L'.2.2.2)))
        have h2 : ((((((over (wr.alloc (Obj.cells #[Value.int IntKind.u8 (ks k), Value.int IntKind.i64 (ns k)] 64)) x1).setCell ⟨w.heap.size, 0, none⟩ (Value.int IntKind.i64 L'.1)).setCell ⟨w.heap.size, 1, none⟩ (Value.int IntKind.i64 L'.2.1)).setCell ⟨w.heap.size, 2, none⟩ (Value.int IntKind.i64 L'.2.2.1)).setCell ⟨w.heap.size, 3, none⟩ (Value.int IntKind.i64 L'.2.2.2)).heap[w.heap.size + 1]? = some (led26 (0, 0, 0, 0))) := by
          rw [blk_far (by simp), blk_far (by simp), blk_far (by simp), blk_far (by simp)]
          exact blk_grow (over_below _ _) (blk_old hB)
        have h2 := blk_old (o := Obj.cells #[Value.int IntKind.i64 r] 3) (blk_old (o := Obj.cells #[Value.int IntKind.i64 L'.1, Value.int IntKind.i64 L'.2.1, Value.int IntKind.i64 L'.2.2.1, Value.int IntKind.i64 L'.2.2.2] 26) h2)
        have hne : ∀ g, g < w.heap.size + 2 → some g ≠ u6.ownBlock := fun g hg hc => by
          have := (hlt' g hc.symm).1
          omega
        have hf := hgrow.block w.heap.size (blk_lt h1) (hne _ (by omega))
        have hf2 := hgrow.block (w.heap.size + 1) (blk_lt h2) (hne _ (by omega))
        rw [h1] at hf
        rw [h2] at hf2
        have hB' := hW.grown hgrow hW.size fun g hg => by
          have := (hlt' g hg).1
          omega
        clear h1 h2 hW hgrow hlt' hne hown c0 c1 c2 c3 f0 f1 f2 f3 q1 q2 hA hB hb
        go_wp2
        go_roundw
        case rel => exact ⟨k + 1, by omega, by go_num, hB', by rw [HL.out]; exact hf, hf2, by rw [HO.out]; exact hown'⟩
        case measure => simp [intOf]; omega
    · obtain rfl : k = n := by omega
      have hsz := blk_lt hB
      generalize hL1 : runV (t0, t1, t2, t3) ks ns k = L at *
      have HL := Lib.hid hL1
      clear hL1
      unfold led26 at hA hB
      have c0 := blk_cell hA 0
      have c1 := blk_cell hA 1
      have c2 := blk_cell hA 2
      have c3 := blk_cell hA 3
      have d0 := blk_cell hB 0
      have d1 := blk_cell hB 1
      have d2 := blk_cell hB 2
      have d3 := blk_cell hB 3
      have f0 := blk_free hB 0
      have f1 := blk_free hB 1
      have f2 := blk_free hB 2
      have f3 := blk_free hB 3
      simp only [List.getElem?_toArray, List.getElem?_cons_zero, List.getElem?_cons_succ] at c0 c1 c2 c3 d0 d1 d2 d3
      go_wp2
      refine bodyPost_ret (results_row_tmp Try.results9 _ _ (w.heap.size + 1) 26 _ _ _ rfl (blk_set (blk_set (blk_set (blk_set hB 0 _) 1 _) 2 _) 3 _) Try.underlying26 rfl (by kernel_rfl)) rfl ⟨u6, ?_, ?_, ?_⟩
      · rw [HL.out]
        rfl
      · exact bst (bst (bst (bst hb (by simp) _) (by simp) _) (by simp) _) (by simp) _
      · exact ownsRow_setCell_below (ownsRow_setCell_below (ownsRow_setCell_below (ownsRow_setCell_below hown (by simp) _) (by simp) _) (by simp) _) (by simp) _
end Go.Proofs.Ytfdikbbojddbmaa
