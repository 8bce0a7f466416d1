/- The contract of Due of a queue that is there. -/
import Derived.Test.YtickfnedplbleaaT13
import Derived.LoopTactic
namespace Go.Proofs.Ytickfnedplbleaa
open Go.RowKit
open Go.Maps (Keyed has size Tidy IsMap)
attribute [local go_sem] cell_over frozen_over lt_over le_over ne_over over_ne cell_set_same softAt softUpon lightUpon heavyUpon cell_kept frozen_kept

/-- An append whose run is known. -/
theorem wpList_append_is {P : Program} {ops : Array Oper} {rest : List Oper} {o : Oper} {a : Act} {Q : Exit → Act → World → Prop} {w : World} (hgd : o.guard = none) (s x : Operand) (t : TypeId)
    (ho : o.op = .call { callee := .builtin .append, args := #[s, x], argTypes := #[t, t] }) (v xv v' : Value) (w' : World) (hs : a.eval s = v) (hx : a.eval x = xv) (hrun : RowKit.Hid ((Builtin.append_ #[t, t] o.type #[v, xv]).run P w = .ok v' w'))
    (h : wpList P ops Q rest (a.put o.dst v') w') : wpList P ops Q (o :: rest) a w := by
  refine wpList_plain hgd fun K hK => ?_
  have hrun := hrun.out
  unfold Oper.wp execOp
  simp only [ho, resolve, invoke, builtin, Sem.run_bind, Sem.run_pure, Result.andThen_ok, List.map_toArray, List.map_cons, List.map_nil, hs, hx, hrun]
  exact hK _ _ h

theorem q_other {w w' : World} {B pq pm : Nat} {v : Value} {l : List It} {r : Option Nat} (h : QIs w B pq pm v l) (hg : w.grownBy w' r) (h1 : r ≠ some pq) (h2 : r ≠ some pm) (h3 : v.ownBlock = none ∨ v.ownBlock ≠ r) : QIs w' B pq pm v l := by
  obtain ⟨D, hM, hP⟩ := h.places
  exact ⟨(hg.block pq h.ltq (fun e => h1 e.symm)).trans h.blk, h.row.kept hg h3, ⟨D, hM.same (hg.block pm hM.lt (fun e => h2 e.symm)), hP⟩, h.good, h.ids, h.len, h.lowq, h.lowm⟩
theorem step_fresh {w w1 w2 : World} {pq pm : Nat} {v v1 : Value} {r : Option Nat} (h : Step w w1 pq pm v v1) (hg : w1.grownBy w2 r) (hr : ∀ k, r = some k → w.heap.size ≤ k) : Step w w2 pq pm v v1 :=
  ⟨hg.os.trans h.os, hg.tape.trans h.tape, hg.output.trans h.output, Nat.le_trans h.size hg.size, fun b hb h1 h2 h3 => (hg.block b (Nat.lt_of_lt_of_le hb h.size) (fun e => by have := hr b e.symm; omega)).trans (h.block b hb h1 h2 h3), h.own⟩

/-- A row's block is none of the queue's. -/
def Aloof (o : Value) (pq pm : Nat) (v : Value) : Prop := ∀ k, o.ownBlock = some k → k ≠ pq ∧ k ≠ pm ∧ v.ownBlock ≠ some k
/-- A row of items of a call's own. -/
def Items (w : World) (B : Nat) (o : Value) (l : List It) : Prop := w.ownsRow B 43 2 o l.length (itvs l)
theorem items_step {w w' : World} {B pq pm : Nat} {o v v' : Value} {l : List It} (h : Items w B o l) (ha : Aloof o pq pm v) (hs : Step w w' pq pm v v') : Items w' B o l ∧ Aloof o pq pm v' := by
  obtain ⟨h1, h2⟩ := h
  refine ⟨⟨h1, h2.imp id ?_⟩, fun k hk => ?_⟩
  · rintro ⟨g, cap, cur, e, hg, hh, rest⟩
    obtain ⟨a1, a2, a3⟩ := ha g (by rw [e]; rfl)
    exact ⟨g, cap, cur, e, hg, (hs.block g (blk_lt hh) a1 a2 a3).trans hh, rest⟩
  · obtain ⟨a1, a2, a3⟩ := ha k hk
    refine ⟨a1, a2, fun e => ?_⟩
    rcases hs.own k e with h | h
    · exact a3 h
    · have := (World.ownsRow.lt ⟨h1, h2⟩ k hk).2
      omega

/-- What Due tells, and leaves. -/
def DueIs (w : World) (B pq pm : Nat) (v : Value) (l : List It) (now : Int) (e : Ending) (w' : World) : Prop :=
  ∃ o out v' l', e = .returned o ∧ Step w w' pq pm v v' ∧ HIs w' B pq pm v' l' ∧ Items w' w.heap.size o out ∧ Aloof o pq pm v' ∧ (out ++ l').Perm l ∧ out.Pairwise ltI ∧ (∀ x ∈ out, x.1 ≤ now) ∧ (∀ x ∈ l', now < x.1)
/-- .. under way. -/
def Duing (w : World) (B pq pm : Nat) (v : Value) (l : List It) (now : Int) (o : Value) (wr : World) : Prop :=
  ∃ out v' l', Step w wr pq pm v v' ∧ HIs wr B pq pm v' l' ∧ Items wr w.heap.size o out ∧ Aloof o pq pm v' ∧ (out ++ l').Perm l ∧ out.Pairwise ltI ∧ (∀ x ∈ out, x.1 ≤ now) ∧ (∀ a ∈ out, ∀ b ∈ l', ltI a b)
def lenV : Value → Nat
  | .slice _ n _ => n
  | _ => 0
theorem lt_total {a b : It} (h : ¬ ltI b a) (hne : b.2 ≠ a.2) : ltI a b := by unfold ltI at *; omega
theorem items_slice {w : World} {B : Nat} {o : Value} {l : List It} (h : Items w B o l) : ∃ a c, o = .slice a l.length c := by
  rcases h.2 with ⟨h1, h2⟩ | ⟨g, cap, cur, h1, _⟩
  · exact ⟨none, 0, by rw [h1, h2]⟩
  · exact ⟨_, _, h1⟩

set_option maxRecDepth 100000 in
set_option maxHeartbeats 4000000 in
theorem due_any {w : World} {B pq pm : Nat} {v : Value} {l : List It} (h : HIs w B pq pm v l) (now : Int) : Calls Try.prog 11 #[.pointer (some ⟨pq, 0, none⟩), .int .i64 now] w (DueIs w B pq pm v l now) := by
  have HH := Lib.hid h
  clear h
  go_enter Try.func11, Try.ntmps11
  go_wp2
  go_loopw [5] (fun o wr => Duing w B pq pm v l now o wr) (fun o _ => 64 - lenV o)
  case atStart => exact ⟨[], v, l, Step.refl _ _ _ _, HH.out, World.ownsRow_nil _ _ _ _, fun k hk => (by cases hk), List.Perm.refl _, List.Pairwise.nil, fun x hx => (by simp at hx), fun a ha => (by simp at ha)⟩
  case round =>
    obtain ⟨out, v', l', S1, Q1, I1, A1, P1, T1, N1, O1⟩ := hrel
    obtain ⟨oa, oc, ho⟩ := items_slice I1
    have hids : ((out ++ l').map (·.2)).Nodup := (P1.map (·.2)).nodup_iff.2 HH.out.1.ids
    have hll := HH.out.1.len
    have hlen := P1.length_eq
    rw [List.length_append] at hlen
    cases hc : l' with
    | nil =>
      subst hc
      have HN := Lib.hid (next_none Q1)
      have HF := Lib.hid (fun W (hb : Below wr.heap.size wr W) => (show DueIs w B pq pm v l now (.returned (.slice oa out.length oc)) W from ⟨.slice oa out.length oc, out, v', [], rfl, S1.grow hb, ⟨Q1.1.grow hb, Q1.2⟩, by rw [← ho]; exact own_below I1 hb, by rw [← ho]; exact A1, P1, T1, N1, fun x hx => (by simp at hx)⟩))
      clear S1 Q1 I1 A1 P1 T1 N1 O1
      subst ho
      go_wp2_with (first | ((with_reducible refine (HN.out).mono ?_); rintro e w2 ⟨rfl, hb⟩; have B2 := Lib.hid hb; clear hb))
      go_returns
      exact HF.out _ (bta B2.out _)
    | cons x r =>
      subst hc
      have hfirst := heap_first Q1.2
      have hxa : itAt (x :: r) 0 = x := rfl
      rw [hxa] at hfirst
      have HN := Lib.hid (next_some Q1 x rfl)
      by_cases hx : now < x.1
      · have hall : ∀ z ∈ x :: r, now < z.1 := fun z hz => by
          obtain ⟨j, hj⟩ := List.getElem?_of_mem hz
          have h1 := hfirst j (List.getElem?_eq_some_iff.1 hj).1
          rw [itAt_of hj] at h1
          unfold ltI at h1
          omega
        have HF := Lib.hid (fun W (hb : Below wr.heap.size wr W) => (show DueIs w B pq pm v l now (.returned (.slice oa out.length oc)) W from ⟨.slice oa out.length oc, out, v', x :: r, rfl, S1.grow hb, ⟨Q1.1.grow hb, Q1.2⟩, by rw [← ho]; exact own_below I1 hb, by rw [← ho]; exact A1, P1, T1, N1, hall⟩))
        clear S1 Q1 I1 A1 P1 T1 N1 O1 hfirst hall hxa
        subst ho
        go_wp2_with (first | ((with_reducible refine (HN.out).mono ?_); rintro e w2 ⟨rfl, hb⟩; have B2 := Lib.hid hb; clear hb))
        go_returns
        exact HF.out _ (bta B2.out _)
      · have hx1 : x.1 ≤ now := by omega
        have PO := fun W (hb : Below wr.heap.size wr W) => hpop_any (show HIs W B pq pm v' (x :: r) from ⟨Q1.1.grow hb, Q1.2⟩) r.length (by simp) x rfl
        have HPO := Lib.hid PO
        have HS1 := Lib.hid S1
        have HQ1 := Lib.hid Q1
        have HI1 := Lib.hid I1
        have HA1 := Lib.hid A1
        have HP1 := Lib.hid P1
        have HT1 := Lib.hid T1
        have HN1 := Lib.hid N1
        have HO1 := Lib.hid O1
        have HFI := Lib.hid hfirst
        have HOO := Lib.hid ho
        clear S1 Q1 I1 A1 P1 T1 N1 O1 hfirst PO hxa
        subst ho
        go_wp2_with (first
          | ((with_reducible refine (HN.out).mono ?_); rintro e w2 ⟨rfl, hb⟩; have B2 := Lib.hid hb; clear hb)
          | ((with_reducible refine (HPO.out _ ?hb).mono ?_); (case hb => exact bta B2.out _); refine unhalt ?_))
        unfold Halted
        rintro e w4 ⟨rfl, v2, l2, S4, Q4, P4⟩
        obtain ⟨pt, hpt⟩ : ∃ pt, pt = w2.heap.size := ⟨_, rfl⟩
        have HPT := Lib.hid hpt
        have t3 := blk_new (o := .cells #[.int .i64 x.1, .int .i64 x.2] 43 (0, 0)) hpt
        rw [← hpt]
        obtain ⟨W3, hW3⟩ : ∃ W3, W3 = w2.alloc (.cells #[.int .i64 x.1, .int .i64 x.2] 43) := ⟨_, rfl⟩
        rw [← hW3] at S4 t3
        have B3 : Below wr.heap.size wr W3 := by rw [hW3]; exact bta B2.out _
        have hsz := B2.out.size
        have hql := HQ1.out.1.ltq
        have hml := HQ1.out.1.ltm
        have t4 : w4.heap[pt]? = some (.cells #[.int .i64 x.1, .int .i64 x.2] 43 (0, 0)) := (S4.block pt (blk_lt t3) (by omega) (by omega) (fun e => by have := (HQ1.out.1.lowv pt e).2; omega)).trans t3
        have I3 : Items W3 w.heap.size (.slice oa out.length oc) out := own_below HI1.out B3
        obtain ⟨I4, A4⟩ := items_step I3 HA1.out S4
        have SW4 := (HS1.out.grow B3).trans S4
        have hlen3 : out.length < 64 := by
          simp only [List.length_cons] at hlen
          omega
        have hlen2 : out.length ≤ 64 := by omega
        have hown5 : (w4.alloc (.cells #[.int .i64 x.1, .int .i64 x.2] 43)).ownsRow w.heap.size 43 2 (.slice oa out.length oc) out.length (itvs out) := World.ownsRow.alloc I4 _
        have hnew : ∀ j u, (itvs [x])[j]? = some u → (w4.alloc (.cells #[.int .i64 x.1, .int .i64 x.2] 43)).cell? ((⟨w4.heap.size, 0, none⟩ : Addr).add j) = some u := fun j u hj => by
          have e : (⟨w4.heap.size, 0, none⟩ : Addr).add j = ⟨w4.heap.size, j, none⟩ := by unfold Addr.add; split <;> simp_all
          rw [e, blk_cell (heap_alloc_new w4 _)]
          simpa [itvs, itv] using hj
        obtain ⟨i0, hi, hz, hsz2, hbz⟩ := info_parts info43
        have hws := SW4.size
        obtain ⟨o2, w6, E6, R6, G6, _⟩ := run_append_own (P := Try.prog) (w4.alloc (.cells #[.int .i64 x.1, .int .i64 x.2] 43)) w.heap.size 32 32 43 i0 _ 2 16 Try.underlying32 hi hz hsz2 hbz rfl (by decide) (.slice oa out.length oc) out.length (itvs out)
          hown5 ⟨w4.heap.size, 0, none⟩ 1 1 (itvs [x]) rfl hnew (itvs_oneCell _) (by unfold maxLen; omega) (by omega) (by simp; omega)
        have hwh := append_where hown5 rfl hnew (itvs_oneCell _) (by omega) (by omega) E6
        have hall : (out ++ [x]).length = out.length + 1 := by simp
        have I6 : Items w6 w.heap.size o2 (out ++ [x]) := by
          unfold Items
          rw [hall, itvs_app]
          exact R6
        obtain ⟨oa2, oc2, ho2⟩ := items_slice I6
        rw [hall] at ho2
        have hq4 := Q4.1.ltq
        have hm4 := Q4.1.ltm
        have A6 : Aloof o2 pq pm v2 := fun k hk => by
          rcases hwh k hk with h | h
          · exact A4 k h
          · have h : w4.heap.size + 1 ≤ k := by simpa using h
            refine ⟨by omega, by omega, fun e => ?_⟩
            have := (Q4.1.lowv k e).2
            omega
        have hne1 : (Value.slice oa out.length oc).ownBlock ≠ some pq := fun e => (A4 pq e).1 rfl
        have hne2 : (Value.slice oa out.length oc).ownBlock ≠ some pm := fun e => (A4 pm e).2.1 rfl
        have Q6 : HIs w6 B pq pm v2 l2 := by
          refine ⟨q_other (Q4.1.grow (bta (Below.refl _ _) _)) G6 hne1 hne2 ?_, Q4.2⟩
          cases hv : v2.ownBlock with
          | none => exact .inl rfl
          | some k => exact .inr fun e => (A4 k e.symm).2.2 hv
        have S6 : Step w w6 pq pm v v2 := step_fresh (SW4.grow (bta (Below.refl _ _) _)) G6 fun k hk => (World.ownsRow.lt I4 k hk).1
        have P5 : l2.Perm r := (List.perm_cons x).1 P4
        have HFIN := Lib.hid (show Duing w B pq pm v l now (.slice oa2 (out.length + 1) oc2) w6 from by
          rw [← ho2]
          refine ⟨out ++ [x], v2, l2, S6, Q6, I6, A6, ?_, ?_, ?_, ?_⟩
          · rw [List.append_assoc]
            exact (List.Perm.append_left out P4).trans HP1.out
          · refine List.pairwise_append.2 ⟨HT1.out, List.pairwise_singleton _ _, fun a ha b hb => ?_⟩
            simp at hb
            subst hb
            exact HO1.out a ha b (by simp)
          · intro z hz
            rcases List.mem_append.1 hz with hz | hz
            · exact HN1.out z hz
            · simp at hz
              subst hz
              exact hx1
          · intro a ha b hb
            have hbr := P5.mem_iff.1 hb
            rcases List.mem_append.1 ha with ha | ha
            · exact HO1.out a ha b (by simp [hbr])
            · simp at ha
              subst ha
              have hbr2 : b ∈ a :: r := by simp [hbr]
              obtain ⟨j, hj⟩ := List.getElem?_of_mem hbr2
              have h1 := HFI.out j (List.getElem?_eq_some_iff.1 hj).1
              rw [itAt_of hj] at h1
              refine lt_total h1 fun e => ?_
              rw [List.map_append, List.nodup_append] at hids
              have h2 := hids.2.1
              simp only [List.map_cons, List.nodup_cons] at h2
              exact h2.1 (by rw [← e]; exact List.mem_map.2 ⟨b, hbr, rfl⟩))
        subst ho2
        have HE6 := Lib.hid E6
        have d1 : w4.cell? ⟨pt, 0, none⟩ = some (.int .i64 x.1) := blk_cell t4 0
        have d2 : w4.cell? ⟨pt, 1, none⟩ = some (.int .i64 x.2) := blk_cell t4 1
        clear S4 Q4 P4 hpt t3 hW3 B3 t4 I3 I4 A4 SW4 hown5 hnew hi hz hsz2 hbz E6 R6 G6 hwh hall I6 A6 Q6 S6 P5 hne1 hne2 hids
        dsimp only
        go_wp2_with (at_builtin; refine unhalt ?_)
        unfold Halted
        refine wpList_append_is rfl (.tmp 27) (.tmp 29) 32 rfl _ _ (.slice oa2 (out.length + 1) oc2) w6 rfl rfl HE6 ?_
        go_wp2
        go_roundw
        case rel => exact HFIN.out
        case measure => simp [lenV]; omega
end Go.Proofs.Ytickfnedplbleaa
