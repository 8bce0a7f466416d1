/- A law on regions that draw their order and whose calls stand in a chain: they may be walked in the order of the text, each call by whatever contract it has, if each keeps what the operations beside it read. Its conditions are the Bool chainOk and what each operation owes. -/
import Derived.Test.YtickfnedplbleaaS
namespace Go.Proofs.Ytickfnedplbleaa
open Go.RowKit

/-- An operation that gives v and leaves the world. -/
def lightUpon (w : World) (v : Value) : Result Next → Prop
  | .ok (.value u) w' => w' = w ∧ u = v
  | .ok .skip w' => w' = w ∧ v = undef
  | _ => False

/-- An operation that gives some value and some world, of which R holds. -/
def heavyUpon (P : Program) (R : Value → World → Prop) : Result Next → Prop
  | .ok (.value v) w' => R v w'
  | .ok .skip w' => R undef w'
  | .ok (.enter f args) w' => Calls P f args w' fun e w'' => ∃ v, e = .returned v ∧ R v w''
  | _ => False

theorem heavyUpon_mono {P : Program} {R R' : Value → World → Prop} {r : Result Next} (h : ∀ v w, R v w → R' v w) (hr : heavyUpon P R r) : heavyUpon P R' r := by
  cases r with
  | ok n w =>
    cases n <;> simp only [heavyUpon] at hr ⊢ <;> first | exact h _ _ hr | exact hr.mono fun e w' ⟨v, h1, h2⟩ => ⟨v, h1, h _ _ h2⟩
  | halt x w => exact hr

theorem heavyUpon_some {P : Program} {R : Value → World → Prop} {r : Result Next} (hr : heavyUpon P R r) : ∃ v w, R v w := by
  cases r with
  | ok n w =>
    cases n <;> simp only [heavyUpon] at hr <;> first | exact ⟨_, _, hr⟩ | (obtain ⟨_, w', _, ⟨v, _, h⟩, _⟩ := hr []; exact ⟨v, w', h⟩)
  | halt x w => exact hr.elim

theorem lightUpon_one {w : World} {v u : Value} {r : Result Next} (h : lightUpon w v r) (k : lightUpon w u r) : v = u := by
  cases r with
  | ok n w' =>
    cases n <;> simp only [lightUpon] at h k <;> first | exact h.2.symm.trans k.2 | exact h.2.trans k.2.symm
  | halt x w' => exact h.elim

section
variable (P : Program) (md : Region.Mode) (ops : Array Oper) (Keep : World → World → Prop) (w0 : World) (hs ls : List Nat)

def lightAt (o : Oper) (a : Act) (w : World) (v : Value) : Prop :=
  (Region.wanted o (yielded ops a.tmps) = true ∧ lightUpon w v ((execOp a.eval o).run P w)) ∨ (Region.wanted o (yielded ops a.tmps) = false ∧ v = undef)

def heavyAt (o : Oper) (a : Act) (w : World) (R : Value → World → Prop) : Prop :=
  (Region.wanted o (yielded ops a.tmps) = true ∧ heavyUpon P R ((execOp a.eval o).run P w)) ∨ (Region.wanted o (yielded ops a.tmps) = false ∧ R undef w)

/-- The worlds in which a light operation has to give its value: all that keep the first one's, or (the late ones) all that keep this one's. -/
def baseW (i : Nat) (w w' : World) : Prop := if ls.contains i then Keep w w' else Keep w0 w'

def chainOp (i : Nat) (K : Act → World → Prop) (a : Act) (w : World) : Prop := ∃ o, ops[i]? = some o ∧
  if hs.contains i then heavyAt P ops o a w (fun v w' => Keep w w' ∧ K (a.put o.dst v) w') else ∃ v, (∀ w', baseW Keep w0 ls i w w' → lightAt P ops o a w' v) ∧ K (a.put o.dst v) w

def chainAny (L : Act → World → Prop) : Nat → Array Bool → Act → World → Prop
  | 0, listed, a, w => Region.ready md ops listed = [] ∧ L a w
  | f + 1, listed, a, w => Region.ready md ops listed ≠ [] ∧ ∀ i ∈ Region.ready md ops listed, chainOp P ops Keep w0 hs ls i (chainAny L f (listed.setIfInBounds i true)) a w

def chainLex (L : Act → World → Prop) : List Oper → Nat → Act → World → Prop
  | [], _, a, w => L a w
  | o :: l, k, a, w => if hs.contains k then heavyAt P ops o a w (fun v w' => Keep w w' ∧ chainLex L l (k + 1) (a.put o.dst v) w') else ∃ v, (∀ w', baseW Keep w0 ls k w w' → lightAt P ops o a w' v) ∧ chainLex L l (k + 1) (a.put o.dst v) w

/-- All operations that come behind number k, told in one pass. -/
def marksAt (k : Nat) (m : Array Bool) (j : Nat) : Bool := match ops[j]? with
  | some o => o.after.any fun e => Region.binds md e && (e.on == k || m.getD e.on false)
  | none => false
def marks (k : Nat) : List Nat → Array Bool → Array Bool
  | [], m => m
  | j :: r, m => marks k r (if marksAt md ops k m j = true then m.setIfInBounds j true else m)

def marked (k : Nat) : Array Bool := marks md ops k (List.range ops.size) (Array.replicate ops.size false)

def heavyOk (listed : Array Bool) (k : Nat) (m : Array Bool) : Bool := (List.range ops.size).all fun j => j == k || listed.getD j true || m.getD j false || (!hs.contains j && !ls.contains j)

def chainGo : Nat → Nat → Array Bool → Bool
  | 0, _, listed => (Region.ready md ops listed).isEmpty
  | f + 1, k, listed => (Region.ready md ops listed).contains k && Region.free md ops listed k &&
      (!hs.contains k || heavyOk ops hs ls listed k (marked md ops k)) && chainGo f (k + 1) (listed.setIfInBounds k true)

def chainOk : Bool := Region.noSelect ops && chainGo md ops hs ls ops.size 0 (Array.replicate ops.size false)
end

section
variable {P : Program} {md : Region.Mode} {ops : Array Oper} {Keep : World → World → Prop} {w0 : World} {hs ls : List Nat}

/-- Operation j comes behind operation k. -/
inductive Behind (md : Region.Mode) (ops : Array Oper) (k : Nat) : Nat → Prop
  | here (j : Nat) (o : Oper) (e : Edge) (ho : ops[j]? = some o) (he : e ∈ o.after) (hb : Region.binds md e = true) (h : e.on = k) : Behind md ops k j
  | there (j : Nat) (o : Oper) (e : Edge) (ho : ops[j]? = some o) (he : e ∈ o.after) (hb : Region.binds md e = true) (h : Behind md ops k e.on) : Behind md ops k j

theorem Behind.listed {listed : Array Bool} (hz : Closed md ops listed) {k j : Nat} (h : Behind md ops k j) : (∀ o, ops[j]? = some o → ∀ e ∈ o.after, Region.binds md e = true → listed.getD e.on false = true) → listed.getD k false = true := by
  induction h with
  | here j o e ho he hb h => intro hp; rw [← h]; exact hp o ho e he hb
  | there j o e ho he hb h ih => intro hp; exact ih fun o' ho' e' he' hb' => hz e.on o' (hp o ho e he hb) ho' e' he' hb'

theorem marks_behind (k : Nat) : ∀ (r : List Nat) (m : Array Bool), (∀ j, m.getD j false = true → Behind md ops k j) → ∀ j, (marks md ops k r m).getD j false = true → Behind md ops k j
  | [], _, h => h
  | i :: r, m, h => by
    unfold marks
    refine marks_behind k r _ ?_
    intro j hj
    split at hj
    · rename_i hc
      by_cases hij : i = j
      · subst hij
        unfold marksAt at hc
        cases ho : ops[i]? with
        | none => rw [ho] at hc; cases hc
        | some o =>
          rw [ho] at hc
          obtain ⟨e, he, hb⟩ := Array.any_eq_true'.1 hc
          simp only [Bool.and_eq_true, Bool.or_eq_true, beq_iff_eq] at hb
          rcases hb.2 with h2 | h2
          · exact .here i o e ho he hb.1 h2
          · exact .there i o e ho he hb.1 (h _ h2)
      · rw [getD_set_ne false hij] at hj; exact h j hj
    · exact h j hj
theorem marked_behind {k j : Nat} (h : (marked md ops k).getD j false = true) : Behind md ops k j :=
  marks_behind k _ _ (fun j hj => by rw [getD_replicate_false] at hj; cases hj) j h

theorem lightAt_same {o : Oper} {v : Value} {a a' : Act} {w : World} (h : lightAt P ops o a w v) (he : execOp a'.eval o = execOp a.eval o)
    (hw : Region.wanted o (yielded ops a'.tmps) = Region.wanted o (yielded ops a.tmps)) : lightAt P ops o a' w v := by
  unfold lightAt at *
  rw [he, hw]
  exact h
theorem heavyAt_same {o : Oper} {R : Value → World → Prop} {a a' : Act} {w : World} (h : heavyAt P ops o a w R) (he : execOp a'.eval o = execOp a.eval o)
    (hw : Region.wanted o (yielded ops a'.tmps) = Region.wanted o (yielded ops a.tmps)) : heavyAt P ops o a' w R := by
  unfold heavyAt at *
  rw [he, hw]
  exact h
theorem heavyAt_mono {o : Oper} {R R' : Value → World → Prop} {a : Act} {w : World} (hk : ∀ v w, R v w → R' v w) (h : heavyAt P ops o a w R) : heavyAt P ops o a w R' :=
  h.imp (fun ⟨h1, h2⟩ => ⟨h1, heavyUpon_mono hk h2⟩) fun ⟨h1, h2⟩ => ⟨h1, hk _ _ h2⟩
theorem heavyAt_some {o : Oper} {R : Value → World → Prop} {a : Act} {w : World} (h : heavyAt P ops o a w R) : ∃ v w', R v w' :=
  h.elim (fun ⟨_, h2⟩ => heavyUpon_some h2) fun ⟨_, h2⟩ => ⟨_, _, h2⟩
theorem lightAt_one {o : Oper} {v u : Value} {a : Act} {w : World} (h : lightAt P ops o a w v) (k : lightAt P ops o a w u) : v = u := by
  rcases h with ⟨h1, h2⟩ | ⟨h1, h2⟩
  · rcases k with ⟨k1, k2⟩ | ⟨k1, k2⟩
    · exact lightUpon_one h2 k2
    · rw [h1] at k1; cases k1
  · rcases k with ⟨k1, k2⟩ | ⟨k1, k2⟩
    · rw [h1] at k1; cases k1
    · rw [h2, k2]

theorem chainOp_mono {i : Nat} {a : Act} {w : World} {K K' : Act → World → Prop} (hk : ∀ a w, K a w → K' a w) (h : chainOp P ops Keep w0 hs ls i K a w) : chainOp P ops Keep w0 hs ls i K' a w := by
  obtain ⟨o, ho, h⟩ := h
  refine ⟨o, ho, ?_⟩
  split at h
  · rename_i hc
    rw [if_pos hc]
    exact heavyAt_mono (fun v w' ⟨h1, h2⟩ => ⟨h1, hk _ _ h2⟩) h
  · rename_i hc
    rw [if_neg hc]
    obtain ⟨v, h1, h2⟩ := h
    exact ⟨v, h1, hk _ _ h2⟩

theorem baseW_mono (ht : ∀ a b c : World, Keep a b → Keep b c → Keep a c) {i : Nat} {w w1 w' : World} (hk : Keep w w1) (h : baseW Keep w0 ls i w1 w') : baseW Keep w0 ls i w w' := by
  unfold baseW at *
  split
  · rename_i hc; rw [if_pos hc] at h; exact ht _ _ _ hk h
  · rename_i hc; rw [if_neg hc] at h; exact h

/-- A light operation put off behind another one. -/
theorem chainOp_put (ht : ∀ a b c : World, Keep a b → Keep b c → Keep a c) (hr : ∀ a, Keep a a) {i j : Nat} {oi oj : Oper} {v : Value} (hj : ops[j]? = some oj) (hap : oi.apart ops oj = true)
    (hsi : ∀ cs b, oi.op ≠ .select cs b) (hsj : ∀ cs b, oj.op ≠ .select cs b) {K : Act → World → Prop} {a : Act} {w : World}
    (hy : ∀ w', baseW Keep w0 ls i w w' → lightAt P ops oi a w' v) (h : chainOp P ops Keep w0 hs ls j K (a.put oi.dst v) w) :
    chainOp P ops Keep w0 hs ls j (fun a' w1 => Keep w w1 ∧ (∀ w', baseW Keep w0 ls i w1 w' → lightAt P ops oi a' w' v) ∧ K (a'.put oi.dst v) w1) a w := by
  obtain ⟨h1, h2, h3⟩ := Oper.apart_spec hap
  obtain ⟨o, ho, hg⟩ := h
  obtain rfl : oj = o := Option.some.inj (hj.symm.trans ho)
  refine ⟨oj, hj, ?_⟩
  split at hg
  · rename_i hc
    rw [if_pos hc]
    refine heavyAt_mono ?_ (heavyAt_same hg (execOp_put oj hsj a oi.dst v h1).symm (wanted_put oj a oi.dst v h1).symm)
    intro u w1 ⟨hk, hK⟩
    refine ⟨hk, hk, fun w' hw' => lightAt_same (hy w' (baseW_mono ht hk hw')) (execOp_put oi hsi a oj.dst u h3) (wanted_put oi a oj.dst u h3), ?_⟩
    rw [← Act.put_comm a v u h2]
    exact hK
  · rename_i hc
    rw [if_neg hc]
    obtain ⟨u, hl, hK⟩ := hg
    refine ⟨u, fun w' hw' => lightAt_same (hl w' hw') (execOp_put oj hsj a oi.dst v h1).symm (wanted_put oj a oi.dst v h1).symm, hr w,
      fun w' hw' => lightAt_same (hy w' hw') (execOp_put oi hsi a oj.dst u h3) (wanted_put oi a oj.dst u h3), ?_⟩
    rw [← Act.put_comm a v u h2]
    exact hK

theorem chain_light (ht : ∀ a b c : World, Keep a b → Keep b c → Keep a c) (hr : ∀ a, Keep a a) (hns : Region.noSelect ops = true) {L : Act → World → Prop} {i : Nat} {oi : Oper} {v : Value} (hi : ops[i]? = some oi) (hnh : hs.contains i = false) :
    ∀ (f : Nat) (listed : Array Bool) (a : Act) (w : World),
      (∀ j oj, ops[j]? = some oj → j ≠ i → listed.getD j true = false → (∀ e ∈ oj.after, Region.binds md e = true → e.on ≠ i) → oi.apart ops oj = true) →
      i ∈ Region.ready md ops listed → (∀ w', baseW Keep w0 ls i w w' → lightAt P ops oi a w' v) →
      chainAny P md ops Keep w0 hs ls L f (listed.setIfInBounds i true) (a.put oi.dst v) w → chainAny P md ops Keep w0 hs ls L (f + 1) listed a w := by
  intro f
  induction f with
  | zero =>
    intro listed a w _ hr' hy H
    refine ⟨fun h => (by rw [h] at hr'; cases hr'), fun j hj => ?_⟩
    by_cases hji : j = i
    · subst hji
      exact ⟨oi, hi, by rw [hnh]; exact ⟨v, hy, H⟩⟩
    · have := ready_mono hj hji
      rw [H.1] at this
      cases this
  | succ f ih =>
    intro listed a w hfree hr' hy H
    have hun := unl (mem_ready.1 hr').1
    refine ⟨fun h => (by rw [h] at hr'; cases hr'), fun j hj => ?_⟩
    by_cases hji : j = i
    · subst hji
      exact ⟨oi, hi, by rw [hnh]; exact ⟨v, hy, H⟩⟩
    · have h1 := H.2 j (ready_mono hj hji)
      obtain ⟨hjun, oj, hoj, hall⟩ := mem_ready.1 hj
      have hnot : ∀ e ∈ oj.after, Region.binds md e = true → e.on ≠ i := fun e he hb heq => by
        have h2 := hall e he hb
        rw [heq, hun] at h2
        cases h2
      have h2 := chainOp_put ht hr (i := i) hoj (hfree j oj hoj hji hjun hnot) (fun cs b => Region.noSelect_spec hns i oi cs b hi) (fun cs b => Region.noSelect_spec hns j oj cs b hoj) hy h1
      refine chainOp_mono (fun a' w1 h3 => ih (listed.setIfInBounds j true) a' w1 ?_ (ready_mono hr' (Ne.symm hji)) h3.2.1 ?_) h2
      · intro k ok hk hki hku hno
        refine hfree k ok hk hki ?_ hno
        by_cases hjk : j = k
        · subst hjk; exact hjun
        · rw [getD_set_ne true hjk] at hku; exact hku
      · rw [Array.setIfInBounds_comm _ _ hji]
        exact h3.2.2

theorem chain_heavy (hns : Region.noSelect ops = true) {L : Act → World → Prop} {i : Nat} {oi : Oper} (hi : ops[i]? = some oi) (hh : hs.contains i = true) (hw0 : Keep w0 w0) :
    ∀ (f : Nat) (listed : Array Bool) (a : Act) (w : World), Closed md ops listed →
      (∀ j oj, ops[j]? = some oj → j ≠ i → listed.getD j true = false → (∀ e ∈ oj.after, Region.binds md e = true → e.on ≠ i) → oi.apart ops oj = true) →
      (∀ j, j < ops.size → j ≠ i → listed.getD j true = false → ¬ Behind md ops i j → hs.contains j = false ∧ ls.contains j = false) →
      i ∈ Region.ready md ops listed →
      heavyAt P ops oi a w (fun v w' => Keep w w' ∧ chainAny P md ops Keep w0 hs ls L f (listed.setIfInBounds i true) (a.put oi.dst v) w') → chainAny P md ops Keep w0 hs ls L (f + 1) listed a w := by
  intro f
  induction f with
  | zero =>
    intro listed a w _ _ _ hr' H
    refine ⟨fun h => (by rw [h] at hr'; cases hr'), fun j hj => ?_⟩
    by_cases hji : j = i
    · subst hji
      exact ⟨oi, hi, by rw [if_pos hh]; exact H⟩
    · obtain ⟨_, _, _, h2⟩ := heavyAt_some H
      have := ready_mono hj hji
      rw [h2.1] at this
      cases this
  | succ f ih =>
    intro listed a w hz hfree hearly hr' H
    have hun := unl (mem_ready.1 hr').1
    refine ⟨fun h => (by rw [h] at hr'; cases hr'), fun j hj => ?_⟩
    by_cases hji : j = i
    · subst hji
      exact ⟨oi, hi, by rw [if_pos hh]; exact H⟩
    · obtain ⟨hjun, oj, hoj, hall⟩ := mem_ready.1 hj
      have hnot : ∀ e ∈ oj.after, Region.binds md e = true → e.on ≠ i := fun e he hb heq => by
        have h2 := hall e he hb
        rw [heq, hun] at h2
        cases h2
      have hjs : j < ops.size := (Array.getElem?_eq_some_iff.1 hoj).1
      have hnb : ¬ Behind md ops i j := by
        intro hb
        have := hb.listed hz (fun o' ho' e he hbd => by
          obtain rfl : oj = o' := Option.some.inj (hoj.symm.trans ho')
          exact hall e he hbd)
        rw [hun] at this
        cases this
      obtain ⟨e1, e2⟩ := hearly j hjs hji hjun hnb
      have hap := hfree j oj hoj hji hjun hnot
      obtain ⟨h1, h2, h3⟩ := Oper.apart_spec hap
      have hsi : ∀ cs b, oi.op ≠ .select cs b := fun cs b => Region.noSelect_spec hns i oi cs b hi
      have hsj : ∀ cs b, oj.op ≠ .select cs b := fun cs b => Region.noSelect_spec hns j oj cs b hoj
      have base : ∀ w w', baseW Keep w0 ls j w w' = Keep w0 w' := fun w w' => by unfold baseW; rw [if_neg (by rw [e2]; decide)]
      have key : ∀ u w1, chainAny P md ops Keep w0 hs ls L (f + 1) (listed.setIfInBounds i true) (a.put oi.dst u) w1 → ∃ v, (∀ w', Keep w0 w' → lightAt P ops oj a w' v) ∧ chainAny P md ops Keep w0 hs ls L f ((listed.setIfInBounds i true).setIfInBounds j true) ((a.put oi.dst u).put oj.dst v) w1 := by
        intro u w1 hc
        obtain ⟨o, ho, hg⟩ := hc.2 j (ready_mono hj hji)
        obtain rfl : oj = o := Option.some.inj (hoj.symm.trans ho)
        rw [if_neg (by rw [e1]; decide)] at hg
        obtain ⟨v, hl, hK⟩ := hg
        exact ⟨v, fun w' hw' => lightAt_same (hl w' (by rw [base]; exact hw')) (execOp_put oj hsj a oi.dst u h1).symm (wanted_put oj a oi.dst u h1).symm, hK⟩
      obtain ⟨u0, w1, _, hc0⟩ := heavyAt_some H
      obtain ⟨v, hv, _⟩ := key u0 w1 hc0
      refine ⟨oj, hoj, ?_⟩
      rw [if_neg (by rw [e1]; decide)]
      refine ⟨v, fun w' hw' => hv w' (by rw [base] at hw'; exact hw'), ?_⟩
      refine ih (listed.setIfInBounds j true) (a.put oj.dst v) w (closed_set hz hj) ?_ ?_ (ready_mono hr' (Ne.symm hji)) ?_
      · intro k ok hk hki hku hno
        refine hfree k ok hk hki ?_ hno
        by_cases hjk : j = k
        · subst hjk; exact hjun
        · rw [getD_set_ne true hjk] at hku; exact hku
      · intro k hk hki hku hkb
        refine hearly k hk hki ?_ hkb
        by_cases hjk : j = k
        · subst hjk; exact hjun
        · rw [getD_set_ne true hjk] at hku; exact hku
      · refine heavyAt_mono ?_ (heavyAt_same H (execOp_put oi hsi a oj.dst v h3) (wanted_put oi a oj.dst v h3))
        intro u w2 ⟨hk, hc⟩
        refine ⟨hk, ?_⟩
        obtain ⟨v', hv', hc'⟩ := key u w2 hc
        obtain rfl : v = v' := lightAt_one (hv w0 hw0) (hv' w0 hw0)
        rw [Array.setIfInBounds_comm _ _ hji, ← Act.put_comm a u v h2]
        exact hc'

theorem chainAny_lex (ht : ∀ a b c : World, Keep a b → Keep b c → Keep a c) (hr : ∀ a, Keep a a) (hns : Region.noSelect ops = true) {L : Act → World → Prop} : ∀ (l : List Oper) (k : Nat) (listed : Array Bool) (a : Act) (w : World), (∀ j, j < l.length → l[j]? = ops[k + j]?) →
    chainGo md ops hs ls l.length k listed = true → Closed md ops listed → chainLex P ops Keep w0 hs ls L l k a w → chainAny P md ops Keep w0 hs ls L l.length listed a w
  | [], k, listed, a, w, _, hB, _, h => ⟨by simpa [chainGo] using hB, h⟩
  | o :: l, k, listed, a, w, hl, hB, hz, h => by
    have h0 : ops[k]? = some o := by simpa using (hl 0 (by simp)).symm
    simp only [List.length_cons, chainGo, Bool.and_eq_true] at hB
    obtain ⟨⟨⟨hrd, hf⟩, hhv⟩, hB'⟩ := hB
    have hl' : ∀ j, j < l.length → l[j]? = ops[k + 1 + j]? := fun j hj => by have := hl (j + 1) (by simp; omega); simpa [Nat.add_assoc, Nat.add_comm 1 j] using this
    have hrd' : k ∈ Region.ready md ops listed := by simpa using hrd
    have ih := fun a w => chainAny_lex ht hr hns (L := L) l (k + 1) (listed.setIfInBounds k true) a w hl' hB' (closed_set hz hrd')
    unfold chainLex at h
    split at h
    · rename_i hc
      refine chain_heavy hns h0 hc (hr _) l.length listed a w hz (Region.free_spec h0 hf) ?_ hrd' (heavyAt_mono (fun v w' ⟨h1, h2⟩ => ⟨h1, ih _ _ h2⟩) h)
      intro j hj hjk hju hjb
      simp only [hc, Bool.not_true, Bool.false_or] at hhv
      have hjm : (marked md ops k).getD j false = false := by
        cases hm : (marked md ops k).getD j false with
        | false => rfl
        | true => exact absurd (marked_behind hm) hjb
      have h1 := List.all_eq_true.1 hhv j (List.mem_range.2 hj)
      simp only [Bool.or_eq_true, beq_iff_eq, hjk, false_or, hju, Bool.false_eq_true, hjm, Bool.and_eq_true, Bool.not_eq_true'] at h1
      exact h1
    · rename_i hc
      obtain ⟨v, hv, hK⟩ := h
      exact chain_light ht hr hns h0 (by simpa using hc) l.length listed a w (Region.free_spec h0 hf) hrd' hv (ih _ _ hK)

theorem wpAny_of_chain (ht : ∀ a b c : World, Keep a b → Keep b c → Keep a c) (hr : ∀ a, Keep a a) {Q : Exit → Act → World → Prop} {L : Act → World → Prop} (hL : ∀ a w, L a w → Q .normal a w) :
    ∀ (f : Nat) (listed : Array Bool) (a : Act) (w : World), Keep w0 w → chainAny P md ops Keep w0 hs ls L f listed a w → wpAny P md ops Q f listed a w
  | 0, _, _, _, _, h => ⟨h.1, hL _ _ h.2⟩
  | f + 1, listed, a, w, hk, h => by
    refine ⟨fun h0 => absurd h0 h.1, fun i hi => ?_⟩
    obtain ⟨o, ho, hg⟩ := h.2 i hi
    unfold wpOp
    simp only [ho]
    split at hg
    · rcases hg with ⟨hw, hg⟩ | ⟨hw, hk1, hg⟩
      · rw [if_pos hw]
        refine .inl ?_
        unfold Oper.wp
        generalize (execOp a.eval o).run P w = r at *
        cases r with
        | ok n w' =>
          cases n <;> simp only [heavyUpon] at hg <;> simp only [Oper.upon] <;> first
            | exact wpAny_of_chain ht hr hL f _ _ _ (ht _ _ _ hk hg.1) hg.2
            | exact hg.mono (by rintro e w'' ⟨v, rfl, h1, h2⟩; exact wpAny_of_chain ht hr hL f _ _ _ (ht _ _ _ hk h1) h2)
        | halt x w' => exact hg.elim
      · rw [if_neg (by rw [hw]; decide)]
        exact wpAny_of_chain ht hr hL f _ _ _ hk hg
    · obtain ⟨v, hv, hK⟩ := hg
      have h1 := hv w (by unfold baseW; split; exact hr w; exact hk)
      rcases h1 with ⟨hw, hg⟩ | ⟨hw, rfl⟩
      · rw [if_pos hw]
        refine .inl ?_
        unfold Oper.wp
        generalize (execOp a.eval o).run P w = r at *
        cases r with
        | ok n w' =>
          cases n <;> simp only [lightUpon] at hg <;> simp only [Oper.upon] <;> first
            | (obtain ⟨rfl, rfl⟩ := hg; exact wpAny_of_chain ht hr hL f _ _ _ hk hK)
        | halt x w' => exact hg.elim
      · rw [if_neg (by rw [hw]; decide)]
        exact wpAny_of_chain ht hr hL f _ _ _ hk hK
end

/-- What an operation beside the calls may count on: all blocks that stood, but those of S. -/
structure Kept (S : List Nat) (w w' : World) : Prop where
  size : w.heap.size ≤ w'.heap.size
  block : ∀ b, b < w.heap.size → b ∉ S → w'.heap[b]? = w.heap[b]?

theorem Kept.refl (S : List Nat) (w : World) : Kept S w w := ⟨Nat.le_refl _, fun _ _ _ => rfl⟩
theorem Kept.trans {S : List Nat} {a b c : World} (h : Kept S a b) (k : Kept S b c) : Kept S a c :=
  ⟨Nat.le_trans h.size k.size, fun x hx hs => (k.block x (Nat.lt_of_lt_of_le hx h.size) hs).trans (h.block x hx hs)⟩
theorem Below.kept {w w' : World} (S : List Nat) (h : Below w.heap.size w w') : Kept S w w' := ⟨h.size, fun b hb _ => h.block b hb⟩

open Classical in
/-- Any world that keeps w's blocks. -/
noncomputable def kept (S : List Nat) (w x : World) : World := if Kept S w x then x else w
theorem kept_is (S : List Nat) (w x : World) : Kept S w (kept S w x) := by
  unfold kept
  split
  · assumption
  · exact Kept.refl S w
theorem kept_eq {S : List Nat} {w x : World} (h : Kept S w x) : kept S w x = x := by unfold kept; rw [if_pos h]
theorem blk_kept {S : List Nat} {w x : World} {b : Nat} {o : Obj} (h : w.heap[b]? = some o) (hs : b ∉ S) : (kept S w x).heap[b]? = some o := by
  rw [(kept_is S w x).block b (blk_lt' h) hs]; exact h
where blk_lt' {w : World} {b : Nat} {o : Obj} (h : w.heap[b]? = some o) : b < w.heap.size := (Array.getElem?_eq_some_iff.1 h).1
theorem cell_kept {S : List Nat} {w x : World} {b o : Nat} (h : b < w.heap.size) (hs : b ∉ S) : (kept S w x).cell? ⟨b, o, none⟩ = w.cell? ⟨b, o, none⟩ := by
  simp only [World.cell?, (kept_is S w x).block b h hs]
theorem frozen_kept {S : List Nat} {w x : World} {b o : Nat} (h : b < w.heap.size) (hs : b ∉ S) : (kept S w x).frozen? ⟨b, o, none⟩ = w.frozen? ⟨b, o, none⟩ := by
  simp only [World.frozen?, (kept_is S w x).block b h hs]

section
variable {P : Program} {ops : Array Oper} {S : List Nat} {w0 : World} {hs ls : List Nat}

theorem chain_now {L : Act → World → Prop} {o : Oper} {l : List Oper} {k : Nat} {a : Act} {w : World} (hf : hs.contains k = false) (hl : ls.contains k = false)
    (h : ∀ K : Act → World → Prop, (∀ a w, chainLex P ops (Kept S) w0 hs ls L l (k + 1) a w → K a w) → if Region.wanted o (yielded ops a.tmps) = true then ∃ v, (∀ x, lightUpon (kept S w0 x) v ((execOp a.eval o).run P (kept S w0 x))) ∧ K (a.put o.dst v) w else K (a.put o.dst undef) w) :
    chainLex P ops (Kept S) w0 hs ls L (o :: l) k a w := by
  unfold chainLex
  rw [if_neg (by rw [hf]; decide)]
  have h1 := h _ (fun _ _ h => h)
  split at h1
  · rename_i hw
    obtain ⟨v, hv, hk⟩ := h1
    refine ⟨v, fun w' hw' => .inl ⟨hw, ?_⟩, hk⟩
    unfold baseW at hw'
    rw [if_neg (by rw [hl]; decide)] at hw'
    have := hv w'
    rwa [kept_eq hw'] at this
  · rename_i hw
    exact ⟨undef, fun w' _ => .inr ⟨by simpa using hw, rfl⟩, h1⟩
theorem chain_late {L : Act → World → Prop} {o : Oper} {l : List Oper} {k : Nat} {a : Act} {w : World} (hf : hs.contains k = false) (hl : ls.contains k = true)
    (h : ∀ K : Act → World → Prop, (∀ a w, chainLex P ops (Kept S) w0 hs ls L l (k + 1) a w → K a w) → if Region.wanted o (yielded ops a.tmps) = true then ∃ v, (∀ x, lightUpon (kept S w x) v ((execOp a.eval o).run P (kept S w x))) ∧ K (a.put o.dst v) w else K (a.put o.dst undef) w) :
    chainLex P ops (Kept S) w0 hs ls L (o :: l) k a w := by
  unfold chainLex
  rw [if_neg (by rw [hf]; decide)]
  have h1 := h _ (fun _ _ h => h)
  split at h1
  · rename_i hw
    obtain ⟨v, hv, hk⟩ := h1
    refine ⟨v, fun w' hw' => .inl ⟨hw, ?_⟩, hk⟩
    unfold baseW at hw'
    rw [if_pos hl] at hw'
    have := hv w'
    rwa [kept_eq hw'] at this
  · rename_i hw
    exact ⟨undef, fun w' _ => .inr ⟨by simpa using hw, rfl⟩, h1⟩
theorem chain_do {L : Act → World → Prop} {o : Oper} {l : List Oper} {k : Nat} {a : Act} {w : World} (hf : hs.contains k = true)
    (h : ∀ K : Act → World → Prop, (∀ a w, chainLex P ops (Kept S) w0 hs ls L l (k + 1) a w → K a w) → if Region.wanted o (yielded ops a.tmps) = true then heavyUpon P (fun v w' => Kept S w w' ∧ K (a.put o.dst v) w') ((execOp a.eval o).run P w) else K (a.put o.dst undef) w) :
    chainLex P ops (Kept S) w0 hs ls L (o :: l) k a w := by
  unfold chainLex
  rw [if_pos hf]
  have h1 := h _ (fun _ _ h => h)
  split at h1
  · rename_i hw
    exact .inl ⟨hw, h1⟩
  · rename_i hw
    exact .inr ⟨by simpa using hw, Kept.refl S w, h1⟩
theorem chain_end {L : Act → World → Prop} {k : Nat} {a : Act} {w : World} (h : L a w) : chainLex P ops (Kept S) w0 hs ls L [] k a w := h
end

/-- The law: S the blocks that calls may turn, hs the calls, ls the operations that read what a call ahead of them made. -/
theorem wp_chain {P : Program} {id : Nat} {Q : Exit → Act → World → Prop} {a : Act} {w : World} {l : List Oper} (S hs ls : List Nat) (hm : P.follows .mixedOrders = true) (hok : chainOk .any l.toArray hs ls = true)
    (h : ∀ w0, Below w.heap.size w w0 → w0.heap = w.heap → chainLex P l.toArray (Kept S) w0 hs ls (Q .normal) l 0 a w0) :
    (Code.region id l.toArray true).wp P Q a w := by
  simp only [chainOk, Bool.and_eq_true] at hok
  refine wp_region_any hm ?_
  have h1 := h { w with drawn := w.drawn + 1 } ⟨rfl, rfl, rfl, Nat.le_refl _, fun _ _ => rfl⟩ rfl
  have h2 := chainAny_lex (Keep := Kept S) (fun _ _ _ h k => h.trans k) (Kept.refl S) hok.1 l 0 (Array.replicate l.toArray.size false) a _ (fun j _ => by simp) (by simpa using hok.2) (fun k _ hk => by rw [getD_replicate_false] at hk; cases hk) h1
  exact wpAny_of_chain (fun _ _ _ h k => h.trans k) (Kept.refl S) (fun _ _ h => h) l.length _ _ _ (Kept.refl S _) h2
end Go.Proofs.Ytickfnedplbleaa
