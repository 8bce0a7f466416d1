/- A law on regions that draw their order: operations that read, calls that touch no memory which stood before, and new blocks may be walked once, in the order of the text, whatever order the tape picks; what waits for all of them comes behind. Its conditions are the Bools softOk and what each operation owes. -/
import Derived.Below
import Derived.Orders
import Derived.Still
import Derived.StillTail
namespace Go.Proofs.Ytickfnedplbleaa
open Go.RowKit

/-- An operation of a region that makes one new block: its place, the slot that it writes, what it writes there of the block's number, and the block. -/
structure Fresh where
  place : Nat
  dst : Tmp
  ptr : Nat → Value
  obj : Obj
  store : Option Nat := none
  full : Obj := obj

/-- What the block holds, as far as the store into it has been. -/
def Fresh.now (x : Fresh) (listed : Array Bool) : Obj := match x.store with
  | some s => if listed.getD s false = true then x.full else x.obj
  | none => x.obj
def Fresh.last (x : Fresh) : Obj := match x.store with
  | some _ => x.full
  | none => x.obj

/-- w2 is w, but that block b holds o. -/
structure Turned (w w2 : World) (b : Nat) (o : Obj) : Prop where
  os : w2.os = w.os
  tape : w2.tape = w.tape
  output : w2.output = w.output
  size : w2.heap.size = w.heap.size
  other : ∀ k, k ≠ b → w2.heap[k]? = w.heap[k]?
  here : w2.heap[b]? = some o

def isFill (As : List Fresh) (i : Nat) : Bool := As.any fun x => x.store == some i

def isFresh (As : List Fresh) (i : Nat) : Bool := As.any fun x => x.place == i

def softUpon (P : Program) (w : World) (v : Value) : Result Next → Prop
  | .ok (.value u) w' => w' = w ∧ u = v
  | .ok .skip w' => w' = w ∧ v = undef
  | .ok (.enter f args) w' => w' = w ∧ Calls P f args w (fun e w'' => e = .returned v ∧ Below w.heap.size w w'')
  | _ => False

def softAt (P : Program) (o : Oper) (a : Act) (w : World) (v : Value) : Prop := softUpon P w v ((execOp a.eval o).run P w)

section
variable (P : Program) (md : Region.Mode) (ops : Array Oper) (C : World → Prop) (As : List Fresh) (n : Nat)

/-- What operation number i does in state a. -/
def softGives (i : Nat) (o : Oper) (v : Value) (a : Act) : Prop :=
  if isFresh As i then v = undef ∧ o.guard = none ∧ ∀ x ∈ As, x.place = i → o.dst = some x.dst ∧ ∀ w, C w → (execOp a.eval o).run P w = .ok (.value (x.ptr w.heap.size)) (w.alloc x.obj)
  else if isFill As i then v = undef ∧ o.guard = none ∧ o.dst = none ∧ ∀ x ∈ As, x.store = some i → ∀ w b, C w → w.heap[b]? = some x.obj → ∃ w2, (execOp (a.put (some x.dst) (x.ptr b)).eval o).run P w = .ok .skip w2 ∧ Turned w w2 b x.full
  else (Region.wanted o (yielded ops a.tmps) = true ∧ ∀ w, C w → softAt P o a w v) ∨ (Region.wanted o (yielded ops a.tmps) = false ∧ v = undef)

def softOp (i : Nat) (K : Act → Prop) (a : Act) : Prop := ∃ o v, ops[i]? = some o ∧ softGives P ops C As i o v a ∧ K (a.put o.dst v)

/-- Whatever order is picked among the first n. -/
def softAny (L : Act → Prop) : Nat → Array Bool → Act → Prop
  | 0, listed, a => (∀ j ∈ Region.ready md ops listed, n ≤ j) ∧ L a
  | f + 1, listed, a => Region.ready md ops listed ≠ [] ∧ ∀ i ∈ Region.ready md ops listed, i < n ∧ softOp P ops C As i (softAny L f (listed.setIfInBounds i true)) a

/-- The order of the text. -/
def softLex (L : Act → Prop) : List Oper → Nat → Act → Prop
  | [], _, a => L a
  | o :: l, k, a => ∃ v, softGives P ops C As k o v a ∧ softLex L l (k + 1) (a.put o.dst v)

def lexOk : Nat → Nat → Array Bool → Bool
  | 0, _, listed => (Region.ready md ops listed).all fun j => decide (n ≤ j)
  | f + 1, k, listed => (Region.ready md ops listed).contains k && Region.free md ops listed k && lexOk f (k + 1) (listed.setIfInBounds k true)

/-- Does operation t come behind operation i, in at most so many steps? -/
def behind : Nat → Nat → Nat → Bool
  | 0, _, _ => false
  | f + 1, t, i => match ops[t]? with
    | some o => o.after.any fun e => Region.binds md e && (e.on == i || behind f e.on i)
    | none => false

def tailOk : Bool := (List.range ops.size).all fun t => decide (t < n) || (List.range n).all fun i => behind md ops 12 t i

def freshOk : Bool := As.all fun x => decide (x.place < n) && (match ops[x.place]? with
  | some oi => oi.dst == some x.dst && (List.range n).all fun j => j == x.place || some j == x.store || (match ops[j]? with
    | some oj => oi.apart ops oj
    | none => false)
  | none => false)

def fillOk : Bool := As.all fun x => match x.store with
  | some s => decide (s < n) && !isFresh As s && (As.all fun y => y.place == x.place || y.store != some s) && (match ops[s]? with
    | some o => o.after.any fun e => Region.binds md e && e.on == x.place
    | none => false)
  | none => true

def softOk : Bool := fillOk md ops As n && Region.noSelect ops && decide (n < ops.size + 1) && tailOk md ops n && freshOk ops As n && decide ((As.map (·.place)).Nodup) && lexOk md ops n n 0 (Array.replicate ops.size false)
end

section
variable {P : Program} {md : Region.Mode} {ops : Array Oper} {C : World → Prop} {As : List Fresh} {n : Nat}

theorem softGives_same {i : Nat} {o : Oper} {v : Value} {a a' : Act} (h : softGives P ops C As i o v a) (he : execOp a'.eval o = execOp a.eval o)
    (hf : ∀ d u, execOp (a'.put d u).eval o = execOp (a.put d u).eval o)
    (hw : Region.wanted o (yielded ops a'.tmps) = Region.wanted o (yielded ops a.tmps)) : softGives P ops C As i o v a' := by
  unfold softGives softAt at *
  simp only [hf]
  rw [he, hw]
  exact h

/-- A slot that o doesn't look at makes no difference to it, whatever slot is written behind it. -/
theorem execOp_put_put (o : Oper) (hs : ∀ cs b, o.op ≠ .select cs b) (a : Act) (dst d : Option Tmp) (v u : Value) (h : ∀ e, dst = some e → e ∉ o.looksAt ops) :
    execOp ((a.put dst v).put d u).eval o = execOp (a.put d u).eval o := by
  cases dst with
  | none => rfl
  | some e =>
    by_cases hd : d = some e
    · subst hd
      congr 2
      simp [Act.put]
    · rw [Act.put_comm a v u (fun x hx hc => hd (by rw [hc, ← hx]))]
      exact execOp_put o hs (a.put d u) (some e) v h

theorem softOp_mono {i : Nat} {a : Act} {K K' : Act → Prop} (hk : ∀ a, K a → K' a) (h : softOp P ops C As i K a) : softOp P ops C As i K' a :=
  let ⟨o, v, h1, h2, h3⟩ := h
  ⟨o, v, h1, h2, hk _ h3⟩

theorem softOp_put {i j : Nat} {oi oj : Oper} {v : Value} (hj : ops[j]? = some oj) (hap : oi.apart ops oj = true)
    (hsi : ∀ cs b, oi.op ≠ .select cs b) (hsj : ∀ cs b, oj.op ≠ .select cs b) {K : Act → Prop} {a : Act}
    (hy : softGives P ops C As i oi v a) (h : softOp P ops C As j K (a.put oi.dst v)) :
    softOp P ops C As j (fun a' => softGives P ops C As i oi v a' ∧ K (a'.put oi.dst v)) a := by
  obtain ⟨h1, h2, h3⟩ := Oper.apart_spec hap
  obtain ⟨o, u, ho, hg, hk⟩ := h
  obtain rfl : oj = o := Option.some.inj (hj.symm.trans ho)
  refine ⟨oj, u, hj, softGives_same hg (execOp_put oj hsj a oi.dst v h1).symm (fun d x => (execOp_put_put oj hsj a oi.dst d v x h1).symm) (wanted_put oj a oi.dst v h1).symm,
    softGives_same hy (execOp_put oi hsi a oj.dst u h3) (fun d x => execOp_put_put oi hsi a oj.dst d u x h3) (wanted_put oi a oj.dst u h3), ?_⟩
  rw [← Act.put_comm a v u h2]
  exact hk

/-- What has been listed has what it needs listed. -/
def Closed (md : Region.Mode) (ops : Array Oper) (listed : Array Bool) : Prop := ∀ k o, listed.getD k false = true → ops[k]? = some o → ∀ e ∈ o.after, Region.binds md e = true → listed.getD e.on false = true

theorem closed_set {listed : Array Bool} (hz : Closed md ops listed) {i : Nat} (hr : i ∈ Region.ready md ops listed) : Closed md ops (listed.setIfInBounds i true) := by
  obtain ⟨_, o, hop, hedges⟩ := mem_ready.1 hr
  intro k ok hk hok e he hb
  by_cases hki : i = k
  · subst hki
    obtain rfl : o = ok := Option.some.inj (hop.symm.trans hok)
    exact getD_set_true (hedges e he hb)
  · rw [getD_set_ne false hki] at hk
    exact getD_set_true (hz k ok hk hok e he hb)

theorem behind_listed {listed : Array Bool} (hz : Closed md ops listed) : ∀ (f t i : Nat), behind md ops f t i = true → (∀ o, ops[t]? = some o → ∀ e ∈ o.after, Region.binds md e = true → listed.getD e.on false = true) → listed.getD i false = true
  | 0, _, _, h, _ => by cases h
  | f + 1, t, i, h, hp => by
    unfold behind at h
    cases ho : ops[t]? with
    | none => rw [ho] at h; cases h
    | some o =>
      rw [ho] at h
      obtain ⟨e, he, hb⟩ := Array.any_eq_true'.1 h
      simp only [Bool.and_eq_true, Bool.or_eq_true, beq_iff_eq] at hb
      have hon := hp o ho e he hb.1
      rcases hb.2 with h2 | h2
      · rw [← h2]; exact hon
      · exact behind_listed hz f e.on i h2 (fun o' ho' e' he' hb' => hz e.on o' hon ho' e' he' hb')

theorem tail_out (ht : tailOk md ops n = true) {i t : Nat} {listed : Array Bool} (hz : Closed md ops listed) (hi : i < n) (hun : listed.getD i false = false) (hr : t ∈ Region.ready md ops listed) : t < n := by
  obtain ⟨_, o, ho, hall⟩ := mem_ready.1 hr
  rcases Nat.lt_or_ge t n with h | h
  · exact h
  · have hlt : t < ops.size := (Array.getElem?_eq_some_iff.1 ho).1
    have h1 := List.all_eq_true.1 ht t (List.mem_range.2 hlt)
    simp only [Bool.or_eq_true, decide_eq_true_eq] at h1
    rcases h1 with h1 | h1
    · exact h1
    · have h2 := List.all_eq_true.1 h1 i (List.mem_range.2 hi)
      have h3 := behind_listed hz 12 t i h2 (fun o' ho' e he hb => by
        obtain rfl : o = o' := Option.some.inj (ho.symm.trans ho')
        exact hall e he hb)
      rw [hun] at h3
      cases h3

theorem unl {listed : Array Bool} {i : Nat} (h : listed.getD i true = false) : listed.getD i false = false := by
  rcases Nat.lt_or_ge i listed.size with h' | h'
  · simp [h'] at h ⊢; exact h
  · simp [Array.getElem?_eq_none h'] at h

theorem softAny_first (hns : Region.noSelect ops = true) (ht : tailOk md ops n = true) {L : Act → Prop} {i : Nat} {oi : Oper} {v : Value} (hi : ops[i]? = some oi) (hin : i < n) :
    ∀ (f : Nat) (listed : Array Bool) (a : Act), Closed md ops listed →
      (∀ j oj, ops[j]? = some oj → j ≠ i → listed.getD j true = false → (∀ e ∈ oj.after, Region.binds md e = true → e.on ≠ i) → oi.apart ops oj = true) →
      i ∈ Region.ready md ops listed → softGives P ops C As i oi v a →
      softAny P md ops C As n L f (listed.setIfInBounds i true) (a.put oi.dst v) → softAny P md ops C As n L (f + 1) listed a := by
  intro f
  induction f with
  | zero =>
    intro listed a hz _ hr hy H
    have hun := unl (mem_ready.1 hr).1
    refine ⟨fun h => (by rw [h] at hr; cases hr), fun j hj => ?_⟩
    have hjn := tail_out ht hz hin hun hj
    refine ⟨hjn, ?_⟩
    by_cases hji : j = i
    · subst hji; exact ⟨oi, v, hi, hy, H⟩
    · have := H.1 j (ready_mono hj hji)
      omega
  | succ f ih =>
    intro listed a hz hfree hr hy H
    have hun := unl (mem_ready.1 hr).1
    refine ⟨fun h => (by rw [h] at hr; cases hr), fun j hj => ?_⟩
    have hjn := tail_out ht hz hin hun hj
    refine ⟨hjn, ?_⟩
    by_cases hji : j = i
    · subst hji; exact ⟨oi, v, hi, hy, H⟩
    · have h1 := (H.2 j (ready_mono hj hji)).2
      obtain ⟨hjun, oj, hoj, hall⟩ := mem_ready.1 hj
      have hnot : ∀ e ∈ oj.after, Region.binds md e = true → e.on ≠ i := fun e he hb heq => by
        have h2 := hall e he hb
        rw [heq, hun] at h2
        cases h2
      have h2 := softOp_put (i := i) hoj (hfree j oj hoj hji hjun hnot) (fun cs b => Region.noSelect_spec hns i oi cs b hi) (fun cs b => Region.noSelect_spec hns j oj cs b hoj) hy h1
      refine softOp_mono (fun a' h3 => ih (listed.setIfInBounds j true) a' (closed_set hz hj) ?_ (ready_mono hr (Ne.symm hji)) h3.1 ?_) h2
      · intro k ok hk hki hku hno
        refine hfree k ok hk hki ?_ hno
        by_cases hjk : j = k
        · subst hjk; exact hjun
        · rw [getD_set_ne true hjk] at hku; exact hku
      · rw [Array.setIfInBounds_comm _ _ hji]
        exact h3.2

theorem softAny_lex (hns : Region.noSelect ops = true) (ht : tailOk md ops n = true) {L : Act → Prop} : ∀ (l : List Oper) (k : Nat) (listed : Array Bool) (a : Act), (∀ j, j < l.length → l[j]? = ops[k + j]?) → k + l.length ≤ n →
    lexOk md ops n l.length k listed = true → Closed md ops listed → softLex P ops C As L l k a → softAny P md ops C As n L l.length listed a
  | [], k, listed, a, _, _, hB, _, h => by
    refine ⟨fun j hj => ?_, h⟩
    have := List.all_eq_true.1 hB j hj
    simpa using this
  | o :: l, k, listed, a, hl, hk, hB, hz, h => by
    have h0 : ops[k]? = some o := by simpa using (hl 0 (by simp)).symm
    simp only [List.length_cons, lexOk, Bool.and_eq_true] at hB
    obtain ⟨⟨hr, hf⟩, hB'⟩ := hB
    obtain ⟨v, hy, hK⟩ := h
    simp only [List.length_cons] at hk
    exact softAny_first hns ht h0 (by omega) l.length listed a hz (Region.free_spec h0 hf) (by simpa using hr) hy
      (softAny_lex hns ht l (k + 1) _ _ (fun j hj => by have := hl (j + 1) (by simp; omega); simpa [Nat.add_assoc, Nat.add_comm 1 j] using this) (by omega) hB' (closed_set hz (by simpa using hr)) hK)

/-- The slots of the new blocks, as far as those have been made. -/
def putA (listed : Array Bool) (β : Nat → Nat) : List Fresh → Act → Act
  | [], a => a
  | x :: r, a => if listed.getD x.place false = true then (putA listed β r a).put (some x.dst) (x.ptr (β x.place)) else putA listed β r a

def ownA (B : Nat) (As : List Fresh) (listed : Array Bool) (β : Nat → Nat) (w : World) : Prop :=
  (∀ x ∈ As, listed.getD x.place false = true → B ≤ β x.place ∧ w.heap[β x.place]? = some (x.now listed)) ∧
  ∀ x ∈ As, ∀ y ∈ As, listed.getD x.place false = true → listed.getD y.place false = true → x.place ≠ y.place → β x.place ≠ β y.place

theorem putA_comm (listed : Array Bool) (β : Nat → Nat) (d : Option Tmp) (u : Value) : ∀ (r : List Fresh) (a : Act), (∀ y ∈ r, d ≠ some y.dst) → putA listed β r (a.put d u) = (putA listed β r a).put d u
  | [], _, _ => rfl
  | y :: r, a, h => by
    have ih := putA_comm listed β d u r a fun z hz => h z (List.mem_cons_of_mem _ hz)
    have hy := h y (List.mem_cons_self ..)
    simp only [putA, ih]
    split
    · exact Act.put_comm _ _ _ fun e he hc => hy (by rw [he, hc])
    · rfl

theorem putA_congr {listed listed' : Array Bool} {β β' : Nat → Nat} : ∀ (r : List Fresh) (a : Act), (∀ y ∈ r, listed.getD y.place false = listed'.getD y.place false ∧ β y.place = β' y.place) → putA listed β r a = putA listed' β' r a
  | [], _, _ => rfl
  | y :: r, a, h => by
    have ih := putA_congr r a fun z hz => h z (List.mem_cons_of_mem _ hz)
    have hy := h y (List.mem_cons_self ..)
    simp only [putA, ih, hy.1, hy.2]

theorem put_put (a : Act) (d : Tmp) (u v : Value) : (a.put (some d) u).put (some d) v = a.put (some d) v := by
  simp [Act.put]

theorem getD_set_self {listed : Array Bool} {i : Nat} (h : i < listed.size) : (listed.setIfInBounds i true).getD i false = true := by
  simp [h]

theorem putA_new {listed : Array Bool} {β : Nat → Nat} {x : Fresh} {b : Nat} (hs : x.place < listed.size) (hu : listed.getD x.place false = false) (u : Value) : ∀ (r : List Fresh) (a : Act), x ∈ r → ((r.map (·.place)).Nodup) → (∀ y ∈ r, y.place ≠ x.place → y.dst ≠ x.dst) →
    putA (listed.setIfInBounds x.place true) (fun k => if k = x.place then b else β k) r (a.put (some x.dst) u) = (putA listed β r a).put (some x.dst) (x.ptr b)
  | [], _, h, _, _ => by cases h
  | y :: r, a, h, hn, hd => by
    simp only [List.map_cons, List.nodup_cons] at hn
    rcases List.mem_cons.1 h with rfl | h
    · have hne : ∀ z ∈ r, z.place ≠ x.place := fun z hz hc => hn.1 (List.mem_map.2 ⟨z, hz, hc⟩)
      have e1 := putA_comm (listed.setIfInBounds x.place true) (fun k => if k = x.place then b else β k) (some x.dst) u r a fun z hz hc => hd z (List.mem_cons_of_mem _ hz) (hne z hz) (Option.some.inj hc).symm
      have e2 := putA_congr (listed := listed.setIfInBounds x.place true) (listed' := listed) (β := fun k => if k = x.place then b else β k) (β' := β) r a fun z hz => ⟨getD_set_ne false (Ne.symm (hne z hz)), by simp [hne z hz]⟩
      simp only [putA, getD_set_self hs, hu, if_true, e1, e2, put_put]
      simp
    · have hyx : y.place ≠ x.place := fun hc => hn.1 (List.mem_map.2 ⟨x, h, hc.symm⟩)
      have ih := putA_new (b := b) (β := β) hs hu u r a h hn.2 fun z hz => hd z (List.mem_cons_of_mem _ hz)
      have hdy := hd y (List.mem_cons_self ..) hyx
      simp only [putA, ih, getD_set_ne false (Ne.symm hyx), hyx, if_false]
      split
      · exact Act.put_comm _ _ _ fun e he hc => hdy (by rw [Option.some.inj he, ← Option.some.inj hc])
      · rfl

theorem eval_putA {o : Oper} {listed : Array Bool} {β : Nat → Nat} (hs : ∀ cs b, o.op ≠ .select cs b) : ∀ (r : List Fresh) (a : Act), (∀ y ∈ r, listed.getD y.place false = true → y.dst ∉ o.looksAt ops) →
    execOp (putA listed β r a).eval o = execOp a.eval o ∧ Region.wanted o (yielded ops (putA listed β r a).tmps) = Region.wanted o (yielded ops a.tmps)
  | [], _, _ => ⟨rfl, rfl⟩
  | y :: r, a, h => by
    have ih := eval_putA (β := β) hs r a fun z hz => h z (List.mem_cons_of_mem _ hz)
    have hy := h y (List.mem_cons_self ..)
    simp only [putA]
    split
    · rename_i hl
      have h1 := execOp_put (ops := ops) o hs (putA listed β r a) (some y.dst) (y.ptr (β y.place)) fun d hd => by rw [← Option.some.inj hd]; exact hy hl
      have h2 := wanted_put (ops := ops) o (putA listed β r a) (some y.dst) (y.ptr (β y.place)) fun d hd => by rw [← Option.some.inj hd]; exact hy hl
      exact ⟨h1.trans ih.1, h2.trans ih.2⟩
    · exact ih

theorem freshOk_spec (h : freshOk ops As n = true) : ∀ x ∈ As, x.place < n ∧ ∃ oi, ops[x.place]? = some oi ∧ oi.dst = some x.dst ∧ ∀ j oj, j < n → j ≠ x.place → x.store ≠ some j → ops[j]? = some oj → oi.apart ops oj = true := by
  intro x hx
  have h1 := List.all_eq_true.1 h x hx
  simp only [Bool.and_eq_true, decide_eq_true_eq] at h1
  refine ⟨h1.1, ?_⟩
  have h2 := h1.2
  cases ho : ops[x.place]? with
  | none => rw [ho] at h2; cases h2
  | some oi =>
    rw [ho] at h2
    simp only [Bool.and_eq_true, beq_iff_eq] at h2
    refine ⟨oi, rfl, h2.1, fun j oj hj hne hst hoj => ?_⟩
    have h3 := List.all_eq_true.1 h2.2 j (List.mem_range.2 hj)
    simp only [hoj, Bool.or_eq_true, beq_iff_eq] at h3
    rcases h3 with (h3 | h3) | h3
    · exact absurd h3 hne
    · exact absurd h3.symm hst
    · exact h3

def allHead (ops : Array Oper) (n : Nat) : Array Bool := ((List.range ops.size).map fun i => decide (i < n)).toArray

theorem allHead_eq {listed : Array Bool} (hs : listed.size = ops.size) (h1 : ∀ i, i < n → listed.getD i true = true) (h2 : ∀ i, n ≤ i → i < ops.size → listed.getD i true = false) : listed = allHead ops n := by
  apply Array.ext
  · simp [allHead, hs]
  · intro i hi hi'
    have hio : i < ops.size := by omega
    simp only [allHead, List.getElem_toArray, List.getElem_map, List.getElem_range]
    rcases Nat.lt_or_ge i n with h | h
    · have := h1 i h
      simp [hi] at this
      simp [this, h]
    · have := h2 i h hio
      simp [hi] at this
      simp [this, h]

theorem own_keep {B : Nat} {listed : Array Bool} {β : Nat → Nat} {w w' : World} (h : ownA B As listed β w) (hb : Below w.heap.size w w') : ownA B As listed β w' :=
  ⟨fun x hx hl => ⟨(h.1 x hx hl).1, by rw [hb.block _ (Array.getElem?_eq_some_iff.1 (h.1 x hx hl).2).1]; exact (h.1 x hx hl).2⟩, h.2⟩

theorem now_set {x : Fresh} {i : Nat} {listed : Array Bool} (h : x.store ≠ some i) : x.now (listed.setIfInBounds i true) = x.now listed := by
  unfold Fresh.now
  cases hs : x.store with
  | none => rfl
  | some s =>
    have : i ≠ s := fun e => h (by rw [hs, e])
    simp only [getD_set_ne false this]

theorem own_set {B i : Nat} {listed : Array Bool} {β : Nat → Nat} {w : World} (hi : ∀ x ∈ As, x.place ≠ i ∧ x.store ≠ some i) (h : ownA B As listed β w) : ownA B As (listed.setIfInBounds i true) β w := by
  refine ⟨fun x hx hl => ?_, fun x hx y hy hl hl' => h.2 x hx y hy ?_ ?_⟩
  · rw [now_set (hi x hx).2]
    refine h.1 x hx ?_
    rw [getD_set_ne false (Ne.symm (hi x hx).1)] at hl; exact hl
  · rw [getD_set_ne false (Ne.symm (hi x hx).1)] at hl; exact hl
  · rw [getD_set_ne false (Ne.symm (hi y hy).1)] at hl'; exact hl'

theorem fillOk_spec (h : fillOk md ops As n = true) : ∀ x ∈ As, ∀ s, x.store = some s → s < n ∧ isFresh As s = false ∧ (∀ y ∈ As, y.place ≠ x.place → y.store ≠ some s) ∧ ∀ o, ops[s]? = some o → ∃ e ∈ o.after, Region.binds md e = true ∧ e.on = x.place := by
  intro x hx s hs
  have h1 := List.all_eq_true.1 h x hx
  simp only [hs, Bool.and_eq_true, decide_eq_true_eq, Bool.not_eq_true'] at h1
  refine ⟨h1.1.1.1, h1.1.1.2, fun y hy hne hc => ?_, fun o ho => ?_⟩
  · have h2 := List.all_eq_true.1 h1.1.2 y hy
    simp [hne, hc] at h2
  · have h2 := h1.2
    rw [ho] at h2
    obtain ⟨e, he, hb⟩ := Array.any_eq_true'.1 h2
    simp only [Bool.and_eq_true, beq_iff_eq] at hb
    exact ⟨e, he, hb.1, hb.2⟩

theorem putA_pull {listed : Array Bool} {β : Nat → Nat} {x : Fresh} (hl : listed.getD x.place false = true) : ∀ (r : List Fresh) (a : Act), x ∈ r → ((r.map (·.place)).Nodup) → (∀ y ∈ r, y.place ≠ x.place → y.dst ≠ x.dst) →
    putA listed β r a = putA listed β (r.filter fun y => y.place != x.place) (a.put (some x.dst) (x.ptr (β x.place)))
  | [], _, h, _, _ => by cases h
  | y :: r, a, h, hn, hd => by
    simp only [List.map_cons, List.nodup_cons] at hn
    rcases List.mem_cons.1 h with rfl | h
    · have hne : ∀ z ∈ r, z.place ≠ x.place := fun z hz hc => hn.1 (List.mem_map.2 ⟨z, hz, hc⟩)
      have e1 : (x :: r).filter (fun y => y.place != x.place) = r := by
        simp only [List.filter_cons, bne_self_eq_false, Bool.false_eq_true, if_false]
        exact List.filter_eq_self.2 fun z hz => by simp [hne z hz]
      rw [e1, putA_comm listed β (some x.dst) _ r a fun z hz hc => hd z (List.mem_cons_of_mem _ hz) (hne z hz) (Option.some.inj hc).symm]
      simp only [putA, hl, if_true]
    · have hyx : y.place ≠ x.place := fun hc => hn.1 (List.mem_map.2 ⟨x, h, hc.symm⟩)
      have ih := putA_pull (β := β) hl r a h hn.2 fun z hz => hd z (List.mem_cons_of_mem _ hz)
      have e1 : (y :: r).filter (fun y => y.place != x.place) = y :: r.filter (fun y => y.place != x.place) := by
        simp [List.filter_cons, hyx]
      rw [e1]
      simp only [putA, ih]

theorem place_inj {x y : Fresh} (hnd : (As.map (·.place)).Nodup) (hx : x ∈ As) (hy : y ∈ As) (h : y.place = x.place) : y = x := by
  have : ∀ (r : List Fresh), (r.map (·.place)).Nodup → y ∈ r → x ∈ r → y = x := by
    intro r
    induction r with
    | nil => intro _ h; cases h
    | cons z r ih =>
      intro hn h1 h2
      simp only [List.map_cons, List.nodup_cons] at hn
      rcases List.mem_cons.1 h1 with e1 | m1
      · rcases List.mem_cons.1 h2 with e2 | m2
        · rw [e1, e2]
        · exact absurd (List.mem_map.2 ⟨x, m2, by rw [← h, e1]⟩) hn.1
      · rcases List.mem_cons.1 h2 with e2 | m2
        · exact absurd (List.mem_map.2 ⟨y, m1, by rw [h, e2]⟩) hn.1
        · exact ih hn.2 m1 m2
  exact this As hnd hy hx

theorem count_set {listed : Array Bool} {i f : Nat} (hi : i < n) (hs : i < listed.size) (hu : listed.getD i false = false) (h : (List.range n).countP (fun k => !listed.getD k false) = f + 1) :
    (List.range n).countP (fun k => !(listed.setIfInBounds i true).getD k false) = f := by
  have key : ∀ m, (List.range m).countP (fun k => !listed.getD k false) = (List.range m).countP (fun k => !(listed.setIfInBounds i true).getD k false) + if i < m then 1 else 0 := by
    intro m
    induction m with
    | zero => simp
    | succ m ih =>
      rw [List.range_succ, List.countP_append, List.countP_append, ih]
      by_cases him : i = m
      · subst him
        simp [hs] at hu
        simp [hs, hu]
      · have e : (listed.setIfInBounds i true).getD m false = listed.getD m false := getD_set_ne false him
        simp only [List.countP_cons, List.countP_nil, e]
        by_cases h2 : i < m
        · have : i < m + 1 := by omega
          simp only [h2, this, if_true]; omega
        · have : ¬ i < m + 1 := by omega
          simp only [h2, this, if_false]; omega
  have := key n
  rw [if_pos hi] at this
  omega

theorem wpAny_of_soft {Q : Exit → Act → World → Prop} (hns : Region.noSelect ops = true) (hfr : freshOk ops As n = true) (hfl : fillOk md ops As n = true) (hnd : (As.map (·.place)).Nodup) (hCb : ∀ w w', C w → Below w.heap.size w w' → C w') {L : Act → Prop} {B g : Nat} (hB : ∀ w, C w → B ≤ w.heap.size)
    (hCt : ∀ w w2 b o, C w → B ≤ b → Turned w w2 b o → C w2)
    (hL : ∀ a w β, L a → C w → ownA B As (allHead ops n) β w → wpAny P md ops Q g (allHead ops n) (putA (allHead ops n) β As a) w) :
    ∀ (f : Nat) (listed : Array Bool) (a : Act) (β : Nat → Nat) (w : World), softAny P md ops C As n L f listed a → listed.size = ops.size → (∀ t, n ≤ t → t < ops.size → listed.getD t true = false) →
      (List.range n).countP (fun k => !listed.getD k false) = f → n ≤ ops.size → C w → ownA B As listed β w → (∀ x ∈ As, ∀ s, x.store = some s → listed.getD s false = true → listed.getD x.place false = true) → wpAny P md ops Q (f + g) listed (putA listed β As a) w
  | 0, listed, a, β, w, h, hsz, htl, hc, hn, hw, ho, _ => by
    have hall : ∀ i, i < n → listed.getD i true = true := by
      intro i hi
      rw [List.countP_eq_zero] at hc
      have h1 := hc i (List.mem_range.2 hi)
      have hil : i < listed.size := by omega
      simp [hil] at h1 ⊢
      exact h1
    have he := allHead_eq hsz hall htl
    subst he
    rw [Nat.zero_add]
    exact hL a w β h.2 hw ho
  | f + 1, listed, a, β, w, h, hsz, htl, hc, hn, hw, ho, hcl => by
    rw [show f + 1 + g = (f + g) + 1 by omega]
    refine ⟨fun h0 => absurd h0 h.1, fun i hi => ?_⟩
    obtain ⟨hin, o, v, hop, hg, hk⟩ := h.2 i hi
    obtain ⟨hun0, o0, ho0, hedges⟩ := mem_ready.1 hi
    obtain rfl : o = o0 := Option.some.inj (hop.symm.trans ho0)
    have hun := unl hun0
    have hil : i < listed.size := by omega
    have hsel : ∀ cs b, o.op ≠ .select cs b := fun cs b => Region.noSelect_spec hns i o cs b hop
    have hlookY : ∀ y ∈ As, y.store ≠ some i → listed.getD y.place false = true → y.dst ∉ o.looksAt ops := by
      intro y hy hst hl
      obtain ⟨_, oi, hoi, hdst, hap⟩ := freshOk_spec hfr y hy
      have hne : i ≠ y.place := fun hc => by rw [← hc, hun] at hl; cases hl
      exact (Oper.apart_spec (hap i o hin hne hst hop)).1 y.dst hdst
    have hsz' : (listed.setIfInBounds i true).size = ops.size := by simpa using hsz
    have htl' : ∀ t, n ≤ t → t < ops.size → (listed.setIfInBounds i true).getD t true = false := fun t ht ht' => by rw [getD_set_ne true (by omega)]; exact htl t ht ht'
    have hc' := count_set hin hil hun hc
    have hcl' : ∀ x ∈ As, ∀ s, x.store = some s → (listed.setIfInBounds i true).getD s false = true → (listed.setIfInBounds i true).getD x.place false = true := by
      intro x hx s hs hl
      by_cases his : i = s
      · obtain ⟨_, _, _, h4⟩ := fillOk_spec hfl x hx s hs
        obtain ⟨e, he, hb, hon⟩ := h4 o (his ▸ hop)
        have := hedges e he hb
        rw [hon] at this
        exact getD_set_true this
      · rw [getD_set_ne false his] at hl
        exact getD_set_true (hcl x hx s hs hl)
    unfold wpOp
    simp only [hop]
    unfold softGives at hg
    by_cases hfi : isFresh As i = true
    · have hnst : ∀ y ∈ As, y.store ≠ some i := fun y hy hs => by
        have := (fillOk_spec hfl y hy i hs).2.1
        rw [hfi] at this
        cases this
      obtain ⟨hev, hwa⟩ := eval_putA (ops := ops) (β := β) hsel As a fun y hy hl => hlookY y hy (hnst y hy) hl
      rw [if_pos hfi] at hg
      obtain ⟨rfl, hgd, hrun⟩ := hg
      obtain ⟨x, hx, hxp⟩ := List.any_eq_true.1 hfi
      have hxp : x.place = i := by simpa using hxp
      obtain ⟨hdst, hr⟩ := hrun x hx hxp
      have hwt : Region.wanted o (yielded ops (putA listed β As a).tmps) = true := by simp [Region.wanted, hgd]
      rw [if_pos hwt]
      refine .inl ?_
      unfold Oper.wp
      rw [hev, hr w hw]
      show wpAny P md ops Q (f + g) (listed.setIfInBounds i true) ((putA listed β As a).put o.dst (x.ptr w.heap.size)) (w.alloc x.obj)
      have hpl : ∀ y ∈ As, y.place ≠ x.place → y.dst ≠ x.dst := by
        intro y hy hne
        obtain ⟨_, oi, hoi, hd, hap⟩ := freshOk_spec hfr y hy
        intro he
        refine (Oper.apart_spec (hap i o hin (fun hc => hne (by rw [hxp]; exact hc.symm)) (hnst y hy) hop)).2.1 y.dst hd ?_
        rw [hdst, he]
      have e := putA_new (β := β) (b := w.heap.size) (x := x) (by rw [hxp]; exact hil) (by rw [hxp]; exact hun) undef As a hx hnd hpl
      rw [hxp] at e
      rw [hdst] at hk ⊢
      rw [← e]
      have hoo : ownA B As (listed.setIfInBounds i true) (fun k => if k = i then w.heap.size else β k) (w.alloc x.obj) := by
        have hlt : ∀ y ∈ As, listed.getD y.place false = true → β y.place < w.heap.size := fun y hy hl => (Array.getElem?_eq_some_iff.1 (ho.1 y hy hl).2).1
        refine ⟨fun y hy hl => ?_, fun y hy z hz hl hl' hne => ?_⟩
        · rw [now_set (hnst y hy)]
          by_cases hyi : y.place = i
          · have hyx : y = x := place_inj hnd hx hy (hyi.trans hxp.symm)
            subst hyx
            have hnow : y.now listed = y.obj := by
              unfold Fresh.now
              cases hs : y.store with
              | none => rfl
              | some s =>
                have : listed.getD s false ≠ true := fun hc => by
                  have := hcl y hy s hs hc
                  rw [hyi, hun] at this
                  cases this
                simp only [this, if_false, Bool.false_eq_true]
            rw [hnow]
            simp only [hyi, if_true]
            exact ⟨hB w hw, by show (w.heap.push y.obj)[w.heap.size]? = _; simp⟩
          · rw [getD_set_ne false (Ne.symm hyi)] at hl
            simp only [hyi, if_false]
            refine ⟨(ho.1 y hy hl).1, ?_⟩
            have := Below.heap_alloc w x.obj _ (hlt y hy hl)
            rw [this]
            exact (ho.1 y hy hl).2
        · by_cases hyi : y.place = i
          · have hzi : z.place ≠ i := fun hc => hne (by rw [hyi, hc])
            rw [getD_set_ne false (Ne.symm hzi)] at hl'
            have := hlt z hz hl'
            simp only [hyi, if_true, hzi, if_false]
            omega
          · rw [getD_set_ne false (Ne.symm hyi)] at hl
            have h1 := hlt y hy hl
            by_cases hzi : z.place = i
            · simp only [hyi, if_false, hzi, if_true]
              omega
            · rw [getD_set_ne false (Ne.symm hzi)] at hl'
              simp only [hyi, if_false, hzi]
              exact ho.2 y hy z hz hl hl' hne
      exact wpAny_of_soft hns hfr hfl hnd hCb hB hCt hL f _ _ _ _ hk hsz' htl' hc' hn (hCb _ _ hw ((Below.refl _ _).alloc (Nat.le_refl _) _)) hoo hcl'
    · rw [if_neg hfi] at hg
      have hpi : ∀ x ∈ As, x.place ≠ i := fun x hx hc => hfi (List.any_eq_true.2 ⟨x, hx, by simp [hc]⟩)
      by_cases hff : isFill As i = true
      · rw [if_pos hff] at hg
        obtain ⟨rfl, hgd, hdn, hrun⟩ := hg
        obtain ⟨x, hx, hxs⟩ := List.any_eq_true.1 hff
        have hxs : x.store = some i := by simpa using hxs
        obtain ⟨_, _, hoth, hed⟩ := fillOk_spec hfl x hx i hxs
        obtain ⟨e, he, hb, hon⟩ := hed o hop
        have hxl : listed.getD x.place false = true := by
          have := hedges e he hb
          rwa [hon] at this
        have hnow : x.now listed = x.obj := by
          unfold Fresh.now
          simp only [hxs, hun, Bool.false_eq_true, if_false]
        have hblk := (ho.1 x hx hxl).2
        rw [hnow] at hblk
        obtain ⟨w2, hr2, ht⟩ := hrun x hx hxs w (β x.place) hw hblk
        have hpl : ∀ y ∈ As, y.place ≠ x.place → y.dst ≠ x.dst := by
          intro y hy hne
          obtain ⟨_, oi, hoi, hd, hap⟩ := freshOk_spec hfr y hy
          obtain ⟨hxn, ox, hox, hdx, _⟩ := freshOk_spec hfr x hx
          intro he
          refine (Oper.apart_spec (hap x.place ox hxn (Ne.symm hne) (fun hc => ?_) hox)).2.1 y.dst hd (by rw [hdx, he])
          have := (fillOk_spec hfl y hy x.place hc).2.1
          have h2 : isFresh As x.place = true := List.any_eq_true.2 ⟨x, hx, by simp⟩
          rw [h2] at this
          cases this
        have e1 := putA_pull (β := β) hxl As a hx hnd hpl
        obtain ⟨hev, _⟩ := eval_putA (ops := ops) (listed := listed) (β := β) hsel (As.filter fun y => y.place != x.place) (a.put (some x.dst) (x.ptr (β x.place))) fun y hy hl => by
          have hm := List.mem_filter.1 hy
          have hne : y.place ≠ x.place := by simpa using hm.2
          exact hlookY y hm.1 (hoth y hm.1 hne) hl
        have hwt : Region.wanted o (yielded ops (putA listed β As a).tmps) = true := by simp [Region.wanted, hgd]
        rw [if_pos hwt]
        refine .inl ?_
        unfold Oper.wp
        rw [e1, hev, hr2]
        show wpAny P md ops Q (f + g) (listed.setIfInBounds i true) ((putA listed β (As.filter fun y => y.place != x.place) (a.put (some x.dst) (x.ptr (β x.place)))).put o.dst undef) w2
        rw [← e1]
        have e2 : (putA listed β As a).put o.dst undef = putA (listed.setIfInBounds i true) β As (a.put o.dst undef) := by
          rw [hdn]
          exact putA_congr As a fun z hz => ⟨(getD_set_ne false (Ne.symm (hpi z hz))).symm, rfl⟩
        rw [e2]
        have hoo : ownA B As (listed.setIfInBounds i true) β w2 := by
          refine ⟨fun y hy hl => ?_, fun y hy z hz hl hl' hne => ?_⟩
          · rw [getD_set_ne false (Ne.symm (hpi y hy))] at hl
            refine ⟨(ho.1 y hy hl).1, ?_⟩
            by_cases hyx : y.place = x.place
            · have hyx : y = x := place_inj hnd hx hy hyx
              subst hyx
              have : y.now (listed.setIfInBounds i true) = y.full := by
                unfold Fresh.now
                simp only [hxs, getD_set_self hil, if_true]
              rw [this]
              exact ht.here
            · rw [now_set (hoth y hy hyx), ht.other _ (ho.2 y hy x hx hl hxl hyx)]
              exact (ho.1 y hy hl).2
          · rw [getD_set_ne false (Ne.symm (hpi y hy))] at hl
            rw [getD_set_ne false (Ne.symm (hpi z hz))] at hl'
            exact ho.2 y hy z hz hl hl' hne
        exact wpAny_of_soft hns hfr hfl hnd hCb hB hCt hL f _ _ _ _ hk hsz' htl' hc' hn (hCt _ _ _ _ hw (ho.1 x hx hxl).1 ht) hoo hcl'
      · rw [if_neg hff] at hg
        have hnst : ∀ y ∈ As, y.store ≠ some i := fun y hy hs => hff (List.any_eq_true.2 ⟨y, hy, by simp [hs]⟩)
        obtain ⟨hev, hwa⟩ := eval_putA (ops := ops) (β := β) hsel As a fun y hy hl => hlookY y hy (hnst y hy) hl
        have hcm : ∀ u : Value, putA (listed.setIfInBounds i true) β As (a.put o.dst u) = (putA listed β As a).put o.dst u := by
          intro u
          rw [putA_comm _ _ _ _ _ _ (fun y hy hc => ?_)]
          · rw [putA_congr (listed := listed.setIfInBounds i true) (listed' := listed) (β := β) (β' := β) As a fun z hz => ⟨getD_set_ne false (Ne.symm (hpi z hz)), rfl⟩]
          · obtain ⟨_, oi, hoi, hd, hap⟩ := freshOk_spec hfr y hy
            exact (Oper.apart_spec (hap i o hin (Ne.symm (hpi y hy)) (hnst y hy) hop)).2.1 y.dst hd hc
        have hos := own_set (fun x hx => ⟨hpi x hx, hnst x hx⟩) ho
        rcases hg with ⟨hw1, hso⟩ | ⟨hw1, rfl⟩
        · rw [if_pos (hwa.trans hw1)]
          refine .inl ?_
          unfold Oper.wp
          rw [hev]
          have h3 := hso w hw
          unfold softAt at h3
          generalize (execOp a.eval o).run P w = r at h3
          cases r with
          | halt x w' => exact h3.elim
          | ok m w' =>
            cases m <;> simp only [softUpon] at h3 <;> simp only [Oper.upon]
            case value u =>
              obtain ⟨rfl, rfl⟩ := h3
              rw [← hcm]
              exact wpAny_of_soft hns hfr hfl hnd hCb hB hCt hL f _ _ _ _ hk hsz' htl' hc' hn hw hos hcl'
            case skip =>
              obtain ⟨rfl, rfl⟩ := h3
              rw [← hcm]
              exact wpAny_of_soft hns hfr hfl hnd hCb hB hCt hL f _ _ _ _ hk hsz' htl' hc' hn hw hos hcl'
            case enter fn args =>
              obtain ⟨rfl, hcall⟩ := h3
              refine hcall.mono fun e w'' ⟨he, hb⟩ => ?_
              subst he
              show wpAny P md ops Q (f + g) (listed.setIfInBounds i true) ((putA listed β As a).put o.dst v) w''
              rw [← hcm]
              exact wpAny_of_soft hns hfr hfl hnd hCb hB hCt hL f _ _ _ _ hk hsz' htl' hc' hn (hCb _ _ hw hb) (own_keep hos hb) hcl'
        · rw [if_neg (by rw [hwa, hw1]; simp)]
          rw [← hcm]
          exact wpAny_of_soft hns hfr hfl hnd hCb hB hCt hL f _ _ _ _ hk hsz' htl' hc' hn hw hos hcl'

/-- The world x, if nothing that stood in w differs there; else w. -/
noncomputable def over (w x : World) : World := @ite _ (Below w.heap.size w x) (Classical.propDecidable _) x w

theorem over_below (w x : World) : Below w.heap.size w (over w x) := by
  unfold over
  split
  · assumption
  · exact Below.refl _ _

theorem over_eq {w x : World} (h : Below w.heap.size w x) : over w x = x := by
  unfold over
  rw [if_pos h]

theorem cell_over (w x : World) (a : Addr) (h : a.block < w.heap.size) : (over w x).cell? a = w.cell? a := (over_below w x).cell h
theorem frozen_over (w x : World) (a : Addr) (h : a.block < w.heap.size) : (over w x).frozen? a = w.frozen? a := (over_below w x).frozen h

theorem as_over {w x : World} (h : Below w.heap.size w x) : ∃ y, x = over w y := ⟨x, (over_eq h).symm⟩
theorem cell_set_same (w : World) (b o : Nat) (v : Value) : (w.setCell ⟨b, o, none⟩ v).cell? ⟨b, o, none⟩ = (w.cell? ⟨b, o, none⟩).map fun _ => v := by
  simp only [World.setCell, World.cell?, Array.getElem?_modify]
  cases hb : w.heap[b]? with
  | none => simp
  | some x =>
    cases x <;> simp
    rename_i c e f
    by_cases h : o < c.size
    · simp [h]
    · simp [h]

theorem as_over2 {w x y : World} (h : Below (over w x).heap.size (over w x) y) : ∃ z, y = over w z := as_over ((over_below w x).trans (h.mono (over_below w x).size))
theorem size_over (w x : World) : w.heap.size ≤ (over w x).heap.size := (over_below w x).size

theorem lt_over {w x : World} {b : Nat} (h : b < w.heap.size) : (b < (over w x).heap.size) = True := by
  have := size_over w x
  exact eq_true (by omega)
theorem le_over {w x : World} {b : Nat} (h : b ≤ w.heap.size) : (b ≤ (over w x).heap.size) = True := by
  have := size_over w x
  exact eq_true (by omega)
theorem ne_over {w x : World} {b : Nat} (h : b < w.heap.size) : (b = (over w x).heap.size) = False := by
  have := size_over w x
  exact eq_false (by omega)
theorem over_ne {w x : World} {b : Nat} (h : b < w.heap.size) : ((over w x).heap.size = b) = False := by
  have := size_over w x
  exact eq_false (by omega)

/-- The worlds of a region: those in which nothing that stood ahead of it differs. -/
def Cls (w w' : World) : Prop := Below w.heap.size w w'

theorem softLex_step {w : World} {L : Act → Prop} {o : Oper} {l : List Oper} {k : Nat} {a : Act} (hf : isFresh As k = false) (hff : isFill As k = false)
    (h : ∀ K : Act → Prop, (∀ a, softLex P ops (Cls w) As L l (k + 1) a → K a) → if Region.wanted o (yielded ops a.tmps) = true then ∃ v, (∀ x, softAt P o a (over w x) v) ∧ K (a.put o.dst v) else K (a.put o.dst undef)) :
    softLex P ops (Cls w) As L (o :: l) k a := by
  have h1 := h _ (fun _ h => h)
  split at h1
  · rename_i hw
    obtain ⟨v, hv, hk⟩ := h1
    refine ⟨v, ?_, hk⟩
    unfold softGives
    rw [if_neg (by rw [hf]; simp), if_neg (by rw [hff]; simp)]
    refine .inl ⟨hw, fun w' hw' => ?_⟩
    have := hv w'
    rwa [over_eq hw'] at this
  · rename_i hw
    refine ⟨undef, ?_, h1⟩
    unfold softGives
    rw [if_neg (by rw [hf]; simp), if_neg (by rw [hff]; simp)]
    exact .inr ⟨by simpa using hw, rfl⟩

theorem softLex_new {w : World} {L : Act → Prop} {o : Oper} {l : List Oper} {k : Nat} {a : Act} (x : Fresh) (hf : As.filter (fun y => y.place == k) = [x]) (hg : o.guard = none) (hd : o.dst = some x.dst)
    (hr : ∀ y, (execOp a.eval o).run P (over w y) = .ok (.value (x.ptr (over w y).heap.size)) ((over w y).alloc x.obj))
    (h : softLex P ops (Cls w) As L l (k + 1) (a.put o.dst undef)) : softLex P ops (Cls w) As L (o :: l) k a := by
  have hx : x ∈ As ∧ x.place = k := by
    have : x ∈ As.filter (fun y => y.place == k) := by rw [hf]; simp
    simpa using List.mem_filter.1 this
  refine ⟨undef, ?_, h⟩
  unfold softGives
  rw [if_pos (show isFresh As k = true from List.any_eq_true.2 ⟨x, hx.1, by simp [hx.2]⟩)]
  refine ⟨rfl, hg, fun y hy hyk => ?_⟩
  have : y ∈ As.filter (fun y => y.place == k) := List.mem_filter.2 ⟨hy, by simp [hyk]⟩
  rw [hf] at this
  have hyx : y = x := by simpa using this
  subst hyx
  refine ⟨hd, fun w' hw' => ?_⟩
  have := hr w'
  rwa [over_eq hw'] at this

theorem softLex_fill {w : World} {L : Act → Prop} {o : Oper} {l : List Oper} {k : Nat} {a : Act} (x : Fresh) (hx : As.filter (fun y => y.store == some k) = [x]) (hf : isFresh As k = false) (hg : o.guard = none) (hd : o.dst = none)
    (hr : ∀ y b, (over w y).heap[b]? = some x.obj → ∃ w2, (execOp (a.put (some x.dst) (x.ptr b)).eval o).run P (over w y) = .ok .skip w2 ∧ Turned (over w y) w2 b x.full)
    (h : softLex P ops (Cls w) As L l (k + 1) a) : softLex P ops (Cls w) As L (o :: l) k a := by
  have hm : x ∈ As ∧ x.store = some k := by
    have : x ∈ As.filter (fun y => y.store == some k) := by rw [hx]; simp
    simpa using List.mem_filter.1 this
  refine ⟨undef, ?_, by rw [hd]; exact h⟩
  unfold softGives
  rw [if_neg (by rw [hf]; simp), if_pos (show isFill As k = true from List.any_eq_true.2 ⟨x, hm.1, by simp [hm.2]⟩)]
  refine ⟨rfl, hg, hd, fun y hy hyk w' b hw' hb => ?_⟩
  have : y ∈ As.filter (fun y => y.store == some k) := List.mem_filter.2 ⟨hy, by simp [hyk]⟩
  rw [hx] at this
  have hyx : y = x := by simpa using this
  subst hyx
  have := hr w' b
  rw [over_eq hw'] at this
  exact this hb

theorem Turned.refl {w : World} {b : Nat} {o : Obj} (h : w.heap[b]? = some o) : Turned w w b o := ⟨rfl, rfl, rfl, rfl, fun _ _ => rfl, h⟩
theorem Turned.setCell {w w2 : World} {b : Nat} {cs : Array Value} {t : TypeId} {fz : Nat × Nat} (h : Turned w w2 b (.cells cs t fz)) (o : Nat) (v : Value) : Turned w (w2.setCell ⟨b, o, none⟩ v) b (.cells (cs.setIfInBounds o v) t fz) :=
  ⟨h.os, h.tape, h.output, by rw [← h.size]; simp [World.setCell], fun k hk => by rw [Below.heap_setCell w2 ⟨b, o, none⟩ v k hk]; exact h.other k hk, by simp [World.setCell, Array.getElem?_modify, h.here]⟩

theorem softLex_nil {w : World} {L : Act → Prop} {k : Nat} {a : Act} (h : L a) : softLex P ops (Cls w) As L [] k a := h

/-- All slots of new blocks. -/
def putAll (β : Nat → Nat) : List Fresh → Act → Act
  | [], a => a
  | x :: r, a => (putAll β r a).put (some x.dst) (x.ptr (β x.place))

theorem putA_all {listed : Array Bool} {β : Nat → Nat} : ∀ (r : List Fresh) (a : Act), (∀ x ∈ r, listed.getD x.place false = true) → putA listed β r a = putAll β r a
  | [], _, _ => rfl
  | x :: r, a, h => by
    simp only [putA, putAll, h x (List.mem_cons_self ..), if_true, putA_all r a fun y hy => h y (List.mem_cons_of_mem _ hy)]

theorem allHead_in {i : Nat} (h : i < n) (hs : n ≤ ops.size) : (allHead ops n).getD i false = true := by
  have : i < ops.size := by omega
  simp [allHead, this, h]

theorem wp_soft {id : Nat} {Q : Exit → Act → World → Prop} {a : Act} {w : World} {l : List Oper} {T : Act → World → Prop} (n : Nat) (As : List Fresh) (hm : P.follows .mixedOrders = true) (hok : softOk .any l.toArray As n = true)
    (hT : ∀ a w, T a w → wpAny P .any l.toArray Q (l.length - n) (allHead l.toArray n) a w)
    (h : softLex P l.toArray (Cls w) As (fun a' => ∀ w' β, Below w.heap.size w w' → (∀ x ∈ As, w.heap.size ≤ β x.place ∧ w'.heap[β x.place]? = some x.last) → (∀ x ∈ As, ∀ y ∈ As, x.place ≠ y.place → β x.place ≠ β y.place) → T (putAll β As a') w') (l.take n) 0 a) :
    (Code.region id l.toArray true).wp P Q a w := by
  simp only [softOk, Bool.and_eq_true, decide_eq_true_eq] at hok
  obtain ⟨⟨⟨⟨⟨⟨hfl, hns⟩, hn⟩, htl⟩, hfr⟩, hnd⟩, hlex⟩ := hok
  have hnl : n ≤ l.length := by simp at hn; omega
  have hns' : n ≤ l.toArray.size := by simpa using hnl
  have htk : (l.take n).length = n := by simp; omega
  refine wp_region_any hm ?_
  have h1 := softAny_lex (C := Cls w) (As := As) hns htl (l.take n) 0 (Array.replicate l.toArray.size false) a (fun j hj => by
    have hj' : j < n := by rw [htk] at hj; exact hj
    simp [hj']) (by rw [htk]; omega) (by rw [htk]; exact hlex) (fun k _ hk => by rw [getD_replicate_false] at hk; cases hk) h
  rw [htk] at h1
  have hin : ∀ x ∈ As, (allHead l.toArray n).getD x.place false = true := fun x hx => allHead_in (freshOk_spec hfr x hx).1 hns'
  have hlast : ∀ x ∈ As, x.now (allHead l.toArray n) = x.last := by
    intro x hx
    unfold Fresh.now Fresh.last
    cases hs : x.store with
    | none => rfl
    | some s =>
      have := allHead_in (ops := l.toArray) (fillOk_spec hfl x hx s hs).1 hns'
      simp only [this, if_true]
  have hD : Cls w { w with drawn := w.drawn + 1 } := ⟨rfl, rfl, rfl, Nat.le_refl _, fun _ _ => rfl⟩
  have hcnt : (List.range n).countP (fun k => !(Array.replicate l.toArray.size false).getD k false) = n := by
    rw [List.countP_eq_length.2]
    · simp
    · intro k hk
      have : k < n := List.mem_range.1 hk
      rw [getD_replicate_false]
      rfl
  have h2 := wpAny_of_soft (Q := Q) (B := w.heap.size) (g := l.length - n) hns hfr hfl hnd (C := Cls w) (fun a b h1 h2 => Below.trans h1 (h2.mono h1.size)) (fun a h => h.size)
    (fun u u2 b o h1 hb h2 => ⟨h2.os.trans h1.os, h2.tape.trans h1.tape, h2.output.trans h1.output, by rw [h2.size]; exact h1.size, fun k hk => (h2.other k (by omega)).trans (h1.block k hk)⟩)
    (fun a' w' β hL hC ho => by
      rw [putA_all _ _ hin]
      exact hT _ _ (hL w' β hC (fun x hx => by rw [← hlast x hx]; exact ho.1 x hx (hin x hx)) fun x hx y hy hne => ho.2 x hx y hy (hin x hx) (hin y hy) hne)) n _ a (fun _ => 0) { w with drawn := w.drawn + 1 } h1 (by simp) (fun t _ ht => by simp at ht; simp [ht]) hcnt hns' hD
    ⟨fun x _ hl => (by rw [getD_replicate_false] at hl; cases hl), fun x _ y _ hl => (by rw [getD_replicate_false] at hl; cases hl)⟩ (fun x _ s _ hl => by rw [getD_replicate_false] at hl; cases hl)
  rw [show n + (l.length - n) = l.toArray.size by simp; omega] at h2
  have e : ∀ (r : List Fresh) (β : Nat → Nat), putA (Array.replicate l.toArray.size false) β r a = a := by
    intro r β
    induction r with
    | nil => rfl
    | cons x r ih =>
      have : (Array.replicate l.toArray.size false).getD x.place false = false := getD_replicate_false _ _
      simp only [putA, this, ih]
      simp
  rw [e] at h2
  exact h2

/-- No new block among them. -/
theorem wp_soft0 {id : Nat} {Q : Exit → Act → World → Prop} {a : Act} {w : World} {l : List Oper} {T : Act → World → Prop} (n : Nat) (hm : P.follows .mixedOrders = true) (hok : softOk .any l.toArray [] n = true)
    (hT : ∀ a w, T a w → wpAny P .any l.toArray Q (l.length - n) (allHead l.toArray n) a w)
    (h : softLex P l.toArray (Cls w) [] (fun a' => ∀ w', Below w.heap.size w w' → T a' w') (l.take n) 0 a) : (Code.region id l.toArray true).wp P Q a w :=
  wp_soft n [] hm hok hT (by
    have mono : ∀ (L L' : Act → Prop), (∀ a, L a → L' a) → ∀ (m : List Oper) (k : Nat) (a : Act), softLex P l.toArray (Cls w) [] L m k a → softLex P l.toArray (Cls w) [] L' m k a := by
      intro L L' hL m
      induction m with
      | nil => intro k a h; exact hL _ h
      | cons o m ih => intro k a h; obtain ⟨v, h1, h2⟩ := h; exact ⟨v, h1, ih _ _ h2⟩
    exact mono _ _ (fun a h w' β hb _ _ => h w' hb) _ _ _ h)

theorem softLex_mono {w : World} {L L' : Act → Prop} (hL : ∀ a, L a → L' a) : ∀ (m : List Oper) (k : Nat) (a : Act), softLex P ops (Cls w) As L m k a → softLex P ops (Cls w) As L' m k a := by
  intro m
  induction m with
  | nil => intro k a h; exact hL _ h
  | cons o m ih => intro k a h; obtain ⟨v, h1, h2⟩ := h; exact ⟨v, h1, ih _ _ h2⟩

/-- One new block. -/
theorem wp_soft1 {id : Nat} {Q : Exit → Act → World → Prop} {a : Act} {w : World} {l : List Oper} {T : Act → World → Prop} (n : Nat) (x : Fresh) (hm : P.follows .mixedOrders = true) (hok : softOk .any l.toArray [x] n = true)
    (hT : ∀ a w, T a w → wpAny P .any l.toArray Q (l.length - n) (allHead l.toArray n) a w)
    (h : softLex P l.toArray (Cls w) [x] (fun a' => ∀ w' b, Below w.heap.size w w' → w.heap.size ≤ b → w'.heap[b]? = some x.last → T (a'.put (some x.dst) (x.ptr b)) w') (l.take n) 0 a) : (Code.region id l.toArray true).wp P Q a w := by
  refine wp_soft n [x] hm hok hT ?_
  refine softLex_mono ?_ _ _ _ h
  intro a h w' β hb h1 _
  exact h w' (β x.place) hb (h1 x (by simp)).1 (h1 x (by simp)).2

/-- Two new blocks. -/
theorem wp_soft2 {id : Nat} {Q : Exit → Act → World → Prop} {a : Act} {w : World} {l : List Oper} {T : Act → World → Prop} (n : Nat) (x y : Fresh) (hm : P.follows .mixedOrders = true) (hok : softOk .any l.toArray [x, y] n = true)
    (hT : ∀ a w, T a w → wpAny P .any l.toArray Q (l.length - n) (allHead l.toArray n) a w)
    (h : softLex P l.toArray (Cls w) [x, y] (fun a' => ∀ w' b c, Below w.heap.size w w' → w.heap.size ≤ b → w.heap.size ≤ c → b ≠ c → w'.heap[b]? = some x.last → w'.heap[c]? = some y.last → T ((a'.put (some y.dst) (y.ptr c)).put (some x.dst) (x.ptr b)) w') (l.take n) 0 a) : (Code.region id l.toArray true).wp P Q a w := by
  refine wp_soft n [x, y] hm hok hT ?_
  refine softLex_mono ?_ _ _ _ h
  intro a h w' β hb h1 h2
  have hne : x.place ≠ y.place := by
    simp only [softOk, Bool.and_eq_true, decide_eq_true_eq] at hok
    have := hok.1.2
    simpa using this
  exact h w' (β x.place) (β y.place) hb (h1 x (by simp)).1 (h1 y (by simp)).1 (h2 x (by simp) y (by simp) hne) (h1 x (by simp)).2 (h1 y (by simp)).2

/-- Nothing behind them. -/
theorem tail_end {Q : Exit → Act → World → Prop} {l : List Oper} {n : Nat} (h : Region.ready .any l.toArray (allHead l.toArray n) = []) (a : Act) (w : World) (hq : Q .normal a w) : wpAny P .any l.toArray Q (l.length - n) (allHead l.toArray n) a w := by
  cases l.length - n with
  | zero => exact ⟨h, hq⟩
  | succ f => exact ⟨fun _ => hq, fun i hi => by rw [h] at hi; cases hi⟩

/-- Behind them one by one. -/
theorem tail_seq {Q : Exit → Act → World → Prop} {l : List Oper} {n : Nat} (h : Region.seqB .any l.toArray (l.length - n) n (allHead l.toArray n) = true) (a : Act) (w : World) (hq : wpList P l.toArray Q (l.drop n) a w) : wpAny P .any l.toArray Q (l.length - n) (allHead l.toArray n) a w := by
  have := wpAny_of_seq (md := .any) (Q' := Q) (l.drop n) n (allHead l.toArray n) a w (fun j => by simp [List.getElem?_drop]) (by simpa using h) hq
  simpa using this

/-- Behind them two, in either order. -/
theorem tail_two {Q : Exit → Act → World → Prop} {l : List Oper} {n : Nat} (o o' : Oper) (hl : l.drop n = [o, o']) (h : Region.ready .any l.toArray (allHead l.toArray n) = [n, n + 1])
    (h1 : Region.ready .any l.toArray ((allHead l.toArray n).setIfInBounds n true) = [n + 1]) (h2 : Region.ready .any l.toArray ((allHead l.toArray n).setIfInBounds (n + 1) true) = [n])
    (h3 : Region.ready .any l.toArray (((allHead l.toArray n).setIfInBounds n true).setIfInBounds (n + 1) true) = []) (h4 : Region.ready .any l.toArray (((allHead l.toArray n).setIfInBounds (n + 1) true).setIfInBounds n true) = [])
    (a : Act) (w : World) (hq : wpList P l.toArray Q [o, o'] a w ∧ wpList P l.toArray Q [o', o] a w) : wpAny P .any l.toArray Q (l.length - n) (allHead l.toArray n) a w := by
  have hlen : l.length - n = 2 := by
    have := congrArg List.length hl
    simpa using this
  have g0 : l.toArray[n]? = some o := by
    have : (l.drop n)[0]? = some o := by rw [hl]; rfl
    simpa [List.getElem?_drop] using this
  have g1 : l.toArray[n + 1]? = some o' := by
    have : (l.drop n)[1]? = some o' := by rw [hl]; rfl
    simpa [List.getElem?_drop] using this
  rw [hlen]
  refine ⟨fun h0 => (by rw [h] at h0; cases h0), fun i hi => ?_⟩
  rw [h] at hi
  have hi : i = n ∨ i = n + 1 := by simpa using hi
  rcases hi with rfl | rfl
  · have e : wpOp P l.toArray Q i (wpList P l.toArray Q [o']) a w := by unfold wpOp; simp only [g0]; exact hq.1
    refine wpOp_mono (fun a' w' h' => ⟨fun h0 => (by rw [h1] at h0; cases h0), fun j hj => ?_⟩) e
    rw [h1] at hj
    have hj : j = i + 1 := by simpa using hj
    subst hj
    have e' : wpOp P l.toArray Q (i + 1) (Q .normal) a' w' := by unfold wpOp; simp only [g1]; exact h'
    exact wpOp_mono (fun a' w' h' => ⟨h3, h'⟩) e'
  · have e : wpOp P l.toArray Q (n + 1) (wpList P l.toArray Q [o]) a w := by unfold wpOp; simp only [g1]; exact hq.2
    refine wpOp_mono (fun a' w' h' => ⟨fun h0 => (by rw [h2] at h0; cases h0), fun j hj => ?_⟩) e
    rw [h2] at hj
    have hj : j = n := by simpa using hj
    subst hj
    have e' : wpOp P l.toArray Q j (Q .normal) a' w' := by unfold wpOp; simp only [g0]; exact h'
    exact wpOp_mono (fun a' w' h' => ⟨h4, h'⟩) e'

end
end Go.Proofs.Ytickfnedplbleaa
