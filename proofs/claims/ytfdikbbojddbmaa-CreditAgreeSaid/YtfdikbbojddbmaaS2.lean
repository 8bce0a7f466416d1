/- A region that draws its order and whose calls give values that are not known ahead (fresh slices, say): each such call is named with the values that it may give and with what it promises of memory; one walk in the text's order, for every value, serves all orders. -/
import Derived.Test.YtfdikbbojddbmaaS
namespace Go.Proofs.Ytfdikbbojddbmaa
open Go.RowKit

/-- A call at a place, the value that it gives, by what is not known ahead, and what it promises. -/
structure Opened (X : Type) where
  place : Nat
  val : X → Value
  keep : X → World → Prop

def isOpen {X : Type} (Es : List (Opened X)) (i : Nat) : Bool := Es.any fun e => e.place == i

/-- Places that stand before i in every order, found in few steps. -/
def preds (md : Region.Mode) (ops : Array Oper) : Nat → Nat → List Nat
  | 0, _ => []
  | f + 1, i => match ops[i]? with
    | some o => (o.after.toList.filter fun e => Region.binds md e).flatMap fun e => e.on :: preds md ops f e.on
    | none => []

/-- What has been listed has what it needs listed. -/
def Closed (md : Region.Mode) (ops : Array Oper) (listed : Array Bool) : Prop := ∀ k o, listed.getD k false = true → ops[k]? = some o → ∀ e ∈ o.after, Region.binds md e = true → listed.getD e.on false = true

theorem preds_listed {md : Region.Mode} {ops : Array Oper} {listed : Array Bool} (hc : Closed md ops listed) : ∀ (f i : Nat), (∀ o, ops[i]? = some o → ∀ e ∈ o.after, Region.binds md e = true → listed.getD e.on false = true) → ∀ j ∈ preds md ops f i, listed.getD j false = true
  | 0, _, _, j, hj => by cases hj
  | f + 1, i, hi, j, hj => by
    unfold preds at hj
    cases ho : ops[i]? with
    | none => rw [ho] at hj; cases hj
    | some o =>
      rw [ho] at hj
      obtain ⟨e, he, hje⟩ := List.mem_flatMap.1 hj
      obtain ⟨he1, he2⟩ := List.mem_filter.1 he
      have hon := hi o ho e (Array.mem_toList_iff.1 he1) he2
      rcases List.mem_cons.1 hje with rfl | hje
      · exact hon
      · exact preds_listed hc f e.on (fun o' ho' e' he' hb' => hc e.on o' hon ho' e' he' hb') j hje

def openUpon (w : World) (v : Value) : Result Next → Prop
  | .ok (.value u) w' => w' = w ∧ u = v
  | .ok .skip w' => w' = w ∧ v = undef
  | _ => False

def openAt (P : Program) (o : Oper) (a : Act) (w : World) (v : Value) : Prop := openUpon w v ((execOp a.eval o).run P w)

def callUpon {X : Type} (P : Program) (w : World) (e : Opened X) : Result Next → Prop
  | .ok (.enter f args) w' => w' = w ∧ Calls P f args w (fun r w'' => ∃ x, r = .returned (e.val x) ∧ Below w.heap.size w w'' ∧ e.keep x w'')
  | _ => False

section
variable {X : Type} (P : Program) (md : Region.Mode) (ops : Array Oper) (C : World → Prop) (As : List Fresh) (Es : List (Opened X)) (n : Nat)

/-- The promises that stand before i. -/
def keeps (vs : Nat → X) (i : Nat) (w : World) : Prop := ∀ e ∈ Es, e.place ∈ preds md ops 3 i → e.keep (vs e.place) w

def openGives (vs : Nat → X) (i : Nat) (o : Oper) (v : Value) (a : Act) : Prop :=
  if isFresh As i then v = undef ∧ o.guard = none ∧ ∀ x ∈ As, x.place = i → o.dst = some x.dst ∧ ∀ w, C w → (execOp a.eval o).run P w = .ok (.value (x.ptr w.heap.size)) (w.alloc x.obj)
  else if isFill As i then v = undef ∧ o.guard = none ∧ o.dst = none ∧ ∀ x ∈ As, x.store = some i → ∀ w b, C w → w.heap[b]? = some x.obj → ∃ w2, (execOp (a.put (some x.dst) (x.ptr b)).eval o).run P w = .ok .skip w2 ∧ Turned w w2 b x.full
  else if isOpen Es i then o.guard = none ∧ ∀ e ∈ Es, e.place = i → v = e.val (vs i) ∧ ∀ w, C w → keeps md ops Es vs i w → callUpon P w e ((execOp a.eval o).run P w)
  else (Region.wanted o (yielded ops a.tmps) = true ∧ ∀ w, C w → keeps md ops Es vs i w → openAt P o a w v) ∨ (Region.wanted o (yielded ops a.tmps) = false ∧ v = undef)

def openOp (vs : Nat → X) (i : Nat) (K : Act → Prop) (a : Act) : Prop := ∃ o v, ops[i]? = some o ∧ openGives P md ops C As Es vs i o v a ∧ K (a.put o.dst v)

def openAny (vs : Nat → X) (L : Act → Prop) : Nat → Array Bool → Act → Prop
  | 0, listed, a => (∀ j ∈ Region.ready md ops listed, n ≤ j) ∧ L a
  | f + 1, listed, a => Region.ready md ops listed ≠ [] ∧ ∀ i ∈ Region.ready md ops listed, i < n ∧ openOp P md ops C As Es vs i (openAny vs L f (listed.setIfInBounds i true)) a

def openLex (vs : Nat → X) (L : Act → Prop) : List Oper → Nat → Act → Prop
  | [], _, a => L a
  | o :: l, k, a => ∃ v, openGives P md ops C As Es vs k o v a ∧ openLex vs L l (k + 1) (a.put o.dst v)
end

section
variable {X : Type} {P : Program} {md : Region.Mode} {ops : Array Oper} {C : World → Prop} {As : List Fresh} {Es : List (Opened X)} {n : Nat} {vs : Nat → X}
theorem openGives_same {i : Nat} {o : Oper} {v : Value} {a a' : Act} (h : openGives P md ops C As Es vs i o v a) (he : execOp a'.eval o = execOp a.eval o)
    (hf : ∀ d u, execOp (a'.put d u).eval o = execOp (a.put d u).eval o)
    (hw : Region.wanted o (yielded ops a'.tmps) = Region.wanted o (yielded ops a.tmps)) : openGives P md ops C As Es vs i o v a' := by
  unfold openGives openAt at *
  simp only [hf]
  rw [he, hw]
  exact h

theorem openOp_mono {i : Nat} {a : Act} {K K' : Act → Prop} (hk : ∀ a, K a → K' a) (h : openOp P md ops C As Es vs i K a) : openOp P md ops C As Es vs i K' a :=
  let ⟨o, v, h1, h2, h3⟩ := h
  ⟨o, v, h1, h2, hk _ h3⟩

theorem openOp_put {i j : Nat} {oi oj : Oper} {v : Value} (hj : ops[j]? = some oj) (hap : oi.apart ops oj = true)
    (hsi : ∀ cs b, oi.op ≠ .select cs b) (hsj : ∀ cs b, oj.op ≠ .select cs b) {K : Act → Prop} {a : Act}
    (hy : openGives P md ops C As Es vs i oi v a) (h : openOp P md ops C As Es vs j K (a.put oi.dst v)) :
    openOp P md ops C As Es vs j (fun a' => openGives P md ops C As Es vs i oi v a' ∧ K (a'.put oi.dst v)) a := by
  obtain ⟨h1, h2, h3⟩ := Oper.apart_spec hap
  obtain ⟨o, u, ho, hg, hk⟩ := h
  obtain rfl : oj = o := Option.some.inj (hj.symm.trans ho)
  refine ⟨oj, u, hj, openGives_same hg (execOp_put oj hsj a oi.dst v h1).symm (fun d x => (execOp_put_put oj hsj a oi.dst d v x h1).symm) (wanted_put oj a oi.dst v h1).symm,
    openGives_same hy (execOp_put oi hsi a oj.dst u h3) (fun d x => execOp_put_put oi hsi a oj.dst d u x h3) (wanted_put oi a oj.dst u h3), ?_⟩
  rw [← Act.put_comm a v u h2]
  exact hk

theorem openAny_first (hns : Region.noSelect ops = true) (ht : tailOk md ops n = true) {L : Act → Prop} {i : Nat} {oi : Oper} {v : Value} (hi : ops[i]? = some oi) (hin : i < n) :
    ∀ (f : Nat) (listed : Array Bool) (a : Act),
      (∀ j oj, ops[j]? = some oj → j ≠ i → listed.getD j true = false → (∀ e ∈ oj.after, Region.binds md e = true → e.on ≠ i) → oi.apart ops oj = true) →
      i ∈ Region.ready md ops listed → openGives P md ops C As Es vs i oi v a →
      openAny P md ops C As Es n vs L f (listed.setIfInBounds i true) (a.put oi.dst v) → openAny P md ops C As Es n vs L (f + 1) listed a := by
  intro f
  induction f with
  | zero =>
    intro listed a _ hr hy H
    have hun := unl (mem_ready.1 hr).1
    refine ⟨fun h => (by rw [h] at hr; cases hr), fun j hj => ?_⟩
    have hjn := tail_out ht hin hun hj
    refine ⟨hjn, ?_⟩
    by_cases hji : j = i
    · subst hji; exact ⟨oi, v, hi, hy, H⟩
    · have := H.1 j (ready_mono hj hji)
      omega
  | succ f ih =>
    intro listed a hfree hr hy H
    have hun := unl (mem_ready.1 hr).1
    refine ⟨fun h => (by rw [h] at hr; cases hr), fun j hj => ?_⟩
    have hjn := tail_out ht hin hun hj
    refine ⟨hjn, ?_⟩
    by_cases hji : j = i
    · subst hji; exact ⟨oi, v, hi, hy, H⟩
    · have h1 := (H.2 j (ready_mono hj hji)).2
      obtain ⟨hjun, oj, hoj, hall⟩ := mem_ready.1 hj
      have hnot : ∀ e ∈ oj.after, Region.binds md e = true → e.on ≠ i := fun e he hb heq => by
        have h2 := hall e he hb
        rw [heq, hun] at h2
        cases h2
      have h2 := openOp_put (i := i) hoj (hfree j oj hoj hji hjun hnot) (fun cs b => Region.noSelect_spec hns i oi cs b hi) (fun cs b => Region.noSelect_spec hns j oj cs b hoj) hy h1
      refine openOp_mono (fun a' h3 => ih (listed.setIfInBounds j true) a' ?_ (ready_mono hr (Ne.symm hji)) h3.1 ?_) h2
      · intro k ok hk hki hku hno
        refine hfree k ok hk hki ?_ hno
        by_cases hjk : j = k
        · subst hjk; exact hjun
        · rw [getD_set_ne true hjk] at hku; exact hku
      · rw [Array.setIfInBounds_comm _ _ hji]
        exact h3.2

theorem openAny_lex (hns : Region.noSelect ops = true) (ht : tailOk md ops n = true) {L : Act → Prop} : ∀ (l : List Oper) (k : Nat) (listed : Array Bool) (a : Act), (∀ j, j < l.length → l[j]? = ops[k + j]?) → k + l.length ≤ n →
    lexOk md ops n l.length k listed = true → openLex P md ops C As Es vs L l k a → openAny P md ops C As Es n vs L l.length listed a
  | [], k, listed, a, _, _, hB, h => by
    refine ⟨fun j hj => ?_, h⟩
    have := List.all_eq_true.1 hB j hj
    simpa using this
  | o :: l, k, listed, a, hl, hk, hB, h => by
    have h0 : ops[k]? = some o := by simpa using (hl 0 (by simp)).symm
    simp only [List.length_cons, lexOk, Bool.and_eq_true] at hB
    obtain ⟨⟨hr, hf⟩, hB'⟩ := hB
    obtain ⟨v, hy, hK⟩ := h
    simp only [List.length_cons] at hk
    exact openAny_first hns ht h0 (by omega) l.length listed a (Region.free_spec h0 hf) (by simpa using hr) hy
      (openAny_lex hns ht l (k + 1) _ _ (fun j hj => by have := hl (j + 1) (by simp; omega); simpa [Nat.add_assoc, Nat.add_comm 1 j] using this) (by omega) hB' hK)

theorem openUpon_one {w : World} {v v' : Value} {r : Result Next} (h : openUpon w v r) (h' : openUpon w v' r) : v = v' := by
  cases r with
  | halt x w' => exact h.elim
  | ok m w' =>
    cases m <;> simp only [openUpon] at h h'
    case value u => rw [← h.2, ← h'.2]
    case skip => rw [h.2, h'.2]

theorem listed_mono {listed : Array Bool} {i k : Nat} (h : listed.getD k false = true) : (listed.setIfInBounds i true).getD k false = true := getD_set_true h

theorem wpAny_of_open {Q : Exit → Act → World → Prop} (hns : Region.noSelect ops = true) (hfr : freshOk ops As n = true) (hfl : fillOk md ops As n = true) (hnd : (As.map (·.place)).Nodup)
    (hno : ∀ e ∈ Es, isFresh As e.place = false ∧ isFill As e.place = false ∧ e.place < n) (hnE : ∀ e ∈ Es, ∀ e' ∈ Es, e.place = e'.place → e = e')
    (hkb : ∀ e ∈ Es, ∀ x w w', C w → e.keep x w → Below w.heap.size w w' → e.keep x w') (hkt : ∀ e ∈ Es, ∀ y ∈ As, ∀ x w w2 b, C w → e.keep x w → w.heap[b]? = some y.obj → Turned w w2 b y.full → e.keep x w2)
    (hCb : ∀ w w', C w → Below w.heap.size w w' → C w') {L : (Nat → X) → Act → Prop} {B g : Nat} (hB : ∀ w, C w → B ≤ w.heap.size)
    (hCt : ∀ w w2 b o, C w → B ≤ b → Turned w w2 b o → C w2)
    (hL : ∀ a w β vs, L vs a → C w → ownA B As (allHead ops n) β w → (∀ e ∈ Es, e.keep (vs e.place) w) → wpAny P md ops Q g (allHead ops n) (putA (allHead ops n) β As a) w) :
    ∀ (f : Nat) (listed : Array Bool) (a : Act) (β : Nat → Nat) (w : World) (v0 : Nat → X), (∀ vs : Nat → X, (∀ e ∈ Es, listed.getD e.place false = true → vs e.place = v0 e.place) → openAny P md ops C As Es n vs (L vs) f listed a) → (∀ e ∈ Es, listed.getD e.place false = true → e.keep (v0 e.place) w) → Closed md ops listed → listed.size = ops.size → (∀ t, n ≤ t → t < ops.size → listed.getD t true = false) →
      (List.range n).countP (fun k => !listed.getD k false) = f → n ≤ ops.size → C w → ownA B As listed β w → (∀ x ∈ As, ∀ s, x.store = some s → listed.getD s false = true → listed.getD x.place false = true) → wpAny P md ops Q (f + g) listed (putA listed β As a) w
  | 0, listed, a, β, w, v0, hh, hpr, _, hsz, htl, hc, hn, hw, ho, _ => by
    have h := hh v0 fun _ _ _ => rfl
    have hall : ∀ i, i < n → listed.getD i true = true := by
      intro i hi
      rw [List.countP_eq_zero] at hc
      have h1 := hc i (List.mem_range.2 hi)
      have hil : i < listed.size := by omega
      simp [hil] at h1 ⊢
      exact h1
    have he := allHead_eq hsz hall htl
    subst he
    rw [Nat.zero_add]
    exact hL a w β v0 h.2 hw ho fun e he => hpr e he (allHead_in (hno e he).2.2 hn)
  | f + 1, listed, a, β, w, v0, hh, hpr, hz, hsz, htl, hc, hn, hw, ho, hcl => by
    have h := hh v0 fun _ _ _ => rfl
    rw [show f + 1 + g = (f + g) + 1 by omega]
    refine ⟨fun h0 => absurd h0 h.1, fun i hi => ?_⟩
    obtain ⟨hin, o, v, hop, hg, hk0⟩ := h.2 i hi
    obtain ⟨hun0, o0, ho0, hedges⟩ := mem_ready.1 hi
    obtain rfl : o = o0 := Option.some.inj (hop.symm.trans ho0)
    have HV : ∀ vs : Nat → X, (∀ e ∈ Es, listed.getD e.place false = true → vs e.place = v0 e.place) → ∃ u, openGives P md ops C As Es vs i o u a ∧ openAny P md ops C As Es n vs (L vs) f (listed.setIfInBounds i true) (a.put o.dst u) := by
      intro vs hvs
      obtain ⟨_, o1, u, hop1, hg1, hk1⟩ := (hh vs hvs).2 i hi
      obtain rfl : o = o1 := Option.some.inj (hop.symm.trans hop1)
      exact ⟨u, hg1, hk1⟩
    have hsub : ∀ vs vs' : Nat → X, (∀ e ∈ Es, (listed.setIfInBounds i true).getD e.place false = true → vs e.place = vs' e.place) → ∀ e ∈ Es, listed.getD e.place false = true → vs e.place = vs' e.place := fun vs vs' h e he hl => h e he (listed_mono hl)
    have hz' : Closed md ops (listed.setIfInBounds i true) := by
      intro k ok hk hok e he hb
      by_cases hki : i = k
      · subst hki
        obtain rfl : o = ok := Option.some.inj (hop.symm.trans hok)
        exact listed_mono (hedges e he hb)
      · rw [getD_set_ne false hki] at hk
        exact listed_mono (hz k ok hk hok e he hb)
    have hpre : ∀ vs : Nat → X, (∀ e ∈ Es, listed.getD e.place false = true → vs e.place = v0 e.place) → keeps md ops Es vs i w := by
      intro vs hvs e he hp
      have hl := preds_listed hz 3 i (fun o' ho' e' he' hb' => by
        obtain rfl : o = o' := Option.some.inj (hop.symm.trans ho')
        exact hedges e' he' hb') e.place hp
      rw [hvs e he hl]
      exact hpr e he hl
    have hun := unl hun0
    have hil : i < listed.size := by omega
    have hsel : ∀ cs b, o.op ≠ .select cs b := fun cs b => Region.noSelect_spec hns i o cs b hop
    have hlookY : ∀ y ∈ As, y.store ≠ some i → listed.getD y.place false = true → y.dst ∉ o.looksAt ops := by
      intro y hy hst hl
      obtain ⟨_, oi, hoi, hdst, hap⟩ := freshOk_spec hfr y hy
      have hne : i ≠ y.place := fun hc => by rw [← hc, hun] at hl; cases hl
      exact (Oper.apart_spec (hap i o hin hne hst hop)).1 y.dst hdst
    have hsz' : (listed.setIfInBounds i true).size = ops.size := by simpa using hsz
    have htl' : ∀ t, n ≤ t → t < ops.size → (listed.setIfInBounds i true).getD t true = false := fun t ht ht' => by rw [getD_set_ne true (by omega)]; exact htl t ht ht'
    have hc' := count_set hin hil hun hc
    have hcl' : ∀ x ∈ As, ∀ s, x.store = some s → (listed.setIfInBounds i true).getD s false = true → (listed.setIfInBounds i true).getD x.place false = true := by
      intro x hx s hs hl
      by_cases his : i = s
      · obtain ⟨_, _, _, h4⟩ := fillOk_spec hfl x hx s hs
        obtain ⟨e, he, hb, hon⟩ := h4 o (his ▸ hop)
        have := hedges e he hb
        rw [hon] at this
        exact getD_set_true this
      · rw [getD_set_ne false his] at hl
        exact getD_set_true (hcl x hx s hs hl)
    unfold wpOp
    simp only [hop]
    unfold openGives at hg
    by_cases hfi : isFresh As i = true
    · have hnst : ∀ y ∈ As, y.store ≠ some i := fun y hy hs => by
        have := (fillOk_spec hfl y hy i hs).2.1
        rw [hfi] at this
        cases this
      obtain ⟨hev, hwa⟩ := eval_putA (ops := ops) (β := β) hsel As a fun y hy hl => hlookY y hy (hnst y hy) hl
      rw [if_pos hfi] at hg
      obtain ⟨rfl, hgd, hrun⟩ := hg
      have hni : ∀ e ∈ Es, e.place ≠ i := fun e he hc => by
        have := (hno e he).1
        rw [hc, hfi] at this
        cases this
      have hk : ∀ vs : Nat → X, (∀ e ∈ Es, (listed.setIfInBounds i true).getD e.place false = true → vs e.place = v0 e.place) → openAny P md ops C As Es n vs (L vs) f (listed.setIfInBounds i true) (a.put o.dst undef) := by
        intro vs hvs
        obtain ⟨u, hg1, hk1⟩ := HV vs (hsub vs v0 hvs)
        unfold openGives at hg1
        rw [if_pos hfi] at hg1
        rw [hg1.1] at hk1
        exact hk1
      have hpr' : ∀ e ∈ Es, (listed.setIfInBounds i true).getD e.place false = true → ∀ w', Below w.heap.size w w' → e.keep (v0 e.place) w' := fun e he hl w' hb => by
        rw [getD_set_ne false (Ne.symm (hni e he))] at hl
        exact hkb e he _ _ _ hw (hpr e he hl) hb
      obtain ⟨x, hx, hxp⟩ := List.any_eq_true.1 hfi
      have hxp : x.place = i := by simpa using hxp
      obtain ⟨hdst, hr⟩ := hrun x hx hxp
      have hwt : Region.wanted o (yielded ops (putA listed β As a).tmps) = true := by simp [Region.wanted, hgd]
      rw [if_pos hwt]
      refine .inl ?_
      unfold Oper.wp
      rw [hev, hr w hw]
      show wpAny P md ops Q (f + g) (listed.setIfInBounds i true) ((putA listed β As a).put o.dst (x.ptr w.heap.size)) (w.alloc x.obj)
      have hpl : ∀ y ∈ As, y.place ≠ x.place → y.dst ≠ x.dst := by
        intro y hy hne
        obtain ⟨_, oi, hoi, hd, hap⟩ := freshOk_spec hfr y hy
        intro he
        refine (Oper.apart_spec (hap i o hin (fun hc => hne (by rw [hxp]; exact hc.symm)) (hnst y hy) hop)).2.1 y.dst hd ?_
        rw [hdst, he]
      have e := putA_new (β := β) (b := w.heap.size) (x := x) (by rw [hxp]; exact hil) (by rw [hxp]; exact hun) undef As a hx hnd hpl
      rw [hxp] at e
      rw [hdst] at hk ⊢
      rw [← e]
      have hoo : ownA B As (listed.setIfInBounds i true) (fun k => if k = i then w.heap.size else β k) (w.alloc x.obj) := by
        have hlt : ∀ y ∈ As, listed.getD y.place false = true → β y.place < w.heap.size := fun y hy hl => (Array.getElem?_eq_some_iff.1 (ho.1 y hy hl).2).1
        refine ⟨fun y hy hl => ?_, fun y hy z hz hl hl' hne => ?_⟩
        · rw [now_set (hnst y hy)]
          by_cases hyi : y.place = i
          · have hyx : y = x := place_inj hnd hx hy (hyi.trans hxp.symm)
            subst hyx
            have hnow : y.now listed = y.obj := by
              unfold Fresh.now
              cases hs : y.store with
              | none => rfl
              | some s =>
                have : listed.getD s false ≠ true := fun hc => by
                  have := hcl y hy s hs hc
                  rw [hyi, hun] at this
                  cases this
                simp only [this, if_false, Bool.false_eq_true]
            rw [hnow]
            simp only [hyi, if_true]
            exact ⟨hB w hw, by show (w.heap.push y.obj)[w.heap.size]? = _; simp⟩
          · rw [getD_set_ne false (Ne.symm hyi)] at hl
            simp only [hyi, if_false]
            refine ⟨(ho.1 y hy hl).1, ?_⟩
            have := Below.heap_alloc w x.obj _ (hlt y hy hl)
            rw [this]
            exact (ho.1 y hy hl).2
        · by_cases hyi : y.place = i
          · have hzi : z.place ≠ i := fun hc => hne (by rw [hyi, hc])
            rw [getD_set_ne false (Ne.symm hzi)] at hl'
            have := hlt z hz hl'
            simp only [hyi, if_true, hzi, if_false]
            omega
          · rw [getD_set_ne false (Ne.symm hyi)] at hl
            have h1 := hlt y hy hl
            by_cases hzi : z.place = i
            · simp only [hyi, if_false, hzi, if_true]
              omega
            · rw [getD_set_ne false (Ne.symm hzi)] at hl'
              simp only [hyi, if_false, hzi]
              exact ho.2 y hy z hz hl hl' hne
      exact wpAny_of_open hns hfr hfl hnd hno hnE hkb hkt hCb hB hCt hL f _ _ _ _ v0 hk (fun e he hl => hpr' e he hl _ ((Below.refl _ _).alloc (Nat.le_refl _) _)) hz' hsz' htl' hc' hn (hCb _ _ hw ((Below.refl _ _).alloc (Nat.le_refl _) _)) hoo hcl'
    · rw [if_neg hfi] at hg
      have hpi : ∀ x ∈ As, x.place ≠ i := fun x hx hc => hfi (List.any_eq_true.2 ⟨x, hx, by simp [hc]⟩)
      by_cases hff : isFill As i = true
      · rw [if_pos hff] at hg
        obtain ⟨rfl, hgd, hdn, hrun⟩ := hg
        have hni : ∀ e ∈ Es, e.place ≠ i := fun e he hc => by
          have := (hno e he).2.1
          rw [hc, hff] at this
          cases this
        have hk : ∀ vs : Nat → X, (∀ e ∈ Es, (listed.setIfInBounds i true).getD e.place false = true → vs e.place = v0 e.place) → openAny P md ops C As Es n vs (L vs) f (listed.setIfInBounds i true) (a.put o.dst undef) := by
          intro vs hvs
          obtain ⟨u, hg1, hk1⟩ := HV vs (hsub vs v0 hvs)
          unfold openGives at hg1
          rw [if_neg hfi, if_pos hff] at hg1
          rw [hg1.1] at hk1
          exact hk1
        obtain ⟨x, hx, hxs⟩ := List.any_eq_true.1 hff
        have hxs : x.store = some i := by simpa using hxs
        obtain ⟨_, _, hoth, hed⟩ := fillOk_spec hfl x hx i hxs
        obtain ⟨e, he, hb, hon⟩ := hed o hop
        have hxl : listed.getD x.place false = true := by
          have := hedges e he hb
          rwa [hon] at this
        have hnow : x.now listed = x.obj := by
          unfold Fresh.now
          simp only [hxs, hun, Bool.false_eq_true, if_false]
        have hblk := (ho.1 x hx hxl).2
        rw [hnow] at hblk
        obtain ⟨w2, hr2, ht⟩ := hrun x hx hxs w (β x.place) hw hblk
        have hpl : ∀ y ∈ As, y.place ≠ x.place → y.dst ≠ x.dst := by
          intro y hy hne
          obtain ⟨_, oi, hoi, hd, hap⟩ := freshOk_spec hfr y hy
          obtain ⟨hxn, ox, hox, hdx, _⟩ := freshOk_spec hfr x hx
          intro he
          refine (Oper.apart_spec (hap x.place ox hxn (Ne.symm hne) (fun hc => ?_) hox)).2.1 y.dst hd (by rw [hdx, he])
          have := (fillOk_spec hfl y hy x.place hc).2.1
          have h2 : isFresh As x.place = true := List.any_eq_true.2 ⟨x, hx, by simp⟩
          rw [h2] at this
          cases this
        have e1 := putA_pull (β := β) hxl As a hx hnd hpl
        obtain ⟨hev, _⟩ := eval_putA (ops := ops) (listed := listed) (β := β) hsel (As.filter fun y => y.place != x.place) (a.put (some x.dst) (x.ptr (β x.place))) fun y hy hl => by
          have hm := List.mem_filter.1 hy
          have hne : y.place ≠ x.place := by simpa using hm.2
          exact hlookY y hm.1 (hoth y hm.1 hne) hl
        have hwt : Region.wanted o (yielded ops (putA listed β As a).tmps) = true := by simp [Region.wanted, hgd]
        rw [if_pos hwt]
        refine .inl ?_
        unfold Oper.wp
        rw [e1, hev, hr2]
        show wpAny P md ops Q (f + g) (listed.setIfInBounds i true) ((putA listed β (As.filter fun y => y.place != x.place) (a.put (some x.dst) (x.ptr (β x.place)))).put o.dst undef) w2
        rw [← e1]
        have e2 : (putA listed β As a).put o.dst undef = putA (listed.setIfInBounds i true) β As (a.put o.dst undef) := by
          rw [hdn]
          exact putA_congr As a fun z hz => ⟨(getD_set_ne false (Ne.symm (hpi z hz))).symm, rfl⟩
        rw [e2]
        have hoo : ownA B As (listed.setIfInBounds i true) β w2 := by
          refine ⟨fun y hy hl => ?_, fun y hy z hz hl hl' hne => ?_⟩
          · rw [getD_set_ne false (Ne.symm (hpi y hy))] at hl
            refine ⟨(ho.1 y hy hl).1, ?_⟩
            by_cases hyx : y.place = x.place
            · have hyx : y = x := place_inj hnd hx hy hyx
              subst hyx
              have : y.now (listed.setIfInBounds i true) = y.full := by
                unfold Fresh.now
                simp only [hxs, getD_set_self hil, if_true]
              rw [this]
              exact ht.here
            · rw [now_set (hoth y hy hyx), ht.other _ (ho.2 y hy x hx hl hxl hyx)]
              exact (ho.1 y hy hl).2
          · rw [getD_set_ne false (Ne.symm (hpi y hy))] at hl
            rw [getD_set_ne false (Ne.symm (hpi z hz))] at hl'
            exact ho.2 y hy z hz hl hl' hne
        exact wpAny_of_open hns hfr hfl hnd hno hnE hkb hkt hCb hB hCt hL f _ _ _ _ v0 hk (fun e he hl => by
          rw [getD_set_ne false (Ne.symm (hni e he))] at hl
          exact hkt e he x hx _ _ _ _ hw (hpr e he hl) hblk ht) hz' hsz' htl' hc' hn (hCt _ _ _ _ hw (ho.1 x hx hxl).1 ht) hoo hcl'
      · rw [if_neg hff] at hg
        have hnst : ∀ y ∈ As, y.store ≠ some i := fun y hy hs => hff (List.any_eq_true.2 ⟨y, hy, by simp [hs]⟩)
        obtain ⟨hev, hwa⟩ := eval_putA (ops := ops) (β := β) hsel As a fun y hy hl => hlookY y hy (hnst y hy) hl
        have hcm : ∀ u : Value, putA (listed.setIfInBounds i true) β As (a.put o.dst u) = (putA listed β As a).put o.dst u := by
          intro u
          rw [putA_comm _ _ _ _ _ _ (fun y hy hc => ?_)]
          · rw [putA_congr (listed := listed.setIfInBounds i true) (listed' := listed) (β := β) (β' := β) As a fun z hz => ⟨getD_set_ne false (Ne.symm (hpi z hz)), rfl⟩]
          · obtain ⟨_, oi, hoi, hd, hap⟩ := freshOk_spec hfr y hy
            exact (Oper.apart_spec (hap i o hin (Ne.symm (hpi y hy)) (hnst y hy) hop)).2.1 y.dst hd hc
        have hos := own_set (fun x hx => ⟨hpi x hx, hnst x hx⟩) ho
        by_cases hoe : isOpen Es i = true
        · rw [if_pos hoe] at hg
          obtain ⟨hgd, hcl1⟩ := hg
          obtain ⟨e, he, hei⟩ := List.any_eq_true.1 hoe
          have hei : e.place = i := by simpa using hei
          have hcal := (hcl1 e he hei).2 w hw (hpre v0 fun _ _ _ => rfl)
          have hwt : Region.wanted o (yielded ops (putA listed β As a).tmps) = true := by simp [Region.wanted, hgd]
          rw [if_pos hwt]
          refine .inl ?_
          unfold Oper.wp
          rw [hev]
          generalize (execOp a.eval o).run P w = r at hcal
          cases r with
          | halt x w' => exact hcal.elim
          | ok m w' =>
            cases m <;> simp only [callUpon] at hcal
            case enter fn args =>
              obtain ⟨rfl, hcall⟩ := hcal
              simp only [Oper.upon]
              refine hcall.mono fun r w'' ⟨x, hr, hb, hkp⟩ => ?_
              subst hr
              show wpAny P md ops Q (f + g) (listed.setIfInBounds i true) ((putA listed β As a).put o.dst (e.val x)) w''
              rw [← hcm]
              refine wpAny_of_open hns hfr hfl hnd hno hnE hkb hkt hCb hB hCt hL f _ _ _ _ (fun k => if k = i then x else v0 k) (fun vs hvs => ?_) (fun e' he' hl => ?_) hz' hsz' htl' hc' hn (hCb _ _ hw hb) (own_keep hos hb) hcl'
              · obtain ⟨u, hg1, hk1⟩ := HV vs fun e' he' hl => by
                  have h1 := hvs e' he' (listed_mono hl)
                  have h2 : e'.place ≠ i := fun hc => by rw [hc, hun] at hl; cases hl
                  simpa [h2] using h1
                unfold openGives at hg1
                rw [if_neg hfi, if_neg hff, if_pos hoe] at hg1
                have h1 := (hg1.2 e he hei).1
                have h2 := hvs e he (by rw [hei]; exact getD_set_self hil)
                simp only [hei, if_true] at h2
                rw [h1, h2] at hk1
                exact hk1
              · by_cases hei' : e'.place = i
                · obtain rfl := hnE e he e' he' (hei.trans hei'.symm)
                  simp only [hei, if_true]
                  exact hkp
                · simp only [hei', if_false]
                  rw [getD_set_ne false (Ne.symm hei')] at hl
                  exact hkb e' he' _ _ _ hw (hpr e' he' hl) hb
        · rw [if_neg hoe] at hg
          have hni : ∀ e ∈ Es, e.place ≠ i := fun e he hc => hoe (List.any_eq_true.2 ⟨e, he, by simp [hc]⟩)
          have hpr' : ∀ e ∈ Es, (listed.setIfInBounds i true).getD e.place false = true → e.keep (v0 e.place) w := fun e he hl => by
            rw [getD_set_ne false (Ne.symm (hni e he))] at hl
            exact hpr e he hl
          rcases hg with ⟨hw1, hso⟩ | ⟨hw1, rfl⟩
          · have h3 := hso w hw (hpre v0 fun _ _ _ => rfl)
            have hk : ∀ vs : Nat → X, (∀ e ∈ Es, (listed.setIfInBounds i true).getD e.place false = true → vs e.place = v0 e.place) → openAny P md ops C As Es n vs (L vs) f (listed.setIfInBounds i true) (a.put o.dst v) := by
              intro vs hvs
              obtain ⟨u, hg1, hk1⟩ := HV vs (hsub vs v0 hvs)
              unfold openGives at hg1
              rw [if_neg hfi, if_neg hff, if_neg hoe] at hg1
              rcases hg1 with ⟨_, h4⟩ | ⟨h4, _⟩
              · rw [openUpon_one (h4 w hw (hpre vs (hsub vs v0 hvs))) h3] at hk1
                exact hk1
              · rw [hw1] at h4
                cases h4
            rw [if_pos (hwa.trans hw1)]
            refine .inl ?_
            unfold Oper.wp
            rw [hev]
            unfold openAt at h3
            generalize (execOp a.eval o).run P w = r at h3
            cases r with
            | halt x w' => exact h3.elim
            | ok m w' =>
              cases m <;> simp only [openUpon] at h3 <;> simp only [Oper.upon]
              case value u =>
                obtain ⟨rfl, rfl⟩ := h3
                rw [← hcm]
                exact wpAny_of_open hns hfr hfl hnd hno hnE hkb hkt hCb hB hCt hL f _ _ _ _ v0 hk hpr' hz' hsz' htl' hc' hn hw hos hcl'
              case skip =>
                obtain ⟨rfl, rfl⟩ := h3
                rw [← hcm]
                exact wpAny_of_open hns hfr hfl hnd hno hnE hkb hkt hCb hB hCt hL f _ _ _ _ v0 hk hpr' hz' hsz' htl' hc' hn hw hos hcl'
          · have hk : ∀ vs : Nat → X, (∀ e ∈ Es, (listed.setIfInBounds i true).getD e.place false = true → vs e.place = v0 e.place) → openAny P md ops C As Es n vs (L vs) f (listed.setIfInBounds i true) (a.put o.dst undef) := by
              intro vs hvs
              obtain ⟨u, hg1, hk1⟩ := HV vs (hsub vs v0 hvs)
              unfold openGives at hg1
              rw [if_neg hfi, if_neg hff, if_neg hoe] at hg1
              rcases hg1 with ⟨h4, _⟩ | ⟨_, h4⟩
              · rw [hw1] at h4
                cases h4
              · rw [h4] at hk1
                exact hk1
            rw [if_neg (by rw [hwa, hw1]; simp)]
            rw [← hcm]
            exact wpAny_of_open hns hfr hfl hnd hno hnE hkb hkt hCb hB hCt hL f _ _ _ _ v0 hk hpr' hz' hsz' htl' hc' hn hw hos hcl'

def openOk (md : Region.Mode) (ops : Array Oper) (As : List Fresh) (Es : List (Opened X)) (n : Nat) : Bool :=
  Es.all fun e => !isFresh As e.place && !isFill As e.place && decide (e.place < n)

theorem openLex_mono {L L' : Act → Prop} (hL : ∀ a, L a → L' a) : ∀ (m : List Oper) (k : Nat) (a : Act), openLex P md ops C As Es vs L m k a → openLex P md ops C As Es vs L' m k a := by
  intro m
  induction m with
  | nil => intro k a h; exact hL _ h
  | cons o m ih => intro k a h; obtain ⟨v, h1, h2⟩ := h; exact ⟨v, h1, ih _ _ h2⟩

theorem openLex_nil {w : World} {L : Act → Prop} {k : Nat} {a : Act} (h : L a) : openLex P md ops (Cls w) As Es vs L [] k a := h

theorem openLex_step {w : World} {L : Act → Prop} {o : Oper} {l : List Oper} {k : Nat} {a : Act} (hf : isFresh As k = false) (hff : isFill As k = false) (hoe : isOpen Es k = false)
    (h : ∀ K : Act → Prop, (∀ a, openLex P md ops (Cls w) As Es vs L l (k + 1) a → K a) → if Region.wanted o (yielded ops a.tmps) = true then ∃ v, (∀ x, keeps md ops Es vs k (over w x) → openAt P o a (over w x) v) ∧ K (a.put o.dst v) else K (a.put o.dst undef)) :
    openLex P md ops (Cls w) As Es vs L (o :: l) k a := by
  have h1 := h _ (fun _ h => h)
  split at h1
  · rename_i hw
    obtain ⟨v, hv, hk⟩ := h1
    refine ⟨v, ?_, hk⟩
    unfold openGives
    rw [if_neg (by rw [hf]; simp), if_neg (by rw [hff]; simp), if_neg (by rw [hoe]; simp)]
    refine .inl ⟨hw, fun w' hw' hk => ?_⟩
    have := hv w'
    rw [over_eq hw'] at this
    exact this hk
  · rename_i hw
    refine ⟨undef, ?_, h1⟩
    unfold openGives
    rw [if_neg (by rw [hf]; simp), if_neg (by rw [hff]; simp), if_neg (by rw [hoe]; simp)]
    exact .inr ⟨by simpa using hw, rfl⟩

/-- An operation that is no call and needs no promise. -/
theorem openLex_plain {w : World} {L : Act → Prop} {o : Oper} {l : List Oper} {k : Nat} {a : Act} (hf : isFresh As k = false) (hff : isFill As k = false) (hoe : isOpen Es k = false)
    (h : ∀ K : Act → Prop, (∀ a, openLex P md ops (Cls w) As Es vs L l (k + 1) a → K a) → if Region.wanted o (yielded ops a.tmps) = true then ∃ v, (∀ x, openAt P o a (over w x) v) ∧ K (a.put o.dst v) else K (a.put o.dst undef)) :
    openLex P md ops (Cls w) As Es vs L (o :: l) k a :=
  openLex_step hf hff hoe fun K hK => by
    have := h K hK
    split at this
    · rename_i hw
      rw [if_pos hw]
      obtain ⟨v, h1, h2⟩ := this
      exact ⟨v, fun x _ => h1 x, h2⟩
    · rename_i hw
      rw [if_neg hw]
      exact this

/-- A call whose value is not known ahead. -/
theorem openLex_call {w : World} {L : Act → Prop} {o : Oper} {l : List Oper} {k : Nat} {a : Act} (e : Opened X) (he : Es.filter (fun e => e.place == k) = [e]) (hf : isFresh As k = false) (hff : isFill As k = false) (hg : o.guard = none)
    (hr : ∀ y, keeps md ops Es vs k (over w y) → callUpon P (over w y) e ((execOp a.eval o).run P (over w y)))
    (h : openLex P md ops (Cls w) As Es vs L l (k + 1) (a.put o.dst (e.val (vs k)))) : openLex P md ops (Cls w) As Es vs L (o :: l) k a := by
  have hx : e ∈ Es ∧ e.place = k := by
    have : e ∈ Es.filter (fun y => y.place == k) := by rw [he]; simp
    simpa using List.mem_filter.1 this
  refine ⟨_, ?_, h⟩
  unfold openGives
  rw [if_neg (by rw [hf]; simp), if_neg (by rw [hff]; simp), if_pos (show isOpen Es k = true from List.any_eq_true.2 ⟨e, hx.1, by simp [hx.2]⟩)]
  refine ⟨hg, fun e' he' hk => ?_⟩
  have : e' ∈ Es.filter (fun y => y.place == k) := List.mem_filter.2 ⟨he', by simp [hk]⟩
  rw [he] at this
  have hee : e' = e := by simpa using this
  subst hee
  refine ⟨rfl, fun w' hw' hkp => ?_⟩
  have := hr w'
  rw [over_eq hw'] at this
  exact this hkp

theorem openLex_new {w : World} {L : Act → Prop} {o : Oper} {l : List Oper} {k : Nat} {a : Act} (x : Fresh) (hf : As.filter (fun y => y.place == k) = [x]) (hg : o.guard = none) (hd : o.dst = some x.dst)
    (hr : ∀ y, (execOp a.eval o).run P (over w y) = .ok (.value (x.ptr (over w y).heap.size)) ((over w y).alloc x.obj))
    (h : openLex P md ops (Cls w) As Es vs L l (k + 1) (a.put o.dst undef)) : openLex P md ops (Cls w) As Es vs L (o :: l) k a := by
  have hx : x ∈ As ∧ x.place = k := by
    have : x ∈ As.filter (fun y => y.place == k) := by rw [hf]; simp
    simpa using List.mem_filter.1 this
  refine ⟨undef, ?_, h⟩
  unfold openGives
  rw [if_pos (show isFresh As k = true from List.any_eq_true.2 ⟨x, hx.1, by simp [hx.2]⟩)]
  refine ⟨rfl, hg, fun y hy hyk => ?_⟩
  have : y ∈ As.filter (fun y => y.place == k) := List.mem_filter.2 ⟨hy, by simp [hyk]⟩
  rw [hf] at this
  have hyx : y = x := by simpa using this
  subst hyx
  refine ⟨hd, fun w' hw' => ?_⟩
  have := hr w'
  rwa [over_eq hw'] at this

theorem openLex_fill {w : World} {L : Act → Prop} {o : Oper} {l : List Oper} {k : Nat} {a : Act} (x : Fresh) (hx : As.filter (fun y => y.store == some k) = [x]) (hf : isFresh As k = false) (hg : o.guard = none) (hd : o.dst = none)
    (hr : ∀ y b, (over w y).heap[b]? = some x.obj → ∃ w2, (execOp (a.put (some x.dst) (x.ptr b)).eval o).run P (over w y) = .ok .skip w2 ∧ Turned (over w y) w2 b x.full)
    (h : openLex P md ops (Cls w) As Es vs L l (k + 1) a) : openLex P md ops (Cls w) As Es vs L (o :: l) k a := by
  have hm : x ∈ As ∧ x.store = some k := by
    have : x ∈ As.filter (fun y => y.store == some k) := by rw [hx]; simp
    simpa using List.mem_filter.1 this
  refine ⟨undef, ?_, by rw [hd]; exact h⟩
  unfold openGives
  rw [if_neg (by rw [hf]; simp), if_pos (show isFill As k = true from List.any_eq_true.2 ⟨x, hm.1, by simp [hm.2]⟩)]
  refine ⟨rfl, hg, hd, fun y hy hyk w' b hw' hb => ?_⟩
  have : y ∈ As.filter (fun y => y.store == some k) := List.mem_filter.2 ⟨hy, by simp [hyk]⟩
  rw [hx] at this
  have hyx : y = x := by simpa using this
  subst hyx
  have := hr w' b
  rw [over_eq hw'] at this
  exact this hb

theorem wp_open [Inhabited X] {id : Nat} {Q : Exit → Act → World → Prop} {a : Act} {w : World} {l : List Oper} {T : Act → World → Prop} (n : Nat) (As : List Fresh) (Es : List (Opened X)) (hm : P.follows .mixedOrders = true) (hok : softOk .any l.toArray As n = true)
    (hoo : openOk .any l.toArray As Es n = true) (hnE : ∀ e ∈ Es, ∀ e' ∈ Es, e.place = e'.place → e = e')
    (hkb : ∀ e ∈ Es, ∀ x w' w'', Cls w w' → e.keep x w' → Below w'.heap.size w' w'' → e.keep x w'') (hkt : ∀ e ∈ Es, ∀ y ∈ As, ∀ x w' w2 b, Cls w w' → e.keep x w' → w'.heap[b]? = some y.obj → Turned w' w2 b y.full → e.keep x w2)
    (hT : ∀ a w, T a w → wpAny P .any l.toArray Q (l.length - n) (allHead l.toArray n) a w)
    (h : ∀ vs : Nat → X, openLex P .any l.toArray (Cls w) As Es vs (fun a' => ∀ w' β, Below w.heap.size w w' → (∀ x ∈ As, w.heap.size ≤ β x.place ∧ w'.heap[β x.place]? = some x.last) → (∀ x ∈ As, ∀ y ∈ As, x.place ≠ y.place → β x.place ≠ β y.place) → (∀ e ∈ Es, e.keep (vs e.place) w') → T (putAll β As a') w') (l.take n) 0 a) :
    (Code.region id l.toArray true).wp P Q a w := by
  simp only [softOk, Bool.and_eq_true, decide_eq_true_eq] at hok
  obtain ⟨⟨⟨⟨⟨⟨hfl, hns⟩, hn⟩, htl⟩, hfr⟩, hnd⟩, hlex⟩ := hok
  have hno : ∀ e ∈ Es, isFresh As e.place = false ∧ isFill As e.place = false ∧ e.place < n := fun e he => by
    have := List.all_eq_true.1 hoo e he
    simp only [Bool.and_eq_true, Bool.not_eq_true', decide_eq_true_eq] at this
    exact ⟨this.1.1, this.1.2, this.2⟩
  have hnl : n ≤ l.length := by simp at hn; omega
  have hns' : n ≤ l.toArray.size := by simpa using hnl
  have htk : (l.take n).length = n := by simp; omega
  refine wp_region_any hm ?_
  have h1 := fun vs => openAny_lex (C := Cls w) (As := As) (Es := Es) (vs := vs) hns htl (l.take n) 0 (Array.replicate l.toArray.size false) a (fun j hj => by
    have hj' : j < n := by rw [htk] at hj; exact hj
    simp [hj']) (by rw [htk]; omega) (by rw [htk]; exact hlex) (h vs)
  rw [htk] at h1
  have hin : ∀ x ∈ As, (allHead l.toArray n).getD x.place false = true := fun x hx => allHead_in (freshOk_spec hfr x hx).1 hns'
  have hlast : ∀ x ∈ As, x.now (allHead l.toArray n) = x.last := by
    intro x hx
    unfold Fresh.now Fresh.last
    cases hs : x.store with
    | none => rfl
    | some s =>
      have := allHead_in (ops := l.toArray) (fillOk_spec hfl x hx s hs).1 hns'
      simp only [this, if_true]
  have hD : Cls w { w with drawn := w.drawn + 1 } := ⟨rfl, rfl, rfl, Nat.le_refl _, fun _ _ => rfl⟩
  have hcnt : (List.range n).countP (fun k => !(Array.replicate l.toArray.size false).getD k false) = n := by
    rw [List.countP_eq_length.2]
    · simp
    · intro k hk
      have : k < n := List.mem_range.1 hk
      rw [getD_replicate_false]
      rfl
  have h2 := wpAny_of_open (Q := Q) (B := w.heap.size) (g := l.length - n) hns hfr hfl hnd hno hnE hkb hkt (C := Cls w) (fun a b h1 h2 => Below.trans h1 (h2.mono h1.size)) (fun a h => h.size)
    (fun u u2 b o h1 hb h2 => ⟨h2.os.trans h1.os, h2.tape.trans h1.tape, h2.output.trans h1.output, by rw [h2.size]; exact h1.size, fun k hk => (h2.other k (by omega)).trans (h1.block k hk)⟩)
    (fun a' w' β vs hL hC ho hkp => by
      rw [putA_all _ _ hin]
      exact hT _ _ (hL w' β hC (fun x hx => by rw [← hlast x hx]; exact ho.1 x hx (hin x hx)) (fun x hx y hy hne => ho.2 x hx y hy (hin x hx) (hin y hy) hne) hkp)) n _ a (fun _ => 0) { w with drawn := w.drawn + 1 } (fun _ => default) (fun vs _ => h1 vs)
    (fun e _ hl => by rw [getD_replicate_false] at hl; cases hl) (fun k o hl => by rw [getD_replicate_false] at hl; cases hl) (by simp) (fun t _ ht => by simp at ht; simp [ht]) hcnt hns' hD
    ⟨fun x _ hl => (by rw [getD_replicate_false] at hl; cases hl), fun x _ y _ hl => (by rw [getD_replicate_false] at hl; cases hl)⟩ (fun x _ s _ hl => by rw [getD_replicate_false] at hl; cases hl)
  rw [show n + (l.length - n) = l.toArray.size by simp; omega] at h2
  have e : ∀ (r : List Fresh) (β : Nat → Nat), putA (Array.replicate l.toArray.size false) β r a = a := by
    intro r β
    induction r with
    | nil => rfl
    | cons x r ih =>
      have : (Array.replicate l.toArray.size false).getD x.place false = false := getD_replicate_false _ _
      simp only [putA, this, ih]
      simp
  rw [e] at h2
  exact h2
end
end Go.Proofs.Ytfdikbbojddbmaa
