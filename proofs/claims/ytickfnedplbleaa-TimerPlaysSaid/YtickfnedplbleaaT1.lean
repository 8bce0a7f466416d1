/- The places of a queue's items as a map in memory: looked up, set, added, struck. -/
import Derived.Test.YtickfnedplbleaaProg
import Derived.Test.YtickfnedplbleaaH
import Derived.Maps.OwnSet
import Derived.WideKeyEntry
namespace Go.Proofs.Ytickfnedplbleaa
open Go.RowKit
open Go.ChangeMaps Go.MapKept
open Go.WideElems (Fit rd rg pl rd_val)
open Go.Maps (Keyed has size Tidy IsMap)

theorem under59 : Try.prog.underlying 59 = some (.map 3 3) := Try.underlying59
theorem under3 : Try.prog.underlying 3 = some (.int .i64) := Try.underlying3
theorem k3 : Keyed Try.prog 3 := Maps.int_keyed under3
theorem zero3 (w : World) : (zeroValue 3).run Try.prog w = .ok (.int .i64 0) w := by kernel_rfl
/-- What fits an int. -/
def Fits (n : Int) : Prop := -9223372036854775808 ≤ n ∧ n ≤ 9223372036854775807
theorem fits_wf {n : Int} (h : Fits n) : (Lit.int .i64 n).wf = true := by
  obtain ⟨h1, h2⟩ := h
  have a : IntKind.i64.min = -9223372036854775808 := by decide
  have c : IntKind.i64.max = 9223372036854775807 := by decide
  simp [Lit.wf, a, c, h1, h2]
theorem key3 {n : Int} (h : Fits n) : keyOf Try.prog 3 (.int .i64 n) = some (.int .i64 n) := Maps.keyOf_int_mk under3 (fits_wf h)

abbrev D0 := DataW Unit
/-- Block b is a map of ints of n entries that reads as D. -/
def MapAt (w : World) (b n : Nat) (D : D0) : Prop := w.ownsMap Try.prog 3 (plainElem Try.prog 3) b n D ∧ size D = n

theorem MapAt.lt {w : World} {b n : Nat} {D : D0} (h : MapAt w b n D) : b < w.heap.size := h.1.lt
theorem MapAt.tidy {w : World} {b n : Nat} {D : D0} (h : MapAt w b n D) : Tidy D := h.1.tidy k3
theorem MapAt.same {w w' : World} {b n : Nat} {D : D0} (h : MapAt w b n D) (e : w'.heap[b]? = w.heap[b]?) : MapAt w' b n D := by
  obtain ⟨⟨es, clock, hb, F, hs, hD⟩, h2⟩ := h
  exact ⟨⟨es, clock, e.trans hb, F, hs, hD⟩, h2⟩
theorem own_tight {w : World} {b n m : Nat} {D : D0} (h : w.ownsMap Try.prog 3 (plainElem Try.prog 3) b n D) (hs : size D = m) : MapAt w b m D := by
  obtain ⟨es, clock, hb, F, _, rfl⟩ := h
  have e : es.size = m := by rw [← hs, Maps.size_eq, Go.length_read]
  exact ⟨⟨es, clock, hb, F, by omega, rfl⟩, hs⟩

/-- v, ok := m[k] -/
theorem MapAt.look {w : World} {b n : Nat} {D : D0} (h : MapAt w b n D) {id : Int} (hf : Fits id) :
    ∃ c : Int, (Instr.lookup 59 (.map (some b)) (.int .i64 id) true).run Try.prog w = .ok (.tuple #[.int .i64 c, .bool (has D (.int .i64 id))]) w ∧ D.atKey (.int .i64 id) (.lit (.int .i64 0)) = .lit (.int .i64 c) := by
  obtain ⟨v, ps, hr, hv⟩ := h.1.look_ok k3 under59 (zero3 w) (plainElem_int under3 (by decide)) (key3 hf)
  obtain ⟨c, rfl, hc, _⟩ := plainElem_int_inv under3 hv
  exact ⟨c, hr, congrArg Prod.fst hc⟩
/-- m[k] = v, at a key that is not there. -/
theorem MapAt.add {w : World} {b n : Nat} {D : D0} (h : MapAt w b n D) (hn : n < 1000) {id v : Int} (hf : Fits id) (hv : Fits v) (hh : has D (.int .i64 id) = false) :
    ∃ w', (Instr.mapUpdate 59 (.map (some b)) (.int .i64 id) (.int .i64 v)).run Try.prog w = .ok () w' ∧ MapAt w' b (n + 1) (D.put (.int .i64 id) (.lit (.int .i64 v))) ∧ w.grownBy w' (some b) := by
  obtain ⟨w', hr, h1, h2⟩ := h.1.store k3 under59 (by unfold maxLen; omega) (key3 hf) (plainElem_int under3 (fits_wf hv))
  refine ⟨w', hr, own_tight h1 ?_, h2.grown⟩
  rw [Maps.size_put h.tidy, hh, h.2]
  rfl
/-- delete(m, k), at a key that is there. -/
theorem MapAt.del {w : World} {b n : Nat} {D : D0} (h : MapAt w b (n + 1) D) {id : Int} (hf : Fits id) (hh : has D (.int .i64 id) = true) (ty : TypeId) :
    ∃ w', (Builtin.delete_ #[59, 3] ty #[.map (some b), .int .i64 id]).run Try.prog w = .ok (.tuple #[]) w' ∧ MapAt w' b n (D.del (.int .i64 id)) ∧ w.grownBy w' (some b) := by
  obtain ⟨w', hr, h1, h2⟩ := h.1.drop k3 under59 (key3 hf) ty
  refine ⟨w', hr, own_tight h1 ?_, h2.grown⟩
  have := Maps.size_del (k := .int .i64 id) h.tidy
  rw [hh, h.2] at this
  simpa using this
/-- The two operations of 'm[k] = v' in a tuple assignment, at a key that is there. -/
theorem MapAt.entry {w : World} {b n : Nat} {D : D0} (h : MapAt w b n D) (hlt : n < maxLen) {id : Int} (hf : Fits id) (hh : has D (.int .i64 id) = true) :
    ∃ (v0 : Value) (st : Int) (w1 : World), (Instr.mapEntry 59 (.map (some b)) (.int .i64 id)).run Try.prog w = .ok (.tuple #[v0, .int .i64 st]) w1 ∧ w1.heap[b]? = w.heap[b]? ∧ w.grownBy w1 (some b) ∧
      ∀ (w2 : World) (v : Int), w2.heap[b]? = w.heap[b]? → Fits v → ∃ w', (Instr.entryStore 59 (.map (some b)) (.int .i64 st) (.int .i64 v)).run Try.prog w2 = .ok () w' ∧ MapAt w' b n (D.put (.int .i64 id) (.lit (.int .i64 v))) ∧ w2.grownBy w' (some b) := by
  obtain ⟨⟨es, clock, hb, F, hs, hD⟩, h2⟩ := h
  obtain ⟨s1, s2, _⟩ := F.stamped
  rcases k3.find w (key3 hf) es.toList F.keys with ⟨h1, h3⟩ | ⟨j, e0, h1, hj2, h3⟩
  · exfalso
    rcases Maps.fit_look true k3 under59 (zero3 w) hb F (key3 hf) with ⟨_, _, hat⟩ | ⟨e0, y, hm, hk, _⟩
    · have := Maps.has_false_of_atKey (D := D) (k := .int .i64 id) (fun z => by rw [hD]; exact hat z)
      rw [this] at hh
      cases hh
    · exact h3 e0 hm hk
  · have hj : es[j]? = some e0 := by simpa using hj2
    have hsame : es.modify j (fun e => { e with key := .int .i64 id }) = es := by
      apply Array.ext'
      rw [Array.toList_modify, ChangeMaps.modify_eq_set _ _ _ _ hj2]
      have : ({ e0 with key := .int .i64 id } : MapEntry) = e0 := by rw [← h3]
      rw [this]
      exact WideElems.set_self _ _ _ hj2
    have hmod : ∀ v : Value, es.modify j (fun e => { e with val := v }) = es.modify j (fun e' => { e' with key := .int .i64 id, val := v }) := fun v => by
      apply Array.ext'
      rw [Array.toList_modify, Array.toList_modify, ChangeMaps.modify_eq_set _ _ _ _ hj2, ChangeMaps.modify_eq_set _ _ _ _ hj2, ← h3]
    have hidx : es.findIdx? (fun e => ((e.born : Nat) : Int) == ((e0.born : Nat) : Int)) = some j := by
      rw [WideElems.findIdx_arr]
      exact WideElems.findIdx_born s2 hj2
    have hup : ∀ v, Fits v → MapAt (setBlock w b (.map (es.modify j (fun e => { e with val := .int .i64 v })) clock)) b n (D.put (.int .i64 id) (.lit (.int .i64 v))) := fun v hv => by
      have hw : w.ownsMap Try.prog 3 (plainElem Try.prog 3) b n D := ⟨es, clock, hb, F, hs, hD⟩
      obtain ⟨w', hr, h4, h5⟩ := hw.store k3 under59 hlt (key3 hf) (plainElem_int under3 (fits_wf hv))
      have hr2 : (Instr.mapUpdate 59 (.map (some b)) (.int .i64 id) (.int .i64 v)).run Try.prog w = .ok () (setBlock w b (.map (es.modify j (fun e => { e with val := .int .i64 v })) clock)) := by
        rw [hmod]
        simp [Instr.mapUpdate, run_underlying under59, MapKept.run_getObj_map hb, k3.check w false (key3 hf), h1, hj, h3, k3.stays w (key3 hf), MapKept.run_setObj_map _ hb, Result.andThen, setBlock]
      rw [hr2] at hr
      cases hr
      refine own_tight h4 ?_
      rw [Maps.size_put (hw.tidy k3), hh, h2]
      rfl
    refine ⟨e0.val, e0.born, setBlock w b (.map es clock), ?_, (heap_setBlock_same hb _).trans hb.symm, World.mapTurned.grown ⟨es, clock, es, clock, hb, rfl⟩, fun w2 v hw2 hv => ?_⟩
    · simp [Instr.mapEntry, run_underlying under59, MapKept.run_getObj_map hb, k3.check w false (key3 hf), h1, hj, h3, k3.stays w (key3 hf), hsame, MapKept.run_setObj_map _ hb, Result.andThen, setBlock, goInt]
    · have hb2 : w2.heap[b]? = some (.map es clock) := hw2.trans hb
      refine ⟨setBlock w2 b (.map (es.modify j (fun e => { e with val := .int .i64 v })) clock), ?_, (hup v hv).same ?_, World.mapTurned.grown ⟨es, clock, _, _, hb2, rfl⟩⟩
      · simp [Instr.entryStore, MapKept.run_getObj_map hb2, asInt, asIntOf, hidx, MapKept.run_setObj_map _ hb2, Result.andThen, setBlock]
      · rw [heap_setBlock_same hb2, heap_setBlock_same hb]
end Go.Proofs.Ytickfnedplbleaa
