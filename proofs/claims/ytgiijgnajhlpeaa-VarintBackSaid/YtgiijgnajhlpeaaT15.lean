/- The law VarintBack, walked: numbers that may be are read from their bytes, whatever stands behind. -/
import Derived.Test.YtgiijgnajhlpeaaT14
import Derived.Test.YtgiijgnajhlpeaaV3
import Derived.Deep.CutRange
namespace Go.Proofs.Ytgiijgnajhlpeaa
open Go.RowKit
attribute [local go_sem] cell_over frozen_over lt_over le_over ne_over over_ne cell_set_same softAt softUpon lightUpon heavyUpon cell_kept frozen_kept

/-- Numbers of 64 bits in a slice. -/
def UsIn (w : World) (a : Option Addr) (us : List Nat) : Prop := ∀ (i u : Nat), us[i]? = some u → u < 18446744073709551616 ∧ ∃ b o, a = some ⟨b, o, none⟩ ∧ w.cell? ⟨b, o + i, none⟩ = some (.int .u64 (u : Int))
theorem UsIn.below {w w' : World} {a : Option Addr} {us : List Nat} (h : UsIn w a us) (hb : Below w.heap.size w w') : UsIn w' a us :=
  fun i u hi => let ⟨h1, b, o, e, hc⟩ := h i u hi; ⟨h1, b, o, e, cell_below hb hc⟩
/-- What they are as numbers that may be. -/
def modM (us : List Nat) : List Nat := us.map fun u => u % 4611686018427387904
theorem modM_le (us : List Nat) : ∀ m ∈ modM us, m ≤ 4611686018427387903 := by
  intro m hm
  obtain ⟨u, _, rfl⟩ := List.mem_map.1 hm
  omega
theorem IRow.at {w : World} {B : Nat} {v : Value} {xs : List Nat} (h : IRow w B v xs) (i x : Nat) (hi : xs[i]? = some x) : ∃ g c, v = .slice (some ⟨g, 0, none⟩) xs.length c ∧ B ≤ g ∧ w.cell? ⟨g, i, none⟩ = some (.int .i64 (x : Int)) ∧ g < w.heap.size := by
  obtain ⟨h1, ⟨rfl, h0⟩ | ⟨g, cap, cur, rfl, hg, hh, hn, _, hs, ht⟩⟩ := h
  · have : xs = [] := List.eq_nil_of_length_eq_zero h0
    subst this
    simp at hi
  · refine ⟨g, cap, rfl, hg, ?_, blk_lt hh⟩
    have hil : i < xs.length := (List.getElem?_eq_some_iff.1 hi).1
    rw [blk_cell hh, ← Array.getElem?_toList]
    have h2 : cur.toList[i]? = (iv xs)[i]? := by rw [← ht, List.getElem?_take_of_lt (by omega)]
    rw [h2]
    simp [iv, hi]

theorem Row.shape {w : World} {B : Nat} {v : Value} {l : List UInt8} (h : Row w B v l) (h1 : 1 ≤ l.length) : ∃ g c, v = .slice (some ⟨g, 0, none⟩) l.length c ∧ l.length ≤ c ∧ ∀ w', Row w' B (.slice (some ⟨g, 0, none⟩) l.length c) l → ∀ x, x ≤ l.length → (convert 24 9 (.slice (some ⟨g, 0, none⟩) x c)).run Try.prog w' = .ok (.string ⟨(l.take x).toArray⟩) w' := by
  obtain ⟨_, ⟨rfl, h0⟩ | ⟨g, cap, cur, rfl, _, _, hn, _⟩⟩ := h
  · omega
  · refine ⟨g, cap, rfl, hn, fun w' hr x hx => ?_⟩
    obtain ⟨_, ⟨he, _⟩ | ⟨g', cap', cur', he, _, hh, _, _, hs, ht⟩⟩ := hr
    · simp at he
    · simp only [Value.slice.injEq, Option.some.injEq, Addr.mk.injEq, and_true, true_and] at he
      obtain ⟨rfl, rfl⟩ := he
      have hlx : (l.take x).length = x := by rw [List.length_take]; omega
      have := run_convert_bytes_back (P := Try.prog) w' 24 9 5 ⟨g, 0, none⟩ cap (l.take x) Try.underlying24 Try.underlying5 Try.underlying9 (fun j hj => by
        have e : (⟨g, 0, none⟩ : Addr).add j = ⟨g, j, none⟩ := by unfold Addr.add; split <;> simp_all
        rw [e, blk_cell hh]
        have hjl : j < l.length := by omega
        have h2 : cur'.toList[j]? = (bv l)[j]? := by rw [← ht, List.getElem?_take_of_lt (by omega)]
        rw [← Array.getElem?_toList, h2, List.getElem_take]
        simp [bv, hjl])
      rw [hlx] at this
      exact this
def JoinN (w : World) (L : List UInt8) (e : Ending) (w' : World) : Prop := Below w.heap.size w w' ∧ ∃ v, e = .returned (.tuple #[v, .int .i64 0]) ∧ Row w' w.heap.size v L
theorem join_n (ma : Option Addr) (k mc : Nat) (ms : List Nat) (w : World) (h : ∀ m ∈ ms, m ≤ 4611686018427387903) (hi : IntsIn w ma (ms.map fun (n : Nat) => (n : Int))) (hl : ms.length = k) (hk : k ≤ 1000) : Calls Try.prog 10 #[.slice ma k mc] w (JoinN w (joinN ms)) := by
  have J := join_top ma k mc (ms.map fun (n : Nat) => (n : Int)) w hi (by rw [List.length_map]; exact hl) hk
  unfold JoinIs at J
  rw [joinR_nat _ h] at J
  exact J
def AllN (w : World) (ms : List Nat) (x : Nat) (k : Nat) (e : Ending) (w' : World) : Prop := Below w.heap.size w w' ∧ ∃ a c, e = .returned (.tuple #[.slice a k c, .int .i64 (x : Nat)]) ∧ IntsIn w' a (ms.map fun (n : Nat) => (n : Int))
theorem all_n (l : List UInt8) (ms : List Nat) (k : Nat) (w : World) (hl : l.length ≤ 1000) (h : allP l = (ms, 0)) (hk : ms.length = k) : Calls Try.prog 16 #[.string ⟨l.toArray⟩] w (AllN w ms 0 k) := by
  have A := all_d l w hl
  unfold AllIs2 at A
  rw [h] at A
  simp only at A
  rw [hk] at A
  exact A
theorem str_app (a b : List UInt8) : (⟨a.toArray⟩ : ByteArray) ++ ⟨b.toArray⟩ = ⟨(a ++ b).toArray⟩ := by
  apply ByteArray.ext
  simp

set_option maxRecDepth 100000 in
set_option maxHeartbeats 8000000 in
theorem back_any (a : Option Addr) (n c : Nat) (us : List Nat) (t : List UInt8) (w : World) (hu : UsIn w a us) (hl : us.length = n) (hn : n ≤ 40) (ht : t.length ≤ 20) : Calls Try.prog 5 #[.slice a n c, .string ⟨t.toArray⟩] w fun e w' => e = .returned (.bool true) ∧ Below w.heap.size w w' := by
  have h1 : ¬ (n : Int) > 40 := by omega
  have h2 : ¬ (t.length : Int) > 20 := by omega
  have HU := Lib.hid hu
  have HL := Lib.hid hl
  clear hu hl
  go_enter Try.func5, Try.ntmps5
  go_wp2
  go_loopw [5, 6] (fun v i wr => ∃ k : Nat, k ≤ n ∧ i = .int .i64 (k : Nat) ∧ Below w.heap.size w wr ∧ IRow wr w.heap.size v (modM (us.take k)))
    (fun _ i _ => n - (intOf i).toNat)
  case atStart => exact ⟨0, Nat.zero_le _, rfl, Below.refl _ _, irow_nil _ _⟩
  case round =>
    obtain ⟨k, hk, rfl, B, hrow⟩ := hrel
    by_cases hlt : k < n
    · have hlt2 : (k : Int) < n := by omega
      have k0 : (0 : Int) ≤ (k : Int) := by omega
      have hll := HL.out
      obtain ⟨u, huk⟩ : ∃ u, us[k]? = some u := ⟨_, List.getElem?_eq_getElem (by omega)⟩
      obtain ⟨hu64, b, o, rfl, hc⟩ := (HU.out.below B) k u huk
      have hsn := take_snoc us k u huk
      have hms : modM (us.take (k + 1)) = modM (us.take k) ++ [u % 4611686018427387904] := by rw [hsn]; simp [modM]
      have hml : (modM (us.take k)).length = k := by simp [modM]; omega
      obtain ⟨x, hx⟩ : ∃ x, u % 4611686018427387904 = x := ⟨_, rfl⟩
      rw [hx] at hms
      have e1 : (u : Int).tmod 4611686018427387904 = (x : Int) := by
        rw [Int.tmod_eq_emod_of_nonneg (by omega)]; omega
      have e2 : (u : Int) % 4611686018427387904 = (x : Int) := by omega
      have hx2 : x ≤ 4611686018427387903 := by omega
      have HMS := Lib.hid hms
      have HML := Lib.hid hml
      have HROW := Lib.hid hrow
      clear huk hsn hms hml hrow hll hx
      go_wp2_with (at_builtin; refine unhalt ?_)
      unfold Halted
      refine append_rows Try.underlying22 info3 rfl (by decide) rfl (.tmp 34) (.tmp 41) rfl w.heap.size w.heap.size u5 (.slice (some ⟨wr.heap.size, 0, none⟩) 1 1) (modM (us.take k)).length 1 (iv (modM (us.take k))) (iv [x]) rfl rfl (World.ownsRow.alloc HROW.out _) (World.ownsRow_lit (base := w.heap.size) (e := 3) (size := 1) wr (iv [x]).toArray 1 B.size (by unfold maxLen; omega) rfl) (by have := B.size; simp; omega) (oneCell_iv _) (by rw [HML.out]; omega) ?_
      intro v' w3 h1' _ h3
      have B3 := h3 w (bta B _)
      have hrow3 : IRow w3 w.heap.size v' (modM (us.take (k + 1))) := by
        rw [HMS.out]
        unfold IRow
        rw [List.length_append, ← iv_append]
        exact h1'
      have hxk : (modM (us.take (k + 1)))[k]? = some x := by rw [HMS.out, List.getElem?_append_right (by rw [HML.out]; exact Nat.le_refl _), HML.out]; simp
      have hl1 : (modM (us.take (k + 1))).length = k + 1 := by rw [HMS.out, List.length_append, HML.out]; rfl
      obtain ⟨g, cp, hv', hg, c1, c2⟩ := hrow3.at k x hxk
      rw [hl1] at hv'
      subst hv'
      have HROW3 := Lib.hid hrow3
      clear h3 h1' B hc e1 e2 hxk hl1 hrow3
      go_upto_region 8 with fail
      go_cut [70] from 43 to 69 (fun o wx => o = .bool false ∧ Below w3.heap.size w3 wx)
      case first =>
        by_cases hk0 : k = 0
        · subst hk0
          go_wp2
          refine wp_chain [] [7, 13] [] (by kernel_rfl) (by kernel_rfl) ?_
          intro w4 hb4 hh4
          iterate 28
            first
              | (refine chain_now (by rfl) (by rfl) (fun K hK => ?_)
                 replace hK := Lib.hid hK
                 go_simp
                 refine hK.out _ _ ?_; clear hK K)
              | (refine chain_do (by rfl) (fun K hK => ?_)
                 replace hK := Lib.hid hK
                 go_simp
                 refine hK.out _ _ ?_; clear hK K)
          refine chain_end ?_
          go_wp2
          go_meet
          exact ⟨rfl, hb4⟩
        · obtain ⟨j, hj⟩ : ∃ j, j + 1 = k := ⟨k - 1, by omega⟩
          have hjk : j < (modM (us.take k)).length := by rw [HML.out]; omega
          obtain ⟨y, hyj⟩ : ∃ y, (modM (us.take k))[j]? = some y := ⟨_, List.getElem?_eq_getElem hjk⟩
          have hyk : (modM (us.take (k + 1)))[j]? = some y := by rw [HMS.out, List.getElem?_append_left hjk]; exact hyj
          have hy2 : y ≤ 4611686018427387903 := modM_le (us.take k) y (List.mem_of_getElem? hyj)
          obtain ⟨g', cp', hv, _, c3, _⟩ := HROW3.out.at j y hyk
          simp only [Value.slice.injEq, Option.some.injEq, Addr.mk.injEq, and_true, true_and] at hv
          obtain ⟨rfl, hvl, rfl⟩ := hv
          clear hvl
          have q1 : IntKind.i64.wrap ((k : Int) - 1) = (j : Int) := by rw [IntWalk.i64_in _ (by omega)]; omega
          have q2 : (k : Int) < (k : Int) + 1 := by omega
          have q3 : (j : Int) < (k : Int) + 1 := by omega
          have q4 : (0 : Int) < k := by omega
          have q8 : 0 < k := by omega
          have q5 : (0 : Int) ≤ j := by omega
          have q6 : j < k + 1 := by omega
          have q7 : k < k + 1 := by omega
          have Z1 := Lib.hid (fun W => size_any (x : Int) W)
          have Z2 := Lib.hid (fun W => size_any (y : Int) W)
          have hmono := size_mono y x
          rw [size_kN hx2] at Z1
          rw [size_kN hy2] at Z2
          generalize 2 ^ kN x = sx at *
          generalize 2 ^ kN y = sy at *
          clear hjk hyj hyk hj
          by_cases hss : (sx : Int) < sy
          · have hxy : ¬ (x : Int) > y := by omega
            clear hmono
            go_wp2
            refine wp_chain [] [7, 13] [] (by kernel_rfl) (by kernel_rfl) ?_
            intro w4 hb4 hh4
            have C1 := cell_below hb4 c1
            have C3 := cell_below hb4 c3
            have C2 : g < w4.heap.size := Nat.lt_of_lt_of_le c2 hb4.size
            clear c1 c2 c3 hh4
            iterate 7
              refine chain_now (by rfl) (by rfl) (fun K hK => ?_)
              replace hK := Lib.hid hK
              go_simp
              refine hK.out _ _ ?_; clear hK K
            refine chain_do (by rfl) (fun K hK => ?_)
            replace hK := Lib.hid hK
            go_simp
            refine (Z1.out _).mono ?_
            rintro e w5 ⟨rfl, hb⟩
            refine ⟨_, rfl, Below.kept _ hb, hK.out _ _ ?_⟩; clear hK K
            have hb5 := bt hb4 hb
            clear hb
            iterate 5
              refine chain_now (by rfl) (by rfl) (fun K hK => ?_)
              replace hK := Lib.hid hK
              go_simp
              refine hK.out _ _ ?_; clear hK K
            refine chain_do (by rfl) (fun K hK => ?_)
            replace hK := Lib.hid hK
            go_simp
            refine (Z2.out _).mono ?_
            rintro e w6 ⟨rfl, hb⟩
            refine ⟨_, rfl, Below.kept _ hb, hK.out _ _ ?_⟩; clear hK K
            have hb6 := bt hb5 hb
            clear hb
            iterate 14
              refine chain_now (by rfl) (by rfl) (fun K hK => ?_)
              replace hK := Lib.hid hK
              go_simp
              refine hK.out _ _ ?_; clear hK K
            refine chain_end ?_
            go_wp2
            go_meet
            exact ⟨by first | rfl | (simp; omega), hb6⟩
          · clear hmono
            have hss2 : ¬ sx < sy := by omega
            go_wp2
            refine wp_chain [] [7, 13] [] (by kernel_rfl) (by kernel_rfl) ?_
            intro w4 hb4 hh4
            have C1 := cell_below hb4 c1
            have C3 := cell_below hb4 c3
            have C2 : g < w4.heap.size := Nat.lt_of_lt_of_le c2 hb4.size
            clear c1 c2 c3 hh4
            iterate 7
              refine chain_now (by rfl) (by rfl) (fun K hK => ?_)
              replace hK := Lib.hid hK
              go_simp
              refine hK.out _ _ ?_; clear hK K
            refine chain_do (by rfl) (fun K hK => ?_)
            replace hK := Lib.hid hK
            go_simp
            refine (Z1.out _).mono ?_
            rintro e w5 ⟨rfl, hb⟩
            refine ⟨_, rfl, Below.kept _ hb, hK.out _ _ ?_⟩; clear hK K
            have hb5 := bt hb4 hb
            clear hb
            iterate 5
              refine chain_now (by rfl) (by rfl) (fun K hK => ?_)
              replace hK := Lib.hid hK
              go_simp
              refine hK.out _ _ ?_; clear hK K
            refine chain_do (by rfl) (fun K hK => ?_)
            replace hK := Lib.hid hK
            go_simp
            refine (Z2.out _).mono ?_
            rintro e w6 ⟨rfl, hb⟩
            refine ⟨_, rfl, Below.kept _ hb, hK.out _ _ ?_⟩; clear hK K
            have hb6 := bt hb5 hb
            clear hb
            iterate 14
              refine chain_now (by rfl) (by rfl) (fun K hK => ?_)
              replace hK := Lib.hid hK
              go_simp
              refine hK.out _ _ ?_; clear hK K
            refine chain_end ?_
            go_wp2
            go_meet
            exact ⟨by first | rfl | (simp; omega), hb6⟩
      case rest =>
        obtain ⟨rfl, hb⟩ := hcut
        have B4 := bt B3 hb
        have R4 := Lib.hid (own_below (HROW3.out : World.ownsRow _ _ _ _ _ _ _) hb)
        clear hb B3 c1 c2 HROW
        go_wp2
        go_roundw
        case rel => exact ⟨k + 1, by omega, by go_num, B4, R4.out⟩
        case measure => simp [intOf]; omega
    · obtain rfl : k = n := by omega
      rw [List.take_of_length_le (by rw [HL.out]; exact Nat.le_refl _)] at hrow
      obtain ⟨ma, mc, hv, hi⟩ := hrow.ints
      subst hv
      have hml : (modM us).length = k := by simp [modM]; exact HL.out
      have hjl := joinB_len ((modM us).map fun (n : Nat) => (n : Int))
      rw [List.length_map, hml, joinB_nat] at hjl
      have J := fun W hW => join_n ma k mc (modM us) W (modM_le us) hW hml (by omega)
      have HJ := Lib.hid J
      have HI := Lib.hid hi
      have HML := Lib.hid hml
      rw [hml]
      have hlt2 : ¬ (k : Int) < k := by omega
      clear J hi hrow hml
      go_wp2_with (first
        | ((with_reducible refine (HJ.out _ (HI.out)).mono ?_); refine unhalt ?_))
      unfold Halted
      rintro e w5 ⟨hb, v1, rfl, hr⟩
      have B5 := bt B hb
      have R5 := Lib.hid hr
      have I5 := Lib.hid (HI.out.below hb)
      have hcv := hr.conv
      have hall := all_joined (modM us) (modM_le us)
      have A := fun W => all_n (joinN (modM us)) (modM us) k W (by omega) hall HML.out
      have HA := Lib.hid A
      clear hr hb B HI HJ A hall
      dsimp only
      go_wp2_with (first
        | ((with_reducible refine (HA.out _).mono ?_); refine unhalt ?_))
      unfold Halted
      rintro e w6 ⟨hb, oa, oc, rfl, hi⟩
      have B6 := bt B5 hb
      have R6 := Lib.hid (R5.out.below hb)
      have I6 := Lib.hid (I5.out.below hb)
      have O6 := Lib.hid hi
      have HSM := Lib.hid (fun W h1 h2 => same_any oa ma k oc mc ((modM us).map fun (n : Nat) => (n : Int)) W h1 h2 (by rw [List.length_map]; exact HML.out) (by omega))
      clear hi hb B5 R5 I5 hcv HA
      dsimp only
      by_cases hk0 : k = 0
      · subst hk0
        go_wp2_with (first
          | ((with_reducible refine (HSM.out _ O6.out I6.out).mono ?_); rintro e w7 ⟨rfl, hb⟩; have B7 := bt B6 hb; clear hb)
          | ((with_reducible refine (awake_any _).mono ?_); rintro e w8 ⟨rfl, hb⟩; have B8 := bt B7 hb; clear hb))
        go_returns
        exact ⟨rfl, B8⟩
      · have hk1 : ¬ (k : Int) = 0 := by omega
        have hk2 : ((k : Int) == 0) = false := by simp; omega
        go_upto_region 16 with (first
          | ((with_reducible refine (HSM.out _ O6.out I6.out).mono ?_); rintro e w7 ⟨rfl, hb⟩; have B7 := bt B6 hb; have R7 := Lib.hid (R6.out.below hb); have I7 := Lib.hid (I6.out.below hb); clear hb))
        clear HSM O6 I6 R6 B6
        have hne : modM us ≠ [] := by intro hc; have := HML.out; rw [hc] at this; simp at this; omega
        obtain ⟨m0, rest, hm0⟩ : ∃ m0 rest, modM us = m0 :: rest := by
          cases hms : modM us with
          | nil => exact absurd hms hne
          | cons x y => exact ⟨x, y, rfl⟩
        obtain ⟨ini, z, hz⟩ : ∃ ini z, modM us = ini ++ [z] := ⟨_, _, (List.dropLast_concat_getLast hne).symm⟩
        have hbd := modM_le us
        have hm0b : m0 ≤ 4611686018427387903 := hbd m0 (by rw [hm0]; exact List.mem_cons_self ..)
        have hzb : z ≤ 4611686018427387903 := hbd z (by rw [hz]; simp)
        have hinb : ∀ m ∈ ini, m ≤ 4611686018427387903 := fun m hm => hbd m (by rw [hz]; simp [hm])
        have hshort := all_short ini z hinb hzb
        rw [← hz] at hshort
        have hjn : joinN (modM us) = putB m0 ++ joinN rest := by rw [hm0]; rfl
        have hpb := putB_ne m0
        have hget := get_put hm0b (joinN rest ++ t)
        rw [← List.append_assoc, ← hjn] at hget
        have htk : (joinN (modM us)).take (2 ^ kN m0) = putB m0 := by rw [hjn, ← putB_len, List.take_left]
        have hln : 2 ^ kN m0 ≤ (joinN (modM us)).length := by rw [hjn, List.length_append, ← putB_len]; omega
        have hL1 : 1 ≤ (joinN (modM us)).length := by have := pow_pos2 (kN m0); omega
        have hinl : ini.length + 1 = k := by have := HML.out; rw [hz, List.length_append] at this; simpa using this
        obtain ⟨bm, om, hma, hc0⟩ := I7.out 0 (m0 : Int) (by rw [hm0]; rfl)
        obtain ⟨bm', om', hma', hcz⟩ := I7.out ini.length (z : Int) (by rw [hz]; simp)
        rw [hma] at hma'
        simp only [Option.some.injEq, Addr.mk.injEq, and_true] at hma'
        obtain ⟨rfl, rfl⟩ := hma'
        subst hma
        have hbm := World.block_lt_of_cell? w7 _ hc0
        simp only [Nat.add_zero] at hc0 hbm
        obtain ⟨g, cp, hv1, hcp, hcvx⟩ := R7.out.shape hL1
        subst hv1
        have hc7 := R7.out.conv
        have HCX := Lib.hid hcvx
        have G := fun W => get_any (joinN (modM us) ++ t) W (by rw [List.length_append]; omega)
        unfold GetIs at G
        rw [hget] at G
        have HG := Lib.hid G
        have P := fun W => put_some m0 W hm0b
        have HP := Lib.hid P
        have SZ := fun W => size_any (z : Int) W
        have SM := fun W => size_any (m0 : Int) W
        rw [size_kN hzb] at SZ
        rw [size_kN hm0b] at SM
        have AS := fun W => all_d ((joinN (modM us)).take ((joinN (modM us)).length - 1)) W (by rw [List.length_take]; omega)
        have HTK := Lib.hid htk
        have HSH := Lib.hid hshort
        have HI8 := Lib.hid hinl
        clear htk hshort hget G P hcvx hjn hm0 hz hne hbd
        generalize joinN (modM us) = L at *
        generalize 2 ^ kN m0 = sm at *
        generalize 2 ^ kN z = sz at *
        generalize ini.length = j at *
        have HSZ := Lib.hid SZ
        have HSM := Lib.hid SM
        clear SZ SM
        have hsa := str_app L t
        have hbig : ¬ 9223372036854775807 < L.length + t.length := by omega
        go_upto_region 17 with (first
          | ((with_reducible refine (HG.out _).mono ?_); rintro e w8 ⟨rfl, hb⟩; have B8 := bt B7 hb; have R8 := Lib.hid (R7.out.below hb); have c80 := cell_below hb hc0; have c8z := cell_below hb hcz; have hbm8 := Nat.lt_of_lt_of_le hbm hb.size; clear hb))
        clear hc7 hsa hbig hc0 hcz hbm R7 B7
        obtain ⟨y, hy⟩ : ∃ y, y = L.length - 1 := ⟨_, rfl⟩
        have yq : (L.length : Int) - 1 = (y : Int) := by omega
        have y1 : (y : Int) ≤ cp := by omega
        have y0 : (0 : Int) ≤ y := by omega
        have hcy := HCX.out w8 R8.out y (by omega)
        rw [← hy] at AS
        have HSH2 := HSH.out
        rw [← hy] at HSH2
        have HSH3 := Lib.hid HSH2
        clear hy HSH2 HSH
        go_upto_region 18 with (first
          | ((with_reducible refine (AS _).mono ?_); refine unhalt ?_))
        unfold Halted
        rintro e w9 ⟨hb, a9, c9, rfl, hi9⟩
        have B9 := bt B8 hb
        have R9 := Lib.hid (R8.out.below hb)
        have c90 := cell_below hb c80
        have c9z := cell_below hb c8z
        have hbm9 := Nat.lt_of_lt_of_le hbm8 hb.size
        clear hb hi9 hcy B8 R8 c80 c8z hbm8 AS yq y1
        dsimp only
        go_upto_region 18 with fail
        generalize (allP (List.take y L)).1.length = ln5 at *
        generalize hx5 : (allP (List.take y L)).2 = x5 at *
        have HX5 := Lib.hid hx5
        clear hx5
        go_upto_region 19 with (first
          | ((with_reducible refine (HP.out _).mono ?_); refine unhalt ?_))
        unfold Halted
        rintro e w10 ⟨v10, rfl, hb, hr10⟩
        have B10 := bt B9 hb
        have R10 := Lib.hid (R9.out.below hb)
        have P10 := Lib.hid hr10
        have c100 := cell_below hb c90
        have c10z := cell_below hb c9z
        have hbm10 := Nat.lt_of_lt_of_le hbm9 hb.size
        clear hb hr10 B9 R9 c90 c9z hbm9
        dsimp only
        have hinl2 := HI8.out
        have kq : (k : Int) - 1 = (j : Int) := by omega
        have kq1 : (0 : Int) ≤ (j : Int) := by omega
        have kq2 : (j : Int) < k := by omega
        clear hinl2
        go_upto_region 20 with (first
          | ((with_reducible refine (HSZ.out _).mono ?_); rintro e w11 ⟨rfl, hb⟩; have B11 := bt B10 hb; have R11 := Lib.hid (R10.out.below hb); have P11 := Lib.hid (P10.out.below hb); have c110 := cell_below hb c100; have hbm11 := Nat.lt_of_lt_of_le hbm10 hb.size; clear hb))
        clear B10 R10 P10 c100 c10z hbm10 kq kq1 kq2
        have r0 : (0 : Int) < k := by omega
        have r1 : 0 < k := by omega
        have r2 : (sm : Int) ≤ cp := by omega
        have r3 : (0 : Int) ≤ sm := by omega
        have r4 : sm ≤ cp := by omega
        have hx := HSH3.out
        clear HSH3 HX5
        by_cases hs1 : sz = 1
        case' pos => rw [if_pos hs1] at hx
        case' neg => rw [if_neg hs1] at hx
        all_goals subst hx
        case' pos => have s1 : ((sz : Int) == 1) = true := by simp; omega
        case' neg => have s1 : ((sz : Int) == 1) = false := by simp; omega
        all_goals
          clear hs1
          go_wp2
          refine wp_chain [] [10, 37] [] (by kernel_rfl) (by kernel_rfl) ?_
          intro w12 hb12 hh12
          have B12 := bt B11 hb12
          have hcA := fun x => ((P11.out.below hb12).kept x).conv
          have hcB := fun x => HCX.out _ ((R11.out.below hb12).kept x) sm hln
          rw [HTK.out] at hcB
          have c120 := cell_below hb12 c110
          have hbm12 : bm < w12.heap.size := Nat.lt_of_lt_of_le hbm11 hb12.size
          clear hb12 hh12 B11 R11 P11 c110 hbm11
          iterate 10
            refine chain_now (by rfl) (by rfl) (fun K hK => ?_)
            replace hK := Lib.hid hK
            go_simp
            refine hK.out _ _ ?_; clear hK K
          refine chain_do (by rfl) (fun K hK => ?_)
          replace hK := Lib.hid hK
          go_simp
          refine (HSM.out _).mono ?_
          rintro e w13 ⟨rfl, hb⟩
          refine ⟨_, rfl, Below.kept _ hb, hK.out _ _ ?_⟩; clear hK K
          have B13 := bt B12 hb
          clear hb
          iterate 26
            refine chain_now (by rfl) (by rfl) (fun K hK => ?_)
            replace hK := Lib.hid hK
            go_simp
            refine hK.out _ _ ?_; clear hK K
          refine chain_do (by rfl) (fun K hK => ?_)
          replace hK := Lib.hid hK
          go_simp
          refine (awake_any _).mono ?_
          rintro e w14 ⟨rfl, hb⟩
          refine ⟨_, rfl, Below.kept _ hb, hK.out _ _ ?_⟩; clear hK K
          have B14 := bt B13 hb
          clear hb
          iterate 2
            refine chain_now (by rfl) (by rfl) (fun K hK => ?_)
            replace hK := Lib.hid hK
            go_simp
            refine hK.out _ _ ?_; clear hK K
          refine chain_end ?_
          clear hcA hcB c120 hbm12
          go_wp2
          go_returns
          exact ⟨rfl, B14⟩
end Go.Proofs.Ytgiijgnajhlpeaa
