/- The law TimerOnce: its walk. -/
import Derived.Test.YtickfnedplbleaaT30
namespace Go.Proofs.Ytickfnedplbleaa
open Go.RowKit
attribute [local go_sem] cell_over frozen_over lt_over le_over ne_over over_ne cell_set_same softAt softUpon lightUpon heavyUpon cell_kept frozen_kept

/-- A slice of integers that came in: nil, or a row of cells. -/
def IsRow (k : IntKind) (w : World) (a : Option Addr) (len cap : Nat) (zs : List Int) : Prop :=
  (a = none ∧ len = 0 ∧ cap = 0 ∧ zs = []) ∨
  ∃ x, a = some x ∧ len ≤ cap ∧ cap ≤ maxLen ∧ zs.length = cap ∧ (∀ i, i < zs.length → w.cell? (x.add i) = some (.int k (zs.getD i 0))) ∧ ∀ n ∈ zs, (Lit.int k n).wf = true
/-- n bytes from a on. -/
def Bytes (w : World) (a : Option Addr) (n : Nat) (xs : Nat → Nat) : Prop :=
  ∀ k, k < n → ∃ b o, a = some ⟨b, o, none⟩ ∧ w.cell? ⟨b, o + k, none⟩ = some (.int .u8 (xs k))

theorem Bytes.below {w w' : World} {a : Option Addr} {n : Nat} {xs : Nat → Nat} (h : Bytes w a n xs) (hb : Below w.heap.size w w') : Bytes w' a n xs :=
  fun k hk => let ⟨b, o, ha, hc⟩ := h k hk; ⟨b, o, ha, cell_below hb hc⟩

theorem row_bytes {w : World} {a : Option Addr} {len cap : Nat} {zs : List Int} (h : IsRow .u8 w a len cap zs) :
    ∃ xs : Nat → Nat, (∀ k, xs k ≤ 255) ∧ len ≤ cap ∧ cap ≤ maxLen ∧ Bytes w a cap xs := by
  rcases h with ⟨rfl, rfl, rfl, rfl⟩ | ⟨x, rfl, hl, hm, hz, hc, hw⟩
  · exact ⟨fun _ => 0, fun _ => Nat.zero_le _, Nat.le_refl _, Nat.zero_le _, fun k hk => absurd hk (by omega)⟩
  · have hb : ∀ k, 0 ≤ zs.getD k 0 ∧ zs.getD k 0 ≤ 255 := by
      intro k
      rcases Nat.lt_or_ge k zs.length with h | h
      · have hm : zs.getD k 0 ∈ zs := by
          rw [List.getD_eq_getElem?_getD, List.getElem?_eq_getElem h]
          exact List.getElem_mem h
        simpa [Lit.wf, IntKind.min, IntKind.max, IntKind.signed, IntKind.bits] using hw _ hm
      · rw [List.getD_eq_getElem?_getD, List.getElem?_eq_none h]
        exact ⟨Int.le_refl _, by show (0 : Int) ≤ 255; omega⟩
    refine ⟨fun k => (zs.getD k 0).toNat, fun k => by have := hb k; show (zs.getD k 0).toNat ≤ 255; omega, hl, hm, fun k hk => ?_⟩
    have hs : x.spot = none := by
      have h0 := hc 0 (by omega)
      have hx : x.add 0 = x := by simp [Addr.add]
      rw [hx] at h0
      cases hsp : x.spot with
      | none => rfl
      | some s =>
        simp only [World.cell?, hsp] at h0
        split at h0 <;> simp_all
    obtain ⟨b, o, s⟩ := x
    simp only at hs
    subst hs
    refine ⟨b, o, rfl, ?_⟩
    have h1 := hc k (by omega)
    have e : (⟨b, o, none⟩ : Addr).add k = ⟨b, o + k, none⟩ := by unfold Addr.add; split <;> simp_all
    rw [e] at h1
    rw [h1]
    have := hb k
    rw [show ((zs.getD k 0).toNat : Int) = zs.getD k 0 by omega]

/-- What New tells a caller. -/
def NewP (w : World) (e : Ending) (w' : World) : Prop := ∃ pq pm, e = .returned (.pointer (some ⟨pq, 0, none⟩)) ∧ HandP w w' pq pm [] []
theorem hp_new' (w : World) : Calls Try.prog 8 #[] w (NewP w) := hp_new w

set_option maxRecDepth 100000 in
set_option maxHeartbeats 8000000 in
theorem once_in (w : World) (a1 : Option Addr) (n c1 : Nat) (xs : Nat → Nat) (hx : ∀ k, xs k ≤ 255) (b1 : Bytes w a1 n xs) (a2 : Option Addr) (m c2 : Nat) (ys : Nat → Nat) (hy : ∀ k, ys k ≤ 255) (b2 : Bytes w a2 m ys) (hn : n ≤ 60) (hm : n ≤ m) :
    Calls Try.prog 5 #[.slice a1 n c1, .slice a2 m c2] w fun e w' => e = .returned (.bool true) ∧ Below w.heap.size w w' := by
  have t1 : ¬ (60 : Int) < (n : Int) := by omega
  have t2 : ¬ (m : Int) < (n : Int) := by omega
  have X1 := Lib.hid b1
  have X2 := Lib.hid b2
  have HX := Lib.hid hx
  have HY := Lib.hid hy
  have HN := Lib.hid hn
  have HM := Lib.hid hm
  clear b1 b2 hx hy hn hm
  go_enter Try.func5, Try.ntmps5
  go_wp2_with (first
    | ((with_reducible refine (hp_new' _).mono ?_); refine unhalt ?_))
  unfold Halted
  rintro e w1 ⟨pq, pm, rfl, h1⟩
  have H1 := Lib.hid h1
  clear h1
  dsimp only
  go_wp2
  change Code.wp _ _ _ _ (w1.alloc (.cells (Array.replicate 64 (.int .i64 0)) 55))
  have hk := H1.out.keep (.cells (Array.replicate 64 (.int .i64 0)) 55)
  have hpt : w.heap.size ≤ w1.heap.size := H1.out.below.size
  generalize w1.alloc (.cells (Array.replicate 64 (.int .i64 0)) 55) = w2 at *
  generalize w1.heap.size = pt at *
  have HK := Lib.hid hk
  have HPT := Lib.hid hpt
  clear hk hpt H1
  go_loopw [7] (fun i wr => ∃ (k : Nat) (o : Obj) (g : Nat → Int), k ≤ 64 ∧ i = .int .i64 k ∧ HandK w wr pq pm [] pt o ∧ Arr o g ∧ ∀ j, j < k → g j = -1) (fun i _ => 64 - (intOf i).toNat)
  case atStart => exact ⟨0, _, _, Nat.zero_le _, rfl, HK.out, arr_zero, fun j hj => absurd hj (Nat.not_lt_zero _)⟩
  case round =>
    clear HK
    obtain ⟨k, o, g, hk, rfl, K, A, G⟩ := hrel
    by_cases hlt : k < 64
    · have k0 : (0 : Int) ≤ (k : Int) := by omega
      have k1 : (k : Int) < 64 := by omega
      have f1 := A.free K.at k
      have f2 := A.cell K.at k hlt
      have f3 := K.lt
      obtain ⟨o', K', A'⟩ := hk_put K A HPT.out k (-1)
      have HK' := Lib.hid K'
      have HA' := Lib.hid A'
      have HG := Lib.hid G
      clear K A G K' A'
      go_wp2
      go_roundw
      case rel => exact ⟨k + 1, o', _, by omega, by go_num, HK'.out, HA'.out, fun j hj => by
        unfold put
        by_cases e : j = k
        · rw [if_pos e]
        · rw [if_neg e]; exact HG.out j (by omega)⟩
      case measure => simp [intOf]; omega
    · have k1 : ¬ (k : Int) < 64 := by omega
      have HK := Lib.hid K
      have HA := Lib.hid A
      have HR := Lib.hid (rel_none fun j hj => G j (by omega))
      generalize (k : Int) = k' at *
      clear K A G
      go_wp2
      go_loopw [8, 9] (fun i _ wr => ∃ (k : Nat) (o : Obj) (g : Nat → Int) (L : List It), k ≤ n ∧ i = .int .i64 k ∧ HandK w wr pq pm L pt o ∧ Arr o g ∧ Rel L g ∧ L.length ≤ k) (fun i _ _ => n - (intOf i).toNat)
      case atStart => exact ⟨0, _, _, [], Nat.zero_le _, rfl, HK.out, HA.out, HR.out, Nat.le_refl _⟩
      case round =>
        clear HK HA HR hk hlt o g k
        obtain ⟨k, o, g, L, hk, rfl, K, A, R, hL⟩ := hrel
        by_cases hlt : k < n
        · have hkm : k < m := Nat.lt_of_lt_of_le hlt HM.out
          obtain ⟨y, hy⟩ : ∃ y, ys k = y := ⟨_, rfl⟩
          obtain ⟨x, hx⟩ : ∃ x, xs k = x := ⟨_, rfl⟩
          have hy2 : y ≤ 255 := hy ▸ HY.out k
          have hx2 : x ≤ 255 := hx ▸ HX.out k
          obtain ⟨id, hid⟩ : ∃ id, y % 64 = id := ⟨_, rfl⟩
          have hid2 : id < 64 := by omega
          have v1 : (y : Int).tmod 64 = (id : Int) := by rw [Int.tmod_eq_emod_of_nonneg (by omega)]; omega
          have v2 : (y : Int) % 64 = (id : Int) := by omega
          have v3 : IntKind.u8.wrap (id : Int) = id := by simp [IntKind.wrap, IntKind.bits, IntKind.signed]; omega
          have v4 : IntKind.i64.wrap (id : Int) = id := IntWalk.i64_in _ (by omega)
          have v5 : IntKind.i64.wrap (x : Int) = x := IntWalk.i64_in _ (by omega)
          obtain ⟨p1, q1, rfl, d1⟩ := (X1.out.below K.base) k hlt
          obtain ⟨p2, q2, rfl, d2⟩ := (X2.out.below K.base) k hkm
          rw [hx] at d1
          rw [hy] at d2
          have k0 : (0 : Int) ≤ (k : Int) := by omega
          have k1 : (k : Int) < (n : Int) := by omega
          have k2 : (k : Int) < (m : Int) := by omega
          have HS := Lib.hid (hk_set K ((x : Int), (id : Int)) (good_small _ ⟨by simp, by simp; omega, by simp, by simp; omega⟩) (by have := HN.out; omega))
          have HA := Lib.hid A
          have HR := Lib.hid R
          have HL := Lib.hid hL
          have HI2 := Lib.hid hid2
          have HX2 := Lib.hid hx2
          have HXK := Lib.hid hx
          have hlow : w.heap.size ≤ wr.heap.size := K.base.size
          have HK0 := Lib.hid K
          clear K A R hL hy hy2 hx hx2 hid hid2
          go_wp2_with (first
            | ((with_reducible refine (HS.out).mono ?_); rintro e w3 ⟨rfl, K3⟩
               have f1 := HA.out.free K3.at id
               have f2 := HA.out.cell K3.at id HI2.out
               have f3 := K3.lt
               have f4 : (id : Int) < 64 := by have := HI2.out; omega
               have f5 : (0 : Int) ≤ (id : Int) := by omega
               obtain ⟨p1', q1', e1', d3⟩ := (X1.out.below K3.base) k hlt
               cases e1'
               rw [HXK.out] at d3
               have HK3 := Lib.hid K3
               clear K3))
          obtain ⟨o', K', A'⟩ := hk_put HK3.out HA.out HPT.out id x
          have HK' := Lib.hid K'
          have HA' := Lib.hid A'
          clear K' A'
          go_roundw
          case rel => exact ⟨k + 1, o', _, _, by omega, by go_num, HK'.out, HA'.out, rel_set HR.out id x HI2.out HX2.out, by
            have := less_len L (id : Int)
            have := HL.out
            simp
            omega⟩
          case measure => simp [intOf]; omega
        · have k2 : ¬ (k : Int) < n := by omega
          have HK := Lib.hid K
          have HA := Lib.hid A
          have HR := Lib.hid R
          have HL := Lib.hid hL
          clear K A R hL
          go_wp2
          go_loopw [10, 11, 12, 13, 14] (fun i _ _ _ _ wr => ∃ (t : Nat) (o : Obj) (g : Nat → Int) (L : List It), t ≤ 256 ∧ i = .int .i64 t ∧ HandK w wr pq pm L pt o ∧ Arr o g ∧ Rel L g ∧ ∀ z ∈ L, (t : Int) ≤ z.1) (fun i _ _ _ _ _ => 256 - (intOf i).toNat)
          case atStart => exact ⟨0, _, _, _, Nat.zero_le _, rfl, HK.out, HA.out, HR.out, fun z hz => by
            obtain ⟨_, _, _, _, h, _⟩ := HR.out.1 z hz
            simpa using h⟩
          case round =>
            clear HK HA HR HL hk hlt o g L
            obtain ⟨t, o, g, L, ht, rfl, K, A, R, hlow⟩ := hrel
            by_cases htt : t < 256
            · have q0 : (t : Int) < 256 := by omega
              have HD := Lib.hid (hk_due K (t : Int))
              have HL64 := Lib.hid K.len
              obtain ⟨B', hBe⟩ : ∃ B', wr.heap.size = B' := ⟨_, rfl⟩
              have hB' : pt < B' := hBe ▸ K.lt
              have HBE := Lib.hid hBe
              have HN2 := Lib.hid K.ids
              have HA := Lib.hid A
              have HR := Lib.hid R
              have HLOW := Lib.hid hlow
              have HBW := Lib.hid hB'
              clear K A R hlow hB' hBe
              go_wp2_with (first
                | ((with_reducible refine (HD.out).mono ?_); refine unhalt ?_))
              unfold Halted
              rintro e w4 ⟨a4, c4, out, rfl, K4, I4, P4, T4⟩
              have HK4 := Lib.hid K4
              rw [HBE.out] at I4
              have HI4 := Lib.hid I4
              have HP4 := Lib.hid P4
              have HDA := Lib.hid (due_at HR.out HN2.out HLOW.out P4 T4)
              have hol : out.length ≤ 64 := by
                have h1 := P4.length_eq
                have h2 := List.length_filter_le (fun x : It => decide (x.1 ≤ (t : Int))) L
                have h3 := HL64.out
                omega
              clear K4 I4 P4 T4 HD
              dsimp only
              go_wp2
              go_loopw [12, 13, 14] (fun l i _ wx => ∃ (j : Nat) (o' : Obj) (last : Int), j ≤ out.length ∧ i = .int .i64 j ∧ l = .int .i64 last ∧ HandK w wx pq pm (L.filter fun x => !decide (x.1 ≤ (t : Int))) pt o' ∧ Arr o' (gone g (out.take j)) ∧ Items wx B' (.slice a4 out.length c4) out ∧ ∀ i y, j ≤ i → out[i]? = some y → last < y.2) (fun _ i _ _ => out.length - (intOf i).toNat)
              case atStart => exact ⟨0, o, -1, Nat.zero_le _, rfl, rfl, HK4.out, by rw [List.take_zero, gone_nil]; exact HA.out, HI4.out, fun i y _ hy => by
                obtain ⟨id, _, hx, _⟩ := HDA.out i y hy
                rw [hx]
                show (-1 : Int) < (id : Int)
                omega⟩
              case round =>
                clear HK4 HI4
                obtain ⟨j, o', last, hj, rfl, rfl, K, A, I, LA⟩ := hrel
                by_cases hjl : j < out.length
                · obtain ⟨x, hx⟩ : ∃ x, out[j]? = some x := ⟨_, List.getElem?_eq_getElem hjl⟩
                  obtain ⟨id, hid, rfl, hg, hlt⟩ := HDA.out j x hx
                  have hla := LA j _ (Nat.le_refl _) hx
                  have hnext : ∀ i y, j + 1 ≤ i → out[i]? = some y → (id : Int) < y.2 := fun i y hi hy => by
                    obtain ⟨id', _, rfl, _, h5⟩ := HDA.out i y hy
                    exact h5 j _ (by omega) hx
                  have htk : out.take (j + 1) = out.take j ++ [((t : Int), (id : Int))] := by rw [List.take_add_one, hx]; rfl
                  obtain ⟨o2, K', A'⟩ := hk_put K A HPT.out id (-1)
                  rw [gone_put g (out.take j) ((t : Int), (id : Int)) id rfl, ← htk] at A'
                  have I' : Items (wr.setCell ⟨pt, id, none⟩ (.int .i64 (-1))) B' (.slice a4 out.length c4) out :=
                    World.ownsRow.kept I (grown_setCell wr ⟨pt, id, none⟩ (.int .i64 (-1))) (by
                      cases hv : (Value.slice a4 out.length c4).ownBlock with
                      | none => exact .inl rfl
                      | some q =>
                        right
                        intro e
                        have h1 := (World.ownsRow.lt I q hv).1
                        have h2 := HBW.out
                        have h3 : q = pt := Option.some.inj e
                        omega)
                  have f1 := A.free K.at id
                  have f2 := A.cell K.at id hid
                  rw [hg] at f2
                  have f3 := K.lt
                  have f4 : (id : Int) < 64 := by omega
                  have f5 : (0 : Int) ≤ (id : Int) := by omega
                  have f6 : ¬ (id : Int) ≤ last := by simp at hla; omega
                  have f7 : ¬ (63 : Int) < (id : Int) := by omega
                  have i0 : (0 : Int) ≤ (j : Int) := by omega
                  have i1 : (j : Int) < out.length := by omega
                  have i2 : (out.length : Int) ≤ 64 := by omega
                  rcases I.2 with ⟨_, h0⟩ | ⟨gb, cap, cur, e, hgb, hh, _⟩
                  · omega
                  · cases e
                    obtain ⟨c1, c2⟩ := row_cells2 I rfl hx
                    have HK' := Lib.hid K'
                    have HA' := Lib.hid A'
                    have HI' := Lib.hid I'
                    have HNX := Lib.hid hnext
                    have HX := Lib.hid hx
                    clear K A I LA K' A' I' hnext hx hlt htk hla hg hh hgb
                    go_wp2
                    go_roundw
                    case rel => exact ⟨j + 1, o2, _, by omega, by go_num, rfl, HK'.out, HA'.out, HI'.out, HNX.out⟩
                    case measure => simp [intOf]; omega
                · obtain rfl : j = out.length := by omega
                  rw [List.take_length] at A
                  have hlow2 : ∀ z ∈ L.filter fun x => !decide (x.1 ≤ (t : Int)), ((t + 1 : Nat) : Int) ≤ z.1 := fun z hz => by
                    have := (List.mem_filter.1 hz).2
                    simp at this
                    omega
                  have HF := Lib.hid (show ∃ (o : Obj) (g : Nat → Int) (L : List It), HandK w wr pq pm L pt o ∧ Arr o g ∧ Rel L g ∧ ∀ z ∈ L, ((t + 1 : Nat) : Int) ≤ z.1 from ⟨o', _, _, K, A, rel_due HR.out HN2.out HP4.out, hlow2⟩)
                  clear K A I LA hlow2
                  go_wp2
                  go_roundw
                  case rel =>
                    obtain ⟨o, g, L, h1, h2, h3, h4⟩ := HF.out
                    exact ⟨t + 1, o, g, L, by omega, by go_num, h1, h2, h3, h4⟩
                  case measure => simp [intOf]; omega
            · have q0 : ¬ (t : Int) < 256 := by omega
              obtain rfl : L = [] := by
                cases L with
                | nil => rfl
                | cons z L =>
                  obtain ⟨_, _, _, _, _, h1⟩ := R.1 z (by simp)
                  have h2 := hlow z (by simp)
                  omega
              have hall : ∀ i, i < 64 → g i = -1 := fun i hi => by
                rcases R.2 i hi with h | h
                · exact h
                · simp at h
              have HK := Lib.hid K
              have HA := Lib.hid A
              have HALL := Lib.hid hall
              clear K A R hlow hall
              go_wp2
              go_loopw [15] (fun i wx => ∃ j : Nat, j ≤ 64 ∧ i = .int .i64 j ∧ HandK w wx pq pm [] pt o) (fun i _ => 64 - (intOf i).toNat)
              case atStart => exact ⟨0, Nat.zero_le _, rfl, HK.out⟩
              case round =>
                clear HK
                obtain ⟨j, hj, rfl, K⟩ := hrel
                by_cases hjl : j < 64
                · have f2 := HA.out.cell K.at j hjl
                  rw [HALL.out j hjl] at f2
                  have f3 := K.lt
                  have f4 : (j : Int) < 64 := by omega
                  have f5 : (0 : Int) ≤ (j : Int) := by omega
                  have HK := Lib.hid K
                  clear K
                  go_wp2
                  go_roundw
                  case rel => exact ⟨j + 1, by omega, by go_num, HK.out⟩
                  case measure => simp [intOf]; omega
                · have f4 : ¬ (j : Int) < 64 := by omega
                  have HLN := Lib.hid (show Calls Try.prog 20 #[.pointer (some ⟨pq, 0, none⟩)] wr fun e w' => e = .returned (.int .i64 0) ∧ HandK w w' pq pm [] pt o from hk_len K)
                  clear K
                  go_wp2_with (first
                    | ((with_reducible refine (HLN.out).mono ?_); rintro e w5 ⟨rfl, K5⟩; have HK5 := Lib.hid K5; clear K5)
                    | ((with_reducible refine (awake_any _).mono ?_); rintro e w6 ⟨rfl, hb⟩; have HK6 := Lib.hid (HK5.out.grow hb); clear hb))
                  go_returns
                  exact ⟨rfl, HK6.out.base⟩
end Go.Proofs.Ytickfnedplbleaa
