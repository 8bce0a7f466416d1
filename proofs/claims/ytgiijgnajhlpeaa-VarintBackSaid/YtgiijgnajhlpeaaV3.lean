/- Plain facts: numbers are read from the bytes that were joined; a byte fewer cuts the last one off; greater numbers have no fewer bytes. -/
import Derived.Test.YtgiijgnajhlpeaaV2
import Derived.Test.YtgiijgnajhlpeaaT5
namespace Go.Proofs.Ytgiijgnajhlpeaa

/-- The bytes of many. -/
def joinN (ms : List Nat) : List UInt8 := ms.flatMap putB
theorem joinN_cons (m : Nat) (ms : List Nat) : joinN (m :: ms) = putB m ++ joinN ms := rfl
theorem joinN_snoc (ms : List Nat) (m : Nat) : joinN (ms ++ [m]) = joinN ms ++ putB m := by simp [joinN]
theorem joinB_nat (ms : List Nat) : joinB (ms.map fun (n : Nat) => (n : Int)) = joinN ms := by
  simp [joinB, joinN, List.flatMap_map]
theorem joinR_nat (ms : List Nat) (h : ∀ m ∈ ms, m ≤ 4611686018427387903) : joinR (ms.map fun (n : Nat) => (n : Int)) = (joinN ms, 0) := by
  unfold joinR
  rw [if_neg, joinB_nat]
  rintro ⟨z, hz, hb⟩
  obtain ⟨m, hm, rfl⟩ := List.mem_map.1 hz
  have := h m hm
  unfold badN at hb
  omega
theorem putB_ne (m : Nat) : 1 ≤ (putB m).length := by rw [putB_len]; exact pow_pos2 _

/-- Joined numbers are read back, whatever stands behind. -/
theorem all_join (t : List UInt8) : ∀ (ms : List Nat), (∀ m ∈ ms, m ≤ 4611686018427387903) → allP (joinN ms ++ t) = behindR ms (allP t)
  | [], _ => by
    show allP t = behindR [] (allP t)
    unfold behindR
    by_cases h : (allP t).2 = 0
    · rw [if_pos h, List.nil_append, ← h]
    · rw [if_neg h]
      cases t with
      | nil => exact absurd rfl h
      | cons b r =>
        by_cases hg : (getP (b :: r)).2.2 = 0
        · rw [all_ok hg] at h ⊢
          unfold behindR at h ⊢
          split
          · rename_i h2; rw [if_pos h2] at h; simp at h
          · rfl
        · rw [all_bad (by simp) hg]
  | m :: ms, h => by
    have hm := h m (List.mem_cons_self ..)
    have hg := get_put hm (joinN ms ++ t)
    rw [joinN_cons, List.append_assoc]
    have h0 : (getP (putB m ++ (joinN ms ++ t))).2.2 = 0 := by rw [hg]
    rw [all_ok h0, hg]
    simp only
    rw [← putB_len, List.drop_left, all_join t ms fun x hx => h x (List.mem_cons_of_mem _ hx), behind_behind]
    rfl

theorem all_joined (ms : List Nat) (h : ∀ m ∈ ms, m ≤ 4611686018427387903) : allP (joinN ms) = (ms, 0) := by
  have := all_join [] ms h
  rw [List.append_nil, all_nil, behind_ok, List.append_nil] at this
  exact this

/-- With a byte fewer the last one is cut off, if it has more than one. -/
theorem all_short (ms : List Nat) (z : Nat) (h : ∀ m ∈ ms, m ≤ 4611686018427387903) (hz : z ≤ 4611686018427387903) :
    (allP ((joinN (ms ++ [z])).take ((joinN (ms ++ [z])).length - 1))).2 = if 2 ^ kN z = 1 then 0 else 3 := by
  have hl := putB_ne z
  have e : (joinN (ms ++ [z])).take ((joinN (ms ++ [z])).length - 1) = joinN ms ++ (putB z).take ((putB z).length - 1) := by
    rw [joinN_snoc, List.length_append, List.take_append]
    rw [List.take_of_length_le (by omega)]
    congr 2
    omega
  rw [e, all_join _ ms h]
  by_cases h1 : 2 ^ kN z = 1
  · rw [if_pos h1, putB_len, h1]
    simp [all_nil, behind_ok]
  · rw [if_neg h1]
    have h2 : 2 ≤ (putB z).length := by rw [putB_len]; have := pow_pos2 (kN z); omega
    have hg := get_put hz []
    rw [List.append_nil] at hg
    obtain ⟨_, _, _, _, _, _, b, r, hbr, hs⟩ := get_ok hg
    have hcut := get_cut (b := b) (r := r) (i := (putB z).length - 1) (by rw [putB_len, hs]; have := pow_pos2 (b.toNat / 64); omega)
    rw [← hbr] at hcut
    have hne : (putB z).take ((putB z).length - 1) ≠ [] := by
      intro hc
      have := congrArg List.length hc
      rw [List.length_take] at this
      simp at this
      omega
    rw [all_bad hne (by rw [hcut]; decide), hcut, behind_bad _ _ (by decide)]

theorem size_mono (x y : Nat) (h : x ≤ y) : 2 ^ kN x ≤ 2 ^ kN y := by
  apply Nat.pow_le_pow_right (by omega)
  unfold kN
  by_cases h1 : y < 64
  · rw [if_pos (show x < 64 by omega), if_pos h1]; exact Nat.le_refl _
  · rw [if_neg h1]
    by_cases h2 : y < 16384
    · rw [if_pos h2]
      split
      · omega
      · rw [if_pos (show x < 16384 by omega)]; exact Nat.le_refl _
    · rw [if_neg h2]
      by_cases h3 : y < 1073741824
      · rw [if_pos h3]
        split
        · omega
        · split
          · omega
          · rw [if_pos (show x < 1073741824 by omega)]; exact Nat.le_refl _
      · rw [if_neg h3]
        split
        · omega
        · split
          · omega
          · split <;> omega
end Go.Proofs.Ytgiijgnajhlpeaa
