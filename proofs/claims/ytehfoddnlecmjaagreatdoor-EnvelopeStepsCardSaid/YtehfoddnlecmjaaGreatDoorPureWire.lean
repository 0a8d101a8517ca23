/- Numbers and fields as bytes, in plain lists. -/
set_option linter.unusedVariables false
set_option linter.unusedSimpArgs false
namespace Go.Proofs.YtehfoddnlecmjaaGreatDoor

abbrev Bytes := List UInt8
def b8 (n : Nat) : UInt8 := UInt8.ofNat n
theorem b8_toNat {n : Nat} (h : n < 256) : (b8 n).toNat = n := by simp [b8, UInt8.toNat_ofNat', Nat.mod_eq_of_lt h]

/-- A number's one form. -/
def vint (n : Nat) : Bytes := if n < 128 then [b8 n] else b8 (n % 128 + 128) :: vint (n / 128)
theorem vint_lt {n : Nat} (h : n < 128) : vint n = [b8 n] := by rw [vint, if_pos h]
theorem vint_ge {n : Nat} (h : 128 ≤ n) : vint n = b8 (n % 128 + 128) :: vint (n / 128) := by rw [vint, if_neg (by omega)]
def vsize (n : Nat) : Nat := (vint n).length
theorem vsize_lt {n : Nat} (h : n < 128) : vsize n = 1 := by simp [vsize, vint_lt h]
theorem vsize_ge {n : Nat} (h : 128 ≤ n) : vsize n = vsize (n / 128) + 1 := by simp [vsize, vint_ge h]
theorem vsize_pos (n : Nat) : 1 ≤ vsize n := by
  by_cases h : n < 128
  · rw [vsize_lt h]; omega
  · rw [vsize_ge (by omega)]; omega
theorem vsize_le (k : Nat) : ∀ n : Nat, n < 128 ^ (k + 1) → vsize n ≤ k + 1 := by
  induction k with
  | zero => intro n h; rw [vsize_lt (by simpa using h)]; omega
  | succ k ih =>
    intro n h
    by_cases h1 : n < 128
    · rw [vsize_lt h1]; omega
    · rw [vsize_ge (by omega)]
      have : n / 128 < 128 ^ (k + 1) := by
        rw [Nat.div_lt_iff_lt_mul (by omega)]
        rw [Nat.pow_succ] at h
        omega
      have := ih _ this
      omega
theorem vsize_le10 {n : Nat} (h : n < 2 ^ 64) : vsize n ≤ 10 := vsize_le 9 n (by omega)

/-- A number read at a place: it, where it ends, the error. i: how many bytes were read, acc: what they say. -/
def numGo (l : Bytes) (at_ : Nat) : Nat → Nat → Nat → Nat × Nat × Nat
  | 0, _, _ => (0, 0, 70)
  | k + 1, i, acc =>
    if at_ + i = l.length then (0, 0, 73) else
    let x := (l.getD (at_ + i) 0).toNat
    if i = 9 ∧ 1 < x then (0, 0, 70) else
    if 0 < i ∧ x = 0 then (0, 0, 70) else
    let acc' := acc + x % 128 * 128 ^ i
    if x < 128 then (acc', at_ + i + 1, 0) else numGo l at_ k (i + 1) acc'
def num (l : Bytes) (at_ : Nat) : Nat × Nat × Nat := if l.length < at_ then (0, 0, 1) else numGo l at_ 10 0 0
theorem numGo_end {l : Bytes} {p j acc : Nat} (hj : j < 10) (h : p + j = l.length) : numGo l p (10 - j) j acc = (0, 0, 73) := by
  obtain ⟨k, hk⟩ : ∃ k, 10 - j = k + 1 := ⟨9 - j, by omega⟩
  rw [hk, numGo, if_pos h]
theorem numGo_at {l : Bytes} {p j acc : Nat} (hj : j < 10) (h : p + j < l.length) : numGo l p (10 - j) j acc =
    if j = 9 ∧ 1 < l[p + j].toNat then (0, 0, 70) else if 0 < j ∧ l[p + j].toNat = 0 then (0, 0, 70) else
    if l[p + j].toNat < 128 then (acc + l[p + j].toNat % 128 * 128 ^ j, p + j + 1, 0) else numGo l p (10 - (j + 1)) (j + 1) (acc + l[p + j].toNat % 128 * 128 ^ j) := by
  obtain ⟨k, hk⟩ : ∃ k, 10 - j = k + 1 := ⟨9 - j, by omega⟩
  have hk2 : 10 - (j + 1) = k := by omega
  rw [hk, hk2, numGo, if_neg (by omega)]
  have hx : l.getD (p + j) 0 = l[p + j] := by simp [List.getD_eq_getElem?_getD, h]
  simp only [hx]
/-- What a number that was read is, and where it ends. -/
theorem numGo_ok (l : Bytes) (p : Nat) : ∀ (k j acc : Nat), k + j = 10 → p + j ≤ l.length → acc < 128 ^ j → (numGo l p k j acc).1 < 2 ^ 64 ∧ (numGo l p k j acc).2.1 ≤ l.length ∧ ((numGo l p k j acc).2.2 = 0 → p + j < (numGo l p k j acc).2.1) ∧
    ((numGo l p k j acc).2.2 = 0 ∨ (numGo l p k j acc).2.2 = 70 ∨ (numGo l p k j acc).2.2 = 73) := by
  intro k
  induction k with
  | zero => intro j acc _ _ _; exact ⟨by simp [numGo], by simp [numGo], by simp [numGo], by simp [numGo]⟩
  | succ k ih =>
    intro j acc hk hp ha
    have hkj : k + 1 = 10 - j := by omega
    by_cases he : p + j = l.length
    · rw [hkj, numGo_end (by omega) he]
      exact ⟨by decide, by simp, by simp, by simp⟩
    · have hlt : p + j < l.length := by omega
      rw [hkj, numGo_at (by omega) hlt]
      have hx := l[p + j].toNat_lt
      generalize l[p + j].toNat = x at *
      split
      · exact ⟨by decide, by simp, by simp, by simp⟩
      · split
        · exact ⟨by decide, by simp, by simp, by simp⟩
        · have hs : acc + x % 128 * 128 ^ j < 128 ^ (j + 1) := by
            have h1 : x % 128 * 128 ^ j ≤ 127 * 128 ^ j := Nat.mul_le_mul_right _ (by omega)
            have h2 : (128 : Nat) ^ (j + 1) = 128 ^ j * 128 := Nat.pow_succ ..
            omega
          split
          · refine ⟨?_, by simp; omega, fun _ => by simp only; omega, by simp⟩
            by_cases h9 : j = 9
            · subst h9
              have : x ≤ 1 := by omega
              have h1 : x % 128 ≤ 1 := by omega
              have h2 : x % 128 * 128 ^ 9 ≤ 1 * 128 ^ 9 := Nat.mul_le_mul_right _ h1
              simp only
              omega
            · have h3 : (128 : Nat) ^ (j + 1) ≤ 128 ^ 9 := Nat.pow_le_pow_right (by omega) (by omega)
              have h4 : (128 : Nat) ^ 9 < 2 ^ 64 := by decide
              simp only
              omega
          · rw [show 10 - (j + 1) = k by omega]
            have := ih (j + 1) (acc + x % 128 * 128 ^ j) (by omega) (by omega) hs
            exact ⟨this.1, this.2.1, fun h => by have := this.2.2.1 h; omega, this.2.2.2⟩
theorem num_ok {l : Bytes} {p : Nat} (hp : p ≤ l.length) : (num l p).1 < 2 ^ 64 ∧ (num l p).2.1 ≤ l.length ∧ ((num l p).2.2 = 0 → p < (num l p).2.1) ∧ ((num l p).2.2 = 0 ∨ (num l p).2.2 = 70 ∨ (num l p).2.2 = 73) := by
  unfold num
  rw [if_neg (by omega)]
  exact numGo_ok l p 10 0 0 rfl (by omega) (by decide)
end Go.Proofs.YtehfoddnlecmjaaGreatDoor
