/- Buckets, in plain numbers. -/
set_option linter.unusedVariables false
set_option linter.unusedSimpArgs false
namespace Go.Proofs.YtehfoddnlecmjaaGreatDoor

/-- The unit of a number of version 2: the least power of two of which it has fewer than 16. -/
def unitGo (b e : Nat) : Nat := if h : 0 < e ∧ 16 ≤ b / e then unitGo b (2 * e) else e
  termination_by b + 1 - e
  decreasing_by
  obtain ⟨h1, h2⟩ := h
  have h3 : 16 * e ≤ b := (Nat.le_div_iff_mul_le h1).1 h2
  omega
theorem unitGo_stop {b e : Nat} (h : ¬ 16 ≤ b / e) : unitGo b e = e := by rw [unitGo, dif_neg (fun k => h k.2)]
theorem unitGo_step {b e : Nat} (h0 : 0 < e) (h : 16 ≤ b / e) : unitGo b e = unitGo b (2 * e) := by rw [unitGo, dif_pos ⟨h0, h⟩]
theorem unitGo_pos : ∀ (m b e : Nat), b + 1 - e ≤ m → 0 < e → 0 < unitGo b e ∧ (e ≤ b → unitGo b e ≤ b) := by
  intro m
  induction m with
  | zero =>
    intro b e hm h0
    have : b / e = 0 := Nat.div_eq_of_lt (by omega)
    rw [unitGo_stop (by omega)]
    exact ⟨h0, fun h => h⟩
  | succ m ih =>
    intro b e hm h0
    by_cases h : 16 ≤ b / e
    · have h3 : 16 * e ≤ b := (Nat.le_div_iff_mul_le h0).1 h
      rw [unitGo_step h0 h]
      have := ih b (2 * e) (by omega) (by omega)
      exact ⟨this.1, fun _ => this.2 (by omega)⟩
    · rw [unitGo_stop h]
      exact ⟨h0, fun h => h⟩
def unit (b : Nat) : Nat := unitGo b 1
theorem unit_pos (b : Nat) : 0 < unit b := (unitGo_pos _ b 1 (Nat.le_refl _) (by omega)).1
theorem unit_le {b : Nat} (h : 1 ≤ b) : unit b ≤ b := (unitGo_pos _ b 1 (Nat.le_refl _) (by omega)).2 h

/-- The bucket behind one. -/
def next (v b : Nat) : Nat := if v = 1 then 2 * b else b + unit b
theorem next_gt {v b : Nat} (h : 1 ≤ b) : b < next v b := by
  unfold next
  have := unit_pos b
  split <;> omega
theorem next_le {v b : Nat} (h : 1 ≤ b) : next v b ≤ 2 * b := by
  unfold next
  have := unit_le h
  split <;> omega
/-- The least bucket, from b on, with room for m. -/
def bkGo (v b m : Nat) : Nat := if h : 1 ≤ b ∧ b < m then bkGo v (next v b) m else b
  termination_by m - b
  decreasing_by
  have := next_gt (v := v) h.1
  omega
theorem bkGo_stop {v b m : Nat} (h : ¬ b < m) : bkGo v b m = b := by rw [bkGo, dif_neg (fun k => h k.2)]
theorem bkGo_step {v b m : Nat} (h0 : 1 ≤ b) (h : b < m) : bkGo v b m = bkGo v (next v b) m := by rw [bkGo, dif_pos ⟨h0, h⟩]
def bucket (v n : Nat) : Nat := bkGo v 64 (n + 4)
theorem bkGo_lt : ∀ (k v b m : Nat), m - b ≤ k → 1 ≤ b → (b < 2 * m → bkGo v b m < 2 * m) ∧ b ≤ bkGo v b m ∧ m ≤ bkGo v b m := by
  intro k
  induction k with
  | zero =>
    intro v b m hk h0
    rw [bkGo_stop (by omega)]
    exact ⟨fun h => h, by omega, by omega⟩
  | succ k ih =>
    intro v b m hk h0
    by_cases h : b < m
    · rw [bkGo_step h0 h]
      have h1 := next_gt (v := v) h0
      have h2 := next_le (v := v) h0
      have := ih v (next v b) m (by omega) (by omega)
      exact ⟨fun _ => this.1 (by omega), by omega, this.2.2⟩
    · rw [bkGo_stop h]
      exact ⟨fun h => h, by omega, by omega⟩
theorem bucket_ge (v n : Nat) : n + 4 ≤ bucket v n ∧ 64 ≤ bucket v n := by
  have := bkGo_lt _ v 64 (n + 4) (Nat.le_refl _) (by omega)
  exact ⟨this.2.2, this.2.1⟩
theorem bucket_lt (v n : Nat) : bucket v n ≤ 2 * n + 72 := by
  by_cases h : 64 < 2 * (n + 4)
  · have := (bkGo_lt _ v 64 (n + 4) (Nat.le_refl _) (by omega)).1 h
    unfold bucket; omega
  · have : bucket v n = 64 := bkGo_stop (by omega)
    omega
end Go.Proofs.YtehfoddnlecmjaaGreatDoor
