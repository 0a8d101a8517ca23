/- Laws on buckets, in plain numbers. -/
import Derived.Test.YtehfoddnlecmjaaGreatDoorPureEnv
set_option linter.unusedVariables false
set_option linter.unusedSimpArgs false
namespace Go.Proofs.YtehfoddnlecmjaaGreatDoor

theorem unitGo_of : ∀ (k c j i : Nat), 8 ≤ c → c ≤ 15 → i + k = j → unitGo (c * 2 ^ j) (2 ^ i) = 2 ^ j := by
  intro k
  induction k with
  | zero =>
    intro c j i h1 h2 h
    obtain rfl : i = j := by omega
    refine unitGo_stop ?_
    rw [Nat.mul_div_cancel _ (Nat.two_pow_pos _)]
    omega
  | succ k ih =>
    intro c j i h1 h2 h
    have hp : 0 < 2 ^ i := Nat.two_pow_pos _
    have e : 2 ^ j = 2 ^ (k + 1) * 2 ^ i := by rw [← Nat.pow_add]; congr 1; omega
    have hk : 1 ≤ 2 ^ k := Nat.one_le_two_pow
    have h16 : 16 ≤ c * 2 ^ j / 2 ^ i := by
      rw [e, ← Nat.mul_assoc, Nat.mul_div_cancel _ hp, Nat.pow_succ]
      have : 8 * (1 * 2) ≤ c * (2 ^ k * 2) := Nat.mul_le_mul h1 (Nat.mul_le_mul_right 2 hk)
      omega
    rw [unitGo_step hp h16, show 2 * 2 ^ i = 2 ^ (i + 1) by rw [Nat.pow_succ, Nat.mul_comm]]
    exact ih c j (i + 1) h1 h2 (by omega)
theorem unit_of {c j : Nat} (h1 : 8 ≤ c) (h2 : c ≤ 15) : unit (c * 2 ^ j) = 2 ^ j := unitGo_of j c j 0 h1 h2 (by omega)
/-- Numbers of version 2's kind. -/
def Kind2 (b : Nat) : Prop := ∃ c j, 8 ≤ c ∧ c ≤ 15 ∧ 3 ≤ j ∧ b = c * 2 ^ j
/-- Numbers of version 1's kind. -/
def Kind1 (b : Nat) : Prop := ∃ j, 6 ≤ j ∧ b = 2 ^ j
theorem kind1_64 : Kind1 64 := ⟨6, by decide, rfl⟩
theorem kind2_64 : Kind2 64 := ⟨8, 3, by decide, by decide, by decide, rfl⟩
theorem kind1_next {b : Nat} (h : Kind1 b) : Kind1 (next 1 b) := by
  obtain ⟨j, h1, rfl⟩ := h
  exact ⟨j + 1, by omega, by rw [next, if_pos rfl, Nat.pow_succ, Nat.mul_comm]⟩
theorem kind2_next {b : Nat} (h : Kind2 b) : Kind2 (next 2 b) := by
  obtain ⟨c, j, h1, h2, h3, rfl⟩ := h
  rw [next, if_neg (by decide), unit_of h1 h2]
  by_cases h : c = 15
  · subst h
    exact ⟨8, j + 1, by decide, by decide, by omega, by rw [Nat.pow_succ]; omega⟩
  · exact ⟨c + 1, j, by omega, by omega, h3, by rw [Nat.add_mul, Nat.one_mul]⟩
/-- Where the way to a bucket ends: at its start, or behind one that has no room. -/
theorem bkGo_last (v : Nat) (Q : Nat → Prop) (hQ : ∀ b, 1 ≤ b → Q b → Q (next v b)) (m : Nat) : ∀ (k b : Nat), m - b ≤ k → 1 ≤ b → Q b →
    Q (bkGo v b m) ∧ (bkGo v b m = b ∨ ∃ b0, b ≤ b0 ∧ b0 < m ∧ Q b0 ∧ bkGo v b m = next v b0) := by
  intro k
  induction k with
  | zero =>
    intro b hk h1 h
    rw [bkGo_stop (by omega)]
    exact ⟨h, .inl rfl⟩
  | succ k ih =>
    intro b hk h1 h
    by_cases c : b < m
    · rw [bkGo_step h1 c]
      have hg := next_gt (v := v) h1
      obtain ⟨i1, i2⟩ := ih (next v b) (by omega) (by omega) (hQ b h1 h)
      refine ⟨i1, .inr ?_⟩
      rcases i2 with i2 | ⟨b0, j1, j2, j3, j4⟩
      · exact ⟨b, Nat.le_refl _, c, h, i2⟩
      · exact ⟨b0, by omega, j2, j3, j4⟩
    · rw [bkGo_stop c]
      exact ⟨h, .inl rfl⟩
theorem bkGo_mono (v : Nat) {m m' : Nat} (hm : m ≤ m') : ∀ (k b : Nat), m - b ≤ k → 1 ≤ b → bkGo v b m ≤ bkGo v b m' := by
  intro k
  induction k with
  | zero =>
    intro b hk h1
    rw [bkGo_stop (by omega : ¬ b < m)]
    exact (bkGo_lt _ v b m' (Nat.le_refl _) h1).2.1
  | succ k ih =>
    intro b hk h1
    by_cases c : b < m
    · rw [bkGo_step h1 c, bkGo_step h1 (by omega : b < m')]
      have hg := next_gt (v := v) h1
      exact ih _ (by omega) (by omega)
    · rw [bkGo_stop c]
      exact (bkGo_lt _ v b m' (Nat.le_refl _) h1).2.1
theorem bucket_mono (v : Nat) {n m : Nat} (h : n ≤ m) : bucket v n ≤ bucket v m := bkGo_mono v (by omega) _ 64 (Nat.le_refl _) (by decide)
theorem bucket_kind1 (n : Nat) : Kind1 (bucket 1 n) ∧ (bucket 1 n = 64 ∨ ∃ b0, 64 ≤ b0 ∧ b0 < n + 4 ∧ Kind1 b0 ∧ bucket 1 n = next 1 b0) :=
  bkGo_last 1 Kind1 (fun _ _ h => kind1_next h) (n + 4) _ 64 (Nat.le_refl _) (by decide) kind1_64
theorem bucket_kind2 (n : Nat) : Kind2 (bucket 2 n) ∧ (bucket 2 n = 64 ∨ ∃ b0, 64 ≤ b0 ∧ b0 < n + 4 ∧ Kind2 b0 ∧ bucket 2 n = next 2 b0) :=
  bkGo_last 2 Kind2 (fun _ _ h => kind2_next h) (n + 4) _ 64 (Nat.le_refl _) (by decide) kind2_64
/-- A number of version 2's kind below a power of two: the next one is not above it. -/
theorem next2_le_pow {b j : Nat} (h : Kind2 b) (hlt : b < 2 ^ j) : next 2 b ≤ 2 ^ j := by
  obtain ⟨c, i, h1, h2, h3, rfl⟩ := h
  rw [next, if_neg (by decide), unit_of h1 h2]
  have hp : 0 < 2 ^ i := Nat.two_pow_pos _
  have hij : i < j := by
    rcases Nat.lt_or_ge i j with h | h
    · exact h
    · have h4 : 2 ^ j ≤ 2 ^ i := Nat.pow_le_pow_right (by decide) h
      have h5 : 1 * 2 ^ i ≤ c * 2 ^ i := Nat.mul_le_mul_right _ (by omega)
      omega
  have e : 2 ^ j = 2 ^ (j - i) * 2 ^ i := by rw [← Nat.pow_add]; congr 1; omega
  rw [e] at hlt ⊢
  have : c < 2 ^ (j - i) := Nat.lt_of_mul_lt_mul_right hlt
  have h6 : (c + 1) * 2 ^ i ≤ 2 ^ (j - i) * 2 ^ i := Nat.mul_le_mul_right _ this
  rwa [Nat.add_mul, Nat.one_mul] at h6
theorem bkGo2_le_pow (j m : Nat) (hm : m ≤ 2 ^ j) : ∀ (k b : Nat), m - b ≤ k → 1 ≤ b → Kind2 b → b ≤ 2 ^ j → bkGo 2 b m ≤ 2 ^ j := by
  intro k
  induction k with
  | zero =>
    intro b hk h1 h hb
    rw [bkGo_stop (by omega)]
    exact hb
  | succ k ih =>
    intro b hk h1 h hb
    by_cases c : b < m
    · rw [bkGo_step h1 c]
      have hg := next_gt (v := 2) h1
      exact ih _ (by omega) (by omega) (kind2_next h) (next2_le_pow h (by omega))
    · rw [bkGo_stop c]
      exact hb
theorem bucket2_le1 (n : Nat) : bucket 2 n ≤ bucket 1 n := by
  obtain ⟨⟨j, hj, e⟩, _⟩ := bucket_kind1 n
  have hm := (bucket_ge 1 n).1
  rw [e] at hm ⊢
  refine bkGo2_le_pow j (n + 4) hm _ 64 (Nat.le_refl _) (by decide) kind2_64 ?_
  have : 2 ^ 6 ≤ 2 ^ j := Nat.pow_le_pow_right (by decide) hj
  omega
theorem next2_le {b : Nat} (h : Kind2 b) : 8 * next 2 b ≤ 9 * b := by
  obtain ⟨c, i, h1, h2, h3, rfl⟩ := h
  rw [next, if_neg (by decide), unit_of h1 h2]
  have : 8 * 2 ^ i ≤ c * 2 ^ i := Nat.mul_le_mul_right _ h1
  omega
theorem bucket1_fill {n : Nat} (h : 60 ≤ n) : bucket 1 n < 2 * (n + 4) := by
  rcases (bucket_kind1 n).2 with e | ⟨b0, h1, h2, h3, e⟩
  · omega
  · rw [e, next, if_pos rfl]; omega
theorem bucket2_fill {n : Nat} (h : 60 ≤ n) : 8 * bucket 2 n < 9 * (n + 4) := by
  rcases (bucket_kind2 n).2 with e | ⟨b0, h1, h2, h3, e⟩
  · omega
  · have := next2_le h3
    rw [e]; omega
theorem bucket_small {v n : Nat} (h : n ≤ 60) : bucket v n = 64 := bkGo_stop (by omega)
end Go.Proofs.YtehfoddnlecmjaaGreatDoor
