/- Padding, in plain lists. -/
import Derived.Test.YtehfoddnlecmjaaGreatDoorPureInv
import Derived.Test.YtehfoddnlecmjaaGreatDoorPureEnv
set_option linter.unusedVariables false
set_option linter.unusedSimpArgs false
namespace Go.Proofs.YtehfoddnlecmjaaGreatDoor

/-- A padded text. -/
def padB (v : Nat) (l : Bytes) : Bytes := low 4 l.length ++ (l ++ List.replicate (bucket v l.length - 4 - l.length) 0)
theorem padB_length (v : Nat) (l : Bytes) : (padB v l).length = bucket v l.length := by
  have := (bucket_ge v l.length).1
  simp [padB, low_length]
  omega
/-- The text in a padded one, if it is one. -/
def unpadR (v : Nat) (b : Bytes) : Option Bytes :=
  if b.length < 64 then none else
  if 1048576 < little (b.take 4) ∨ bucket v (little (b.take 4)) ≠ b.length then none else
  if (b.drop (4 + little (b.take 4))).all (· == 0) then some ((b.drop 4).take (little (b.take 4))) else none
theorem unpad_pad (v : Nat) (l : Bytes) (h : l.length ≤ 1048576) : unpadR v (padB v l) = some l := by
  have hl := padB_length v l
  have hg := bucket_ge v l.length
  have e0 : (padB v l).take 4 = low 4 l.length := by
    unfold padB
    rw [List.take_append_of_le_length (by simp [low_length]), List.take_of_length_le (by simp [low_length])]
  have e1 : little ((padB v l).take 4) = l.length := by
    rw [e0, little_low, Nat.mod_eq_of_lt (by omega)]
  have e2 : (padB v l).drop 4 = l ++ List.replicate (bucket v l.length - 4 - l.length) 0 := by
    unfold padB
    have := drop_pre (low 4 l.length) (l ++ List.replicate (bucket v l.length - 4 - l.length) 0)
    rwa [low_length] at this
  have e3 : (padB v l).drop (4 + l.length) = List.replicate (bucket v l.length - 4 - l.length) 0 := by
    rw [← List.drop_drop, e2, drop_pre]
  unfold unpadR
  rw [e1, if_neg (by omega), if_neg (by omega), e3, e2]
  simp
theorem all_zero : ∀ {l : Bytes}, l.all (· == 0) = true → l = List.replicate l.length 0
  | [], _ => rfl
  | x :: r, h => by
    simp only [List.all_cons, Bool.and_eq_true, beq_iff_eq] at h
    rw [h.1, List.length_cons, List.replicate_succ]
    congr 1
    exact all_zero h.2
theorem pad_unpad {v : Nat} {b p : Bytes} (h : unpadR v b = some p) : p.length ≤ 1048576 ∧ padB v p = b := by
  unfold unpadR at h
  split at h
  · cases h
  · rename_i h1
    split at h
    · cases h
    · rename_i h2
      split at h
      · rename_i h3
        injection h with h
        have hg := (bucket_ge v (little (b.take 4))).1
        have hbl : bucket v (little (b.take 4)) = b.length := by
          by_cases c : bucket v (little (b.take 4)) = b.length
          · exact c
          · exact absurd (.inr c) h2
        have hpl : p.length = little (b.take 4) := by rw [← h]; simp; omega
        refine ⟨by omega, ?_⟩
        have z := all_zero h3
        unfold padB
        rw [hpl, hbl, ← h]
        have e4 : low 4 (little (b.take 4)) = b.take 4 := by
          have := low_little (b.take 4)
          rwa [show (b.take 4).length = 4 by simp; omega] at this
        rw [e4]
        have e5 : List.replicate (b.length - 4 - little (b.take 4)) 0 = (b.drop 4).drop (little (b.take 4)) := by
          rw [List.drop_drop]
          rw [z]
          congr 1
          simp
          omega
        rw [e5, List.take_append_drop, List.take_append_drop]
      · cases h
theorem unpad_len {v : Nat} {b p : Bytes} (h : unpadR v b = some p) : p.length ≤ b.length := by
  unfold unpadR at h
  split at h
  · cases h
  · split at h
    · cases h
    · split at h
      · injection h with h
        rw [← h]; simp; omega
      · cases h
end Go.Proofs.YtehfoddnlecmjaaGreatDoor
