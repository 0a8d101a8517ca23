/- Messages read, in plain lists. -/
import Derived.Test.YtehfoddnlecmjaaGreatDoorPureFld
set_option linter.unusedVariables false
set_option linter.unusedSimpArgs false
namespace Go.Proofs.YtehfoddnlecmjaaGreatDoor

/-- A field's number and type at a place: number, type, where they end, the error. -/
def headR (l : Bytes) (p count last : Nat) : Nat × Nat × Nat × Nat :=
  if (num l p).2.2 ≠ 0 then (0, 0, p, (num l p).2.2) else
  if count = 64 then (0, 0, p, 2) else
  if (num l p).1 / 8 < 1 ∨ 536870911 < (num l p).1 / 8 ∨ (num l p).1 / 8 ≤ last then (0, 0, p, 71) else
  if wrong ⟨(num l p).1 / 8, (num l p).1 % 8, 0, []⟩ last ≠ 0 then (0, 0, p, wrong ⟨(num l p).1 / 8, (num l p).1 % 8, 0, []⟩ last) else
  ((num l p).1 / 8, (num l p).1 % 8, (num l p).2.1, 0)
/-- A number of some bytes, the lowest first. -/
def little : Bytes → Nat
  | [] => 0
  | b :: r => b.toNat + 256 * little r
theorem little_lt : ∀ l : Bytes, little l < 256 ^ l.length
  | [] => by simp [little]
  | b :: r => by
    have h1 := b.toNat_lt
    have h2 := little_lt r
    rw [little, List.length_cons, Nat.pow_succ]
    omega
theorem little_snoc (l : Bytes) (b : UInt8) : little (l ++ [b]) = little l + b.toNat * 256 ^ l.length := by
  induction l with
  | nil => simp [little]
  | cons a r ih =>
    simp only [List.cons_append, little, ih, List.length_cons, Nat.pow_succ]
    have e : 256 * (b.toNat * 256 ^ r.length) = b.toNat * (256 ^ r.length * 256) := by rw [Nat.mul_comm 256, Nat.mul_assoc]
    rw [Nat.mul_add, e]
    omega
/-- How many bytes a fixed value has. -/
def wideOf (ty : Nat) : Nat := if ty = 5 then 4 else 8
/-- A field's value at a place: number, data, where it ends, the error. -/
def valueR (l : Bytes) (ty q : Nat) : Nat × Bytes × Nat × Nat :=
  if ty = 0 then ((num l q).1, [], (num l q).2.1, (num l q).2.2) else
  if ty = 2 then
    if (num l q).2.2 ≠ 0 then (0, [], 0, (num l q).2.2) else
    if l.length - (num l q).2.1 < (num l q).1 then (0, [], 0, 73) else
    (0, (l.drop (num l q).2.1).take (num l q).1, (num l q).2.1 + (num l q).1, 0)
  else if l.length - q < wideOf ty then (0, [], 0, 73) else (little ((l.drop q).take (wideOf ty)), [], q + wideOf ty, 0)
theorem headR_ok {l : Bytes} {p count last : Nat} (hp : p ≤ l.length) (h : (headR l p count last).2.2.2 = 0) :
    p < (headR l p count last).2.2.1 ∧ (headR l p count last).2.2.1 ≤ l.length ∧ (num l p).2.2 = 0 ∧ count ≠ 64 ∧ wrong ⟨(headR l p count last).1, (headR l p count last).2.1, 0, []⟩ last = 0 ∧
    (headR l p count last).1 = (num l p).1 / 8 ∧ (headR l p count last).2.1 = (num l p).1 % 8 ∧ (headR l p count last).2.2.1 = (num l p).2.1 := by
  unfold headR at *
  have hn := num_ok hp
  split at h
  · rename_i h1; exact absurd h h1
  · split at h
    · cases h
    · split at h
      · cases h
      · split at h
        · rename_i h1; exact absurd h h1
        · rename_i h1 h2 h3 h4
          simp only [Decidable.not_not] at h1 h4
          rw [if_neg (by simpa using h1), if_neg h2, if_neg h3, if_neg (by simpa using h4)]
          exact ⟨hn.2.2.1 h1, hn.2.1, h1, h2, h4, rfl, rfl, rfl⟩
theorem valueR_ok {l : Bytes} {ty q : Nat} (hq : q ≤ l.length) (h : (valueR l ty q).2.2.2 = 0) : q < (valueR l ty q).2.2.1 ∧ (valueR l ty q).2.2.1 ≤ l.length ∧ (valueR l ty q).1 < 2 ^ 64 ∧ (ty ≠ 2 → (valueR l ty q).2.1 = []) ∧ (ty = 2 → (valueR l ty q).1 = 0) ∧ (ty = 5 → (valueR l ty q).1 < 2 ^ 32) := by
  unfold valueR at *
  have hn := num_ok hq
  split at h
  · rename_i h1
    rw [if_pos h1]
    exact ⟨hn.2.2.1 h, hn.2.1, hn.1, fun _ => rfl, fun h2 => by omega, fun h2 => by omega⟩
  · rename_i h1
    rw [if_neg h1]
    split at h
    · rename_i h2
      rw [if_pos h2]
      split at h
      · rename_i h3; exact absurd h h3
      · rename_i h3
        rw [if_neg h3]
        split at h
        · cases h
        · rename_i h4
          rw [if_neg h4]
          simp only [Decidable.not_not] at h3
          have := hn.2.2.1 h3
          exact ⟨by simp only; omega, by simp only; omega, by simp, fun h => absurd h2 h, fun _ => rfl, fun h => by omega⟩
    · rename_i h2
      rw [if_neg h2]
      split at h
      · cases h
      · rename_i h3
        rw [if_neg h3]
        have hw : wideOf ty = 4 ∨ wideOf ty = 8 := by unfold wideOf; split <;> simp
        have hl : ((l.drop q).take (wideOf ty)).length = wideOf ty := by simp; omega
        have h5 := little_lt ((l.drop q).take (wideOf ty))
        rw [hl] at h5
        refine ⟨by simp only; omega, by simp only; omega, ?_, fun _ => rfl, fun h => absurd h h2, fun h => ?_⟩
        · simp only
          rcases hw with h | h <;> rw [h] at h5 ⊢ <;> omega
        · have : wideOf ty = 4 := by simp [wideOf, h]
          simp only
          rw [this] at h5 ⊢
          omega
/-- The fields of a message with their places, up to the first fault; its place, the error. -/
def walkGo (l : Bytes) (p count last : Nat) : List (Nat × Fld) × Nat × Nat :=
  if _h : p < l.length then
    if (headR l p count last).2.2.2 ≠ 0 then ([], (headR l p count last).2.2.1, (headR l p count last).2.2.2) else
    if (valueR l (headR l p count last).2.1 (headR l p count last).2.2.1).2.2.2 ≠ 0 then ([], (headR l p count last).2.2.1, (valueR l (headR l p count last).2.1 (headR l p count last).2.2.1).2.2.2) else
    if _h2 : p < (valueR l (headR l p count last).2.1 (headR l p count last).2.2.1).2.2.1 then
      ((p, ⟨(headR l p count last).1, (headR l p count last).2.1, (valueR l (headR l p count last).2.1 (headR l p count last).2.2.1).1, (valueR l (headR l p count last).2.1 (headR l p count last).2.2.1).2.1⟩) ::
        (walkGo l (valueR l (headR l p count last).2.1 (headR l p count last).2.2.1).2.2.1 (count + 1) (headR l p count last).1).1, (walkGo l (valueR l (headR l p count last).2.1 (headR l p count last).2.2.1).2.2.1 (count + 1) (headR l p count last).1).2)
    else ([], 0, 0)
  else ([], 0, 0)
  termination_by l.length - p
def walkR (l : Bytes) : List (Nat × Fld) × Nat × Nat := if 4194304 < l.length then ([], 0, 2) else walkGo l 0 0 0
theorem wg_end {l : Bytes} {p count last : Nat} (h : ¬ p < l.length) : walkGo l p count last = ([], 0, 0) := by rw [walkGo, dif_neg h]
theorem wg_head {l : Bytes} {p count last : Nat} (h : p < l.length) (h1 : (headR l p count last).2.2.2 ≠ 0) : walkGo l p count last = ([], (headR l p count last).2.2.1, (headR l p count last).2.2.2) := by rw [walkGo, dif_pos h, if_pos h1]
theorem wg_val {l : Bytes} {p count last : Nat} (h : p < l.length) (h1 : (headR l p count last).2.2.2 = 0) (h2 : (valueR l (headR l p count last).2.1 (headR l p count last).2.2.1).2.2.2 ≠ 0) :
    walkGo l p count last = ([], (headR l p count last).2.2.1, (valueR l (headR l p count last).2.1 (headR l p count last).2.2.1).2.2.2) := by
  rw [walkGo, dif_pos h, if_neg (by simpa using h1), if_pos h2]
theorem wg_step {l : Bytes} {p count last : Nat} (h : p < l.length) (h1 : (headR l p count last).2.2.2 = 0) (h2 : (valueR l (headR l p count last).2.1 (headR l p count last).2.2.1).2.2.2 = 0) :
    walkGo l p count last = ((p, ⟨(headR l p count last).1, (headR l p count last).2.1, (valueR l (headR l p count last).2.1 (headR l p count last).2.2.1).1, (valueR l (headR l p count last).2.1 (headR l p count last).2.2.1).2.1⟩) ::
        (walkGo l (valueR l (headR l p count last).2.1 (headR l p count last).2.2.1).2.2.1 (count + 1) (headR l p count last).1).1, (walkGo l (valueR l (headR l p count last).2.1 (headR l p count last).2.2.1).2.2.1 (count + 1) (headR l p count last).1).2) := by
  have k1 := headR_ok (by omega) h1
  have k2 := valueR_ok k1.2.1 h2
  rw [walkGo, dif_pos h, if_neg (by simpa using h1), if_neg (by simpa using h2), dif_pos (by omega)]
/-- What has come and what is to come. -/
def Mid (l : Bytes) (done : List (Nat × Fld)) (p last : Nat) : Prop := walkGo l 0 0 0 = (done ++ (walkGo l p done.length last).1, (walkGo l p done.length last).2)
theorem Mid.nil (l : Bytes) : Mid l [] 0 0 := by simp [Mid]
theorem Mid.step {l : Bytes} {done : List (Nat × Fld)} {p last : Nat} (m : Mid l done p last) (h : p < l.length) (h1 : (headR l p done.length last).2.2.2 = 0) (h2 : (valueR l (headR l p done.length last).2.1 (headR l p done.length last).2.2.1).2.2.2 = 0) :
    Mid l (done ++ [(p, ⟨(headR l p done.length last).1, (headR l p done.length last).2.1, (valueR l (headR l p done.length last).2.1 (headR l p done.length last).2.2.1).1, (valueR l (headR l p done.length last).2.1 (headR l p done.length last).2.2.1).2.1⟩)])
      (valueR l (headR l p done.length last).2.1 (headR l p done.length last).2.2.1).2.2.1 (headR l p done.length last).1 := by
  unfold Mid at *
  rw [m, wg_step h h1 h2]
  simp
theorem walkR_le {l : Bytes} (h : l.length ≤ 4194304) : walkR l = walkGo l 0 0 0 := by rw [walkR, if_neg (by omega)]
end Go.Proofs.YtehfoddnlecmjaaGreatDoor
