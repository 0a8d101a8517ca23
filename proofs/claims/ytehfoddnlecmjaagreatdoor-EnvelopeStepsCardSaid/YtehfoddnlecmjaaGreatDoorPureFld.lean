/- Fields and messages, in plain lists. -/
import Derived.Test.YtehfoddnlecmjaaGreatDoorPureWire
set_option linter.unusedVariables false
set_option linter.unusedSimpArgs false
namespace Go.Proofs.YtehfoddnlecmjaaGreatDoor

/-- A field. -/
structure Fld where
  no : Nat
  ty : Nat
  num : Nat
  data : Bytes
  deriving DecidableEq
/-- A number of so many bytes, the lowest first. -/
def low : Nat → Nat → Bytes
  | 0, _ => []
  | k + 1, n => b8 (n % 256) :: low k (n / 256)
theorem low_length : ∀ k n, (low k n).length = k
  | 0, _ => rfl
  | k + 1, n => by simp [low, low_length k]
/-- What is wrong with a field behind one of a number. -/
def wrong (f : Fld) (last : Nat) : Nat :=
  if f.no < 1 ∨ 536870911 < f.no ∨ f.no ≤ last then 71 else
  if f.ty = 2 then (if f.num ≠ 0 then 1 else 0) else
  if f.ty = 0 ∨ f.ty = 1 ∨ f.ty = 5 then (if 0 < f.data.length ∨ (f.ty = 5 ∧ 4294967296 ≤ f.num) then 1 else 0) else 72
/-- A field's bytes. -/
def fldB (f : Fld) : Bytes :=
  vint (8 * f.no + f.ty) ++ (if f.ty = 0 then vint f.num else if f.ty = 1 then low 8 f.num else if f.ty = 5 then low 4 f.num else vint f.data.length ++ f.data)
/-- A message's bytes. -/
def encB (fs : List Fld) : Bytes := fs.flatMap fldB
/-- Nothing is wrong with the fields. -/
def okFs (fs : List Fld) : Prop := ∀ i (h : i < fs.length), wrong fs[i] (if i = 0 then 0 else (fs[i - 1]?.map (·.no)).getD 0) = 0 ∧ fs[i].num < 18446744073709551616
def lastNo (fs : List Fld) (i : Nat) : Nat := if i = 0 then 0 else (fs[i - 1]?.map (·.no)).getD 0
def sumD (fs : List Fld) (i : Nat) : Nat := ((fs.take i).map (·.data.length)).sum
theorem lastNo_succ {fs : List Fld} {i : Nat} (h : i < fs.length) : lastNo fs (i + 1) = fs[i].no := by simp [lastNo, h]
theorem sumD_succ {fs : List Fld} {i : Nat} (h : i < fs.length) : sumD fs (i + 1) = sumD fs i + fs[i].data.length := by
  unfold sumD
  rw [List.take_succ_eq_append_getElem h, List.map_append, List.sum_append]
  simp
theorem wrong_0 {f : Fld} {last : Nat} (h : wrong f last = 0) : 1 ≤ f.no ∧ f.no ≤ 536870911 ∧ last < f.no ∧ (f.ty = 0 ∨ f.ty = 1 ∨ f.ty = 2 ∨ f.ty = 5) ∧ (f.ty = 2 → f.num = 0) ∧ (f.ty ≠ 2 → f.data = []) ∧ (f.ty = 5 → f.num < 4294967296) := by
  unfold wrong at h
  split at h
  · cases h
  · split at h
    · split at h
      · cases h
      · rename_i h1 h2 h3
        exact ⟨by omega, by omega, by omega, by omega, fun _ => by omega, fun h => absurd h2 h, fun h => by omega⟩
    · split at h
      · split at h
        · cases h
        · rename_i h1 h2 h3 h4
          exact ⟨by omega, by omega, by omega, by omega, fun h => absurd h h2, fun _ => List.eq_nil_of_length_eq_zero (by omega), fun h => by omega⟩
      · cases h
theorem fldB_data (f : Fld) (h : f.ty = 2 ∨ f.data = []) : f.data.length ≤ (fldB f).length := by
  rcases h with h | h
  · simp [fldB, h]
    omega
  · rw [h]; exact Nat.zero_le _
theorem encB_append (a b : List Fld) : encB (a ++ b) = encB a ++ encB b := by simp [encB]
theorem encB_take_le (fs : List Fld) (i : Nat) : (encB (fs.take i)).length ≤ (encB fs).length := by
  conv => rhs; rw [← List.take_append_drop i fs]
  rw [encB_append, List.length_append]
  omega
theorem sumD_le {fs : List Fld} (h : ∀ f ∈ fs, f.ty = 2 ∨ f.data = []) (i : Nat) : sumD fs i ≤ (encB (fs.take i)).length := by
  unfold sumD
  have : ∀ l : List Fld, (∀ f ∈ l, f.ty = 2 ∨ f.data = []) → (l.map (·.data.length)).sum ≤ (encB l).length := by
    intro l
    induction l with
    | nil => intro _; simp [encB]
    | cons f r ih =>
      intro hl
      have h1 := fldB_data f (hl f (.head _))
      have h2 := ih (fun g hg => hl g (.tail _ hg))
      simp only [encB, List.flatMap_cons, List.length_append, List.map_cons, List.sum_cons] at *
      omega
  exact this _ (fun f hf => h f (List.mem_of_mem_take hf))
end Go.Proofs.YtehfoddnlecmjaaGreatDoor
