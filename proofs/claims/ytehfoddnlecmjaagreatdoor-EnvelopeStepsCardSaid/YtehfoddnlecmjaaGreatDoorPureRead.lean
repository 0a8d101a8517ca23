/- A message read by its schema, in plain lists. -/
import Derived.Test.YtehfoddnlecmjaaGreatDoorSch8
set_option linter.unusedVariables false
set_option linter.unusedSimpArgs false
namespace Go.Proofs.YtehfoddnlecmjaaGreatDoor

theorem headR_le {l : Bytes} {p count last : Nat} (hp : p ≤ l.length) : (headR l p count last).2.2.1 ≤ l.length := by
  have h := num_ok hp
  unfold headR
  (repeat' split) <;> simp only <;> first | exact hp | exact h.2.1
theorem walkGo_le {l : Bytes} : ∀ (n p count last : Nat), l.length - p ≤ n → p ≤ l.length → (walkGo l p count last).2.1 ≤ l.length ∧ ∀ x ∈ (walkGo l p count last).1, x.1 ≤ l.length
  | n, p, count, last, hn, hp => by
    by_cases h : p < l.length
    · by_cases h1 : (headR l p count last).2.2.2 = 0
      · have k1 := headR_ok hp h1
        by_cases h2 : (valueR l (headR l p count last).2.1 (headR l p count last).2.2.1).2.2.2 = 0
        · have k2 := valueR_ok k1.2.1 h2
          rw [wg_step h h1 h2]
          match n with
          | 0 => omega
          | n + 1 =>
            have ih := walkGo_le n (valueR l (headR l p count last).2.1 (headR l p count last).2.2.1).2.2.1 (count + 1) (headR l p count last).1 (by omega) k2.2.1
            refine ⟨ih.1, fun x hx => ?_⟩
            rcases List.mem_cons.1 hx with rfl | hx
            · exact hp
            · exact ih.2 x hx
        · rw [wg_val h h1 h2]
          exact ⟨headR_le hp, by simp⟩
      · rw [wg_head h h1]
        exact ⟨headR_le hp, by simp⟩
    · rw [wg_end h]
      exact ⟨Nat.zero_le _, by simp⟩
theorem walkGo_len {l : Bytes} : ∀ (n p count last : Nat), l.length - p ≤ n → p ≤ l.length → count ≤ 64 → (walkGo l p count last).1.length + count ≤ 64
  | n, p, count, last, hn, hp, hc => by
    by_cases h : p < l.length
    · by_cases h1 : (headR l p count last).2.2.2 = 0
      · have k1 := headR_ok hp h1
        by_cases h2 : (valueR l (headR l p count last).2.1 (headR l p count last).2.2.1).2.2.2 = 0
        · have k2 := valueR_ok k1.2.1 h2
          rw [wg_step h h1 h2]
          match n with
          | 0 => omega
          | n + 1 =>
            have ih := walkGo_len n (valueR l (headR l p count last).2.1 (headR l p count last).2.2.1).2.2.1 (count + 1) (headR l p count last).1 (by omega) k2.2.1 (by omega)
            simp only [List.length_cons]
            omega
        · rw [wg_val h h1 h2]
          simpa using hc
      · rw [wg_head h h1]
        simpa using hc
    · rw [wg_end h]
      simpa using hc
theorem walkR_len (l : Bytes) : (walkR l).1.length ≤ 64 := by
  unfold walkR
  split
  · simp
  · have := walkGo_len (l := l) l.length 0 0 0 (by omega) (Nat.zero_le _) (by omega)
    omega
theorem walkR_short {l : Bytes} (h : (walkR l).2.2 = 0) : l.length ≤ 4194304 := by
  rcases Nat.lt_or_ge 4194304 l.length with h1 | h1
  · rw [walkR, if_pos h1] at h; cases h
  · exact h1
theorem walkR_at (l : Bytes) : (walkR l).2.1 ≤ 4194304 ∧ ∀ x ∈ (walkR l).1, x.1 ≤ 4194304 := by
  unfold walkR
  split
  · exact ⟨Nat.zero_le _, by simp⟩
  · have := walkGo_le (l := l) l.length 0 0 0 (by omega) (Nat.zero_le _)
    exact ⟨by omega, fun x hx => by have := this.2 x hx; omega⟩
/-- What the fields say: the error, its place, the parts. -/
def readGo (en : Nat) : List Sl → List (Nat × Fld) → Nat × Nat × List PV
  | [], [] => (0, 0, [])
  | [], (p, _) :: _ => (81, p, [])
  | _ :: _, [] => (81, en, [])
  | s :: ss, (p, f) :: fs =>
    if f.no ≠ s.no then (81, p, []) else
    if f.ty ≠ wireK s.kind then (82, p, []) else
    if badS s f.num f.data.length ≠ 0 then (badS s f.num f.data.length, p, []) else
    if (readGo en ss fs).1 ≠ 0 then ((readGo en ss fs).1, (readGo en ss fs).2.1, []) else (0, 0, ⟨f.num, f.data⟩ :: (readGo en ss fs).2.2)
def readR (ss : List Sl) (l : Bytes) : Nat × Nat × List PV :=
  if (walkR l).2.2 ≠ 0 then ((walkR l).2.2, (walkR l).2.1, []) else readGo l.length ss (walkR l).1
/-- Read so far: the parts that have come, what is left. -/
def ReadMid (en : Nat) (ss : List Sl) (fs : List (Nat × Fld)) (j : Nat) (ps : List PV) : Prop :=
  j ≤ ss.length ∧ j ≤ fs.length ∧ ps.length = j ∧ readGo en ss fs = (if (readGo en (ss.drop j) (fs.drop j)).1 ≠ 0 then ((readGo en (ss.drop j) (fs.drop j)).1, (readGo en (ss.drop j) (fs.drop j)).2.1, []) else (0, 0, ps ++ (readGo en (ss.drop j) (fs.drop j)).2.2))
theorem readGo_bad {en : Nat} : ∀ {ss : List Sl} {fs : List (Nat × Fld)}, (readGo en ss fs).1 ≠ 0 → (readGo en ss fs).2.2 = []
  | [], [], h => by simp [readGo] at h
  | [], (p, _) :: _, _ => rfl
  | _ :: _, [], _ => rfl
  | s :: ss, (p, f) :: fs, h => by
    unfold readGo at *
    (repeat' split) <;> simp_all
theorem readGo_good {en : Nat} : ∀ {ss : List Sl} {fs : List (Nat × Fld)}, (readGo en ss fs).1 = 0 → (readGo en ss fs).2.1 = 0
  | [], [], h => rfl
  | [], (p, _) :: _, h => by simp [readGo] at h
  | _ :: _, [], h => by simp [readGo] at h
  | s :: ss, (p, f) :: fs, h => by
    unfold readGo at *
    (repeat' split) <;> simp_all
theorem ReadMid.nil (en : Nat) (ss : List Sl) (fs : List (Nat × Fld)) : ReadMid en ss fs 0 [] := by
  refine ⟨Nat.zero_le _, Nat.zero_le _, rfl, ?_⟩
  simp only [List.drop_zero, List.nil_append]
  split
  · rename_i h
    have := readGo_bad h
    exact Prod.ext rfl (Prod.ext rfl this)
  · rename_i h
    have h0 : (readGo en ss fs).1 = 0 := by omega
    have := readGo_good h0
    exact Prod.ext h0 (Prod.ext this rfl)
section
variable {en : Nat} {ss : List Sl} {fs : List (Nat × Fld)} {j : Nat} {ps : List PV}
theorem ReadMid.short (m : ReadMid en ss fs j ps) (h : j < ss.length) (h2 : fs.length = j) : readGo en ss fs = (81, en, []) := by
  obtain ⟨_, _, _, h3⟩ := m
  rw [h3, List.drop_eq_getElem_cons h, show fs.drop j = [] from List.drop_of_length_le (by omega)]
  rfl
theorem ReadMid.no (m : ReadMid en ss fs j ps) (h : j < ss.length) (h2 : j < fs.length) (h4 : fs[j].2.no ≠ ss[j].no) : readGo en ss fs = (81, fs[j].1, []) := by
  obtain ⟨_, _, _, h3⟩ := m
  rw [h3, List.drop_eq_getElem_cons h, List.drop_eq_getElem_cons h2]
  have e : readGo en (ss[j] :: ss.drop (j + 1)) (fs[j] :: fs.drop (j + 1)) = (81, fs[j].1, []) := by
    show readGo en (ss[j] :: ss.drop (j + 1)) ((fs[j].1, fs[j].2) :: fs.drop (j + 1)) = _
    rw [readGo, if_pos h4]
  rw [e]
  rfl
theorem ReadMid.ty (m : ReadMid en ss fs j ps) (h : j < ss.length) (h2 : j < fs.length) (h4 : fs[j].2.no = ss[j].no) (h5 : fs[j].2.ty ≠ wireK ss[j].kind) : readGo en ss fs = (82, fs[j].1, []) := by
  obtain ⟨_, _, _, h3⟩ := m
  rw [h3, List.drop_eq_getElem_cons h, List.drop_eq_getElem_cons h2]
  have e : readGo en (ss[j] :: ss.drop (j + 1)) (fs[j] :: fs.drop (j + 1)) = (82, fs[j].1, []) := by
    show readGo en (ss[j] :: ss.drop (j + 1)) ((fs[j].1, fs[j].2) :: fs.drop (j + 1)) = _
    rw [readGo, if_neg (by simpa using h4), if_pos h5]
  rw [e]
  rfl
theorem ReadMid.bad (m : ReadMid en ss fs j ps) (h : j < ss.length) (h2 : j < fs.length) (h4 : fs[j].2.no = ss[j].no) (h5 : fs[j].2.ty = wireK ss[j].kind) (h6 : badS ss[j] fs[j].2.num fs[j].2.data.length ≠ 0) :
    readGo en ss fs = (badS ss[j] fs[j].2.num fs[j].2.data.length, fs[j].1, []) := by
  obtain ⟨_, _, _, h3⟩ := m
  rw [h3, List.drop_eq_getElem_cons h, List.drop_eq_getElem_cons h2]
  have e : readGo en (ss[j] :: ss.drop (j + 1)) (fs[j] :: fs.drop (j + 1)) = (badS ss[j] fs[j].2.num fs[j].2.data.length, fs[j].1, []) := by
    show readGo en (ss[j] :: ss.drop (j + 1)) ((fs[j].1, fs[j].2) :: fs.drop (j + 1)) = _
    rw [readGo, if_neg (by simpa using h4), if_neg (by simpa using h5), if_pos h6]
  rw [e]
  simp only
  rw [if_pos h6]
theorem ReadMid.step (m : ReadMid en ss fs j ps) (h : j < ss.length) (h2 : j < fs.length) (h4 : fs[j].2.no = ss[j].no) (h5 : fs[j].2.ty = wireK ss[j].kind) (h6 : badS ss[j] fs[j].2.num fs[j].2.data.length = 0) :
    ReadMid en ss fs (j + 1) (ps ++ [⟨fs[j].2.num, fs[j].2.data⟩]) := by
  obtain ⟨_, _, hl, h3⟩ := m
  refine ⟨h, h2, by simp [hl], ?_⟩
  rw [h3, List.drop_eq_getElem_cons h, List.drop_eq_getElem_cons h2]
  have e : readGo en (ss[j] :: ss.drop (j + 1)) (fs[j] :: fs.drop (j + 1)) = if (readGo en (ss.drop (j + 1)) (fs.drop (j + 1))).1 ≠ 0 then ((readGo en (ss.drop (j + 1)) (fs.drop (j + 1))).1, (readGo en (ss.drop (j + 1)) (fs.drop (j + 1))).2.1, []) else (0, 0, ⟨fs[j].2.num, fs[j].2.data⟩ :: (readGo en (ss.drop (j + 1)) (fs.drop (j + 1))).2.2) := by
    show readGo en (ss[j] :: ss.drop (j + 1)) ((fs[j].1, fs[j].2) :: fs.drop (j + 1)) = _
    rw [readGo, if_neg (by simpa using h4), if_neg (by simpa using h5), if_neg (by simpa using h6)]
  rw [e]
  by_cases hz : (readGo en (ss.drop (j + 1)) (fs.drop (j + 1))).1 = 0
  · simp [hz]
  · simp [hz]
theorem ReadMid.more (m : ReadMid en ss fs j ps) (h : j = ss.length) (h2 : j < fs.length) : readGo en ss fs = (81, fs[j].1, []) := by
  obtain ⟨_, _, _, h3⟩ := m
  rw [h3, show ss.drop j = [] from List.drop_of_length_le (by omega), List.drop_eq_getElem_cons h2]
  rfl
theorem ReadMid.done (m : ReadMid en ss fs j ps) (h : j = ss.length) (h2 : fs.length = j) : readGo en ss fs = (0, 0, ps) := by
  obtain ⟨_, _, _, h3⟩ := m
  rw [h3, show ss.drop j = [] from List.drop_of_length_le (by omega), show fs.drop j = [] from List.drop_of_length_le (by omega)]
  simp [readGo]
end
end Go.Proofs.YtehfoddnlecmjaaGreatDoor
