/- What was written is read again, and what was read is written so: numbers, fields, messages. In plain lists. -/
import Derived.Test.YtehfoddnlecmjaaGreatDoorPureWalk
set_option linter.unusedVariables false
set_option linter.unusedSimpArgs false
namespace Go.Proofs.YtehfoddnlecmjaaGreatDoor

theorem b8_of (x : UInt8) : b8 x.toNat = x := by simp [b8]
theorem getD_mid (pre post : Bytes) (x : UInt8) : (pre ++ x :: post).getD pre.length 0 = x := by simp [List.getD_eq_getElem?_getD]
/-! Numbers. -/
theorem numGo_vint : ∀ (N n i acc k at_ : Nat) (pre post : Bytes), n ≤ N → at_ + i = pre.length → k + i = 10 → 1 ≤ k → n * 128 ^ i < 18446744073709551616 → (0 < i → n ≠ 0) →
    numGo (pre ++ (vint n ++ post)) at_ k i acc = (acc + n * 128 ^ i, pre.length + vsize n, 0) := by
  intro N
  induction N using Nat.strongRecOn with
  | ind N ih =>
    intro n i acc k at_ pre post hN hat hk h1 hlt hnz
    obtain ⟨k, rfl⟩ : ∃ j, k = j + 1 := ⟨k - 1, by omega⟩
    have h9 : i = 9 → n ≤ 1 := by
      rintro rfl
      have : (128 : Nat) ^ 9 = 9223372036854775808 := by decide
      rw [this] at hlt
      omega
    have hi9 : ¬ n < 128 → i ≠ 9 := fun h e => by have := h9 e; omega
    by_cases h : n < 128
    · rw [vint_lt h, numGo]
      simp only [List.singleton_append, hat, getD_mid]
      rw [b8_toNat (by omega), if_neg (by simp), if_neg (by omega), if_neg (by omega), if_pos h, Nat.mod_eq_of_lt h, vsize_lt h]
    · have hi := hi9 h
      have hv : vsize n = vsize (n / 128) + 1 := vsize_ge (by omega)
      rw [vint_ge (by omega), numGo]
      simp only [List.cons_append, hat, getD_mid]
      rw [b8_toNat (by omega), if_neg (by simp), if_neg (by omega), if_neg (by omega), if_neg (by omega)]
      have e : pre ++ b8 (n % 128 + 128) :: (vint (n / 128) ++ post) = (pre ++ [b8 (n % 128 + 128)]) ++ (vint (n / 128) ++ post) := by simp
      have hp : n / 128 * 128 ^ (i + 1) + n % 128 * 128 ^ i = n * 128 ^ i := by
        rw [Nat.pow_succ, ← Nat.mul_assoc, Nat.mul_right_comm, ← Nat.add_mul]
        congr 1
        omega
      rw [e, ih (n / 128) (by omega) (n / 128) (i + 1) _ k at_ _ post (Nat.le_refl _) (by simp; omega) (by omega) (by omega) (by omega) (by omega), hv]
      have e2 : (n % 128 + 128) % 128 = n % 128 := by omega
      rw [e2]
      simp only [List.length_append, List.length_cons, List.length_nil]
      refine Prod.ext ?_ (Prod.ext ?_ rfl)
      · simp only; omega
      · simp only; omega
theorem num_vint (n : Nat) (pre post : Bytes) (h : n < 18446744073709551616) : num (pre ++ (vint n ++ post)) pre.length = (n, pre.length + vsize n, 0) := by
  unfold num
  rw [if_neg (by simp), numGo_vint n n 0 0 10 pre.length pre post (Nat.le_refl _) rfl rfl (by decide) (by simpa using h) (by omega)]
  simp
theorem take_cons_drop {l : Bytes} {p q : Nat} (h : p < l.length) (hq : p < q) : (l.drop p).take (q - p) = l[p] :: (l.drop (p + 1)).take (q - (p + 1)) := by
  rw [List.drop_eq_getElem_cons h, show q - p = (q - (p + 1)) + 1 by omega, List.take_succ_cons]
theorem numGo_inv (l : Bytes) (at_ : Nat) : ∀ (k i acc : Nat), k + i = 10 → at_ + i ≤ l.length → (numGo l at_ k i acc).2.2 = 0 →
    ∃ m, (numGo l at_ k i acc).1 = acc + m * 128 ^ i ∧ (0 < i → m ≠ 0) ∧ vint m = (l.drop (at_ + i)).take ((numGo l at_ k i acc).2.1 - (at_ + i)) ∧ at_ + i < (numGo l at_ k i acc).2.1 ∧ (numGo l at_ k i acc).2.1 ≤ l.length := by
  intro k
  induction k with
  | zero => intro i acc _ _ h; simp [numGo] at h
  | succ k ih =>
    intro i acc hk hp h
    rw [numGo] at h ⊢
    by_cases h0 : at_ + i = l.length
    · rw [if_pos h0] at h; cases h
    · rw [if_neg h0] at h ⊢
      have hlt : at_ + i < l.length := by omega
      have hx : l.getD (at_ + i) 0 = l[at_ + i] := by simp [List.getD_eq_getElem?_getD, hlt]
      simp only [hx] at h ⊢
      have h256 := l[at_ + i].toNat_lt
      by_cases c1 : i = 9 ∧ 1 < l[at_ + i].toNat
      · rw [if_pos c1] at h; cases h
      · rw [if_neg c1] at h ⊢
        by_cases c2 : 0 < i ∧ l[at_ + i].toNat = 0
        · rw [if_pos c2] at h; cases h
        · rw [if_neg c2] at h ⊢
          by_cases c3 : l[at_ + i].toNat < 128
          · rw [if_pos c3] at h ⊢
            refine ⟨l[at_ + i].toNat, ?_, by omega, ?_, by simp only; omega, by simp only; omega⟩
            · simp only [Nat.mod_eq_of_lt c3]
            · rw [vint_lt c3, b8_of]
              simp only
              rw [take_cons_drop hlt (by omega)]
              simp
          · rw [if_neg c3] at h ⊢
            obtain ⟨m, e1, e2, e3, e4, e5⟩ := ih (i + 1) _ (by omega) (by omega) h
            have hm := e2 (by omega)
            refine ⟨l[at_ + i].toNat % 128 + m * 128, ?_, by omega, ?_, by omega, e5⟩
            · rw [e1, Nat.pow_succ, Nat.add_mul, Nat.mul_assoc, Nat.mul_comm (128 ^ i) 128, Nat.add_assoc]
            · rw [vint_ge (by omega), show (l[at_ + i].toNat % 128 + m * 128) % 128 + 128 = l[at_ + i].toNat by omega, show (l[at_ + i].toNat % 128 + m * 128) / 128 = m by omega, b8_of, e3, take_cons_drop hlt (by omega)]
              rfl
theorem num_inv {l : Bytes} {p : Nat} (hp : p ≤ l.length) (h : (num l p).2.2 = 0) : vint (num l p).1 = (l.drop p).take ((num l p).2.1 - p) ∧ p < (num l p).2.1 ∧ (num l p).2.1 ≤ l.length := by
  unfold num at *
  rw [if_neg (by omega)] at h ⊢
  obtain ⟨m, e1, _, e3, e4, e5⟩ := numGo_inv l p 10 0 0 rfl (by omega) h
  simp only [Nat.zero_add, Nat.pow_zero, Nat.mul_one, Nat.add_zero] at e1 e3 e4
  exact ⟨by rw [e1, e3], e4, e5⟩
/-! Fixed numbers. -/
theorem little_low : ∀ (k n : Nat), little (low k n) = n % 256 ^ k
  | 0, n => by simp [low, little, Nat.mod_one]
  | k + 1, n => by
    rw [low, little, little_low k, b8_toNat (by omega), Nat.pow_succ, Nat.mul_comm (256 ^ k) 256, Nat.mod_mul]
theorem low_little : ∀ (l : Bytes), low l.length (little l) = l
  | [] => rfl
  | b :: r => by
    have h := b.toNat_lt
    rw [List.length_cons, low, little, show (b.toNat + 256 * little r) % 256 = b.toNat by omega, show (b.toNat + 256 * little r) / 256 = little r by omega, b8_of, low_little r]
/-! Fields. -/
/-- The fields go on rightly behind a number. -/
def okGo : Nat → List Fld → Prop
  | _, [] => True
  | last, f :: r => wrong f last = 0 ∧ f.num < 18446744073709551616 ∧ okGo f.no r
/-- The fields with their places. -/
def placed : Nat → List Fld → List (Nat × Fld)
  | _, [] => []
  | p, f :: r => (p, f) :: placed (p + (fldB f).length) r
theorem placed_map : ∀ (p : Nat) (fs : List Fld), (placed p fs).map (·.2) = fs
  | _, [] => rfl
  | p, f :: r => by simp [placed, placed_map _ r]
theorem wrong_bare {f : Fld} {last : Nat} (h : wrong f last = 0) : wrong ⟨f.no, f.ty, 0, []⟩ last = 0 := by
  have h0 := wrong_0 h
  unfold wrong
  simp only [List.length_nil]
  rw [if_neg (by omega)]
  rcases h0.2.2.2.1 with h1 | h1 | h1 | h1 <;> simp [h1]
theorem headR_enc {f : Fld} {last count : Nat} (pre post : Bytes) (hw : wrong f last = 0) (hc : count ≠ 64) :
    headR (pre ++ (vint (8 * f.no + f.ty) ++ post)) pre.length count last = (f.no, f.ty, pre.length + vsize (8 * f.no + f.ty), 0) := by
  have h0 := wrong_0 hw
  have hn := num_vint (8 * f.no + f.ty) pre post (by omega)
  have e1 : (8 * f.no + f.ty) / 8 = f.no := by omega
  have e2 : (8 * f.no + f.ty) % 8 = f.ty := by omega
  unfold headR
  rw [hn]
  simp only [e1, e2, wrong_bare hw]
  rw [if_neg (by simp), if_neg hc, if_neg (by omega), if_neg (by simp)]
theorem drop_pre (pre post : Bytes) : (pre ++ post).drop pre.length = post := by simp
theorem valueR_enc {f : Fld} {last : Nat} (pre post : Bytes) (hw : wrong f last = 0) (hn : f.num < 18446744073709551616) (hd : f.data.length < 18446744073709551616) :
    valueR (pre ++ ((if f.ty = 0 then vint f.num else if f.ty = 1 then low 8 f.num else if f.ty = 5 then low 4 f.num else vint f.data.length ++ f.data) ++ post)) f.ty pre.length =
      (f.num, f.data, pre.length + (if f.ty = 0 then vint f.num else if f.ty = 1 then low 8 f.num else if f.ty = 5 then low 4 f.num else vint f.data.length ++ f.data).length, 0) := by
  have h0 := wrong_0 hw
  obtain ⟨_, _, _, hty, hz, hdat, h5⟩ := h0
  unfold valueR
  by_cases t0 : f.ty = 0
  · rw [if_pos t0, if_pos t0, num_vint f.num pre post hn, hdat (by omega)]
    rfl
  · rw [if_neg t0, if_neg t0]
    by_cases t1 : f.ty = 1
    · rw [if_pos t1, if_neg (by omega)]
      have ew : wideOf f.ty = 8 := by simp [wideOf, t1]
      rw [ew, if_neg (by simp [low_length]), drop_pre, List.take_append_of_le_length (by simp [low_length]), List.take_of_length_le (by simp [low_length]), little_low, hdat (by omega), low_length, Nat.mod_eq_of_lt (by omega)]
    · rw [if_neg t1]
      by_cases t5 : f.ty = 5
      · rw [if_pos t5, if_neg (by omega)]
        have ew : wideOf f.ty = 4 := by simp [wideOf, t5]
        have := h5 t5
        rw [ew, if_neg (by simp [low_length]), drop_pre, List.take_append_of_le_length (by simp [low_length]), List.take_of_length_le (by simp [low_length]), little_low, hdat (by omega), low_length, Nat.mod_eq_of_lt (by omega)]
      · rw [if_neg t5]
        have t2 : f.ty = 2 := by omega
        rw [if_pos t2, List.append_assoc, num_vint f.data.length pre (f.data ++ post) hd]
        simp only
        rw [if_neg (by simp), if_neg (by simp [vsize]; omega), hz t2]
        have e : (pre ++ (vint f.data.length ++ (f.data ++ post))).drop (pre.length + vsize f.data.length) = f.data ++ post := by
          rw [← List.append_assoc]
          have h9 := drop_pre (pre ++ vint f.data.length) (f.data ++ post)
          rw [List.length_append] at h9
          exact h9
        rw [e]
        simp [vsize, Nat.add_assoc]
theorem fldB_ne (f : Fld) : 0 < (fldB f).length := by
  have := vsize_pos (8 * f.no + f.ty)
  simp only [fldB, List.length_append]
  unfold vsize at this
  omega
/-- One field, walked. -/
theorem walkGo_fld {f : Fld} {last count : Nat} (pre post : Bytes) (hw : wrong f last = 0) (hn : f.num < 18446744073709551616) (hd : f.data.length < 18446744073709551616) (hc : count ≠ 64) :
    walkGo (pre ++ (fldB f ++ post)) pre.length count last = ((pre.length, f) :: (walkGo ((pre ++ fldB f) ++ post) (pre ++ fldB f).length (count + 1) f.no).1, (walkGo ((pre ++ fldB f) ++ post) (pre ++ fldB f).length (count + 1) f.no).2) := by
  have h1 := headR_enc (count := count) pre ((if f.ty = 0 then vint f.num else if f.ty = 1 then low 8 f.num else if f.ty = 5 then low 4 f.num else vint f.data.length ++ f.data) ++ post) hw hc
  have h2 := valueR_enc (pre ++ vint (8 * f.no + f.ty)) post hw hn hd
  have e1 : pre ++ (fldB f ++ post) = pre ++ (vint (8 * f.no + f.ty) ++ ((if f.ty = 0 then vint f.num else if f.ty = 1 then low 8 f.num else if f.ty = 5 then low 4 f.num else vint f.data.length ++ f.data) ++ post)) := by simp [fldB]
  have e2 : (pre ++ vint (8 * f.no + f.ty)) ++ ((if f.ty = 0 then vint f.num else if f.ty = 1 then low 8 f.num else if f.ty = 5 then low 4 f.num else vint f.data.length ++ f.data) ++ post) = pre ++ (fldB f ++ post) := by simp [fldB]
  rw [e2] at h2
  rw [← e1] at h1
  have e3 : (pre ++ vint (8 * f.no + f.ty)).length = pre.length + vsize (8 * f.no + f.ty) := by simp [vsize]
  rw [e3] at h2
  have e4 : pre.length + vsize (8 * f.no + f.ty) + (if f.ty = 0 then vint f.num else if f.ty = 1 then low 8 f.num else if f.ty = 5 then low 4 f.num else vint f.data.length ++ f.data).length = (pre ++ fldB f).length := by simp [fldB, vsize]; omega
  rw [e4] at h2
  have hlt : pre.length < (pre ++ (fldB f ++ post)).length := by have := fldB_ne f; simp; omega
  have e5 : pre ++ (fldB f ++ post) = (pre ++ fldB f) ++ post := by simp
  rw [wg_step hlt (by rw [h1]) (by rw [h1]; simp only; rw [h2])]
  rw [h1]
  simp only
  rw [h2]
  simp only
  rw [e5]
theorem walkGo_enc : ∀ (fs : List Fld) (last count : Nat) (pre : Bytes), okGo last fs → (∀ f ∈ fs, f.data.length < 18446744073709551616) → count + fs.length ≤ 64 →
    walkGo (pre ++ encB fs) pre.length count last = (placed pre.length fs, 0, 0)
  | [], last, count, pre, _, _, _ => by rw [wg_end (by simp [encB])]; rfl
  | f :: r, last, count, pre, h, hd, hc => by
    have hc' : count + (r.length + 1) ≤ 64 := by simpa using hc
    have e : encB (f :: r) = fldB f ++ encB r := by simp [encB]
    rw [e, walkGo_fld pre (encB r) h.1 h.2.1 (hd f (.head _)) (by omega), walkGo_enc r f.no (count + 1) (pre ++ fldB f) h.2.2 (fun g hg => hd g (.tail _ hg)) (by omega)]
    simp [placed]
/-- What was written is read again. -/
theorem walk_enc {fs : List Fld} (h : okGo 0 fs) (hn : fs.length ≤ 64) (hl : (encB fs).length ≤ 4194304) : walkR (encB fs) = (placed 0 fs, 0, 0) := by
  have hd : ∀ (fs : List Fld) (last : Nat), okGo last fs → ∀ f ∈ fs, f.data.length ≤ (encB fs).length := by
    intro fs
    induction fs with
    | nil => simp
    | cons g r ih =>
      intro last h f hf
      have e : encB (g :: r) = fldB g ++ encB r := by simp [encB]
      rw [e, List.length_append]
      rcases List.mem_cons.1 hf with rfl | hf
      · have h0 := wrong_0 h.1
        have := fldB_data f (by
          by_cases t : f.ty = 2
          · exact .inl t
          · exact .inr (h0.2.2.2.2.2.1 t))
        omega
      · have := ih g.no h.2.2 f hf
        omega
  rw [walkR_le hl]
  exact walkGo_enc fs 0 0 [] h (fun f hf => by have := hd fs 0 h f hf; omega) (by omega)
/-! The other way about. -/
theorem take_take_drop (l : Bytes) (p q r : Nat) (h1 : p ≤ q) (h2 : q ≤ r) : (l.drop p).take (q - p) ++ (l.drop q).take (r - q) = (l.drop p).take (r - p) := by
  have e : l.drop q = (l.drop p).drop (q - p) := by rw [List.drop_drop]; congr 1; omega
  rw [e, show r - p = (q - p) + (r - q) by omega, List.take_add]
/-- A field that was read is written so. -/
theorem fld_inv {l : Bytes} {p count last : Nat} (hp : p ≤ l.length) (h1 : (headR l p count last).2.2.2 = 0) (h2 : (valueR l (headR l p count last).2.1 (headR l p count last).2.2.1).2.2.2 = 0) :
    fldB ⟨(headR l p count last).1, (headR l p count last).2.1, (valueR l (headR l p count last).2.1 (headR l p count last).2.2.1).1, (valueR l (headR l p count last).2.1 (headR l p count last).2.2.1).2.1⟩ =
      (l.drop p).take ((valueR l (headR l p count last).2.1 (headR l p count last).2.2.1).2.2.1 - p) := by
  obtain ⟨k1, k2, k3, k4, k5, k6, k7, k8⟩ := headR_ok hp h1
  obtain ⟨v1, v2, v3, v4, v5, v6⟩ := valueR_ok k2 h2
  obtain ⟨n1, n2, n3⟩ := num_inv hp k3
  have hw := wrong_0 k5
  simp only at hw
  have hno : 8 * (headR l p count last).1 + (headR l p count last).2.1 = (num l p).1 := by rw [k6, k7]; omega
  rw [← take_take_drop l p (headR l p count last).2.2.1 _ (by omega) (by omega)]
  unfold fldB
  simp only
  rw [hno, n1, ← k8]
  congr 1
  generalize (headR l p count last).2.1 = ty at *
  generalize (headR l p count last).2.2.1 = q at *
  unfold valueR at *
  by_cases t0 : ty = 0
  · rw [if_pos t0]
    rw [if_pos t0] at h2 v1 v2
    rw [if_pos t0]
    exact (num_inv k2 h2).1
  · rw [if_neg t0]
    rw [if_neg t0] at h2 v1 v2 ⊢
    by_cases t2 : ty = 2
    · rw [if_neg (by omega), if_neg (by omega)]
      rw [if_pos t2] at h2 v1 v2 ⊢
      by_cases c : (num l q).2.2 = 0
      · rw [if_neg (by simpa using c)] at h2 v1 v2 ⊢
        by_cases c2 : l.length - (num l q).2.1 < (num l q).1
        · rw [if_pos c2] at h2; cases h2
        · rw [if_neg c2] at h2 v1 v2 ⊢
          obtain ⟨m1, m2, m3⟩ := num_inv k2 c
          simp only
          rw [← take_take_drop l q (num l q).2.1 _ (by omega) (by omega)]
          have e : ((l.drop (num l q).2.1).take (num l q).1).length = (num l q).1 := by simp; omega
          rw [e, m1, show (num l q).2.1 + (num l q).1 - (num l q).2.1 = (num l q).1 by omega]
      · rw [if_pos c] at h2; exact absurd h2 c
    · rw [if_neg t2] at h2 v1 v2 ⊢
      by_cases c : l.length - q < wideOf ty
      · rw [if_pos c] at h2; cases h2
      · rw [if_neg c] at h2 v1 v2 ⊢
        have e : ((l.drop q).take (wideOf ty)).length = wideOf ty := by simp; omega
        have e2 := low_little ((l.drop q).take (wideOf ty))
        rw [e] at e2
        simp only
        rw [show q + wideOf ty - q = wideOf ty by omega]
        by_cases t1 : ty = 1
        · rw [if_pos t1]
          have : wideOf ty = 8 := by simp [wideOf, t1]
          rw [this] at e2 ⊢
          exact e2
        · rw [if_neg t1]
          have t5 : ty = 5 := by omega
          rw [if_pos t5]
          have : wideOf ty = 4 := by simp [wideOf, t5]
          rw [this] at e2 ⊢
          exact e2
theorem wrong_full {no ty num last : Nat} {data : Bytes} (h : wrong ⟨no, ty, 0, []⟩ last = 0) (h1 : ty ≠ 2 → data = []) (h2 : ty = 2 → num = 0) (h5 : ty = 5 → num < 4294967296) : wrong ⟨no, ty, num, data⟩ last = 0 := by
  have h0 := wrong_0 h
  simp only at h0
  unfold wrong
  simp only
  rw [if_neg (by omega)]
  by_cases t : ty = 2
  · rw [if_pos t, if_neg (by simp [h2 t])]
  · rw [if_neg t, if_pos (by omega), h1 t, if_neg (by
      simp only [List.length_nil]
      rintro (h | h)
      · omega
      · have := h5 h.1; omega)]
theorem walkGo_inv (l : Bytes) : ∀ (N p count last : Nat), l.length - p ≤ N → p ≤ l.length → (walkGo l p count last).2.2 = 0 →
    encB ((walkGo l p count last).1.map (·.2)) = l.drop p ∧ okGo last ((walkGo l p count last).1.map (·.2)) ∧ (walkGo l p count last).1 = placed p ((walkGo l p count last).1.map (·.2)) := by
  intro N
  induction N with
  | zero =>
    intro p count last hN hp h
    rw [wg_end (by omega)]
    refine ⟨?_, trivial, rfl⟩
    rw [List.drop_of_length_le (by omega)]
    rfl
  | succ N ih =>
    intro p count last hN hp h
    by_cases hlt : p < l.length
    · by_cases h1 : (headR l p count last).2.2.2 = 0
      · by_cases h2 : (valueR l (headR l p count last).2.1 (headR l p count last).2.2.1).2.2.2 = 0
        · have k1 := headR_ok hp h1
          have k2 := valueR_ok k1.2.1 h2
          have hf := fld_inv hp h1 h2
          rw [wg_step hlt h1 h2] at h ⊢
          obtain ⟨i1, i2, i3⟩ := ih _ (count + 1) (headR l p count last).1 (by omega) k2.2.1 h
          simp only [List.map_cons]
          refine ⟨?_, ⟨wrong_full k1.2.2.2.2.1 k2.2.2.2.1 k2.2.2.2.2.1 k2.2.2.2.2.2, k2.2.2.1, i2⟩, ?_⟩
          · rw [show ∀ (f : Fld) r, encB (f :: r) = fldB f ++ encB r from fun f r => by simp [encB], i1, hf]
            have e : l.drop (valueR l (headR l p count last).2.1 (headR l p count last).2.2.1).2.2.1 = (l.drop p).drop ((valueR l (headR l p count last).2.1 (headR l p count last).2.2.1).2.2.1 - p) := by
              rw [List.drop_drop]; congr 1; omega
            rw [e, List.take_append_drop]
          · rw [placed, hf]
            congr 1
            have e : p + ((l.drop p).take ((valueR l (headR l p count last).2.1 (headR l p count last).2.2.1).2.2.1 - p)).length = (valueR l (headR l p count last).2.1 (headR l p count last).2.2.1).2.2.1 := by
              simp; omega
            rw [e]
            exact i3
        · rw [wg_val hlt h1 h2] at h
          exact absurd h h2
      · rw [wg_head hlt h1] at h
        exact absurd h h1
    · rw [wg_end hlt]
      refine ⟨?_, trivial, rfl⟩
      rw [List.drop_of_length_le (by omega)]
      rfl
/-- What was read is written so. -/
theorem enc_walk {l : Bytes} (h : (walkR l).2.2 = 0) : encB ((walkR l).1.map (·.2)) = l ∧ okGo 0 ((walkR l).1.map (·.2)) ∧ (walkR l).1 = placed 0 ((walkR l).1.map (·.2)) ∧ l.length ≤ 4194304 := by
  by_cases hl : 4194304 < l.length
  · rw [walkR, if_pos hl] at h; cases h
  · have e := walkR_le (l := l) (by omega)
    rw [e] at h ⊢
    have := walkGo_inv l l.length 0 0 0 (by omega) (Nat.zero_le _) h
    exact ⟨by simpa using this.1, this.2.1, this.2.2, by omega⟩
end Go.Proofs.YtehfoddnlecmjaaGreatDoor
