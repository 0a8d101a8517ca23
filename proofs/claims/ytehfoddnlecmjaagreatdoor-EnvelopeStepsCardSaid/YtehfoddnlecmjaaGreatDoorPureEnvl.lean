/- Envelopes and headers, in plain lists. -/
import Derived.Test.YtehfoddnlecmjaaGreatDoorPureInv
import Derived.Test.YtehfoddnlecmjaaGreatDoorPureRead
import Derived.Test.YtehfoddnlecmjaaGreatDoorEnv4
set_option linter.unusedVariables false
set_option linter.unusedSimpArgs false
namespace Go.Proofs.YtehfoddnlecmjaaGreatDoor

/-- What reads rightly by a schema has the schema's fields. -/
theorem readGo_inv {en : Nat} : ∀ {ss : List Sl} {fs : List (Nat × Fld)}, (readGo en ss fs).1 = 0 →
    fs.map (·.2) = List.zipWith (fun s p => ⟨s.no, wireK s.kind, p.num, p.data⟩) ss (readGo en ss fs).2.2 ∧ (readGo en ss fs).2.2.length = ss.length ∧
      ∀ i (h1 : i < ss.length) (h2 : i < (readGo en ss fs).2.2.length), badS ss[i] (readGo en ss fs).2.2[i].num (readGo en ss fs).2.2[i].data.length = 0
  | [], [], _ => ⟨rfl, rfl, fun i h1 => by simp at h1⟩
  | [], (p, f) :: fs, h => by simp [readGo] at h
  | s :: ss, [], h => by simp [readGo] at h
  | s :: ss, (p, f) :: fs, h => by
    by_cases c1 : f.no = s.no
    · by_cases c2 : f.ty = wireK s.kind
      · by_cases c3 : badS s f.num f.data.length = 0
        · by_cases c4 : (readGo en ss fs).1 = 0
          · have e : readGo en (s :: ss) ((p, f) :: fs) = (0, 0, ⟨f.num, f.data⟩ :: (readGo en ss fs).2.2) := by
              rw [readGo, if_neg (by simpa using c1), if_neg (by simpa using c2), if_neg (by simpa using c3), if_neg (by simpa using c4)]
            obtain ⟨i1, i2, i3⟩ := readGo_inv c4
            rw [e]
            refine ⟨?_, by simp [i2], ?_⟩
            · simp only [List.map_cons, List.zipWith_cons_cons, i1]
              rw [← c1, ← c2]
            · intro i h1 h2
              match i with
              | 0 => exact c3
              | i + 1 => exact i3 i (by simpa using h1) (by simpa using h2)
          · rw [readGo, if_neg (by simpa using c1), if_neg (by simpa using c2), if_neg (by simpa using c3), if_pos c4] at h
            exact absurd h c4
        · rw [readGo, if_neg (by simpa using c1), if_neg (by simpa using c2), if_pos c3] at h
          exact absurd h c3
      · rw [readGo, if_neg (by simpa using c1), if_pos c2] at h; cases h
    · rw [readGo, if_pos c1] at h; cases h
/-- Fields that fit a schema read rightly. -/
theorem readGo_fit {en : Nat} : ∀ {ss : List Sl} {ps : List PV} (p : Nat), ps.length = ss.length → (∀ i (h1 : i < ss.length) (h2 : i < ps.length), badS ss[i] ps[i].num ps[i].data.length = 0) →
    readGo en ss (placed p (List.zipWith (fun s p => ⟨s.no, wireK s.kind, p.num, p.data⟩) ss ps)) = (0, 0, ps)
  | [], [], p, _, _ => rfl
  | [], _ :: _, p, h, _ => by simp at h
  | _ :: _, [], p, h, _ => by simp at h
  | s :: ss, x :: ps, p, h, hb => by
    have h0 := hb 0 (by simp) (by simp)
    simp only [List.getElem_cons_zero] at h0
    have ih := readGo_fit (en := en) (ss := ss) (ps := ps) (p + (fldB ⟨s.no, wireK s.kind, x.num, x.data⟩).length) (by simpa using h) (fun i h1 h2 => by
      have := hb (i + 1) (by simpa using h1) (by simpa using h2)
      simpa using this)
    simp only [List.zipWith_cons_cons, placed]
    rw [readGo, if_neg (by simp), if_neg (by simp), if_neg (by simpa using h0), ih, if_neg (by simp)]
def fieldsS (ss : List Sl) (ps : List PV) : List Fld := List.zipWith (fun s p => ⟨s.no, wireK s.kind, p.num, p.data⟩) ss ps
/-- What was read by a schema is written so. -/
theorem readR_inv {ss : List Sl} {l : Bytes} (h : (readR ss l).1 = 0) : encB (fieldsS ss (readR ss l).2.2) = l ∧ (walkR l).2.2 = 0 ∧ (walkR l).1.map (·.2) = fieldsS ss (readR ss l).2.2 ∧ okGo 0 (fieldsS ss (readR ss l).2.2) ∧ (readR ss l).2.2.length = ss.length ∧ l.length ≤ 4194304 ∧
    ∀ i (h1 : i < ss.length) (h2 : i < (readR ss l).2.2.length), badS ss[i] (readR ss l).2.2[i].num (readR ss l).2.2[i].data.length = 0 := by
  unfold readR at *
  by_cases c : (walkR l).2.2 = 0
  · rw [if_neg (by simpa using c)] at h
    simp only [if_neg (show ¬ (walkR l).2.2 ≠ 0 by simpa using c)]
    obtain ⟨i1, i2, i3⟩ := readGo_inv h
    obtain ⟨w1, w2, _, w4⟩ := enc_walk c
    rw [i1] at w1 w2
    exact ⟨w1, c, i1, w2, i2, w4, i3⟩
  · rw [if_pos c] at h; exact absurd h c
/-- What is written by a schema is read so. -/
theorem readR_enc {ss : List Sl} {ps : List PV} (hlen : ps.length = ss.length) (hb : ∀ i (h1 : i < ss.length) (h2 : i < ps.length), badS ss[i] ps[i].num ps[i].data.length = 0) (hok : okGo 0 (fieldsS ss ps)) (h64 : ss.length ≤ 64) (hl : (encB (fieldsS ss ps)).length ≤ 4194304) :
    readR ss (encB (fieldsS ss ps)) = (0, 0, ps) := by
  unfold readR
  rw [walk_enc hok (by simp [fieldsS]; omega) hl]
  simp only
  rw [if_neg (by simp)]
  exact readGo_fit 0 hlen hb
/-! Envelopes. -/
def envP (v : Nat) (n h b : Bytes) : List PV := [⟨v, []⟩, ⟨0, n⟩, ⟨0, h⟩, ⟨0, b⟩]
def envF (v : Nat) (n h b : Bytes) : List Fld := [⟨1, 0, v, []⟩, ⟨2, 2, 0, n⟩, ⟨3, 2, 0, h⟩, ⟨4, 2, 0, b⟩]
theorem envF_eq (v : Nat) (n h b : Bytes) : fieldsS (envS v) (envP v n h b) = envF v n h b := rfl
theorem inBody_le {v n : Nat} (h : inBody v n = true) : 80 ≤ n ∧ n ≤ mostB v + 16 := by
  unfold inBody at h
  simp only [Bool.and_eq_true, decide_eq_true_eq] at h
  have hg := bkGo_ge v 64 (min (n - 16) (mostB v)) (by decide)
  have hm := mostB_le v
  refine ⟨by omega, ?_⟩
  rcases Nat.lt_or_ge (mostB v) (n - 16) with c | c
  · have h2 := h.2
    rw [Nat.min_eq_right (by omega)] at h2
    have : bkGo v 64 (mostB v) ≤ bkGo v 64 (mostB v) := Nat.le_refl _
    have h3 : bkGo v 64 (mostB v) = mostB v := by
      have e : mostB v = bkGo v 64 1048580 := rfl
      have key : ∀ (k b m : Nat), m - b ≤ k → 1 ≤ b → bkGo v b (bkGo v b m) = bkGo v b m := by
        intro k
        induction k with
        | zero =>
          intro b m hk h1
          rw [bkGo_stop (by omega : ¬ b < m), bkGo_stop (by omega)]
        | succ k ih =>
          intro b m hk h1
          by_cases c : b < m
          · have hng := next_gt (v := v) h1
            have hge := bkGo_ge v (next v b) m (by omega)
            rw [bkGo_step h1 c, bkGo_step h1 (by omega)]
            exact ih _ m (by omega) (by omega)
          · rw [bkGo_stop c, bkGo_stop (by omega)]
      rw [e]
      exact key _ 64 1048580 (Nat.le_refl _) (by decide)
    omega
  · omega
theorem within_0 {n a b : Nat} : withinN n a b = 0 ↔ a ≤ n ∧ n ≤ b := by
  unfold withinN
  split
  · constructor
    · intro h; cases h
    · intro h; omega
  · constructor
    · intro _; omega
    · intro _; rfl
theorem env_bad {v : Nat} {n h b : Bytes} (hn : n.length = 16) (hh : h.length = 60) (hb : inBody v b.length = true) : ∀ i (h1 : i < (envS v).length) (h2 : i < (envP v n h b).length), badS (envS v)[i] (envP v n h b)[i].num (envP v n h b)[i].data.length = 0 := by
  have hl := inBody_le hb
  intro i h1 h2
  match i, h1 with
  | 0, _ => simp [badS, envS, envP, within_0]
  | 1, _ => simp [badS, envS, envP, within_0, hn]
  | 2, _ => simp [badS, envS, envP, within_0, hh]
  | 3, _ => simp [badS, envS, envP, within_0]; omega
theorem env_okGo {v : Nat} (n h b : Bytes) (hv : v < 18446744073709551616) : okGo 0 (envF v n h b) := by
  simp [okGo, envF, wrong, hv]
theorem env_len {v : Nat} {n h b : Bytes} (hv : v = 1 ∨ v = 2) (hn : n.length = 16) (hh : h.length = 60) : (encB (envF v n h b)).length = 83 + vsize b.length + b.length := by
  simp [encB, envF, fldB, hn, hh, vint_lt, show v < 128 by omega]
  simp [vsize]
  omega
theorem env_fits {v : Nat} {n h b : Bytes} (hv : v = 1 ∨ v = 2) (hn : n.length = 16) (hh : h.length = 60) (hb : inBody v b.length = true) : (encB (envF v n h b)).length ≤ 4194304 := by
  have hl := inBody_le hb
  have hm := mostB_le v
  rw [env_len hv hn hh]
  have := vsize_le10 (n := b.length) (by omega)
  omega
theorem env_readR {v : Nat} {n h b : Bytes} (hv : v = 1 ∨ v = 2) (hn : n.length = 16) (hh : h.length = 60) (hb : inBody v b.length = true) : readR (envS v) (encB (envF v n h b)) = (0, 0, envP v n h b) :=
  readR_enc (ss := envS v) (ps := envP v n h b) rfl (env_bad hn hh hb) (env_okGo n h b (show v < 18446744073709551616 by omega)) (by simp [envS]) (env_fits hv hn hh hb)
/-- What Parse answers: the error, its place, the version, the parts. -/
def parseR (l : Bytes) : Nat × Nat × Nat × List PV :=
  if (walkR l).2.2 ≠ 0 then ((walkR l).2.2, (walkR l).2.1, 0, []) else
  match (walkR l).1 with
  | [] => (81, l.length, 0, [])
  | (_, f) :: _ =>
    if f.no ≠ 1 then (81, 0, 0, []) else if f.ty ≠ 0 then (82, 0, 0, []) else if f.num ≠ 1 ∧ f.num ≠ 2 then (100, 0, 0, []) else
    if (readR (envS f.num) l).1 ≠ 0 then ((readR (envS f.num) l).1, (readR (envS f.num) l).2.1, 0, []) else
    if inBody f.num (((readR (envS f.num) l).2.2.getD 3 ⟨0, []⟩).data.length) = true then (0, 0, f.num, (readR (envS f.num) l).2.2) else (102, 82, 0, [])
theorem parse_pack {v : Nat} {n h b : Bytes} (hv : v = 1 ∨ v = 2) (hn : n.length = 16) (hh : h.length = 60) (hb : inBody v b.length = true) : parseR (encB (envF v n h b)) = (0, 0, v, envP v n h b) := by
  have hr := env_readR hv hn hh hb
  have hw := walk_enc (env_okGo n h b (show v < 18446744073709551616 by omega)) (by simp [envF]) (env_fits hv hn hh hb)
  generalize encB (envF v n h b) = e at *
  unfold parseR
  rw [hw]
  simp only [envF, placed]
  rw [if_neg (by simp), if_neg (by simp), if_neg (by simp), if_neg (show ¬ (v ≠ 1 ∧ v ≠ 2) by omega)]
  simp only [hr, envP, List.getD_cons_succ, List.getD_cons_zero, hb]
  simp
/-- What Parse takes is an envelope's bytes. -/
theorem pack_parse {l : Bytes} (h : (parseR l).1 = 0) : ∃ v n h b, (v = 1 ∨ v = 2) ∧ n.length = 16 ∧ h.length = 60 ∧ inBody v b.length = true ∧ parseR l = (0, 0, v, envP v n h b) ∧ l = encB (envF v n h b) ∧ (walkR l).1.map (·.2) = envF v n h b ∧ (walkR l).2.2 = 0 := by
  unfold parseR at *
  by_cases c : (walkR l).2.2 = 0
  · simp only [if_neg (show ¬ (walkR l).2.2 ≠ 0 by simpa using c)] at h ⊢
    cases hw : (walkR l).1 with
    | nil => rw [hw] at h; simp at h
    | cons x r =>
      obtain ⟨p, f⟩ := x
      rw [hw] at h
      simp only at h ⊢
      by_cases c1 : f.no = 1
      · by_cases c2 : f.ty = 0
        · by_cases c3 : f.num = 1 ∨ f.num = 2
          · rw [if_neg (by simpa using c1), if_neg (by simpa using c2), if_neg (by omega)] at h ⊢
            by_cases c4 : (readR (envS f.num) l).1 = 0
            · rw [if_neg (by simpa using c4)] at h ⊢
              obtain ⟨j1, _, j3, j4, j5, _, j7⟩ := readR_inv c4
              have jr : (readR (envS f.num) l) = (0, 0, (readR (envS f.num) l).2.2) := by
                have h1 : (readR (envS f.num) l).2.1 = 0 := by
                  unfold readR at c4 ⊢
                  rw [if_neg (by simpa using c)] at c4 ⊢
                  exact readGo_good c4
                exact Prod.ext c4 (Prod.ext h1 rfl)
              generalize (readR (envS f.num) l).2.2 = ps at *
              match ps, j5 with
              | [a, n', h', b'], _ =>
                simp only [List.getD_cons_succ, List.getD_cons_zero] at h ⊢
                by_cases c5 : inBody f.num b'.data.length = true
                · rw [if_pos c5] at h ⊢
                  have q0 := j7 0 (by simp [envS]) (by simp)
                  have q1 := j7 1 (by simp [envS]) (by simp)
                  have q2 := j7 2 (by simp [envS]) (by simp)
                  simp [badS, envS, within_0] at q0 q1 q2
                  simp only [fieldsS, envS, List.zipWith_cons_cons, List.zipWith_nil_right, okGo, wireK] at j4
                  obtain ⟨⟨k0, _, k1, _, k2, _, k3, _⟩⟩ := And.intro j4 trivial
                  obtain ⟨d0, d1, d2, d3⟩ : a.data = [] ∧ n'.num = 0 ∧ h'.num = 0 ∧ b'.num = 0 := ⟨(wrong_0 k0).2.2.2.2.2.1 (by simp), (wrong_0 k1).2.2.2.2.1 rfl, (wrong_0 k2).2.2.2.2.1 rfl, (wrong_0 k3).2.2.2.2.1 rfl⟩
                  have ea : a.num = f.num := by omega
                  have ep : [a, n', h', b'] = envP f.num n'.data h'.data b'.data := by
                    obtain ⟨a1, a2⟩ := a
                    obtain ⟨n1, n2⟩ := n'
                    obtain ⟨h1, h2⟩ := h'
                    obtain ⟨b1, b2⟩ := b'
                    simp only at d0 d1 d2 d3 ea
                    subst d0; subst d1; subst d2; subst d3; subst ea
                    rfl
                  rw [ep, envF_eq] at j1 j3
                  exact ⟨f.num, n'.data, h'.data, b'.data, c3, by omega, by omega, c5, by rw [ep], j1.symm, by rw [← j3, hw], c⟩
                · rw [if_neg c5] at h; cases h
            · rw [if_pos c4] at h; exact absurd h c4
          · rw [if_neg (by simpa using c1), if_neg (by simpa using c2), if_pos (by omega)] at h; cases h
        · rw [if_neg (by simpa using c1), if_pos c2] at h; cases h
      · rw [if_pos c1] at h; cases h
  · rw [if_pos c] at h; exact absurd h c
/-! Headers. -/
def hdrP (k : Bytes) (a b : Nat) : List PV := [⟨0, k⟩, ⟨a, []⟩, ⟨b, []⟩]
def hdrF (k : Bytes) (a b : Nat) : List Fld := [⟨1, 2, 0, k⟩, ⟨2, 5, a, []⟩, ⟨3, 5, b, []⟩]
theorem hdrF_eq (k : Bytes) (a b : Nat) : fieldsS hdrS (hdrP k a b) = hdrF k a b := rfl
theorem hdr_bad {k : Bytes} {a b : Nat} (hk : k.length = 32) (ha : a < 4294967296) (hb : b < 4294967296) : ∀ i (h1 : i < hdrS.length) (h2 : i < (hdrP k a b).length), badS hdrS[i] (hdrP k a b)[i].num (hdrP k a b)[i].data.length = 0 := by
  intro i h1 h2
  match i, h1 with
  | 0, _ => simp [badS, hdrS, hdrP, within_0, hk]
  | 1, _ => simp [badS, hdrS, hdrP, within_0]; omega
  | 2, _ => simp [badS, hdrS, hdrP, within_0]; omega
theorem hdr_okGo {k : Bytes} {a b : Nat} (ha : a < 4294967296) (hb : b < 4294967296) : okGo 0 (hdrF k a b) := by
  simp [okGo, hdrF, wrong]
  omega
theorem hdr_len {k : Bytes} {a b : Nat} (hk : k.length = 32) : (encB (hdrF k a b)).length = 44 := by
  simp [encB, hdrF, fldB, hk, vint_lt, low_length]
theorem hdr_readR {k : Bytes} {a b : Nat} (hk : k.length = 32) (ha : a < 4294967296) (hb : b < 4294967296) : readR hdrS (encB (hdrF k a b)) = (0, 0, hdrP k a b) :=
  readR_enc (ss := hdrS) (ps := hdrP k a b) rfl (hdr_bad hk ha hb) (hdr_okGo ha hb) (by simp [hdrS]) (by rw [hdrF_eq, hdr_len hk]; decide)
end Go.Proofs.YtehfoddnlecmjaaGreatDoor
