/- The contracts of package wire: Decode. -/
import Derived.Test.YtehfoddnlecmjaaGreatDoorWire6
set_option linter.unusedVariables false
set_option linter.unusedSimpArgs false
namespace Go.Proofs.YtehfoddnlecmjaaGreatDoor
open Go.RowKit

/-- A field's cells. -/
def fcells (f : Fld) (dv : Value) : List Value := [.int .i64 f.no, .int .i64 f.ty, .int .u64 f.num, dv]
/-- Two lists lie in two blocks. -/
def apartV (a b : Value) : Prop := ∀ k, a.ownBlock = some k → b.ownBlock ≠ some k
/-- A slice of fields of the call's own, their data each in a block of its own. -/
def OF (w : World) (base : Nat) (v : Value) (xs : List (Fld × Value)) : Prop :=
  w.ownsRow base 60 4 v xs.length (xs.flatMap fun x => fcells x.1 x.2) ∧ (∀ x ∈ xs, OB w base x.2 x.1.data) ∧ xs.Pairwise (fun a b => apartV a.2 b.2)
theorem OF.nil (w : World) (base : Nat) : OF w base (.slice none 0 0) [] := ⟨World.ownsRow_nil _ _ _ _, by simp, List.Pairwise.nil⟩
/-- w' is w but for the blocks in S and new ones. -/
structure Gr (S : Nat → Prop) (w w' : World) : Prop where
  os : w'.os = w.os
  tape : w'.tape = w.tape
  output : w'.output = w.output
  size : w.heap.size ≤ w'.heap.size
  block : ∀ k, k < w.heap.size → ¬ S k → w'.heap[k]? = w.heap[k]?
theorem Gr.refl (S : Nat → Prop) (w : World) : Gr S w w := ⟨rfl, rfl, rfl, Nat.le_refl _, fun _ _ _ => rfl⟩
theorem Gr.of_ext {S : Nat → Prop} {w w' : World} (h : Ext w w') : Gr S w w' := ⟨h.os, h.tape, h.output, h.size, fun _ hk _ => h.block hk⟩
theorem Gr.of_grown {S : Nat → Prop} {w w' : World} {r : Option Nat} (h : w.grownBy w' r) (hr : ∀ k, r = some k → S k) : Gr S w w' := ⟨h.os, h.tape, h.output, h.size, fun k hk hs => h.block k hk (fun e => hs (hr k e.symm))⟩
theorem Gr.trans {S : Nat → Prop} {a b c : World} (h : Gr S a b) (k : Gr S b c) : Gr S a c := ⟨k.os.trans h.os, k.tape.trans h.tape, k.output.trans h.output, Nat.le_trans h.size k.size, fun i hi hs => (k.block i (Nat.lt_of_lt_of_le hi h.size) hs).trans (h.block i hi hs)⟩
theorem Gr.cell {S : Nat → Prop} {w w' : World} (h : Gr S w w') {p : Addr} {v : Value} (hp : w.cell? p = some v) (hs : ¬ S p.block) : w'.cell? p = some v := (World.cell?_of_block (h.block _ (lt_of_cell hp) hs)).trans hp
theorem Gr.heap {S : Nat → Prop} {w w' : World} (h : Gr S w w') {k : Nat} {o : Obj} (hp : w.heap[k]? = some o) (hs : ¬ S k) : w'.heap[k]? = some o := (h.block _ (lt_of_heap hp) hs).trans hp
theorem Gr.below {S : Nat → Prop} {a w w' : World} {n : Nat} (h0 : Below n a w) (hn : n ≤ w.heap.size) (h : Gr S w w') (hS : ∀ k, S k → n ≤ k) : Below n a w' :=
  ⟨h.os.trans h0.os, h.tape.trans h0.tape, h.output.trans h0.output, Nat.le_trans h0.size h.size, fun i hi => (h.block i (by omega) (fun hs => by have := hS i hs; omega)).trans (h0.block i hi)⟩
theorem own_gr {S : Nat → Prop} {w w' : World} {base : Nat} {e : TypeId} {size : Nat} {v : Value} {n : Nat} {xs : List Value} (h : w.ownsRow base e size v n xs) (hg : Gr S w w') (hne : ∀ k, v.ownBlock = some k → ¬ S k) : w'.ownsRow base e size v n xs := by
  refine ⟨h.1, ?_⟩
  rcases h.2 with h | ⟨g, cap, cur, rfl, hb, hh, h2⟩
  · exact .inl h
  · exact .inr ⟨g, cap, cur, rfl, hb, hg.heap hh (hne g rfl), h2⟩
theorem OB.gr {S : Nat → Prop} {w w' : World} {base : Nat} {v : Value} {l : List UInt8} (h : OB w base v l) (hg : Gr S w w') (hne : ∀ k, v.ownBlock = some k → ¬ S k) : OB w' base v l := own_gr h hg hne
/-- Two rows of two types lie in two blocks. -/
theorem own_ne {w : World} {b1 b2 : Nat} {e1 e2 : TypeId} {s1 s2 n1 n2 : Nat} {v1 v2 : Value} {xs1 xs2 : List Value} (h1 : w.ownsRow b1 e1 s1 v1 n1 xs1) (h2 : w.ownsRow b2 e2 s2 v2 n2 xs2) (he : e1 ≠ e2) {k : Nat} (hk : v1.ownBlock = some k) : v2.ownBlock ≠ some k := by
  intro hk2
  rcases h1.2 with ⟨rfl, _⟩ | ⟨g, cap, cur, rfl, _, hh, _⟩
  · cases hk
  · rcases h2.2 with ⟨rfl, _⟩ | ⟨g2, cap2, cur2, rfl, _, hh2, _⟩
    · cases hk2
    · simp [Value.ownBlock] at hk hk2
      subst hk; subst hk2
      rw [hh] at hh2
      simp at hh2
      exact he hh2.2
theorem own_ne_blk {w : World} {b1 : Nat} {e1 : TypeId} {s1 n1 : Nat} {v1 : Value} {xs1 : List Value} (h1 : w.ownsRow b1 e1 s1 v1 n1 xs1) {k : Nat} {cs : Array Value} {t : TypeId} {fr : Nat × Nat} (hk : w.heap[k]? = some (.cells cs t fr)) (he : e1 ≠ t) : v1.ownBlock ≠ some k := by
  intro hk1
  rcases h1.2 with ⟨rfl, _⟩ | ⟨g, cap, cur, rfl, _, hh, _⟩
  · cases hk1
  · simp [Value.ownBlock] at hk1
    subst hk1
    rw [hh] at hk
    simp at hk
    exact he hk.2.1
theorem RB.gr {S : Nat → Prop} {w w' : World} {A : Option Addr} {l : List UInt8} (h : RB w A l) (hg : Gr S w w') (hne : ∀ a, A = some a → ¬ S a.block) : RB w' A l := by
  rcases h with h | ⟨b, o, hA, h⟩
  · exact .inl h
  · exact .inr ⟨b, o, hA, fun i hi => hg.cell (h i hi) (hne ⟨b, o, none⟩ hA)⟩
theorem OF.gr {S : Nat → Prop} {w w' : World} {base : Nat} {v : Value} {xs : List (Fld × Value)} (h : OF w base v xs) (hg : Gr S w w') (h1 : ∀ k, v.ownBlock = some k → ¬ S k) (h2 : ∀ x ∈ xs, ∀ k, x.2.ownBlock = some k → ¬ S k) : OF w' base v xs :=
  ⟨own_gr h.1 hg h1, fun x hx => (h.2.1 x hx).gr hg (h2 x hx), h.2.2⟩
theorem OF.ext {w w' : World} {base : Nat} {v : Value} {xs : List (Fld × Value)} (h : OF w base v xs) (hg : Ext w w') : OF w' base v xs := h.gr (S := fun _ => False) (Gr.of_ext hg) (fun _ _ => id) (fun _ _ _ _ => id)
/-- A block of bytes. -/
def IsB (w : World) (k : Nat) : Prop := ∃ cs fr, w.heap[k]? = some (.cells cs 5 fr)
/-- What the closure of Decode keeps: the list as it stands. -/
def Kept (w : World) (base Bx : Nat) (xs : List (Fld × Value)) : Prop := ∃ v, w.heap[Bx]? = some (.cells #[v] 55 (0, 0)) ∧ OF w base v xs
/-- The blocks of the list in a box: the box, the list's own. -/
def Of (w : World) (Bx k : Nat) : Prop := k = Bx ∨ ∃ v, w.heap[Bx]? = some (.cells #[v] 55 (0, 0)) ∧ v.ownBlock = some k
theorem own_succ {w : World} {base : Nat} {e : TypeId} {size : Nat} {v : Value} {k : Nat} {xs : List Value} (h : w.ownsRow base e size v (k + 1) xs) : ∃ g cap, v = .slice (some ⟨g, 0, none⟩) (k + 1) cap := by
  rcases h.2 with ⟨_, h0⟩ | ⟨g, cap, _, rfl, _⟩
  · omega
  · exact ⟨g, cap, rfl⟩
theorem fc_one (f : Fld) {dv : Value} (h : dv.oneCell' = true) : ∀ u ∈ (#[.int .i64 f.no, .int .i64 f.ty, .int .u64 f.num, dv] : Array Value).toList, u.oneCell' = true := by
  intro u hu
  simp at hu
  rcases hu with rfl | rfl | rfl | rfl
  · rfl
  · rfl
  · rfl
  · exact h
set_option maxRecDepth 100000 in
set_option maxHeartbeats 1600000 in
theorem decode1_any (base Bx : Nat) (xs : List (Fld × Value)) (f : Fld) (dv : Value) (p : Int) (w : World) (hk : Kept w base Bx xs) (hd : OB w base dv f.data) (hsep : ∀ x ∈ xs, apartV x.2 dv) (hb : base ≤ Bx) (hn : xs.length ≤ 64) :
    Calls Tryz.prog 49 #[.int .i64 p, .agg #[.int .i64 f.no, .int .i64 f.ty, .int .u64 f.num, dv], .pointer (some ⟨Bx, 0, none⟩)] w fun e w' => e = .returned (.bool true) ∧ Kept w' base Bx (xs ++ [(f, dv)]) ∧ Gr (Of w Bx) w w' := by
  obtain ⟨v, hB, ho⟩ := hk
  obtain ⟨A, c, rfl, _⟩ := hd.reads
  have hbs : base ≤ w.heap.size := by have := lt_of_heap hB; omega
  have hB1 := old_blk hB (.cells #[.int .i64 f.no, .int .i64 f.ty, .int .u64 f.num, .slice A f.data.length c] 60 (0, 0))
  have q0 := cell_of_one hB1
  have q1 := free_of_one hB1
  have ho1 := ho.1.alloc (.cells #[.int .i64 f.no, .int .i64 f.ty, .int .u64 f.num, .slice A f.data.length c] 60 (0, 0))
  have hl : xs.length + 1 ≤ maxLen := by simp only [maxLen]; omega
  have hl2 : (xs.length + 1) * 48 ≤ 140737488355328 := by omega
  go_enter Tryz.func49, Tryz.ntmps49
  go_wp2_with (at_builtin; go_must (refine wpList_app1 (by rfl) (.tmp 6) (.tmp 8) (by rfl) Tryz.underlying55 f_info (by rfl) (by decide) (by rfl) ho1 #[.int .i64 f.no, .int .i64 f.ty, .int .u64 f.num, .slice A f.data.length c] (0, 0) (by rfl) (fc_one f rfl) 1 (by rw [World.size_alloc]; rfl) hl hl2 (by simp; omega) ?_); intro v1 w1 ho2 hg2 hat2; obtain ⟨g1, c1, rfl⟩ := own_succ ho2; have hB2 := (hg2.block Bx (lt_of_heap hB1) (fun e => own_ne_blk ho1 hB1 (by decide) e.symm)).trans hB1; have q2 := cell_of_one hB2; have q3 := free_of_one hB2)
  go_ret
  have hst := grown_store w1 Bx 0 (.slice (some ⟨g1, 0, none⟩) (xs.length + 1) c1)
  have G : Gr (fun k => k = Bx ∨ v.ownBlock = some k) w (w1.setCell ⟨Bx, 0, none⟩ (.slice (some ⟨g1, 0, none⟩) (xs.length + 1) c1)) :=
    ((Gr.of_ext ((Ext.refl w).alloc _)).trans (Gr.of_grown hg2 (fun k hk => .inr hk))).trans (Gr.of_grown hst (fun k hk => .inl (by injection hk with hk; exact hk.symm)))
  have hvb := own_ge ho.1
  have hS : ∀ k, (k = Bx ∨ v.ownBlock = some k) → base ≤ k := by
    rintro k (rfl | h)
    · exact hb
    · exact hvb k h
  have hne : ∀ {u : Value} {l : Bytes}, OB w base u l → ∀ k, u.ownBlock = some k → ¬ (k = Bx ∨ v.ownBlock = some k) := by
    rintro u l hu k hk (rfl | h)
    · exact own_ne_blk hu hB (by decide) hk
    · exact own_ne hu ho.1 (by decide) hk h
  refine ⟨rfl, ⟨_, one_setCell hB2, ?_, ?_, ?_⟩, ⟨G.os, G.tape, G.output, G.size, fun k hk hs => G.block k hk ?_⟩⟩
  · have h3 := own_gr (S := fun k => k = Bx) ho2 (Gr.of_grown hst (fun k hk => by injection hk with hk; exact hk.symm)) (fun k hk e => by subst e; exact own_ne_blk ho2 hB2 (by decide) hk)
    simpa [fcells] using h3
  · intro x hx
    rcases List.mem_append.1 hx with hx | hx
    · exact (ho.2.1 x hx).gr G (hne (ho.2.1 x hx))
    · simp at hx
      subst hx
      exact hd.gr G (hne hd)
  · refine List.pairwise_append.2 ⟨ho.2.2, List.pairwise_singleton _ _, fun a ha b hb => ?_⟩
    simp at hb
    subst hb
    exact hsep a ha
  · rintro (rfl | h)
    · exact hs (.inl rfl)
    · exact hs (.inr ⟨v, hB, h⟩)
theorem Kept.of {w : World} {base Bx : Nat} {xs : List (Fld × Value)} (h : Kept w base Bx xs) (hb : base ≤ Bx) : ∀ k, Of w Bx k → base ≤ k ∧ k < w.heap.size := by
  obtain ⟨v, h1, h2⟩ := h
  rintro k (rfl | ⟨v', h3, h4⟩)
  · exact ⟨hb, lt_of_heap h1⟩
  · rw [h1] at h3
    simp at h3
    subst h3
    exact World.ownsRow.lt h2.1 k h4
theorem Kept.lt {w : World} {base Bx : Nat} {xs : List (Fld × Value)} (h : Kept w base Bx xs) {x : Fld × Value} (hx : x ∈ xs) : ∀ k, x.2.ownBlock = some k → k < w.heap.size := by
  obtain ⟨v, h1, h2⟩ := h
  exact (h2.2.1 x hx).lt
theorem Kept.ext {w w' : World} {base Bx : Nat} {xs : List (Fld × Value)} (h : Kept w base Bx xs) (hx : Ext w w') : Kept w' base Bx xs := by
  obtain ⟨v, h1, h2⟩ := h
  exact ⟨v, hx.heap h1, h2.ext hx⟩
theorem OB.base {w : World} {b b' : Nat} {v : Value} {l : List UInt8} (h : OB w b v l) (hb : b' ≤ b) : OB w b' v l := by
  refine ⟨h.1, ?_⟩
  rcases h.2 with h | ⟨g, cap, cur, rfl, hg, h2⟩
  · exact .inl h
  · exact .inr ⟨g, cap, cur, rfl, Nat.le_trans hb hg, h2⟩
end Go.Proofs.YtehfoddnlecmjaaGreatDoor
