/- The contracts of package schema: a message read. -/
import Derived.Test.YtehfoddnlecmjaaGreatDoorPureRead
import Derived.Test.YtehfoddnlecmjaaGreatDoorWire9
import Derived.RangeFuncFrom
import Derived.StillTailTactics
import Derived.Deep.RegionHeld2
import Derived.Test.YtehfoddnlecmjaaGreatDoorPureInv
set_option linter.unusedVariables false
set_option linter.unusedSimpArgs false
namespace Go.Proofs.YtehfoddnlecmjaaGreatDoor
open Go.RowKit
attribute [local go_sem] Oper.semAt_some

theorem flat4' (f : (Fld × Value) → List Value) (hf : ∀ x, (f x).length = 4) : ∀ (xs : List (Fld × Value)) (i k : Nat) (h : i < xs.length), k < 4 → (xs.flatMap f)[i * 4 + k]? = (f xs[i])[k]?
  | [], i, k, h, _ => by simp at h
  | x :: xs, 0, k, h, hk => by
    simp only [List.flatMap_cons, Nat.zero_mul, Nat.zero_add, List.getElem_cons_zero]
    rw [List.getElem?_append_left (by rw [hf]; exact hk)]
  | x :: xs, i + 1, k, h, hk => by
    simp only [List.flatMap_cons, List.getElem_cons_succ]
    rw [List.getElem?_append_right (by rw [hf]; omega), hf, show (i + 1) * 4 + k - 4 = i * 4 + k by omega]
    exact flat4' f hf xs i k (by simpa using h) hk
theorem int_info : ElemInfo Tryz.prog 3 (.int .i64 0) 1 8 := by unfold ElemInfo; kernel_rfl
/-- A part's cells. -/
def pcells (p : PV) (dv : Value) : List Value := [.int .u64 p.num, dv, .slice none 0 0]
/-- A slice of parts of the call's own, their data each in a block of its own. -/
def OV (w : World) (base : Nat) (v : Value) (zs : List (PV × Value)) : Prop :=
  w.ownsRow base 78 3 v zs.length (zs.flatMap fun z => pcells z.1 z.2) ∧ (∀ z ∈ zs, OB w base z.2 z.1.data) ∧ zs.Pairwise (fun a b => apartV a.2 b.2)
def RPost (ss : List Sl) (l : Bytes) (b0 : Int) (w : World) (e : Ending) (w' : World) : Prop :=
  Ext w w' ∧ ((readR ss l).1 ≠ 0 → e = .panicked [{ v := .iface 34 (faultC 0 (b0 + (readR ss l).2.1) (readR ss l).1), recovered := false }]) ∧
    ((readR ss l).1 = 0 → ∃ v zs, e = .returned (.agg #[.int .u64 0, .slice none 0 0, v]) ∧ OV w' w.heap.size v zs ∧ zs.map (·.1) = (readR ss l).2.2)
theorem of_reads {w : World} {base : Nat} {v : Value} {ys : List (Fld × Value)} (h : OF w base v ys) : ∃ A c, v = .slice A ys.length c ∧
    (∀ i (h : i < ys.length), ∃ g o, A = some ⟨g, o, none⟩ ∧ ∀ k (_ : k < 4), w.cell? ⟨g, o + i * 4 + k, none⟩ = (fcells ys[i].1 ys[i].2)[k]?) ∧ (∀ a, A = some a → base ≤ a.block ∧ a.block < w.heap.size) := by
  rcases h.1.2 with ⟨rfl, h0⟩ | ⟨g, cap, cur, rfl, hg, hh, hnc, hc, hs, hx⟩
  · exact ⟨none, 0, by rw [h0], fun i hi => by omega, fun a e => by cases e⟩
  · refine ⟨_, _, rfl, fun i hi => ⟨g, 0, rfl, fun k hk => ?_⟩, fun a e => by injection e with e; subst e; exact ⟨hg, lt_of_heap hh⟩⟩
    rw [cell_of_row w g (0 + i * 4 + k) cur 60 (0, 0) hh]
    have h3 := flat4' (fun x => fcells x.1 x.2) (fun x => rfl) ys i k hi hk
    rw [← hx, List.getElem?_take, if_pos (by omega)] at h3
    rw [show 0 + i * 4 + k = i * 4 + k by omega]
    simpa using h3
/-- The places, as they stand between two rounds. -/
def PlI (w1 : World) (Bp : Nat) (b0 : Int) (pre : List Item) (W : World) : Prop :=
  (∃ v, W.heap[Bp]? = some (.cells #[v] 105 (0, 0)) ∧ W.ownsRow w1.heap.size 3 1 v pre.length (pre.map fun x => .int .i64 (wrap64 (b0 + x.1)))) ∧ Below w1.heap.size w1 W
theorem plI_own {w1 : World} {Bp B : Nat} {b0 : Int} (hB : w1.heap.size ≤ B) : OwnFrom B (PlI w1 Bp b0) := by
  rintro s W W' row ⟨⟨v, h1, h2⟩, h3⟩ hg hr
  refine ⟨⟨v, (hg.block Bp (lt_of_heap h1) (fun e => ?_)).trans h1, World.ownsRow.kept h2 hg ?_⟩, h3.grown hg h3.size (fun k e => Nat.le_trans hB (hr k e).1)⟩
  · obtain ⟨_, o, h4, h5⟩ := hr _ e.symm
    rw [h1] at h4
    injection h4 with h4
    subst h4
    cases h5
  · cases hv : v.ownBlock with
    | none => exact .inl rfl
    | some k =>
      refine .inr (fun e => ?_)
      obtain ⟨_, o, h4, h5⟩ := hr k e.symm
      obtain ⟨cs, h6⟩ := own_blk h2 hv
      rw [h6] at h4
      injection h4 with h4
      subst h4
      cases h5
/-- A panic leaves through the mark of a range over a function. -/
theorem leavesM_panic {P : Program} {F : Fence} {n : Nat} {fn : Func} {tmps : Array Value} {R : Ending → World → Prop} {chain : List PanicEntry} {D : Nat} {w : World} (hK : w.heap[D]? = some (.deferred (some []))) (h : R (.panicked chain) (w.putObj D (.deferred none))) :
    LeavesInM F n P fn tmps R [{ target := .collected D, args := #[] }] (.panicking chain) w :=
  ⟨by simp, .inl ⟨_, _, rfl, run_takeDeferred hK, h⟩⟩
theorem ints_read {w : World} {base : Nat} {v : Value} {ns : List Value} {n : Nat} (h : w.ownsRow base 3 1 v n ns) : ∃ A c, v = .slice A n c ∧ ∀ i (_ : i < n), ∃ g o, A = some ⟨g, o, none⟩ ∧ w.cell? ⟨g, o + i, none⟩ = ns[i]? := by
  rcases h.2 with ⟨rfl, h0⟩ | ⟨g, cap, cur, rfl, hg, hh, hnc, hc, hs, hx⟩
  · exact ⟨none, 0, by rw [h0], fun i hi => by omega⟩
  · refine ⟨_, _, rfl, fun i hi => ⟨g, 0, rfl, ?_⟩⟩
    rw [cell_of_row w g (0 + i) cur 3 (0, 0) hh, ← hx, List.getElem?_take, if_pos (by omega)]
    simp
/-- The parts so far: their row is the call's own, beyond W; their data lies below it. -/
def Parts (W : World) (base : Nat) (zp : List (PV × Value)) (wr : World) : Prop :=
  (∃ pv, wr.heap[W.heap.size]? = some (.cells #[.int .u64 0, .slice none 0 0, pv] 78 (0, 0)) ∧ wr.ownsRow (W.heap.size + 1) 78 3 pv zp.length (zp.flatMap fun z => pcells z.1 z.2)) ∧
    (∀ z ∈ zp, OB W base z.2 z.1.data) ∧ zp.Pairwise (fun a b => apartV a.2 b.2) ∧ Below W.heap.size W wr
theorem body_end {w1 W w4 : World} {Bp : Nat} {b0 : Int} {pre : List Item} {x : Item} {v3 v4 : Value} (hbx : W.heap[Bp]? = some (.cells #[v3] 105 (0, 0))) (hrow : W.ownsRow w1.heap.size 3 1 v3 pre.length (pre.map fun x => .int .i64 (wrap64 (b0 + x.1)))) (hB : Below w1.heap.size w1 W)
    (hbx4 : w4.heap[Bp]? = some (.cells #[v3] 105 (0, 0))) (ho4 : w4.ownsRow w1.heap.size 3 1 v4 (pre.length + 1) ((pre.map fun x => .int .i64 (wrap64 (b0 + x.1))) ++ [.int .i64 (wrap64 (b0 + x.1))]))
    (hg4 : (W.alloc (.cells #[.int .i64 (wrap64 (b0 + x.1))] 3 (0, 0))).grownBy w4 v3.ownBlock) (hBp : w1.heap.size ≤ Bp) :
    KeepsOthers W (w4.setCell ⟨Bp, 0, none⟩ v4) ∧ KpB W (w4.setCell ⟨Bp, 0, none⟩ v4) ∧ PlI w1 Bp b0 (pre ++ [x]) (w4.setCell ⟨Bp, 0, none⟩ v4) := by
  have hst := grown_store w4 Bp 0 v4
  have G : Gr (fun k => k = Bp ∨ v3.ownBlock = some k) W (w4.setCell ⟨Bp, 0, none⟩ v4) :=
    ((Gr.of_ext ((Ext.refl W).alloc _)).trans (Gr.of_grown hg4 (fun k hk => .inr hk))).trans (Gr.of_grown hst (fun k hk => .inl (by injection hk with hk; exact hk.symm)))
  have hty : ∀ k cs t fr, W.heap[k]? = some (.cells cs t fr) → t ≠ 3 → t ≠ 105 → ¬ (k = Bp ∨ v3.ownBlock = some k) := by
    rintro k cs t fr h h1 h2 (rfl | h3)
    · rw [hbx] at h; simp at h; exact h2 h.2.1.symm
    · exact own_ne_blk hrow h (Ne.symm h1) h3
  refine ⟨⟨G.size, fun k o h ho => ?_⟩, ⟨G.size, fun k cs fr h => G.block k (lt_of_heap h) (hty k _ _ _ h (by decide) (by decide)), fun k cs fr h => G.block k (lt_of_heap h) (hty k _ _ _ h (by decide) (by decide))⟩, ⟨v4, one_setCell hbx4, ?_⟩, ?_⟩
  · refine G.heap h ?_
    rintro (rfl | h3)
    · rw [hbx] at h; injection h with h; subst h; cases ho
    · obtain ⟨cs, h6⟩ := own_blk hrow h3
      rw [h6] at h; injection h with h; subst h; cases ho
  · have h3 := own_gr (S := fun k => k = Bp) ho4 (Gr.of_grown hst (fun k hk => by injection hk with hk; exact hk.symm)) (fun k hk e => by subst e; exact own_ne_blk ho4 hbx4 (by decide) hk)
    simpa using h3
  · exact G.below hB hB.size (by
      rintro k (rfl | h)
      · exact hBp
      · exact own_ge hrow k h)
theorem wrap64_of {x : Int} (h0 : -9223372036854775808 ≤ x) (h1 : x ≤ 9223372036854775807) : wrap64 x = x := by
  unfold wrap64
  omega
theorem Below.drewN {n : Nat} {a b : World} (h : Below n a b) (k : Nat) : Below n a (b.drewN k) := ⟨h.os, h.tape, h.output, h.size, h.block⟩
theorem own_form {w : World} {base : Nat} {e : TypeId} {size : Nat} {v : Value} {n : Nat} {xs : List Value} (h : w.ownsRow base e size v n xs) : ∃ A c, v = .slice A n c := by
  rcases h.2 with ⟨rfl, h0⟩ | ⟨g, cap, _, rfl, _⟩
  · exact ⟨none, 0, by rw [h0]⟩
  · exact ⟨_, _, rfl⟩
/-- An end with a fault. -/
theorem read_bad {ss : List Sl} {l : Bytes} {b0 : Int} {w W : World} {D at_ why : Nat} {z : List PV} (h0 : (walkR l).2.2 = 0) (h : readGo l.length ss (walkR l).1 = (why, at_, z)) (hB : Below w.heap.size w W) (hK : W.heap[D]? = some (.deferred (some []))) (hD : w.heap.size ≤ D) (hw : why ≠ 0) :
    RPost ss l b0 w (.panicked [{ v := .iface 34 (faultC 0 (b0 + at_) why), recovered := false }]) (W.putObj D (.deferred none)) := by
  have e : readR ss l = (why, at_, z) := by unfold readR; rw [if_neg (by simpa using h0), h]
  refine ⟨hB.trans (belowK_b (w := w) (Nat.le_refl _) W D _ _ hD hK rfl rfl), fun _ => by rw [e], fun h => ?_⟩
  rw [e] at h
  exact absurd h hw
/-- A post that at a panic asks of the world alone. -/
def PanicQ (ds : List Deferred) (Rw : List PanicEntry → World → Prop) (Q : Exit → Act → World → Prop) : Exit → Act → World → Prop
  | .panic ch, a, w => a.defers = ds ∧ Rw ch w
  | e, a, w => Q e a w
@[go_sem] theorem panicQ_panic {ds : List Deferred} {Rw : List PanicEntry → World → Prop} {Q : Exit → Act → World → Prop} {ch : List PanicEntry} {a : Act} {w : World} : PanicQ ds Rw Q (.panic ch) a w = (a.defers = ds ∧ Rw ch w) := rfl
/-- At an end with a fault, ahead of the mark. -/
def EndOk (D : Nat) (ss : List Sl) (l : Bytes) (b0 : Int) (w : World) (ch : List PanicEntry) (W : World) : Prop := W.heap[D]? = some (.deferred (some [])) ∧ RPost ss l b0 w (.panicked ch) (W.putObj D (.deferred none))
theorem wp_region_panics {P : Program} {id : Nat} {ops : Array Oper} {b : Bool} {Q : Exit → Act → World → Prop} {a : Act} {w : World} (ds : List Deferred) (Rw : List PanicEntry → World → Prop) (hq : ∀ ch a w, a.defers = ds → Rw ch w → Q (.panic ch) a w)
    (h : (Code.region id ops b).wp P (PanicQ ds Rw Q) a w) : (Code.region id ops b).wp P Q a w :=
  Code.wp_mono (fun e a w h => by
    cases e <;> first | exact h | exact hq _ _ _ h.1 h.2) h
/-- An end with a value. -/
theorem read_good {ss : List Sl} {l : Bytes} {b0 : Int} {w W wr : World} {D : Nat} {zp : List (PV × Value)} {Ae : Option Addr} {ce : Nat} (h0 : (walkR l).2.2 = 0) (h : readGo l.length ss (walkR l).1 = (0, 0, zp.map (·.1)))
    (hB : Below w.heap.size w (((wr.setCell ⟨w.heap.size + 1, 0, none⟩ (.int .u64 0)).setCell ⟨w.heap.size + 1, 1, none⟩ (.slice none 0 0)).setCell ⟨w.heap.size + 1, 2, none⟩ (.slice Ae zp.length ce)))
    (hK : (((wr.setCell ⟨w.heap.size + 1, 0, none⟩ (.int .u64 0)).setCell ⟨w.heap.size + 1, 1, none⟩ (.slice none 0 0)).setCell ⟨w.heap.size + 1, 2, none⟩ (.slice Ae zp.length ce)).heap[D]? = some (.deferred (some []))) (hD : w.heap.size ≤ D)
    (hP : Parts W w.heap.size zp wr) (hpr : wr.ownsRow (W.heap.size + 1) 78 3 (.slice Ae zp.length ce) zp.length (zp.flatMap fun z => pcells z.1 z.2)) (hlW : w.heap.size + 1 < W.heap.size) (hXW : Ext w W) (hKr : wr.heap[D]? = some (.deferred (some [])))
    (hr1 : wr.heap[w.heap.size + 1]? = some (.cells #[.int .u64 0, .slice none 0 0, .slice none 0 0] 78 (0, 0))) :
    RPost ss l b0 w (.returned (.agg #[.int .u64 0, .slice none 0 0, .slice Ae zp.length ce])) ((((wr.setCell ⟨w.heap.size + 1, 0, none⟩ (.int .u64 0)).setCell ⟨w.heap.size + 1, 1, none⟩ (.slice none 0 0)).setCell ⟨w.heap.size + 1, 2, none⟩ (.slice Ae zp.length ce)).putObj D (.deferred none)) := by
  have e : readR ss l = (0, 0, zp.map (·.1)) := by unfold readR; rw [if_neg (by simpa using h0), h]
  have G : Gr (fun k => k = w.heap.size + 1 ∨ k = D) wr ((((wr.setCell ⟨w.heap.size + 1, 0, none⟩ (.int .u64 0)).setCell ⟨w.heap.size + 1, 1, none⟩ (.slice none 0 0)).setCell ⟨w.heap.size + 1, 2, none⟩ (.slice Ae zp.length ce)).putObj D (.deferred none)) := by
    refine (((Gr.of_grown (grown_store _ _ _ _) ?_).trans (Gr.of_grown (grown_store _ _ _ _) ?_)).trans (Gr.of_grown (grown_store _ _ _ _) ?_)).trans (Gr.of_grown (grownBy_putObj' _ D _) ?_)
    · exact fun k hk => .inl (by injection hk with hk; exact hk.symm)
    · exact fun k hk => .inl (by injection hk with hk; exact hk.symm)
    · exact fun k hk => .inl (by injection hk with hk; exact hk.symm)
    · exact fun k hk => .inr (by injection hk with hk; exact hk.symm)
  have hnD : ∀ {b1 : Nat} {e1 : TypeId} {s1 n1 : Nat} {v1 : Value} {xs1 : List Value}, wr.ownsRow b1 e1 s1 v1 n1 xs1 → v1.ownBlock ≠ some D := fun h1 hk => by
    obtain ⟨cs, h2⟩ := own_blk h1 hk
    rw [hKr] at h2
    cases h2
  refine ⟨hB.trans (belowK_b (w := w) (Nat.le_refl _) _ D _ _ hD hK rfl rfl), fun h => absurd (by rw [e]) h, fun _ => ⟨_, zp, rfl, ⟨?_, ?_, hP.2.2.1⟩, by rw [e]⟩⟩
  · have h1 := own_gr hpr G (by
      rintro k hk (rfl | rfl)
      · have := own_ge hpr _ hk; omega
      · exact hnD hpr hk)
    refine ⟨h1.1, ?_⟩
    rcases h1.2 with h2 | ⟨g, cap, cur, e1, hg, h3⟩
    · exact .inl h2
    · exact .inr ⟨g, cap, cur, e1, by have := hXW.size; omega, h3⟩
  · intro z hz
    have h1 := hP.2.1 z hz
    have h2 : OB wr w.heap.size z.2 z.1.data := h1.gr (S := fun k => W.heap.size ≤ k) ⟨hP.2.2.2.os, hP.2.2.2.tape, hP.2.2.2.output, hP.2.2.2.size, fun k hk hs => hP.2.2.2.block k (by omega)⟩ (fun k hk hs => by have := h1.lt k hk; omega)
    refine h2.gr G ?_
    rintro k hk (rfl | rfl)
    · exact own_ne_blk h2 hr1 (by decide) hk
    · exact hnD h2 hk
/-- What is wrong with the fields that were read: nothing, and of bytes no number, of numbers no bytes. -/
theorem okGo_mem : ∀ {fs : List Fld} {last : Nat}, okGo last fs → ∀ f ∈ fs, (f.ty = 2 → f.num = 0) ∧ (f.ty ≠ 2 → f.data = []) ∧ f.data.length ≤ (encB fs).length
  | [], _, _, f, hf => by simp at hf
  | g :: r, last, h, f, hf => by
    have e : encB (g :: r) = fldB g ++ encB r := by simp [encB]
    rw [e, List.length_append]
    rcases List.mem_cons.1 hf with rfl | hf
    · have h0 := wrong_0 h.1
      have := fldB_data f (by
        by_cases t : f.ty = 2
        · exact .inl t
        · exact .inr (h0.2.2.2.2.2.1 t))
      exact ⟨h0.2.2.2.2.1, h0.2.2.2.2.2.1, by omega⟩
    · obtain ⟨a, b, c⟩ := okGo_mem h.2.2 f hf
      exact ⟨a, b, by omega⟩
theorem walkR_mem {l : Bytes} (h : (walkR l).2.2 = 0) {x : Nat × Fld} (hx : x ∈ (walkR l).1) : (x.2.ty = 2 → x.2.num = 0) ∧ (x.2.ty ≠ 2 → x.2.data = []) ∧ x.2.data.length ≤ 4194304 := by
  obtain ⟨e1, e2, _, e4⟩ := enc_walk h
  obtain ⟨a, b, c⟩ := okGo_mem e2 x.2 (List.mem_map.2 ⟨x, hx, rfl⟩)
  rw [e1] at c
  exact ⟨a, b, by omega⟩
theorem badS_data {s : Sl} (h : s.kind = 5 ∨ s.kind = 6) (n m dl : Nat) : badS s n dl = badS s m dl := by unfold badS; rw [if_pos h, if_pos h]
theorem badS_num {s : Sl} (h : ¬ (s.kind = 5 ∨ s.kind = 6)) (n dl el : Nat) : badS s n dl = badS s n el := by unfold badS; rw [if_neg h, if_neg h]
/-- The parts' data are of the fields' data, or there are none. -/
def Linked (zp : List (PV × Value)) (ys : List (Fld × Value)) : Prop := ∀ i (h : i < zp.length), zp[i].2.ownBlock = none ∨ ∃ h2 : i < ys.length, zp[i].2 = ys[i].2
theorem Linked.push {zp : List (PV × Value)} {ys : List (Fld × Value)} (h : Linked zp ys) {z : PV × Value} (hz : z.2.ownBlock = none ∨ ∃ h2 : zp.length < ys.length, z.2 = ys[zp.length].2) : Linked (zp ++ [z]) ys := by
  intro i hi
  rcases Nat.lt_or_ge i zp.length with h1 | h1
  · have := h i h1
    simpa [List.getElem_append_left h1] using this
  · obtain rfl : i = zp.length := by simp at hi; omega
    simpa using hz
theorem apart_of {zp : List (PV × Value)} {ys : List (Fld × Value)} (h : Linked zp ys) (hp : ys.Pairwise (fun a b => apartV a.2 b.2)) {dv : Value} (hd : dv.ownBlock = none ∨ ∃ h2 : zp.length < ys.length, dv = ys[zp.length].2) : ∀ z ∈ zp, apartV z.2 dv := by
  intro z hz k hk hk2
  obtain ⟨i, hi, rfl⟩ := List.getElem_of_mem hz
  rcases hd with hd | ⟨h2, rfl⟩
  · rw [hd] at hk2; cases hk2
  · rcases h i hi with h3 | ⟨h3, e⟩
    · rw [h3] at hk; cases hk
    · have := List.pairwise_iff_getElem.1 hp i zp.length h3 h2 hi
      rw [e] at hk
      exact this k hk hk2
/-- A part more. -/
theorem parts_push {W wr w5 w6 : World} {base : Nat} {zp : List (PV × Value)} {p : PV} {dv pv v6 : Value} (hbv : wr.heap[W.heap.size]? = some (.cells #[.int .u64 0, .slice none 0 0, pv] 78 (0, 0)))
    (hpr : wr.ownsRow (W.heap.size + 1) 78 3 pv zp.length (zp.flatMap fun z => pcells z.1 z.2)) (hOB : ∀ z ∈ zp, OB W base z.2 z.1.data) (hap : zp.Pairwise (fun a b => apartV a.2 b.2)) (hB : Below W.heap.size W wr)
    (h5 : Ext wr w5) (hnew : OB W base dv p.data) (hap2 : ∀ z ∈ zp, apartV z.2 dv)
    (ho6 : w6.ownsRow (W.heap.size + 1) 78 3 v6 (zp.length + 1) ((zp.flatMap fun z => pcells z.1 z.2) ++ pcells p dv)) (hg6 : w5.grownBy w6 pv.ownBlock) :
    Parts W base (zp ++ [(p, dv)]) (w6.setCell ⟨W.heap.size, 2, none⟩ v6) := by
  have hne : some W.heap.size ≠ pv.ownBlock := fun e => by have := own_ge hpr _ e.symm; omega
  have hb6 : w6.heap[W.heap.size]? = some (.cells #[.int .u64 0, .slice none 0 0, pv] 78 (0, 0)) := (hg6.block _ (lt_of_heap (h5.heap hbv)) hne).trans (h5.heap hbv)
  have hst := grown_store w6 W.heap.size 2 v6
  refine ⟨⟨v6, ?_, ?_⟩, ?_, ?_, ?_⟩
  · simp [World.setCell, Array.getElem?_modify, hb6]
  · have h1 := own_gr (S := fun k => k = W.heap.size) ho6 (Gr.of_grown hst (fun k hk => by injection hk with hk; exact hk.symm)) (fun k hk e => by have := own_ge ho6 k hk; omega)
    simpa using h1
  · intro z hz
    rcases List.mem_append.1 hz with h | h
    · exact hOB z h
    · simp at h; subst h; exact hnew
  · rw [List.pairwise_append]
    refine ⟨hap, List.pairwise_singleton _ _, fun a ha b hb => ?_⟩
    simp at hb; subst hb
    exact hap2 a ha
  · have g1 : Gr (fun k => k = W.heap.size ∨ pv.ownBlock = some k) wr (w6.setCell ⟨W.heap.size, 2, none⟩ v6) :=
      ((Gr.of_ext h5).trans (Gr.of_grown hg6 (fun k hk => .inr hk))).trans (Gr.of_grown hst (fun k hk => .inl (by injection hk with hk; exact hk.symm)))
    refine g1.below hB hB.size ?_
    rintro k (rfl | h)
    · exact Nat.le_refl _
    · have := own_ge hpr k h; omega
theorem val_info : ElemInfo Tryz.prog 78 (.agg #[.int .u64 0, .slice none 0 0, .slice none 0 0]) 3 56 := by unfold ElemInfo; kernel_rfl
theorem pc_one (n : Int) (D : Option Addr) (dl cd : Nat) : ∀ u ∈ (#[.int .u64 n, .slice D dl cd, .slice none 0 0] : Array Value).toList, u.oneCell' = true := by
  intro u hu
  simp at hu
  rcases hu with rfl | rfl | rfl <;> rfl
/-- The load of v.Parts, under a name: it is carried out where it comes up. -/
def op87 : Oper := { dst := some 87, op := Op.load 76 (Operand.tmp 86), type := 76, pos := "schema.go:224", after := #[{ on := 0, ground := Ground.data }], guard := none }
@[go_sem] theorem op87_eq : op87 = { dst := some 87, op := Op.load 76 (Operand.tmp 86), type := 76, pos := "schema.go:224", after := #[{ on := 0, ground := Ground.data }], guard := none } := rfl
theorem panicQ_normal {ds : List Deferred} {Rw : List PanicEntry → World → Prop} {Q : Exit → Act → World → Prop} {a : Act} {w : World} : PanicQ ds Rw Q .normal a w = Q .normal a w := rfl
set_option maxRecDepth 100000 in
set_option maxHeartbeats 8000000 in
theorem codec_read (C base : Nat) (xs : List SlP) (A : Option Addr) (c : Nat) (l : Bytes) (b0 : Int) (w : World) (hb0 : 0 ≤ b0) (hb1 : b0 ≤ 1099511627776) (hc : CodecAt w base C xs) (hr : RB w A l) (hA : ∀ a, A = some a → a.block < w.heap.size) (hlc : l.length ≤ c) (hcc : c ≤ 9223372036854775807)
    (h1 : 1 ≤ xs.length) (h64 : xs.length ≤ 64) (hk : ∀ x ∈ xs, x.1.kind = 1 ∨ x.1.kind = 2 ∨ x.1.kind = 4 ∨ x.1.kind = 5) :
    Calls Tryz.prog 74 #[.pointer (some ⟨C, 0, none⟩), .slice A l.length c, .int .i64 b0] w (RPost (xs.map (·.1)) l b0 w) := by
  obtain ⟨v, p, q, hcd, hsl⟩ := hc
  have X0 : Ext w ((w.alloc (.cells #[.int .i64 b0] 3 (0, 0))).alloc (.cells #[.int .u64 0, .slice none 0 0, .slice none 0 0] 78 (0, 0))) := ((Ext.refl _).alloc _).alloc _
  have hbb := old_blk (new_blk w (.cells #[.int .i64 b0] 3 (0, 0))) (.cells #[.int .u64 0, .slice none 0 0, .slice none 0 0] 78 (0, 0))
  have hrb := new_blk (w.alloc (.cells #[.int .i64 b0] 3 (0, 0))) (.cells #[.int .u64 0, .slice none 0 0, .slice none 0 0] 78 (0, 0))
  rw [World.size_alloc] at hrb
  refine (callsIn_wide (n := 9)).1 (callsIn_of_wp_marks Tryz.func74 rfl trivial ?_)
  simp only [Tryz.ntmps74, List.size_toArray, List.length_cons, List.length_nil, Nat.reduceAdd, Nat.reduceSub, Array.replicate_succ, Array.replicate_zero, List.push_toArray, List.append_toArray, List.nil_append, List.cons_append]
  refine wpIn_wide.2 ?_
  go_wp2_with fail
  have hA2 : ∀ a, A = some a → a.block < ((w.alloc (.cells #[.int .i64 b0] 3 (0, 0))).alloc (.cells #[.int .u64 0, .slice none 0 0, .slice none 0 0] 78 (0, 0))).heap.size := fun a e => Nat.lt_of_lt_of_le (hA a e) X0.size
  refine (decode_any A c l _ (hr.ext X0) hA2 hlc hcc).mono ?_
  rintro e w1 ⟨lv, ys, rfl, hof, hys, hx1⟩
  have X1 := X0.trans hx1
  have c1 := cell_of_one (hx1.heap hbb)
  have hat := (walkR_at l).1
  by_cases he : (walkR l).2.2 = 0
  · rw [if_pos he] at hys
    rw [if_pos he, he]
    obtain ⟨Af, cf, rfl, hfc, hfb⟩ := of_reads hof
    have hyl : ys.length = (walkR l).1.length := by have := congrArg List.length hys; simpa using this
    have HOF := Lib.hid hof
    have HYS := Lib.hid hys
    have HHE := Lib.hid he
    have HCD := Lib.hid (X1.heap hcd)
    have HSL := Lib.hid hsl
    have HBB := Lib.hid (hx1.heap hbb)
    have HRB := Lib.hid (hx1.heap hrb)
    have HFC := Lib.hid hfc
    have HR := Lib.hid hr
    clear hof hys he hr hA hcd hsl hbb hrb hfc hat hA2
    have hn64 := walkR_len l
    obtain ⟨ii, hi, hz0, hz1, hz2⟩ := info_parts int_info
    obtain ⟨w2, hmk, hpl, hgr2⟩ := run_make_own (P := Tryz.prog) w1 w1.heap.size 105 3 ii (.int .i64 0) 1 Tryz.underlying105 hi hz0 hz1 .i64 .i64 (walkR l).1.length (by rw [hz2]; omega) (by simp only [maxLen]; omega) (Nat.le_refl _)
    have HPL := Lib.hid hpl
    have X2 := Ext.of_grown hgr2
    clear hpl hgr2 hi hz0 hz1 hz2
    have hsh := walkR_short HHE.out
    have hb8 := new_blk w2 (.cells #[.slice (some ⟨w1.heap.size, 0, none⟩) 0 (walkR l).1.length] 105 (0, 0))
    go_upto_region 5 with (fail)
    go_wp2_with fail
    refine (fields_any A c l.length _).mono ?_
    rintro e w3 ⟨rfl, rfl⟩
    go_wp2_with fail
    obtain ⟨W3, hW3⟩ : ∃ W3, (w2.alloc (.cells #[.slice (some ⟨w1.heap.size, 0, none⟩) 0 (walkR l).1.length] 105 (0, 0))).alloc (.cells #[.slice A l.length c] 22 (0, 0)) = W3 := ⟨_, rfl⟩
    rw [hW3]
    have X23 : Ext w2 W3 := by rw [← hW3]; exact ((Ext.refl _).alloc _).alloc _
    have hBs := new_blk (w2.alloc (.cells #[.slice (some ⟨w1.heap.size, 0, none⟩) 0 (walkR l).1.length] 105 (0, 0))) (.cells #[.slice A l.length c] 22 (0, 0))
    rw [World.size_alloc, hW3] at hBs
    have hb9 : W3.heap[w2.heap.size]? = some (.cells #[.slice (some ⟨w1.heap.size, 0, none⟩) 0 (walkR l).1.length] 105 (0, 0)) := by rw [← hW3]; exact old_blk hb8 _
    have hseq := fields1_seq 8 (w2.heap.size + 1) A c l W3 (((HR.out.ext X1).ext X2).ext X23) hlc hcc hsh (cell_of_one hBs)
    have hI0 : PlI w1 w2.heap.size b0 [] W3 := ⟨⟨_, hb9, own_gr (S := fun _ => False) HPL.out (Gr.of_ext X23) (fun _ _ => id)⟩, X2.trans X23⟩
    clear hW3 hb8
    refine (wpIn_wide (n := 9)).1 ?_
    refine wpIn_rangeFunc_ownF (F := Fence.wide) (n := 9) rfl (by decide) (gf := 122) (lb := #[.pointer (some ⟨w2.heap.size + 1, 0, none⟩)]) rfl trivial (enters_of Tryz.func122 (by kernel_rfl) rfl) hseq KpB.trans (KpB.put (w := W3)) (Below.refl _ _) (fun _ => rfl)
      (PlI w1 w2.heap.size b0) (fun _ _ _ => False) (plI_own (by have := X2.size; have := X23.size; omega)) (fun _ _ _ _ _ hs _ _ => hs) hI0 ?a1 ?assign ?body ?done ?stop
    case assign =>
      intro lp x W K hK
      simp only [itemV, List.zip_toArray, List.foldl_toArray', List.size_toArray, List.zip_cons_cons, List.zip_nil_right, List.foldl_cons, List.foldl_nil, List.setIfInBounds_toArray, List.set_cons_succ, List.set_cons_zero]
      gi_wp2
      exact hK
    case body =>
      rintro lp pre x W ⟨⟨v3, hbx, hrow⟩, hB⟩ hpn
      have q1 := cell_of_one hbx
      have q2 := free_of_one hbx
      have q3 : W.cell? ⟨w.heap.size, 0, none⟩ = some (.int .i64 b0) := (World.cell?_of_block (hB.block w.heap.size (lt_of_cell c1))).trans c1
      have hbl := lt_of_heap hbx
      obtain ⟨ii, hi, hz0, hz1, hz2⟩ := info_parts int_info
      clear hmk
      gi_wp2_with (gi_at_builtin; refine wpListIn_append_own _ rfl (.tmp 35) (.tmp 39) 105 rfl w1.heap.size 3 ii (.int .i64 0) 1 8 Tryz.underlying105 hi hz0 hz1 hz2 rfl (by decide) v3 pre.length _ rfl (hrow.alloc _) ⟨W.heap.size, 0, none⟩ 1 1 [.int .i64 (wrap64 (b0 + x.1))] rfl rfl (cell_one_new _ _ _) (by simp [Value.oneCell']) (by simp only [maxLen]; omega) (by omega) (by have := hB.size; simp; omega) ?_; intro v4 w4 ho4 hg4 _; obtain ⟨g4, c4, rfl⟩ := own_succ ho4; have hbx4 := (hg4.block w2.heap.size (lt_of_heap (old_blk hbx _)) (fun e => own_ne_blk hrow hbx (by decide) e.symm)).trans (old_blk hbx _); have q4 := cell_of_one hbx4; have q5 := free_of_one hbx4)
      exact body_end hbx hrow hB hbx4 ho4 hg4 (by have := X2.size; omega)
    case done =>
      rintro D zs W hD hall ⟨⟨v3, hbx, hrow⟩, hB⟩ hK
      have hWl : w1.heap.size ≤ W.heap.size := hB.size
      have XW : Ext w W := Below.trans X1 (Below.mono hB X1.size)
      have hc1 : W.cell? ⟨w.heap.size, 0, none⟩ = some (.int .i64 b0) := (World.cell?_of_block (hB.block w.heap.size (lt_of_cell c1))).trans c1
      have hcdW : W.heap[C]? = some (.cells #[v, .int .i64 p, .int .i64 q] 159 (0, 0)) := (hB.block C (lt_of_heap HCD.out)).trans HCD.out
      have hrbW : W.heap[w.heap.size + 1]? = some (.cells #[.int .u64 0, .slice none 0 0, .slice none 0 0] 78 (0, 0)) := (hB.block _ (lt_of_heap HRB.out)).trans HRB.out
      have hslW : SlotsAt W base v xs := ⟨own_gr (S := fun _ => False) HSL.out.1 (Gr.of_ext XW) (fun _ _ => id), fun x hx => (HSL.out.2 x hx).ext XW⟩
      obtain ⟨g, o, cap, rfl, hsc, hgb⟩ := slots_read hslW h1
      obtain ⟨Ap, cp, rfl, hpc⟩ := ints_read hrow
      have hzl : zs.length = (walkR l).1.length := by have := congrArg List.length hall; simpa using this
      have e0 := (blk3 hcdW).1
      have e1 := cell_of_one hbx
      have HPC := Lib.hid hpc
      have HSCW := Lib.hid hsc
      have HSLW := Lib.hid hslW
      have HALL := Lib.hid hall
      have HROW := Lib.hid hrow
      have HBX := Lib.hid hbx
      have HCDW := Lib.hid hcdW
      have HRBW := Lib.hid hrbW
      have HKK := Lib.hid hK
      rw [hzl] at e1
      clear hpc hsc hslW hall hrow hbx hcdW hrbW hgb hK hmk hseq hI0 hb9 hBs c1 HR
      have hCl : C < W.heap.size := lt_of_cell e0
      have hwl : w.heap.size < W.heap.size := lt_of_cell hc1
      have hBl : w2.heap.size < W.heap.size := lt_of_cell e1
      have hv0 := new_blk W (.cells #[.int .u64 0, .slice none 0 0, .slice none 0 0] 78 (0, 0))
      have HV0 := Lib.hid hv0
      clear hv0
      go_wp2
      go_loopw [46] (fun i wr => ∃ (j : Nat) (zp : List (PV × Value)), j ≤ xs.length ∧ i = .int .i64 j ∧ Hid (ReadMid l.length (xs.map (·.1)) (walkR l).1 j (zp.map (·.1))) ∧ Hid (Parts W w.heap.size zp wr) ∧ Hid (Linked zp ys)) (fun i _ => xs.length - (intOf i).toNat)
      case atStart => exact ⟨0, [], by omega, rfl, Lib.hid (ReadMid.nil _ _ _), Lib.hid ⟨⟨_, HV0.out, World.ownsRow_nil _ _ _ _⟩, by simp, List.Pairwise.nil, (Below.refl _ _).alloc (Nat.le_refl _) _⟩, Lib.hid (fun i h => by simp at h)⟩
      case round =>
        obtain ⟨j, zp, hj, rfl, HM, HP, HLK⟩ := hrel
        by_cases hlt : j < xs.length
        · obtain ⟨pv, hbv, hpr⟩ := HP.out.1
          have hbel := HP.out.2.2.2
          have hcw : ∀ {a : Addr} {u : Value}, W.cell? a = some u → wr.cell? a = some u := fun h => (World.cell?_of_block (hbel.block _ (lt_of_cell h))).trans h
          have d1 := hcw hc1
          have d2 := hcw e1
          obtain ⟨f1, f2, cc, hsf⟩ := slotC_form xs[j].1 xs[j].2.1 xs[j].2.2
          have HSF := Lib.hid hsf
          have hs5 := fun k (h : k < 5) => HSCW.out j hlt k h
          rw [hsf] at hs5
          have s0 := hcw (show W.cell? ⟨g, o + j * 5, none⟩ = some (.int .i64 xs[j].1.no) by have := hs5 0 (by decide); simpa using this)
          have s1 := hcw (show W.cell? ⟨g, o + j * 5 + 1, none⟩ = some (.int .i64 (wireK xs[j].1.kind)) by have := hs5 1 (by decide); simpa using this)
          have s2 := hcw (show W.cell? ⟨g, o + j * 5 + 2, none⟩ = some (.func (.func 110) #[] #[.pointer (some ⟨xs[j].2.1, 0, none⟩), .pointer (some ⟨xs[j].2.2, 0, none⟩)]) by have := hs5 2 (by decide); simpa using this)
          have s3 := hcw (show W.cell? ⟨g, o + j * 5 + 3, none⟩ = some (.func (.func f1) #[] #[]) by have := hs5 3 (by decide); simpa using this)
          have s4 := hcw (show W.cell? ⟨g, o + j * 5 + 4, none⟩ = some (.func (.func f2) #[] cc) by have := hs5 4 (by decide); simpa using this)
          have hxl : (xs.map (·.1)).length = xs.length := by simp
          have l1 : w.heap.size < wr.heap.size := lt_of_cell d1
          have l2 : w2.heap.size < wr.heap.size := lt_of_cell d2
          have hKr : wr.heap[D]? = some (.deferred (some [])) := (hbel.block D (lt_of_heap HKK.out)).trans HKK.out
          have HKR := Lib.hid hKr
          have hBW : Below w.heap.size w wr := Below.trans XW (Below.mono hbel XW.size)
          clear hs5 hsf hbv hpr hKr
          by_cases hje : (walkR l).1.length = j
          · have HE := Lib.hid (HM.out.short (by rw [hxl]; exact hlt) hje)
            have tj : ((j : Int) == ((walkR l).1.length : Int)) = true := by simp; omega
            go_wp2_with fail
            refine (give_any _ _ _ _).mono ?_
            rintro e w4 ⟨rfl, rfl⟩
            go_wp2
            refine leavesM_panic (D := D) (old_blk HKR.out _) ?_
            exact read_bad HHE.out HE.out (hBW.alloc (by have := hBW.size; omega) _) (old_blk HKR.out _) (by have := X2.size; have := X23.size; have := X1.size; omega) (by decide)
          · have hjf : j < (walkR l).1.length := by have := HM.out.2.1; omega
            have hjy : j < ys.length := by omega
            have hyj : ys[j].1 = (walkR l).1[j].2 := by
              have h := congrArg (fun (t : List Fld) => t[j]?) HYS.out
              simpa [hjy, hjf] using h
            have hzj : zs[j]?.map (·.1) = some (walkR l).1[j].1 := by
              have h := congrArg (fun (t : List (Nat × Fld)) => t[j]?) HALL.out
              simp only [List.getElem?_map, List.getElem?_eq_getElem hjf] at h
              cases hz : zs[j]? with
              | none => rw [hz] at h; simp at h
              | some z => rw [hz] at h; simp only [Option.map_some, Option.some.injEq] at h; rw [← h]; rfl
            obtain ⟨gf, fo, hAf, hfk⟩ := HFC.out j hjy
            subst hAf
            have hcw1 : ∀ {a : Addr} {u : Value}, w1.cell? a = some u → wr.cell? a = some u := fun h => hcw ((World.cell?_of_block (hB.block _ (lt_of_cell h))).trans h)
            have t0 := hcw1 (show w1.cell? ⟨gf, fo + j * 4, none⟩ = some (.int .i64 ys[j].1.no) by have := hfk 0 (by decide); simpa [fcells] using this)
            have t1 := hcw1 (show w1.cell? ⟨gf, fo + j * 4 + 1, none⟩ = some (.int .i64 ys[j].1.ty) by have := hfk 1 (by decide); simpa [fcells] using this)
            have t2 := hcw1 (show w1.cell? ⟨gf, fo + j * 4 + 2, none⟩ = some (.int .u64 ys[j].1.num) by have := hfk 2 (by decide); simpa [fcells] using this)
            have t3 := hcw1 (show w1.cell? ⟨gf, fo + j * 4 + 3, none⟩ = some ys[j].2 by have := hfk 3 (by decide); simpa [fcells] using this)
            rw [hyj] at t0 t1 t2
            obtain ⟨gp, po, hAp, hpk⟩ := HPC.out j (by omega)
            subst hAp
            have hpl64 := (walkR_at l).2 _ (List.getElem_mem hjf)
            have t4W : W.cell? ⟨gp, po + j, none⟩ = some (.int .i64 (b0 + (walkR l).1[j].1)) := by
              refine hpk.trans ?_
              rw [List.getElem?_map]
              cases hz : zs[j]? with
              | none => rw [hz] at hzj; simp at hzj
              | some z =>
                rw [hz] at hzj
                simp only [Option.map_some, Option.some.injEq] at hzj ⊢
                rw [hzj]
                congr 1
                have : (0 : Int) ≤ b0 + ((walkR l).1[j].1 : Int) := by omega
                rw [wrap64_of (by omega) (by omega)]
            have t4 := hcw t4W
            have HYJ := Lib.hid hyj
            have HOB := Lib.hid (HOF.out.2.1 ys[j] (List.getElem_mem hjy))
            have l3 : gf < wr.heap.size := lt_of_cell t0
            have l4 : gp < wr.heap.size := lt_of_cell t4
            have l5 : gp < W.heap.size := lt_of_cell t4W
            have l6 : gf < W.heap.size := Nat.lt_of_lt_of_le (lt_of_cell (show w1.cell? ⟨gf, fo + j * 4, none⟩ = some (.int .i64 ys[j].1.no) by have := hfk 0 (by decide); simpa [fcells] using this)) hWl
            clear hfk hpk hzj hyj hcw hcw1 t4W
            have tj : ((j : Int) == ((walkR l).1.length : Int)) = false := by simp; omega
            by_cases hno : (walkR l).1[j].2.no = xs[j].1.no
            · by_cases hty : (walkR l).1[j].2.ty = wireK xs[j].1.kind
              · have tn : ((((walkR l).1[j].2.no : Nat) : Int) != (xs[j].1.no : Int)) = false := by simp [hno]
                have tt : ((((walkR l).1[j].2.ty : Nat) : Int) != (wireK xs[j].1.kind : Int)) = false := by simp [hty]
                have hm7 := fun h6 => HM.out.step (by rw [hxl]; exact hlt) hjf (by simpa using hno) (by simpa using hty) h6
                have hm8 := fun h6 => HM.out.bad (by rw [hxl]; exact hlt) hjf (by simpa using hno) (by simpa using hty) h6
                have HM7 := Lib.hid hm7
                have HM8 := Lib.hid hm8
                have HNO := Lib.hid hno
                have HTY := Lib.hid hty
                obtain ⟨pv2, hbv2, hpr2⟩ := HP.out.1
                have v2c := (blk3 hbv2).2.2.1
                have v2f := (blk3 hbv2).2.2.2.2.2
                have HBV2 := Lib.hid hbv2
                have HPR2 := Lib.hid hpr2
                clear hm7 hm8 hno hty hbv2 hpr2
                go_wp2_with fail
                go_quiet (fail)
                go_wp2_with fail
                go_quiet (fail)
                go_wp2_with fail
                obtain ⟨W0, hW0⟩ : ∃ W0, (wr.alloc (.cells #[.int .i64 xs[j].1.no, .int .i64 (wireK xs[j].1.kind), .func (.func 110) #[] #[.pointer (some ⟨xs[j].2.1, 0, none⟩), .pointer (some ⟨xs[j].2.2, 0, none⟩)], .func (.func f1) #[] #[], .func (.func f2) #[] cc] 163 (0, 0))) = W0 := ⟨_, rfl⟩
                rw [hW0]
                have X0W : Ext wr W0 := by rw [← hW0]; exact (Ext.refl _).alloc _
                have kb : W0.heap[wr.heap.size]? = some (.cells #[.int .i64 xs[j].1.no, .int .i64 (wireK xs[j].1.kind), .func (.func 110) #[] #[.pointer (some ⟨xs[j].2.1, 0, none⟩), .pointer (some ⟨xs[j].2.2, 0, none⟩)], .func (.func f1) #[] #[], .func (.func f2) #[] cc] 163 (0, 0)) := by rw [← hW0]; exact new_blk _ _
                have k4 := (blk5 kb).2.2.2.2.1
                obtain ⟨Ad, cd2, hyd, hyd1, hyd2, hyd3, hyd4⟩ := HOB.out.reads
                rw [hyd] at t3
                have hfl2 : ys[j].1.data.length = (walkR l).1[j].2.data.length := by rw [HYJ.out]
                rw [hfl2] at t3
                have g0 := X0W.cell t0
                have g1 := X0W.cell t1
                have g2 := X0W.cell t2
                have g3 := X0W.cell t3
                have g4 := X0W.cell d2
                have g5 := X0W.cell t4
                have g6 := X0W.cell v2c
                clear hW0
                by_cases hdk : xs[j].1.kind = 5 ∨ xs[j].1.kind = 6
                · have h7 := HSF.out
                  unfold slotC at h7
                  rw [if_pos hdk, if_pos hdk] at h7
                  simp at h7
                  obtain ⟨rfl, rfl, rfl⟩ := h7
                  have h6 : xs[j].1.kind ≠ 6 := by have := hk xs[j] (List.getElem_mem hlt); omega
                  have hSA := (HSLW.out.2 xs[j] (List.getElem_mem hlt)).1
                  have hSr : W0.heap[xs[j].2.1]? = some (.cells #[shV xs[j].1] 187 (0, 0)) := X0W.heap ((hbel.block _ (lt_of_heap hSA)).trans hSA)
                  have HSr := Lib.hid hSr
                  obtain ⟨hm0, hm1, hm2⟩ := walkR_mem HHE.out (List.getElem_mem hjf)
                  have hdl4 : (walkR l).1[j].2.data.length ≤ 4611686018427387904 := by omega
                  have hDl : w.heap.size ≤ D := by have := X2.size; have := X23.size; have := X1.size; omega
                  have heb := badS_data hdk 0 (walkR l).1[j].2.num (walkR l).1[j].2.data.length
                  have hgn : (xs.map (·.1))[j]'(by rw [hxl]; exact hlt) = xs[j].1 := by simp
                  have HEND : Hid (∀ w5, Ext W0 w5 → badS xs[j].1 0 (walkR l).1[j].2.data.length ≠ 0 → EndOk D (xs.map (·.1)) l b0 w [{ v := .iface 34 (faultC 0 (b0 + (walkR l).1[j].1) (badS xs[j].1 0 (walkR l).1[j].2.data.length : Nat)), recovered := false }] w5) := Lib.hid (by
                    intro w5 h5 hb
                    rw [heb] at hb ⊢
                    have h7 := HM8.out (by rw [hgn]; exact hb)
                    rw [hgn] at h7
                    exact ⟨h5.heap (X0W.heap HKR.out), read_bad HHE.out h7 (Below.trans hBW (Below.mono (X0W.trans h5) hBW.size)) (h5.heap (X0W.heap HKR.out)) hDl hb⟩)
                  have hdvl : ((.slice Ad (walkR l).1[j].2.data.length cd2) : Value).ownBlock = none ∨ ∃ h2 : zp.length < ys.length, ((.slice Ad (walkR l).1[j].2.data.length cd2) : Value) = ys[zp.length].2 := by
                    have ez : zp.length = j := by have := HM.out.2.2.1; simpa using this
                    refine .inr ⟨by omega, ?_⟩
                    simp only [ez, hyd, hfl2]
                  have hdvo : OB W w.heap.size ((.slice Ad (walkR l).1[j].2.data.length cd2) : Value) (⟨(walkR l).1[j].2.num, (walkR l).1[j].2.data⟩ : PV).data := by
                    have h8 := HOB.out
                    rw [hyd, HYJ.out] at h8
                    exact (h8.gr (S := fun _ => False) (Gr.of_ext (show Ext w1 W from hB)) (fun _ _ => id)).base (by have := X0.size; omega)
                  have hcl : pcells (⟨(walkR l).1[j].2.num, (walkR l).1[j].2.data⟩ : PV) (.slice Ad (walkR l).1[j].2.data.length cd2) = [.int .u64 0, .slice Ad (walkR l).1[j].2.data.length cd2, .slice none 0 0] := by
                    unfold pcells
                    rw [show ((walkR l).1[j].2.num) = 0 from hm0 (by rw [HTY.out]; unfold wireK; (repeat' split) <;> omega)]
                    rfl
                  have HFIN : Hid (∀ w5 w6 v6, Ext W0 w5 → w6.ownsRow (W.heap.size + 1) 78 3 v6 (zp.length + 1) ((zp.flatMap fun z => pcells z.1 z.2) ++ [.int .u64 0, .slice Ad (walkR l).1[j].2.data.length cd2, .slice none 0 0]) → w5.grownBy w6 pv2.ownBlock → badS xs[j].1 0 (walkR l).1[j].2.data.length = 0 →
                      ∃ zn, zn.length = j + 1 ∧ Hid (ReadMid l.length (xs.map (·.1)) (walkR l).1 (j + 1) (zn.map (·.1))) ∧ Hid (Parts W w.heap.size zn (w6.setCell ⟨W.heap.size, 2, none⟩ v6)) ∧ Hid (Linked zn ys)) := Lib.hid (by
                    intro w5 w6 v6 h5 ho hg hb
                    rw [← hcl] at ho
                    have ez : zp.length = j := by have := HM.out.2.2.1; simpa using this
                    refine ⟨zp ++ [((⟨(walkR l).1[j].2.num, (walkR l).1[j].2.data⟩ : PV), (.slice Ad (walkR l).1[j].2.data.length cd2))], by simp [ez], Lib.hid ?_, Lib.hid ?_, Lib.hid ?_⟩
                    · rw [List.map_append]
                      exact HM7.out (by rw [hgn, ← heb]; exact hb)
                    · exact parts_push HBV2.out HPR2.out HP.out.2.1 HP.out.2.2.1 hbel (X0W.trans h5) hdvo (apart_of HLK.out HOF.out.2.2 hdvl) ho hg
                    · exact HLK.out.push hdvl)
                  have hzl : zp.length = j := by have := HM.out.2.2.1; simpa using this
                  have HSF : Hid (∀ w', Gr (fun k => k = W.heap.size ∨ pv2.ownBlock = some k) W0 w' → w'.cell? ⟨wr.heap.size, 4, none⟩ = some (.func (.func 116) #[] #[.pointer (some ⟨xs[j].2.1, 0, none⟩)]) ∧ w'.cell? ⟨gf, fo + j * 4, none⟩ = some (.int .i64 (walkR l).1[j].2.no) ∧ w'.cell? ⟨gf, fo + j * 4 + 1, none⟩ = some (.int .i64 (walkR l).1[j].2.ty) ∧ w'.cell? ⟨gf, fo + j * 4 + 2, none⟩ = some (.int .u64 (walkR l).1[j].2.num) ∧ w'.cell? ⟨gf, fo + j * 4 + 3, none⟩ = some (.slice Ad (walkR l).1[j].2.data.length cd2) ∧ w'.cell? ⟨w2.heap.size, 0, none⟩ = some (.slice (some ⟨gp, po, none⟩) (walkR l).1.length cp) ∧ w'.cell? ⟨gp, po + j, none⟩ = some (.int .i64 (b0 + (walkR l).1[j].1))) := Lib.hid (by
                    intro w' hg
                    have hlo : ∀ k, k < W.heap.size → ¬ (k = W.heap.size ∨ pv2.ownBlock = some k) := by
                      rintro k hk' (rfl | h)
                      · omega
                      · have := own_ge HPR2.out k h; omega
                    have hhi : ¬ (wr.heap.size = W.heap.size ∨ pv2.ownBlock = some wr.heap.size) := by
                      rintro (h | h)
                      · have := lt_of_heap HBV2.out; omega
                      · have := (World.ownsRow.lt HPR2.out _ h).2; omega
                    exact ⟨hg.cell k4 hhi, hg.cell g0 (hlo _ l6), hg.cell g1 (hlo _ l6), hg.cell g2 (hlo _ l6), hg.cell g3 (hlo _ l6), hg.cell g4 (hlo _ hBl), hg.cell g5 (hlo _ l5)⟩)
                  have hvf : W0.frozen? ⟨W.heap.size, 2, none⟩ = false := (blk3 (X0W.heap HBV2.out)).2.2.2.2.2
                  have HBW0 := Lib.hid (X0W.heap HBV2.out)
                  have HPR0 := Lib.hid (show W0.ownsRow (W.heap.size + 1) 78 3 pv2 zp.length (zp.flatMap fun z => pcells z.1 z.2) from own_gr (S := fun _ => False) HPR2.out (Gr.of_ext X0W) (fun _ _ => id))
                  have hvlt : W.heap.size < W0.heap.size := lt_of_heap HBW0.out
                  have HPNE := Lib.hid (show some W.heap.size ≠ pv2.ownBlock from fun e => by have := own_ge HPR2.out _ e.symm; omega)
                  clear hm0 hm1 hm2 heb hgn hdvl hdvo hcl hSr hSA
                  refine wp_region_panics [{ target := .collected D, args := #[] }] (EndOk D (xs.map (·.1)) l b0 w) ?hpq ?hpr
                  case hpq =>
                    rintro ch a W hd ⟨h1, h2⟩
                    show LeavesInM _ _ _ _ a.tmps _ a.defers _ _
                    rw [hd]
                    exact leavesM_panic h1 h2
                  case hpr =>
                    generalize (walkR l).1[j].2.data.length = dl at *
                    generalize (walkR l).1[j].2.no = fno at *
                    generalize (walkR l).1[j].2.ty = fty at *
                    generalize (walkR l).1[j].2.num = fnum at *
                    generalize (walkR l).1[j].1 = pl at *
                    rw [← op87_eq]
                    go_region_held2 (fun w' => w'.cell? ⟨wr.heap.size, 4, none⟩ = some (.func (.func 116) #[] #[.pointer (some ⟨xs[j].2.1, 0, none⟩)]) ∧ w'.cell? ⟨gf, fo + j * 4, none⟩ = some (.int .i64 fno) ∧ w'.cell? ⟨gf, fo + j * 4 + 1, none⟩ = some (.int .i64 fty) ∧ w'.cell? ⟨gf, fo + j * 4 + 2, none⟩ = some (.int .u64 fnum) ∧ w'.cell? ⟨gf, fo + j * 4 + 3, none⟩ = some (.slice Ad dl cd2) ∧ w'.cell? ⟨w2.heap.size, 0, none⟩ = some (.slice (some ⟨gp, po, none⟩) (walkR l).1.length cp) ∧ w'.cell? ⟨gp, po + j, none⟩ = some (.int .i64 (b0 + pl)))
                      (first
                        | exact HSF.out _ (Gr.of_ext (Ext.drew (Ext.drewN (Ext.drewN (Ext.refl _) _) _)))
                        | exact HSF.out _ (Gr.of_ext (Ext.drewN (Ext.refl _) _))
                        | exact HSF.out _ (Gr.of_ext hy5)
                        | exact HSF.out _ (Gr.of_ext (Ext.alloc hy5 _))
                        | exact HSF.out _ hG6
                        | exact HSF.out _ (Gr.trans hG6 (Gr.of_grown (grown_store _ W.heap.size 2 _) (fun k hk => .inl (by injection hk with hk; exact hk.symm)))))
                      (first
                        | (go_at_call 116; go_must (refine (read_data xs[j].1 h6 xs[j].2.1 fno fty fnum Ad dl cd2 (b0 + pl) (W0.drewN _) hdl4 HSr.out).mono ?_; rintro e w5 ⟨he, hx5⟩; have hy5 := Ext.trans (Ext.drewN (Ext.refl W0) _) hx5; by_cases hbd : badS xs[j].1 0 dl = 0; rotate_left; (rw [if_neg hbd] at he; subst he; first | exact HEND.out w5 hy5 hbd | exact ⟨rfl, HEND.out w5 hy5 hbd⟩); rw [if_pos hbd] at he; subst he; have HBD := Lib.hid hbd; clear hbd; obtain ⟨o1, o2, o3, o4, o5, o6, o7⟩ := HSF.out w5 (Gr.of_ext hy5); have o8 := hy5.cell g6; have o9 := World.new_ne w5 _ o8; simp only at o9; have hv5 : W.heap.size < w5.heap.size := lt_of_cell o8; unfold valC))
                        | (refine step_app1 (by rfl) (.tmp 87) (.tmp 99) (by rfl) Tryz.underlying76 val_info (by rfl) (by decide) (by rfl) (own_gr (S := fun _ => False) HPR0.out (Gr.of_ext hy5) (fun _ _ => id)) #[.int .u64 0, .slice Ad dl cd2, .slice none 0 0] (0, 0) (by rfl) (pc_one 0 Ad dl cd2) 1 (by rfl) (by simp only [maxLen]; omega) (by omega) (by omega) ?_; intro v6 w6 ho6 hg6 hat6; obtain ⟨g7, c7, rfl⟩ := own_succ ho6; obtain ⟨u1, u2, u3, u4, u5, u6⟩ := blk3 ((hg6.block W.heap.size (by omega) HPNE.out).trans (hy5.heap HBW0.out)); have hG6 := (Gr.of_ext (S := fun k => k = W.heap.size ∨ pv2.ownBlock = some k) hy5).trans (Gr.of_grown hg6 (fun k hk => .inr hk)); obtain ⟨zn, z1, z2, z3, z4⟩ := HFIN.out w5 w6 _ hy5 ho6 hg6 HBD.out; clear ho6))
                    all_goals
                      rw [panicQ_normal]
                      go_wp2
                      rw [hzl] at z3
                      exact ⟨⟨j + 1, zn, by omega, by simp, z2, z3, z4⟩, by simp [intOf]; omega⟩
                · have h7 := HSF.out
                  unfold slotC at h7
                  rw [if_neg hdk, if_neg hdk] at h7
                  simp at h7
                  obtain ⟨rfl, rfl, rfl⟩ := h7
                  have h6 : xs[j].1.kind ≠ 6 := by have := hk xs[j] (List.getElem_mem hlt); omega
                  have hSA := (HSLW.out.2 xs[j] (List.getElem_mem hlt)).1
                  have hSr : W0.heap[xs[j].2.1]? = some (.cells #[shV xs[j].1] 187 (0, 0)) := X0W.heap ((hbel.block _ (lt_of_heap hSA)).trans hSA)
                  have HSr := Lib.hid hSr
                  obtain ⟨hm0, hm1, hm2⟩ := walkR_mem HHE.out (List.getElem_mem hjf)
                  have hdl4 : (walkR l).1[j].2.data.length ≤ 4611686018427387904 := by omega
                  have hDl : w.heap.size ≤ D := by have := X2.size; have := X23.size; have := X1.size; omega
                  have heb := badS_num hdk (walkR l).1[j].2.num 0 (walkR l).1[j].2.data.length
                  have hgn : (xs.map (·.1))[j]'(by rw [hxl]; exact hlt) = xs[j].1 := by simp
                  have HEND : Hid (∀ w5, Ext W0 w5 → badS xs[j].1 (walkR l).1[j].2.num 0 ≠ 0 → EndOk D (xs.map (·.1)) l b0 w [{ v := .iface 34 (faultC 0 (b0 + (walkR l).1[j].1) (badS xs[j].1 (walkR l).1[j].2.num 0 : Nat)), recovered := false }] w5) := Lib.hid (by
                    intro w5 h5 hb
                    rw [heb] at hb ⊢
                    have h7 := HM8.out (by rw [hgn]; exact hb)
                    rw [hgn] at h7
                    exact ⟨h5.heap (X0W.heap HKR.out), read_bad HHE.out h7 (Below.trans hBW (Below.mono (X0W.trans h5) hBW.size)) (h5.heap (X0W.heap HKR.out)) hDl hb⟩)
                  have hdvl : ((.slice none 0 0) : Value).ownBlock = none ∨ ∃ h2 : zp.length < ys.length, ((.slice none 0 0) : Value) = ys[zp.length].2 := .inl rfl
                  have hdvo : OB W w.heap.size ((.slice none 0 0) : Value) (⟨(walkR l).1[j].2.num, (walkR l).1[j].2.data⟩ : PV).data := by
                    have hz : (walkR l).1[j].2.data = [] := hm1 (by rw [HTY.out]; unfold wireK; have := hk xs[j] (List.getElem_mem hlt); (repeat' split) <;> omega)
                    rw [show (⟨(walkR l).1[j].2.num, (walkR l).1[j].2.data⟩ : PV).data = [] from hz]
                    exact OB.nil _ _
                  have hcl : pcells (⟨(walkR l).1[j].2.num, (walkR l).1[j].2.data⟩ : PV) (.slice none 0 0) = [.int .u64 (walkR l).1[j].2.num, .slice none 0 0, .slice none 0 0] := by
                    unfold pcells
                    rfl
                  have HFIN : Hid (∀ w5 w6 v6, Ext W0 w5 → w6.ownsRow (W.heap.size + 1) 78 3 v6 (zp.length + 1) ((zp.flatMap fun z => pcells z.1 z.2) ++ [.int .u64 (walkR l).1[j].2.num, .slice none 0 0, .slice none 0 0]) → w5.grownBy w6 pv2.ownBlock → badS xs[j].1 (walkR l).1[j].2.num 0 = 0 →
                      ∃ zn, zn.length = j + 1 ∧ Hid (ReadMid l.length (xs.map (·.1)) (walkR l).1 (j + 1) (zn.map (·.1))) ∧ Hid (Parts W w.heap.size zn (w6.setCell ⟨W.heap.size, 2, none⟩ v6)) ∧ Hid (Linked zn ys)) := Lib.hid (by
                    intro w5 w6 v6 h5 ho hg hb
                    rw [← hcl] at ho
                    have ez : zp.length = j := by have := HM.out.2.2.1; simpa using this
                    refine ⟨zp ++ [((⟨(walkR l).1[j].2.num, (walkR l).1[j].2.data⟩ : PV), (.slice none 0 0))], by simp [ez], Lib.hid ?_, Lib.hid ?_, Lib.hid ?_⟩
                    · rw [List.map_append]
                      exact HM7.out (by rw [hgn, ← heb]; exact hb)
                    · exact parts_push HBV2.out HPR2.out HP.out.2.1 HP.out.2.2.1 hbel (X0W.trans h5) hdvo (apart_of HLK.out HOF.out.2.2 hdvl) ho hg
                    · exact HLK.out.push hdvl)
                  have hzl : zp.length = j := by have := HM.out.2.2.1; simpa using this
                  have HSF : Hid (∀ w', Gr (fun k => k = W.heap.size ∨ pv2.ownBlock = some k) W0 w' → w'.cell? ⟨wr.heap.size, 4, none⟩ = some (.func (.func 113) #[] #[.pointer (some ⟨xs[j].2.1, 0, none⟩)]) ∧ w'.cell? ⟨gf, fo + j * 4, none⟩ = some (.int .i64 (walkR l).1[j].2.no) ∧ w'.cell? ⟨gf, fo + j * 4 + 1, none⟩ = some (.int .i64 (walkR l).1[j].2.ty) ∧ w'.cell? ⟨gf, fo + j * 4 + 2, none⟩ = some (.int .u64 (walkR l).1[j].2.num) ∧ w'.cell? ⟨gf, fo + j * 4 + 3, none⟩ = some (.slice Ad (walkR l).1[j].2.data.length cd2) ∧ w'.cell? ⟨w2.heap.size, 0, none⟩ = some (.slice (some ⟨gp, po, none⟩) (walkR l).1.length cp) ∧ w'.cell? ⟨gp, po + j, none⟩ = some (.int .i64 (b0 + (walkR l).1[j].1))) := Lib.hid (by
                    intro w' hg
                    have hlo : ∀ k, k < W.heap.size → ¬ (k = W.heap.size ∨ pv2.ownBlock = some k) := by
                      rintro k hk' (rfl | h)
                      · omega
                      · have := own_ge HPR2.out k h; omega
                    have hhi : ¬ (wr.heap.size = W.heap.size ∨ pv2.ownBlock = some wr.heap.size) := by
                      rintro (h | h)
                      · have := lt_of_heap HBV2.out; omega
                      · have := (World.ownsRow.lt HPR2.out _ h).2; omega
                    exact ⟨hg.cell k4 hhi, hg.cell g0 (hlo _ l6), hg.cell g1 (hlo _ l6), hg.cell g2 (hlo _ l6), hg.cell g3 (hlo _ l6), hg.cell g4 (hlo _ hBl), hg.cell g5 (hlo _ l5)⟩)
                  have hvf : W0.frozen? ⟨W.heap.size, 2, none⟩ = false := (blk3 (X0W.heap HBV2.out)).2.2.2.2.2
                  have HBW0 := Lib.hid (X0W.heap HBV2.out)
                  have HPR0 := Lib.hid (show W0.ownsRow (W.heap.size + 1) 78 3 pv2 zp.length (zp.flatMap fun z => pcells z.1 z.2) from own_gr (S := fun _ => False) HPR2.out (Gr.of_ext X0W) (fun _ _ => id))
                  have hvlt : W.heap.size < W0.heap.size := lt_of_heap HBW0.out
                  have HPNE := Lib.hid (show some W.heap.size ≠ pv2.ownBlock from fun e => by have := own_ge HPR2.out _ e.symm; omega)
                  clear hm0 hm1 hm2 heb hgn hdvl hdvo hcl hSr hSA
                  refine wp_region_panics [{ target := .collected D, args := #[] }] (EndOk D (xs.map (·.1)) l b0 w) ?hpq ?hpr
                  case hpq =>
                    rintro ch a W hd ⟨h1, h2⟩
                    show LeavesInM _ _ _ _ a.tmps _ a.defers _ _
                    rw [hd]
                    exact leavesM_panic h1 h2
                  case hpr =>
                    generalize (walkR l).1[j].2.data.length = dl at *
                    generalize (walkR l).1[j].2.no = fno at *
                    generalize (walkR l).1[j].2.ty = fty at *
                    generalize (walkR l).1[j].2.num = fnum at *
                    generalize (walkR l).1[j].1 = pl at *
                    rw [← op87_eq]
                    go_region_held2 (fun w' => w'.cell? ⟨wr.heap.size, 4, none⟩ = some (.func (.func 113) #[] #[.pointer (some ⟨xs[j].2.1, 0, none⟩)]) ∧ w'.cell? ⟨gf, fo + j * 4, none⟩ = some (.int .i64 fno) ∧ w'.cell? ⟨gf, fo + j * 4 + 1, none⟩ = some (.int .i64 fty) ∧ w'.cell? ⟨gf, fo + j * 4 + 2, none⟩ = some (.int .u64 fnum) ∧ w'.cell? ⟨gf, fo + j * 4 + 3, none⟩ = some (.slice Ad dl cd2) ∧ w'.cell? ⟨w2.heap.size, 0, none⟩ = some (.slice (some ⟨gp, po, none⟩) (walkR l).1.length cp) ∧ w'.cell? ⟨gp, po + j, none⟩ = some (.int .i64 (b0 + pl)))
                      (first
                        | exact HSF.out _ (Gr.of_ext (Ext.drew (Ext.drewN (Ext.drewN (Ext.refl _) _) _)))
                        | exact HSF.out _ (Gr.of_ext (Ext.drewN (Ext.refl _) _))
                        | exact HSF.out _ (Gr.of_ext hy5)
                        | exact HSF.out _ (Gr.of_ext (Ext.alloc hy5 _))
                        | exact HSF.out _ hG6
                        | exact HSF.out _ (Gr.trans hG6 (Gr.of_grown (grown_store _ W.heap.size 2 _) (fun k hk => .inl (by injection hk with hk; exact hk.symm)))))
                      (first
                        | (go_at_call 113; go_must (refine (read_num xs[j].1 h6 xs[j].2.1 fno fty fnum Ad dl cd2 (b0 + pl) (W0.drewN _) hdl4 HSr.out).mono ?_; rintro e w5 ⟨he, hx5⟩; have hy5 := Ext.trans (Ext.drewN (Ext.refl W0) _) hx5; by_cases hbd : badS xs[j].1 fnum 0 = 0; rotate_left; (rw [if_neg hbd] at he; subst he; first | exact HEND.out w5 hy5 hbd | exact ⟨rfl, HEND.out w5 hy5 hbd⟩); rw [if_pos hbd] at he; subst he; have HBD := Lib.hid hbd; clear hbd; obtain ⟨o1, o2, o3, o4, o5, o6, o7⟩ := HSF.out w5 (Gr.of_ext hy5); have o8 := hy5.cell g6; have o9 := World.new_ne w5 _ o8; simp only at o9; have hv5 : W.heap.size < w5.heap.size := lt_of_cell o8; unfold valC))
                        | (refine step_app1 (by rfl) (.tmp 87) (.tmp 99) (by rfl) Tryz.underlying76 val_info (by rfl) (by decide) (by rfl) (own_gr (S := fun _ => False) HPR0.out (Gr.of_ext hy5) (fun _ _ => id)) #[.int .u64 fnum, .slice none 0 0, .slice none 0 0] (0, 0) (by rfl) (pc_one fnum none 0 0) 1 (by rfl) (by simp only [maxLen]; omega) (by omega) (by omega) ?_; intro v6 w6 ho6 hg6 hat6; obtain ⟨g7, c7, rfl⟩ := own_succ ho6; obtain ⟨u1, u2, u3, u4, u5, u6⟩ := blk3 ((hg6.block W.heap.size (by omega) HPNE.out).trans (hy5.heap HBW0.out)); have hG6 := (Gr.of_ext (S := fun k => k = W.heap.size ∨ pv2.ownBlock = some k) hy5).trans (Gr.of_grown hg6 (fun k hk => .inr hk)); obtain ⟨zn, z1, z2, z3, z4⟩ := HFIN.out w5 w6 _ hy5 ho6 hg6 HBD.out; clear ho6))
                    all_goals
                      rw [panicQ_normal]
                      go_wp2
                      rw [hzl] at z3
                      exact ⟨⟨j + 1, zn, by omega, by simp, z2, z3, z4⟩, by simp [intOf]; omega⟩
              · have HE := Lib.hid (HM.out.ty (by rw [hxl]; exact hlt) hjf (by simpa using hno) (by simpa using hty))
                have tn : ((((walkR l).1[j].2.no : Nat) : Int) != (xs[j].1.no : Int)) = false := by simp [hno]
                have tt : ((((walkR l).1[j].2.ty : Nat) : Int) != (wireK xs[j].1.kind : Int)) = true := by simp; omega
                clear hno hty
                generalize (walkR l).1[j].2.no = fno at *
                generalize (walkR l).1[j].2.ty = fty at *
                generalize (walkR l).1[j].1 = pl at *
                go_wp2_with fail
                go_quiet (fail)
                go_wp2_with fail
                go_quiet (fail)
                go_wp2_with fail
                refine (give_any _ _ _ _).mono ?_
                rintro e w4 ⟨rfl, rfl⟩
                go_wp2
                refine leavesM_panic (D := D) (old_blk HKR.out _) ?_
                exact read_bad HHE.out HE.out (Below.drewN (hBW.alloc (by have := hBW.size; omega) _) _) (old_blk HKR.out _) (by have := X2.size; have := X23.size; have := X1.size; omega) (by decide)
            · have HE := Lib.hid (HM.out.no (by rw [hxl]; exact hlt) hjf (by simpa using hno))
              have tn : ((((walkR l).1[j].2.no : Nat) : Int) != (xs[j].1.no : Int)) = true := by simp; omega
              generalize (walkR l).1[j].2.no = fno at *
              generalize (walkR l).1[j].1 = pl at *
              go_wp2_with fail
              go_quiet (fail)
              go_wp2_with fail
              refine (give_any _ _ _ _).mono ?_
              rintro e w4 ⟨rfl, rfl⟩
              go_wp2
              refine leavesM_panic (D := D) (old_blk HKR.out _) ?_
              exact read_bad HHE.out HE.out (Below.drewN (hBW.alloc (by have := hBW.size; omega) _) _) (old_blk HKR.out _) (by have := X2.size; have := X23.size; have := X1.size; omega) (by decide)
        · obtain rfl : j = xs.length := by omega
          obtain ⟨pv, hbv, hpr⟩ := HP.out.1
          have hbel := HP.out.2.2.2
          have hcw : ∀ {a : Addr} {u : Value}, W.cell? a = some u → wr.cell? a = some u := fun h => (World.cell?_of_block (hbel.block _ (lt_of_cell h))).trans h
          have d1 := hcw hc1
          have d2 := hcw e1
          have d3 := hcw e0
          have hxl : (xs.map (·.1)).length = xs.length := by simp
          have hKr : wr.heap[D]? = some (.deferred (some [])) := (hbel.block D (lt_of_heap HKK.out)).trans HKK.out
          have HKR := Lib.hid hKr
          have hBW : Below w.heap.size w wr := Below.trans XW (Below.mono hbel XW.size)
          have hr1 := (hbel.block _ (lt_of_heap HRBW.out)).trans HRBW.out
          obtain ⟨r0, r1, r2, y0, y1, y2⟩ := blk3 hr1
          obtain ⟨b1, b2, b3, _⟩ := blk3 hbv
          have HR1 := Lib.hid hr1
          by_cases hmore : xs.length < (walkR l).1.length
          · have HE := Lib.hid (HM.out.more (by rw [hxl]) hmore)
            have hzj : zs[xs.length]?.map (·.1) = some (walkR l).1[xs.length].1 := by
              have h := congrArg (fun (t : List (Nat × Fld)) => t[xs.length]?) HALL.out
              simp only [List.getElem?_map, List.getElem?_eq_getElem hmore] at h
              cases hz : zs[xs.length]? with
              | none => rw [hz] at h; simp at h
              | some z => rw [hz] at h; simp only [Option.map_some, Option.some.injEq] at h; rw [← h]; rfl
            obtain ⟨gp, po, hAp, hpk⟩ := HPC.out xs.length (by omega)
            subst hAp
            have hpl64 := (walkR_at l).2 _ (List.getElem_mem hmore)
            have t4 : wr.cell? ⟨gp, po + xs.length, none⟩ = some (.int .i64 (b0 + (walkR l).1[xs.length].1)) := by
              refine hcw (hpk.trans ?_)
              rw [List.getElem?_map]
              cases hz : zs[xs.length]? with
              | none => rw [hz] at hzj; simp at hzj
              | some z =>
                rw [hz] at hzj
                simp only [Option.map_some, Option.some.injEq] at hzj ⊢
                rw [hzj]
                congr 1
                rw [wrap64_of (by omega) (by omega)]
            clear hpk hzj hcw hKr hr1 hpr hbv
            generalize (walkR l).1[xs.length].1 = pl at *
            go_wp2_with fail
            have hml : (xs.length : Int) < ((walkR l).1.length : Int) := by omega
            have hBWd : Below w.heap.size w wr.drew := hBW.drew
            have HKd : wr.drew.heap[D]? = some (.deferred (some [])) := HKR.out
            have hDl : w.heap.size ≤ D := by have := X2.size; have := X23.size; have := X1.size; omega
            have hend := read_bad (b0 := b0) HHE.out HE.out hBWd HKd hDl (by decide)
            go_still_tail 8, (by kernel_rfl)
            change wpList _ _ _ _ _ wr.drew
            go_wp2_with fail
            refine (give_any _ _ _ _).mono ?_
            rintro e w4 ⟨rfl, rfl⟩
            go_wp2
            exact leavesM_panic (D := D) HKd hend
          · have hfl : (walkR l).1.length = xs.length := by have := HM.out.2.1; omega
            have HE := Lib.hid (HM.out.done (by rw [hxl]) hfl)
            have HPR := Lib.hid hpr
            have HBV := Lib.hid hbv
            obtain ⟨Ae, ce, rfl⟩ := own_form hpr
            clear hcw hKr hr1 hpr hbv
            go_wp2
            have hst : Below w.heap.size w (((wr.setCell ⟨w.heap.size + 1, 0, none⟩ (.int .u64 0)).setCell ⟨w.heap.size + 1, 1, none⟩ (.slice none 0 0)).setCell ⟨w.heap.size + 1, 2, none⟩ (.slice Ae zp.length ce)) :=
              ((hBW.setCell (p := ⟨w.heap.size + 1, 0, none⟩) (by simp) _).setCell (p := ⟨w.heap.size + 1, 1, none⟩) (by simp) _).setCell (p := ⟨w.heap.size + 1, 2, none⟩) (by simp) _
            have hDl : w.heap.size + 2 ≤ D := by have := X2.size; have := X23.size; have := hx1.size; simp at this; omega
            refine ⟨by simp, .inl ⟨_, _, rfl, run_takeDeferred (set_heap (set_heap (set_heap HKR.out (by omega)) (by omega)) (by omega)), ?_⟩⟩
            have hX : (((wr.setCell ⟨w.heap.size + 1, 0, none⟩ (.int .u64 0)).setCell ⟨w.heap.size + 1, 1, none⟩ (.slice none 0 0)).setCell ⟨w.heap.size + 1, 2, none⟩ (.slice Ae zp.length ce)).heap[w.heap.size + 1]? = some (.cells #[.int .u64 0, .slice none 0 0, .slice Ae zp.length ce] 78 (0, 0)) := by
              simp [World.setCell, Array.getElem?_modify, HR1.out]
            obtain ⟨u0, u1, u2, _⟩ := blk3 (((grownBy_putObj' _ D (.deferred none)).block (w.heap.size + 1) (lt_of_heap hX) (fun e => by injection e with e; omega)).trans hX)
            refine ⟨.agg #[.int .u64 0, .slice none 0 0, .slice Ae zp.length ce], by simp [results, Tryz.results74, go_sem, u0, u1, u2], ?_⟩
            exact read_good HHE.out HE.out hst (set_heap (set_heap (set_heap HKR.out (by omega)) (by omega)) (by omega)) (by omega) HP.out HPR.out (by have := lt_of_heap HRBW.out; exact this) XW HKR.out HR1.out
    case stop =>
      rintro D c pre W _ _ h _
      exact h.elim
  · have HE : Hid (readR (xs.map (·.1)) l = ((walkR l).2.2, (walkR l).2.1, [])) := by exact (by unfold readR; rw [if_pos he] : readR (xs.map (·.1)) l = ((walkR l).2.2, (walkR l).2.1, []))
    rw [if_neg he]
    have t : ((((walkR l).2.2 : Nat) : Int) != 0) = true := by simp; exact he
    have H0 := Lib.hid he
    clear hys hof he hr hA hcd hsl hbb hrb
    go_wp2_with fail
    refine (give_any _ _ _ _).mono ?_
    rintro e w2 ⟨rfl, rfl⟩
    go_wp2
    refine ⟨X1, fun _ => by rw [HE.out], fun h => absurd (by rw [HE.out] at h; exact h) H0.out⟩
end Go.Proofs.YtehfoddnlecmjaaGreatDoor
