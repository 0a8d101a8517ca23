/- Words of this claim: what a slice of bytes reads as, worlds that only grew, small laws on maps. -/
import Derived.Test.YtehfoddnlecmjaaGreatDoorProg
import Derived.WalkKit
import Derived.WalkSpells
import Derived.WalkLawsBesides
import Derived.Lib.Hide
import Derived.Deep.AppendLies
import Derived.Deep.LoopGhost
import Derived.Deep.QuietTactic
import Derived.BigQuiet
import Derived.Deep.DeepFit
import Derived.Deep.DeepMust
import Derived.Maps.AppendAt
import Derived.MapKept
import Derived.Maps.Range
set_option linter.unusedVariables false
set_option linter.unusedSimpArgs false
namespace Go.Proofs.YtehfoddnlecmjaaGreatDoor
open Go.RowKit

/-- w' is w with new blocks alone. -/
def Ext (w w' : World) : Prop := Below w.heap.size w w'
theorem Ext.refl (w : World) : Ext w w := Below.refl _ _
theorem Ext.trans {a b c : World} (h : Ext a b) (k : Ext b c) : Ext a c := Below.trans h (Below.mono k h.size)
theorem Ext.alloc {a b : World} (h : Ext a b) (o : Obj) : Ext a (b.alloc o) := Below.alloc h h.size o
theorem Ext.drew {a b : World} (h : Ext a b) : Ext a b.drew := Below.drew h
theorem Ext.drewN {a b : World} (h : Ext a b) (n : Nat) : Ext a (b.drewN n) := ⟨h.os, h.tape, h.output, h.size, h.block⟩
theorem Ext.setCell {a b : World} (h : Ext a b) {p : Addr} (hp : a.heap.size ≤ p.block) (u : Value) : Ext a (b.setCell p u) := Below.setCell h hp u
theorem Ext.size {a b : World} (h : Ext a b) : a.heap.size ≤ b.heap.size := Below.size h
theorem Ext.block {a b : World} (h : Ext a b) {k : Nat} (hk : k < a.heap.size) : b.heap[k]? = a.heap[k]? := Below.block h k hk

theorem lt_of_heap {w : World} {k : Nat} {o : Obj} (h : w.heap[k]? = some o) : k < w.heap.size := by
  rcases Nat.lt_or_ge k w.heap.size with h1 | h1
  · exact h1
  · rw [Array.getElem?_eq_none h1] at h; cases h
theorem lt_of_cell {w : World} {p : Addr} {v : Value} (h : w.cell? p = some v) : p.block < w.heap.size := by
  rcases Nat.lt_or_ge p.block w.heap.size with h1 | h1
  · exact h1
  · simp [World.cell?, Array.getElem?_eq_none h1] at h
theorem Ext.cell {a b : World} (h : Ext a b) {p : Addr} {v : Value} (hp : a.cell? p = some v) : b.cell? p = some v := (World.cell?_of_block (h.block (lt_of_cell hp))).trans hp
theorem Ext.heap {a b : World} (h : Ext a b) {k : Nat} {o : Obj} (hp : a.heap[k]? = some o) : b.heap[k]? = some o := (h.block (lt_of_heap hp)).trans hp

/-- The bytes that a slice shows: its address A, its cells. -/
def RB (w : World) (A : Option Addr) (l : List UInt8) : Prop :=
  l = [] ∨ ∃ b o, A = some ⟨b, o, none⟩ ∧ ∀ i (h : i < l.length), w.cell? ⟨b, o + i, none⟩ = some (.int .u8 (l[i].toNat : Int))
theorem RB.nil (w : World) (A : Option Addr) : RB w A [] := .inl rfl
theorem RB.ext {w w' : World} {A : Option Addr} {l : List UInt8} (h : RB w A l) (hx : Ext w w') : RB w' A l := by
  rcases h with h | ⟨b, o, hA, h⟩
  · exact .inl h
  · exact .inr ⟨b, o, hA, fun i hi => hx.cell (h i hi)⟩
theorem RB.at_ {w : World} {A : Option Addr} {l : List UInt8} (h : RB w A l) {i : Nat} (hi : i < l.length) :
    ∃ b o, A = some ⟨b, o, none⟩ ∧ ∀ j (h : j < l.length), w.cell? ⟨b, o + j, none⟩ = some (.int .u8 (l[j].toNat : Int)) := by
  rcases h with h | h
  · subst h; simp at hi
  · exact h
theorem u8_lt (x : UInt8) : x.toNat < 256 := x.toNat_lt

/-! A map, its entries as they stand. -/
section
open Go.MapKept
variable {P : Program} {w : World}
theorem isKey_int (k : IntKind) (n : Int) : IsKey (.int k) (.int k n) := by simp [IsKey]
theorem isKey_string (s : ByteArray) : IsKey .string (.string s) := by simp [IsKey]
theorem run_mapUpdate_fresh {t K E : TypeId} {d : TypeDesc} (ht : P.underlying t = some (.map K E)) (hK : P.underlying K = some d) {r : Nat} {es : Array MapEntry} {clock : Nat}
    (hr : w.heap[r]? = some (.map es clock)) (key v : Value) (hk : IsKey d key) (hfind : Instr.findNow d key es.toList 0 = some none) :
    (Instr.mapUpdate t (.map (some r)) key v).run P w = .ok () { w with heap := w.heap.setIfInBounds r (.map (es.push { key := key, val := v, born := clock }) (clock + 1)) } := by
  simp [Instr.mapUpdate, run_underlying ht, MapKept.run_getObj_map hr, MapKept.run_checkKey hK hk, MapKept.run_findKey hK hfind, MapKept.run_setObj_map _ hr, Result.andThen]
theorem run_lookup_hit {t K E : TypeId} {d : TypeDesc} (ht : P.underlying t = some (.map K E)) (hK : P.underlying K = some d) {r : Nat} {es : Array MapEntry} {clock : Nat}
    (hr : w.heap[r]? = some (.map es clock)) (key : Value) {i : Nat} {v : Value} (hk : IsKey d key) (hfind : Instr.findNow d key es.toList 0 = some (some (i, v))) (ok : Bool) :
    (Instr.lookup t (.map (some r)) key ok).run P w = .ok (if ok then .tuple #[v, .bool true] else v) w := by
  simp [Instr.lookup, run_underlying ht, MapKept.run_getObj_map hr, MapKept.run_checkKey hK hk, MapKept.run_findKey hK hfind, Result.andThen]
theorem run_lookup_miss {t K E : TypeId} {d : TypeDesc} (ht : P.underlying t = some (.map K E)) (hK : P.underlying K = some d) {r : Nat} {es : Array MapEntry} {clock : Nat}
    (hr : w.heap[r]? = some (.map es clock)) (key : Value) {z : Value} (hk : IsKey d key) (hfind : Instr.findNow d key es.toList 0 = some none) (hz : (zeroValue E).run P w = .ok z w) (ok : Bool) :
    (Instr.lookup t (.map (some r)) key ok).run P w = .ok (if ok then .tuple #[z, .bool false] else z) w := by
  simp [Instr.lookup, run_underlying ht, MapKept.run_getObj_map hr, MapKept.run_checkKey hK hk, MapKept.run_findKey hK hfind, hz, Result.andThen]
/-- A block that was just laid, put anew. -/
theorem put_new (w : World) (o o' : Obj) : ({ (w.alloc o) with heap := (w.alloc o).heap.setIfInBounds w.heap.size o' } : World) = w.alloc o' := by
  have e : (w.alloc o).heap = w.heap.push o := rfl
  have e' : (w.alloc o') = { w with heap := w.heap.push o' } := rfl
  rw [e, e']
  have : (w.heap.push o).setIfInBounds w.heap.size o' = w.heap.push o' := by
    apply Array.ext'
    simp [Array.toList_setIfInBounds]
  rw [this]
  rfl
end

/-! Rows that the call itself makes: append. -/
theorem Ext.grown {w w' : World} (h : Ext w w') (row : Option Nat) : w.grownBy w' row := ⟨h.os, h.tape, h.output, h.size, fun i hi _ => h.block hi⟩
theorem Ext.of_grown {w w' : World} (h : w.grownBy w' none) : Ext w w' := ⟨h.os, h.tape, h.output, h.size, fun i hi => h.block i hi (by simp)⟩
/-- Below an elder world: the row that was written lies above it. -/
theorem Ext.then_grown {a w w' : World} {row : Option Nat} (h : Ext a w) (hg : w.grownBy w' row) (hr : ∀ k, row = some k → a.heap.size ≤ k) : Ext a w' := Below.grown h hg h.size hr
theorem grown_trans {a b c : World} {row : Option Nat} (h : a.grownBy b row) (k : b.grownBy c row) : a.grownBy c row := World.grownBy.trans h k
theorem grown_ext {a b c : World} {row : Option Nat} (h : a.grownBy b row) (k : Ext b c) : a.grownBy c row := World.grownBy.trans h (k.grown row)
/-- The second row is the first one, or lies above a. -/
theorem grown_then {a b c : World} {r r' : Option Nat} (h : a.grownBy b r) (k : b.grownBy c r') (hr : ∀ j, r' = some j → r = some j ∨ a.heap.size ≤ j) : a.grownBy c r :=
  World.grownBy.andThen h k (fun j hj => (hr j hj).symm)
theorem RB.grown {w w' : World} {A : Option Addr} {l : List UInt8} {row : Option Nat} (h : RB w A l) (hg : w.grownBy w' row) (hne : ∀ a, A = some a → some a.block ≠ row) : RB w' A l := by
  rcases h with h | ⟨b, o, hA, h⟩
  · exact .inl h
  · exact .inr ⟨b, o, hA, fun i hi => hg.cell (h i hi) (show some b ≠ row from hne ⟨b, o, none⟩ hA)⟩

def ElemInfo (P : Program) (e : TypeId) (z : Value) (size bytes : Nat) : Prop := (P.info? e).map (fun i => (i.zero, i.size, i.bytes)) = some (some z, size, bytes)
section
variable {P : Program} {w : World} {base : Nat} {e t ty : TypeId} {z : Value} {size bytes : Nat} {v : Value} {n : Nat} {xs : List Value}
theorem own_ge (h : w.ownsRow base e size v n xs) : ∀ k, v.ownBlock = some k → base ≤ k := fun k hk => (h.lt k hk).1
/-- append(v, x): x lies in the newest block. -/
theorem run_app1 (ht : P.underlying t = some (.slice e)) (hE : ElemInfo P e z size bytes) (hz : z.cells.size = size) (hsz : 0 < size) (hown : w.ownsRow base e size v n xs)
    (cs : Array Value) (fr : Nat × Nat) (hcs : cs.size = size) (h1 : ∀ u ∈ cs.toList, u.oneCell' = true) (c : Nat) (h63 : n + 1 ≤ maxLen) (hbytes : (n + 1) * bytes ≤ 140737488355328) (hbase : base ≤ w.heap.size) :
    ∃ v' w', (Builtin.append_ #[t, t] ty #[v, .slice (some ⟨w.heap.size, 0, none⟩) 1 c]).run P (w.alloc (.cells cs e fr)) = .ok v' w' ∧ w'.ownsRow base e size v' (n + 1) (xs ++ cs.toList) ∧ w.grownBy w' v.ownBlock ∧
      (v'.ownBlock = v.ownBlock ∨ ∃ k, v'.ownBlock = some k ∧ w.heap.size < k) := by
  obtain ⟨i, hi, h2, h3, h4⟩ := info_parts hE
  have hnews : ∀ j u, cs.toList[j]? = some u → (w.alloc (.cells cs e fr)).cell? ((⟨w.heap.size, 0, none⟩ : Addr).add j) = some u := World.news_of_block ((MapKept.heap_alloc w _).1)
  obtain ⟨v', w', hr, a1, a2, _, a4⟩ := run_append_own_at (P := P) (w.alloc (.cells cs e fr)) base t ty e i z size bytes ht hi h2 h3 h4 hz hsz v n xs (hown.alloc _) ⟨w.heap.size, 0, none⟩ 1 c cs.toList (by simpa using hcs) hnews h1 h63 hbytes (by simp; omega)
  refine ⟨v', w', hr, a1, grown_trans (World.grownBy_alloc w _ _) a2, ?_⟩
  rcases a4 with a4 | a4
  · exact .inl a4
  · exact .inr ⟨_, a4, by simp⟩
theorem wp_app1 {o : Oper} {a : Act} {K : Act → World → Prop} {Q : Exit → Act → World → Prop} (s x : Operand)
    (ho : o.op = .call { callee := .builtin .append, args := #[s, x], argTypes := #[t, t] })
    (ht : P.underlying t = some (.slice e)) (hE : ElemInfo P e z size bytes) (hz : z.cells.size = size) (hsz : 0 < size) (hs : a.eval s = v) (hown : w.ownsRow base e size v n xs)
    (cs : Array Value) (fr : Nat × Nat) (hcs : cs.size = size) (h1 : ∀ u ∈ cs.toList, u.oneCell' = true) (c : Nat) (hx : a.eval x = .slice (some ⟨w.heap.size, 0, none⟩) 1 c) (h63 : n + 1 ≤ maxLen) (hbytes : (n + 1) * bytes ≤ 140737488355328) (hbase : base ≤ w.heap.size)
    (h : ∀ v' w', w'.ownsRow base e size v' (n + 1) (xs ++ cs.toList) → w.grownBy w' v.ownBlock → (v'.ownBlock = v.ownBlock ∨ ∃ k, v'.ownBlock = some k ∧ w.heap.size < k) → K (a.put o.dst v') w') :
    o.wp P a (w.alloc (.cells cs e fr)) K Q := by
  obtain ⟨v', w', hr, a1, a2, a3⟩ := run_app1 (P := P) (ty := o.type) ht hE hz hsz hown cs fr hcs h1 c h63 hbytes hbase
  unfold Oper.wp execOp
  simp only [ho, resolve, invoke, builtin, Sem.run_bind, Sem.run_pure, Result.andThen_ok, List.map_toArray, List.map_cons, List.map_nil, hs, hx, hr]
  exact h v' w' a1 a2 a3
theorem wpList_app1 {ops : Array Oper} {rest : List Oper} {o : Oper} {a : Act} {Q : Exit → Act → World → Prop} (hgd : o.guard = none) (s x : Operand)
    (ho : o.op = .call { callee := .builtin .append, args := #[s, x], argTypes := #[t, t] })
    (ht : P.underlying t = some (.slice e)) (hE : ElemInfo P e z size bytes) (hz : z.cells.size = size) (hsz : 0 < size) (hs : a.eval s = v) (hown : w.ownsRow base e size v n xs)
    (cs : Array Value) (fr : Nat × Nat) (hcs : cs.size = size) (h1 : ∀ u ∈ cs.toList, u.oneCell' = true) (c : Nat) (hx : a.eval x = .slice (some ⟨w.heap.size, 0, none⟩) 1 c) (h63 : n + 1 ≤ maxLen) (hbytes : (n + 1) * bytes ≤ 140737488355328) (hbase : base ≤ w.heap.size)
    (h : ∀ v' w', w'.ownsRow base e size v' (n + 1) (xs ++ cs.toList) → w.grownBy w' v.ownBlock → (v'.ownBlock = v.ownBlock ∨ ∃ k, v'.ownBlock = some k ∧ w.heap.size < k) → wpList P ops Q rest (a.put o.dst v') w') :
    wpList P ops Q (o :: rest) a (w.alloc (.cells cs e fr)) :=
  wpList_plain hgd fun _ hK => wp_app1 s x ho ht hE hz hsz hs hown cs fr hcs h1 c hx h63 hbytes hbase fun v' w' b1 b2 b3 => hK _ _ (h v' w' b1 b2 b3)
end
/-- A row of bytes of the call's own. -/
def cb (l : List UInt8) : List Value := l.map fun b => .int .u8 (b.toNat : Int)
theorem cb_length (l : List UInt8) : (cb l).length = l.length := by simp [cb]
theorem cb_append (l m : List UInt8) : cb (l ++ m) = cb l ++ cb m := by simp [cb]
theorem cb_one (l : List UInt8) : ∀ u ∈ cb l, u.oneCell' = true := by
  intro u hu
  obtain ⟨b, _, rfl⟩ := List.mem_map.1 hu
  rfl
def OB (w : World) (base : Nat) (v : Value) (l : List UInt8) : Prop := w.ownsRow base 5 1 v l.length (cb l)
theorem OB.nil (w : World) (base : Nat) : OB w base (.slice none 0 0) [] := World.ownsRow_nil _ _ _ _
theorem OB.ge {w : World} {base : Nat} {v : Value} {l : List UInt8} (h : OB w base v l) : ∀ k, v.ownBlock = some k → base ≤ k := own_ge h
theorem OB.lt {w : World} {base : Nat} {v : Value} {l : List UInt8} (h : OB w base v l) : ∀ k, v.ownBlock = some k → k < w.heap.size := fun k hk => (World.ownsRow.lt h k hk).2
theorem OB.ext {w w' : World} {base : Nat} {v : Value} {l : List UInt8} (h : OB w base v l) (hx : Ext w w') : OB w' base v l := World.ownsRow.kept h (hx.grown none) (by cases v.ownBlock <;> simp)
theorem OB.grown {w w' : World} {base : Nat} {v : Value} {l : List UInt8} {row : Option Nat} (h : OB w base v l) (hg : w.grownBy w' row) (hne : ∀ k, v.ownBlock = some k → row ≠ some k) : OB w' base v l :=
  World.ownsRow.kept h hg (by cases hv : v.ownBlock with
    | none => exact .inl rfl
    | some k => exact .inr (fun e => hne k hv e.symm))
/-- What it reads as. -/
theorem OB.reads {w : World} {base : Nat} {v : Value} {l : List UInt8} (h : OB w base v l) : ∃ A c, v = .slice A l.length c ∧ l.length ≤ c ∧ c ≤ maxLen ∧ RB w A l ∧ (∀ a, A = some a → v.ownBlock = some a.block) := by
  rcases h.2 with ⟨rfl, h0⟩ | ⟨g, cap, cur, rfl, _, hh, hn, hc, hs, hx⟩
  · have : l = [] := List.eq_nil_of_length_eq_zero h0
    subst this
    exact ⟨none, 0, rfl, by simp, by simp [maxLen], .inl rfl, by simp⟩
  · refine ⟨some ⟨g, 0, none⟩, cap, rfl, hn, hc, .inr ⟨g, 0, rfl, fun i hi => ?_⟩, by simp [Value.ownBlock]⟩
    rw [cell_of_row w g (0 + i) cur 5 (0, 0) hh]
    have h2 : (cb l)[i]? = some (.int .u8 (l[i].toNat : Int)) := by simp [cb, hi]
    rw [← hx] at h2
    rw [List.getElem?_take] at h2
    split at h2
    · simpa using h2
    · cases h2
/-! append(v, src...), src a slice of bytes that is read. -/
section
variable {P : Program} {w : World} {base : Nat} {t ty : TypeId} {v : Value} {l : List UInt8}
theorem run_append_none {n : Nat} {xs : List Value} {e : TypeId} {z : Value} {size bytes : Nat} (ht : P.underlying t = some (.slice e)) (hE : ElemInfo P e z size bytes) (hown : w.ownsRow base e size v n xs) (c : Nat) : (Builtin.append_ #[t, t] ty #[v, .slice none 0 c]).run P w = .ok v w := by
  obtain ⟨i, hi, h2, h3, h4⟩ := info_parts hE
  rcases hown.2 with ⟨rfl, _⟩ | ⟨g, cap, cur, rfl, _, _, hnc, _⟩
  · simp [Builtin.append_, run_underlying ht, sizeOf, typeInfo, hi, Builtin.lenOf, Builtin.firstCells]
  · simp [Builtin.append_, run_underlying ht, sizeOf, typeInfo, hi, Builtin.lenOf, Builtin.firstCells, hnc, storeCells]
theorem run_appB (ht : P.underlying t = some (.slice 5)) (hE : ElemInfo P 5 (.int .u8 0) 1 1) (hown : OB w base v l) (A : Option Addr) (c : Nat) (m : List UInt8) (hr : RB w A m)
    (hl : l.length + m.length ≤ 140737488355328) (hbase : base ≤ w.heap.size) :
    ∃ v' w', (Builtin.append_ #[t, t] ty #[v, .slice A m.length c]).run P w = .ok v' w' ∧ OB w' base v' (l ++ m) ∧ w.grownBy w' v.ownBlock ∧ (v'.ownBlock = v.ownBlock ∨ ∃ k, v'.ownBlock = some k ∧ w.heap.size ≤ k) := by
  have fin : ∀ ad : Addr, (∀ j u, (cb m)[j]? = some u → w.cell? (ad.add j) = some u) → ∃ v' w', (Builtin.append_ #[t, t] ty #[v, .slice (some ad) m.length c]).run P w = .ok v' w' ∧ OB w' base v' (l ++ m) ∧ w.grownBy w' v.ownBlock ∧ (v'.ownBlock = v.ownBlock ∨ ∃ k, v'.ownBlock = some k ∧ w.heap.size ≤ k) := by
    intro ad hnews
    obtain ⟨i, hi, h2, h3, h4⟩ := info_parts hE
    obtain ⟨v', w', hr, a1, a2, _, a4⟩ := run_append_own_at (P := P) w base t ty 5 i (.int .u8 0) 1 1 ht hi h2 h3 h4 rfl (by decide) v l.length (cb l) hown ad m.length c (cb m) (by simp [cb_length]) hnews (cb_one m) (by simp only [maxLen]; omega) (by omega) hbase
    refine ⟨v', w', hr, ?_, a2, ?_⟩
    · unfold OB
      rw [cb_append, List.length_append]
      exact a1
    · rcases a4 with a4 | a4
      · exact .inl a4
      · exact .inr ⟨_, a4, Nat.le_refl _⟩
  rcases hr with rfl | ⟨b, o, rfl, hc⟩
  · rcases A with _ | ad
    · exact ⟨v, w, run_append_none ht hE hown c, by simpa using hown, World.grownBy.refl _ _, .inl rfl⟩
    · exact fin ad (by simp [cb])
  · refine fin ⟨b, o, none⟩ (fun j u hu => ?_)
    have hj : j < m.length := by
      have := (List.getElem?_eq_some_iff.1 hu).1
      simpa [cb] using this
    have h1 : (⟨b, o, none⟩ : Addr).add j = ⟨b, o + j, none⟩ := by
      unfold Addr.add
      split <;> simp_all
    rw [h1, hc j hj]
    simpa [cb, hj] using hu
theorem wp_appB {o : Oper} {a : Act} {K : Act → World → Prop} {Q : Exit → Act → World → Prop} (s x : Operand)
    (ho : o.op = .call { callee := .builtin .append, args := #[s, x], argTypes := #[t, t] })
    (ht : P.underlying t = some (.slice 5)) (hE : ElemInfo P 5 (.int .u8 0) 1 1) (hs : a.eval s = v) (hown : OB w base v l) (A : Option Addr) (c : Nat) (m : List UInt8) (hx : a.eval x = .slice A m.length c) (hr : RB w A m)
    (hl : l.length + m.length ≤ 140737488355328) (hbase : base ≤ w.heap.size)
    (h : ∀ v' w', OB w' base v' (l ++ m) → w.grownBy w' v.ownBlock → (v'.ownBlock = v.ownBlock ∨ ∃ k, v'.ownBlock = some k ∧ w.heap.size ≤ k) → K (a.put o.dst v') w') : o.wp P a w K Q := by
  obtain ⟨v', w', hr, a1, a2, a3⟩ := run_appB (P := P) (ty := o.type) ht hE hown A c m hr hl hbase
  unfold Oper.wp execOp
  simp only [ho, resolve, invoke, builtin, Sem.run_bind, Sem.run_pure, Result.andThen_ok, List.map_toArray, List.map_cons, List.map_nil, hs, hx, hr]
  exact h v' w' a1 a2 a3
theorem wpList_appB {ops : Array Oper} {rest : List Oper} {o : Oper} {a : Act} {Q : Exit → Act → World → Prop} (hgd : o.guard = none) (s x : Operand)
    (ho : o.op = .call { callee := .builtin .append, args := #[s, x], argTypes := #[t, t] })
    (ht : P.underlying t = some (.slice 5)) (hE : ElemInfo P 5 (.int .u8 0) 1 1) (hs : a.eval s = v) (hown : OB w base v l) (A : Option Addr) (c : Nat) (m : List UInt8) (hx : a.eval x = .slice A m.length c) (hr : RB w A m)
    (hl : l.length + m.length ≤ 140737488355328) (hbase : base ≤ w.heap.size)
    (h : ∀ v' w', OB w' base v' (l ++ m) → w.grownBy w' v.ownBlock → (v'.ownBlock = v.ownBlock ∨ ∃ k, v'.ownBlock = some k ∧ w.heap.size ≤ k) → wpList P ops Q rest (a.put o.dst v') w') : wpList P ops Q (o :: rest) a w :=
  wpList_plain hgd fun _ hK => wp_appB s x ho ht hE hs hown A c m hx hr hl hbase fun v' w' b1 b2 b3 => hK _ _ (h v' w' b1 b2 b3)
theorem step_appB {ops : Array Oper} {o : Oper} {a : Act} {K : Act → World → Prop} {Q : Exit → Act → World → Prop} {E : Prop} (hgd : o.guard = none) (s x : Operand)
    (ho : o.op = .call { callee := .builtin .append, args := #[s, x], argTypes := #[t, t] })
    (ht : P.underlying t = some (.slice 5)) (hE : ElemInfo P 5 (.int .u8 0) 1 1) (hs : a.eval s = v) (hown : OB w base v l) (A : Option Addr) (c : Nat) (m : List UInt8) (hx : a.eval x = .slice A m.length c) (hr : RB w A m)
    (hl : l.length + m.length ≤ 140737488355328) (hbase : base ≤ w.heap.size)
    (h : ∀ v' w', OB w' base v' (l ++ m) → w.grownBy w' v.ownBlock → (v'.ownBlock = v.ownBlock ∨ ∃ k, v'.ownBlock = some k ∧ w.heap.size ≤ k) → K (a.put o.dst v') w') :
    if Region.wanted o (yielded ops a.tmps) = true then Oper.wp P o a w K Q else E := by
  have hw : Region.wanted o (yielded ops a.tmps) = true := by simp [Region.wanted, hgd]
  rw [if_pos hw]
  exact wp_appB s x ho ht hE hs hown A c m hx hr hl hbase h
end
theorem u8_info : ElemInfo Tryz.prog 5 (.int .u8 0) 1 1 := by unfold ElemInfo; kernel_rfl
theorem blk_frozen {w : World} {k : Nat} {cs : Array Value} {t : TypeId} (h : w.heap[k]? = some (.cells cs t (0, 0))) (o : Nat) : w.frozen? ⟨k, o, none⟩ = false := by simp [World.frozen?, h]
theorem blk_cell {w : World} {k : Nat} {cs : Array Value} {t : TypeId} {fr : Nat × Nat} (h : w.heap[k]? = some (.cells cs t fr)) (o : Nat) : w.cell? ⟨k, o, none⟩ = cs[o]? := cell_of_row w k o cs t fr h
theorem blk4 {w : World} {k : Nat} {a b c d : Value} {t : TypeId} (h : w.heap[k]? = some (.cells #[a, b, c, d] t (0, 0))) :
    w.cell? ⟨k, 0, none⟩ = some a ∧ w.cell? ⟨k, 1, none⟩ = some b ∧ w.cell? ⟨k, 2, none⟩ = some c ∧ w.cell? ⟨k, 3, none⟩ = some d ∧ w.frozen? ⟨k, 0, none⟩ = false ∧ w.frozen? ⟨k, 1, none⟩ = false ∧ w.frozen? ⟨k, 2, none⟩ = false ∧ w.frozen? ⟨k, 3, none⟩ = false :=
  ⟨blk_cell h 0, blk_cell h 1, blk_cell h 2, blk_cell h 3, blk_frozen h 0, blk_frozen h 1, blk_frozen h 2, blk_frozen h 3⟩
theorem new_blk (w : World) (o : Obj) : (w.alloc o).heap[w.heap.size]? = some o := (MapKept.heap_alloc w o).1
theorem old_blk {w : World} {k : Nat} {o : Obj} (h : w.heap[k]? = some o) (o' : Obj) : (w.alloc o').heap[k]? = some o := (MapKept.heap_alloc w o').2 k (lt_of_heap h) |>.trans h
theorem grown_store (w : World) (g o : Nat) (v : Value) : w.grownBy (w.setCell ⟨g, o, none⟩ v) (some g) := ⟨rfl, rfl, rfl, by simp [World.setCell], fun k _ hne => Below.heap_setCell _ _ _ k (fun e => hne (by rw [e]))⟩
theorem grown_none {w w' : World} (h : w.grownBy w' none) (row : Option Nat) : w.grownBy w' row := ⟨h.os, h.tape, h.output, h.size, fun i hi _ => h.block i hi (by simp)⟩
end Go.Proofs.YtehfoddnlecmjaaGreatDoor
