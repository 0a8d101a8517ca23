/- The contracts of package schema: a schema made ready. -/
import Derived.Test.YtehfoddnlecmjaaGreatDoorSch4
import Derived.Deep.DeepCutAuto
import Derived.Deep.RegionLaw
set_option linter.unusedVariables false
set_option linter.unusedSimpArgs false
namespace Go.Proofs.YtehfoddnlecmjaaGreatDoor
open Go.RowKit

section
variable {P : Program} {w : World} {base : Nat} {e t ty : TypeId} {z : Value} {size bytes : Nat} {v : Value} {n : Nat} {xs : List Value}
theorem step_app1 {ops : Array Oper} {o : Oper} {a : Act} {K : Act → World → Prop} {Q : Exit → Act → World → Prop} {E : Prop} (hgd : o.guard = none) (s x : Operand)
    (ho : o.op = .call { callee := .builtin .append, args := #[s, x], argTypes := #[t, t] })
    (ht : P.underlying t = some (.slice e)) (hE : ElemInfo P e z size bytes) (hz : z.cells.size = size) (hsz : 0 < size) (hs : a.eval s = v) (hown : w.ownsRow base e size v n xs)
    (cs : Array Value) (fr : Nat × Nat) (hcs : cs.size = size) (h1 : ∀ u ∈ cs.toList, u.oneCell' = true) (c : Nat) (hx : a.eval x = .slice (some ⟨w.heap.size, 0, none⟩) 1 c) (h63 : n + 1 ≤ maxLen) (hbytes : (n + 1) * bytes ≤ 140737488355328) (hbase : base ≤ w.heap.size)
    (h : ∀ v' w', w'.ownsRow base e size v' (n + 1) (xs ++ cs.toList) → w.grownBy w' v.ownBlock → (v'.ownBlock = v.ownBlock ∨ ∃ k, v'.ownBlock = some k ∧ w.heap.size < k) → K (a.put o.dst v') w') :
    if Region.wanted o (yielded ops a.tmps) = true then Oper.wp P o a (w.alloc (.cells cs e fr)) K Q else E := by
  have hw : Region.wanted o (yielded ops a.tmps) = true := by simp [Region.wanted, hgd]
  rw [if_pos hw]
  exact wp_app1 s x ho ht hE hz hsz hs hown cs fr hcs h1 c hx h63 hbytes hbase h
end
theorem blk3 {w : World} {k : Nat} {a b c : Value} {t : TypeId} (h : w.heap[k]? = some (.cells #[a, b, c] t (0, 0))) :
    w.cell? ⟨k, 0, none⟩ = some a ∧ w.cell? ⟨k, 1, none⟩ = some b ∧ w.cell? ⟨k, 2, none⟩ = some c ∧ w.frozen? ⟨k, 0, none⟩ = false ∧ w.frozen? ⟨k, 1, none⟩ = false ∧ w.frozen? ⟨k, 2, none⟩ = false :=
  ⟨blk_cell h 0, blk_cell h 1, blk_cell h 2, blk_frozen h 0, blk_frozen h 1, blk_frozen h 2⟩
/-- A slot with where its closures' captured lie. -/
abbrev SlP := Sl × Nat × Nat
theorem slotC_form (s : Sl) (S T : Nat) : ∃ f1 f2 : Nat, ∃ c2 : Array Value, slotC s S T = #[.int .i64 s.no, .int .i64 (wireK s.kind), .func (.func 110) #[] #[.pointer (some ⟨S, 0, none⟩), .pointer (some ⟨T, 0, none⟩)], .func (.func f1) #[] #[], .func (.func f2) #[] c2] := by
  by_cases h : s.kind = 5 ∨ s.kind = 6
  · exact ⟨115, 116, #[.pointer (some ⟨S, 0, none⟩)], by unfold slotC; rw [if_pos h, if_pos h]⟩
  · exact ⟨112, 113, #[.pointer (some ⟨S, 0, none⟩)], by unfold slotC; rw [if_neg h, if_neg h]⟩
theorem sc_one (a b : Int) (S T : Addr) (f1 f2 : Nat) (c2 : Array Value) : ∀ u ∈ (#[.int .i64 a, .int .i64 b, .func (.func 110) #[] #[.pointer (some S), .pointer (some T)], .func (.func f1) #[] #[], .func (.func f2) #[] c2] : Array Value).toList, u.oneCell' = true := by
  intro u hu
  simp at hu
  rcases hu with rfl | rfl | rfl | rfl | rfl <;> rfl
theorem slot_info : ElemInfo Tryz.prog 163 (.agg #[.int .i64 0, .int .i64 0, .nilFunc, .nilFunc, .nilFunc]) 5 40 := by unfold ElemInfo; kernel_rfl
/-- A codec: its slots. -/
def SlotsAt (w : World) (base : Nat) (v : Value) (xs : List SlP) : Prop := w.ownsRow base 163 5 v xs.length (xs.flatMap fun x => (slotC x.1 x.2.1 x.2.2).toList) ∧ ∀ x ∈ xs, SlotAt w x.1 x.2.1 x.2.2
def CodecAt (w : World) (base C : Nat) (xs : List SlP) : Prop := ∃ v a b, w.heap[C]? = some (.cells #[v, .int .i64 a, .int .i64 b] 159 (0, 0)) ∧ SlotsAt w base v xs
theorem own_blk {w : World} {b1 : Nat} {e1 : TypeId} {s1 n1 : Nat} {v1 : Value} {xs1 : List Value} (h1 : w.ownsRow b1 e1 s1 v1 n1 xs1) {k : Nat} (hk : v1.ownBlock = some k) : ∃ cs, w.heap[k]? = some (.cells cs e1 (0, 0)) := by
  rcases h1.2 with ⟨rfl, _⟩ | ⟨g, cap, cur, rfl, _, hh, _⟩
  · cases hk
  · simp [Value.ownBlock] at hk
    subst hk
    exact ⟨cur, hh⟩
theorem SlotAt.kept {w w' : World} {s : Sl} {S T : Nat} {r : Option Nat} (h : SlotAt w s S T) (hg : w.grownBy w' r) (hr : ∀ k, r = some k → ∃ cs fr t, w.heap[k]? = some (.cells cs t fr) ∧ t ≠ 187 ∧ t ≠ 101) : SlotAt w' s S T := by
  refine ⟨(hg.block S (lt_of_heap h.1) ?_).trans h.1, (hg.block T (lt_of_heap h.2) ?_).trans h.2⟩
  · intro e
    obtain ⟨cs, fr, t, h1, h2, h3⟩ := hr _ e.symm
    rw [h.1] at h1
    simp at h1
    exact h2 h1.2.1.symm
  · intro e
    obtain ⟨cs, fr, t, h1, h2, h3⟩ := hr _ e.symm
    rw [h.2] at h1
    simp at h1
    exact h3 h1.2.1.symm
theorem codec_push {base C : Nat} {wr w2 w3 : World} {s : Sl} {S T : Nat} {v v3 : Value} {p q : Int} {xs : List SlP} {cs : Array Value} (hcs : slotC s S T = cs) (_ : wr.heap[C]? = some (.cells #[v, .int .i64 p, .int .i64 q] 159 (0, 0)))
    (hcd : w3.heap[C]? = some (.cells #[v, .int .i64 p, .int .i64 q] 159 (0, 0))) (ho2 : w2.ownsRow base 163 5 v xs.length (xs.flatMap fun x => (slotC x.1 x.2.1 x.2.2).toList))
    (ho3 : w3.ownsRow base 163 5 v3 (xs.length + 1) ((xs.flatMap fun x => (slotC x.1 x.2.1 x.2.2).toList) ++ cs.toList)) (hg : w2.grownBy w3 v.ownBlock) (hs : ∀ x ∈ xs, SlotAt w2 x.1 x.2.1 x.2.2) (hs2 : SlotAt w2 s S T) :
    CodecAt (w3.setCell ⟨C, 0, none⟩ v3) base C (xs ++ [(s, S, T)]) := by
  have hst := grown_store w3 C 0 v3
  have k1 : ∀ {s : Sl} {S T : Nat}, SlotAt w2 s S T → SlotAt (w3.setCell ⟨C, 0, none⟩ v3) s S T := fun h =>
    (h.kept hg (fun k hk => by obtain ⟨cs, h1⟩ := own_blk ho2 hk; exact ⟨cs, _, _, h1, by decide, by decide⟩)).kept hst (fun k hk => by injection hk with hk; subst hk; exact ⟨_, _, _, hcd, by decide, by decide⟩)
  refine ⟨v3, p, q, ?_, ?_, ?_⟩
  · simp [World.setCell, Array.getElem?_modify, hcd]
  · have h3 := own_gr (S := fun k => k = C) ho3 (Gr.of_grown hst (fun k hk => by injection hk with hk; exact hk.symm)) (fun k hk e => by subst e; exact own_ne_blk ho3 hcd (by decide) hk)
    simpa [hcs] using h3
  · intro x hx
    rcases List.mem_append.1 hx with hx | hx
    · exact k1 (hs x hx)
    · simp at hx
      subst hx
      exact k1 hs2
set_option maxRecDepth 100000 in
set_option maxHeartbeats 1600000 in
theorem compile_flat (A : Option Addr) (c : Nat) (ss : List Sl) (w : World) (h : SRd w A ss) (hA : ∀ a, A = some a → a.block < w.heap.size) (hg : okS ss) :
    Calls Tryz.prog 72 #[.slice A ss.length c] w fun e w' => ∃ xs, e = .returned (.pointer (some ⟨w.heap.size, 0, none⟩)) ∧ CodecAt w' w.heap.size w.heap.size xs ∧ xs.map (·.1) = ss ∧ Ext w w' := by
  have HR := Lib.hid h
  have HG := Lib.hid hg
  have hl := hg.2.2
  have h1 := h.ext ((Ext.refl w).alloc (.cells #[.slice none 0 0, .int .i64 0, .int .i64 0] 159 (0, 0)))
  clear h hg
  go_enter Tryz.func72, Tryz.ntmps72
  go_wp2_with fail
  refine (span_any A c ss _ h1 HG.out.1 (by omega)).mono ?_
  rintro e w1 ⟨rfl, hx1⟩
  have y1 := hx1.heap (new_blk w (.cells #[.slice none 0 0, .int .i64 0, .int .i64 0] 159 (0, 0)))
  obtain ⟨a0, a1, a2, b0, b1, b2⟩ := blk3 y1
  have X1 : Ext w w1 := ((Ext.refl w).alloc _).trans hx1
  have hC1 : ∃ xs : List SlP, CodecAt ((w1.setCell ⟨w.heap.size, 1, none⟩ (.int .i64 (spanS ss ss.length).1)).setCell ⟨w.heap.size, 2, none⟩ (.int .i64 (spanS ss ss.length).2)) w.heap.size w.heap.size xs ∧ xs.map (·.1) = ss.take 0 := by
    refine ⟨[], ⟨.slice none 0 0, (spanS ss ss.length).1, (spanS ss ss.length).2, ?_, World.ownsRow_nil _ _ _ _, by simp⟩, by simp⟩
    simp [World.setCell, Array.getElem?_modify, y1]
  have X2 : Ext w ((w1.setCell ⟨w.heap.size, 1, none⟩ (.int .i64 (spanS ss ss.length).1)).setCell ⟨w.heap.size, 2, none⟩ (.int .i64 (spanS ss ss.length).2)) :=
    (X1.setCell (p := ⟨w.heap.size, 1, none⟩) (Nat.le_refl _) _).setCell (p := ⟨w.heap.size, 2, none⟩) (Nat.le_refl _) _
  have HC1 := Lib.hid hC1
  clear hC1 y1
  go_wp2
  go_loopw [21] (fun i wr => ∃ j : Nat, j ≤ ss.length ∧ i = .int .i64 j ∧ Hid (∃ xs : List SlP, CodecAt wr w.heap.size w.heap.size xs ∧ xs.map (·.1) = ss.take j) ∧ Ext w wr) (fun i _ => ss.length - (intOf i).toNat)
  case atStart => exact ⟨0, by omega, rfl, HC1, X2⟩
  case round =>
    obtain ⟨j, hj, rfl, HX, hx⟩ := hrel
    by_cases hlt : j < ss.length
    · rcases HR.out.ext hx with h | ⟨b, o, rfl, hc⟩
      · subst h; simp at hlt
      · obtain ⟨c0, c1, c2, c3, c4⟩ := hc j hlt
        have HGD := Lib.hid (HG.out.1 ss[j] (List.getElem_mem hlt))
        obtain ⟨xs, ⟨v, p, q, hcd, hsl⟩, hxs⟩ := HX.out
        have hn : xs.length = j := by have := congrArg List.length hxs; simp at this; omega
        have HCD := Lib.hid hcd
        have hne0 : some w.heap.size ≠ v.ownBlock := fun e => own_ne_blk hsl.1 hcd (by decide) e.symm
        have hne1 : some wr.heap.size ≠ v.ownBlock := fun e => by have := (World.ownsRow.lt hsl.1 _ e.symm).2; omega
        have HSL := Lib.hid hsl
        have HXS := Lib.hid hxs
        have t0 := lt_of_heap hcd
        have e0 := (blk3 hcd).1
        have f0 := (blk3 hcd).2.2.2.1
        clear hc hcd hsl hxs X2 HC1
        go_upto_region 6 with (fail)
        have X0 : Ext w (wr.alloc (.cells #[.int .i64 ss[j].no, .int .i64 ss[j].kind, .int .u64 ss[j].least, .int .u64 ss[j].most, .slice none 0 0] 101 (0, 0))) := hx.alloc _
        obtain ⟨W0, hW0⟩ : ∃ W0, wr.alloc (.cells #[.int .i64 ss[j].no, .int .i64 ss[j].kind, .int .u64 ss[j].least, .int .u64 ss[j].most, .slice none 0 0] 101 (0, 0)) = W0 := ⟨_, rfl⟩
        rw [hW0] at X0 ⊢
        have XW : Ext wr W0 := by rw [← hW0]; exact (Ext.refl _).alloc _
        have k0 : W0.cell? ⟨w.heap.size, 0, none⟩ = some v := XW.cell e0
        have kb : W0.heap[wr.heap.size]? = some (.cells #[.int .i64 ss[j].no, .int .i64 ss[j].kind, .int .u64 ss[j].least, .int .u64 ss[j].most, .slice none 0 0] 101 (0, 0)) := by rw [← hW0]; exact new_blk _ _
        obtain ⟨k1, k2, k3, k4, k5, _⟩ := blk5 kb
        have hl63 : xs.length + 1 ≤ maxLen := by simp only [maxLen]; omega
        have hlb : (xs.length + 1) * 40 ≤ 140737488355328 := by omega
        clear hW0 e0 f0
        go_region_law (first
            | (go_simp; go_at_call 92; refine (ready_any ss[j] _ HGD.out).mono ?_; rintro e w2 ⟨S, T, rfl, hs2, hx2⟩; obtain ⟨f1, f2, cc, hsf⟩ := slotC_form ss[j] S T; rw [hsf]; have HSF := Lib.hid hsf; clear hsf; have ho2 := own_gr (S := fun _ => False) HSL.out.1 (Gr.of_ext (XW.drew.trans hx2)) (fun _ _ => id); have hb2 : w.heap.size ≤ w2.heap.size := (X0.drew.trans hx2).size; have m0 := hx2.cell k0; have m1 := hx2.cell k1; have m2 := hx2.cell k2; have m3 := hx2.cell k3; have m4 := hx2.cell k4; have m5 := hx2.cell k5; have l0 : w.heap.size < w2.heap.size := lt_of_cell m0; have l1 : wr.heap.size < w2.heap.size := lt_of_cell m1)
            | (refine step_app1 (by rfl) (.tmp 29) (.tmp 32) (by rfl) Tryz.underlying157 slot_info (by rfl) (by decide) (by rfl) ho2 #[.int .i64 ss[j].no, .int .i64 (wireK ss[j].kind), .func (.func 110) #[] #[.pointer (some ⟨S, 0, none⟩), .pointer (some ⟨T, 0, none⟩)], .func (.func f1) #[] #[], .func (.func f2) #[] cc] (0, 0) (by rfl) (sc_one _ _ _ _ _ _ _) 1 (by rfl) hl63 hlb hb2 ?_; intro v3 w3 ho3 hg3 hat3; obtain ⟨g3, c3', rfl⟩ := own_succ ho3; have hcd3 := (hg3.block w.heap.size (by have := hx2.size; have := XW.size; exact Nat.lt_of_lt_of_le t0 (Nat.le_trans XW.size hx2.size)) hne0).trans (hx2.heap (XW.heap HCD.out)); have fz3 := (blk3 hcd3).2.2.2.1; have ez3 := (blk3 hcd3).1))
        all_goals
          have hcp := codec_push (s := ss[j]) HSF.out HCD.out hcd3 ho2 ho3 hg3 (fun x hx => ((HSL.out.2 x hx).ext XW.drew).ext hx2) hs2
          have hfin : Ext w (w3.setCell ⟨w.heap.size, 0, none⟩ (.slice (some ⟨g3, 0, none⟩) (xs.length + 1) c3')) := ((Ext.then_grown (X0.drew.trans hx2) hg3 (fun k hk => own_ge HSL.out.1 k hk))).setCell (p := ⟨w.heap.size, 0, none⟩) (Nat.le_refl _) _
          rw [hn] at hcp hfin
          have HCP := Lib.hid hcp
          clear hcp
          go_wp2
          refine ⟨⟨j + 1, by omega, by simp, Lib.hid ⟨xs ++ [(ss[j], S, T)], HCP.out, ?_⟩, hfin⟩, by simp [intOf]; omega⟩
          rw [List.map_append, HXS.out, List.take_succ_eq_append_getElem hlt]
          rfl
    · obtain rfl : j = ss.length := by omega
      go_wp2
      go_ret
      obtain ⟨xs, h1, h2⟩ := HX.out
      rw [List.take_length] at h2
      exact ⟨xs, rfl, h1, h2, hx⟩
end Go.Proofs.YtehfoddnlecmjaaGreatDoor
