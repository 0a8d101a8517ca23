/- The contracts of package schema: a slot made ready. -/
import Derived.Test.YtehfoddnlecmjaaGreatDoorSch4a
import Derived.Deep.RegionHeld3
import Derived.Deep.DeepCutAuto
import Derived.Laws.EntriesVeiled
set_option linter.unusedVariables false
set_option linter.unusedSimpArgs false
namespace Go.Proofs.YtehfoddnlecmjaaGreatDoor
open Go.RowKit

/-- What a slot's values are like. -/
def shV (s : Sl) : Value :=
  if s.kind = 5 ∨ s.kind = 6 then .iface 204 (.agg #[.int .u64 s.least, .int .u64 s.most, .bool (decide (s.kind = 6))])
  else if s.kind = 4 then .iface 198 (.agg #[.int .u64 0, .int .u64 1]) else .iface 198 (.agg #[.int .u64 s.least, .int .u64 s.most])
set_option maxRecDepth 100000 in
theorem shapeOf_any (s : Sl) (sub : Value) (w : World) (h : s.good) : Calls Tryz.prog 108 #[.agg (slC s sub)] w fun e w' => e = .returned (shV s) ∧ Ext w w' := by
  obtain ⟨no, kind, least, most⟩ := s
  obtain ⟨h1, h2, h3, h4, h5⟩ := h
  simp only at h1 h2 h3 h4 h5
  unfold slC
  simp only
  clear h1 h2 h3 h4
  rcases h5 with ⟨rfl, h⟩ | ⟨rfl, h, h'⟩ | ⟨rfl, rfl, rfl⟩ | ⟨rfl, h, h'⟩ | ⟨rfl, h, h'⟩
  all_goals
    go_enter Tryz.func108, Tryz.ntmps108
    go_wp2
    go_ret
    exact ⟨rfl, (Ext.refl _).alloc _⟩
/-- A slot made ready, of number and wire type: what is done with a value there. -/
def slotC (s : Sl) (S T : Nat) : Array Value := #[.int .i64 s.no, .int .i64 (wireK s.kind), .func (.func 110) #[] #[.pointer (some ⟨S, 0, none⟩), .pointer (some ⟨T, 0, none⟩)],
  if s.kind = 5 ∨ s.kind = 6 then .func (.func 115) #[] #[] else .func (.func 112) #[] #[],
  if s.kind = 5 ∨ s.kind = 6 then .func (.func 116) #[] #[.pointer (some ⟨S, 0, none⟩)] else .func (.func 113) #[] #[.pointer (some ⟨S, 0, none⟩)]]
/-- What its closures have captured. -/
def SlotAt (w : World) (s : Sl) (S T : Nat) : Prop := w.heap[S]? = some (.cells #[shV s] 187 (0, 0)) ∧ w.heap[T]? = some (.cells (slC s (.slice none 0 0)) 101 (0, 0))
theorem SlotAt.ext {w w' : World} {s : Sl} {S T : Nat} (h : SlotAt w s S T) (hx : Ext w w') : SlotAt w' s S T := ⟨hx.heap h.1, hx.heap h.2⟩
theorem shV_cases (s : Sl) (hk : s.kind = 1 ∨ s.kind = 2 ∨ s.kind = 4 ∨ s.kind = 5 ∨ s.kind = 6) :
    ((s.kind = 5 ∨ s.kind = 6) ∧ ∃ a b t, shV s = .iface 204 (.agg #[.int .u64 a, .int .u64 b, .bool t])) ∨ (¬ (s.kind = 5 ∨ s.kind = 6) ∧ ∃ a b, shV s = .iface 198 (.agg #[.int .u64 a, .int .u64 b])) := by
  by_cases h : s.kind = 5 ∨ s.kind = 6
  · exact .inl ⟨h, _, _, _, by rw [shV, if_pos h]⟩
  · refine .inr ⟨h, ?_⟩
    by_cases h4 : s.kind = 4
    · exact ⟨_, _, by rw [shV, if_neg h, if_pos h4]⟩
    · exact ⟨_, _, by rw [shV, if_neg h, if_neg h4]⟩
/-- Behind 'ready's first rows: the slot, the result's room, the slot made ready. -/
def RdyW (w : World) (s : Sl) (W : World) : Prop := Ext w W ∧ W.heap[w.heap.size]? = some (.cells #[.int .i64 s.no, .int .i64 s.kind, .int .u64 s.least, .int .u64 s.most, .slice none 0 0] 101 (0, 0)) ∧
  W.heap[w.heap.size + 1]? = some (.cells #[.int .i64 0, .int .i64 0, .nilFunc, .nilFunc, .nilFunc] 163 (0, 0)) ∧ W.heap[w.heap.size + 1 + 1]? = some (.cells #[.int .i64 s.no, .int .i64 (wireK s.kind), .nilFunc, .nilFunc, .nilFunc] 163 (0, 0))
theorem rdy_start (w : World) (s : Sl) : RdyW w s (((w.alloc (.cells #[.int .i64 s.no, .int .i64 s.kind, .int .u64 s.least, .int .u64 s.most, .slice none 0 0] 101 (0, 0))).alloc (.cells #[.int .i64 0, .int .i64 0, .nilFunc, .nilFunc, .nilFunc] 163 (0, 0))).alloc (.cells #[.int .i64 s.no, .int .i64 (wireK s.kind), .nilFunc, .nilFunc, .nilFunc] 163 (0, 0))).drew := by
  refine ⟨((((Ext.refl w).alloc _).alloc _).alloc _).drew, old_blk (old_blk (new_blk w _) _) _, ?_, ?_⟩
  · have := old_blk (new_blk (w.alloc (.cells #[.int .i64 s.no, .int .i64 s.kind, .int .u64 s.least, .int .u64 s.most, .slice none 0 0] 101 (0, 0))) (.cells #[.int .i64 0, .int .i64 0, .nilFunc, .nilFunc, .nilFunc] 163 (0, 0))) (.cells #[.int .i64 s.no, .int .i64 (wireK s.kind), .nilFunc, .nilFunc, .nilFunc] 163 (0, 0))
    rw [World.size_alloc] at this
    exact this
  · have := new_blk ((w.alloc (.cells #[.int .i64 s.no, .int .i64 s.kind, .int .u64 s.least, .int .u64 s.most, .slice none 0 0] 101 (0, 0))).alloc (.cells #[.int .i64 0, .int .i64 0, .nilFunc, .nilFunc, .nilFunc] 163 (0, 0))) (.cells #[.int .i64 s.no, .int .i64 (wireK s.kind), .nilFunc, .nilFunc, .nilFunc] 163 (0, 0))
    rw [World.size_alloc, World.size_alloc] at this
    exact this
set_option maxRecDepth 100000 in
set_option maxHeartbeats 1600000 in
theorem ready_any (s : Sl) (w : World) (h : s.good) : Calls Tryz.prog 92 #[.agg (slC s (.slice none 0 0))] w fun e w' => ∃ S T, e = .returned (.agg (slotC s S T)) ∧ SlotAt w' s S T ∧ Ext w w' := by
  have HG := Lib.hid h
  have hk : s.kind = 1 ∨ s.kind = 2 ∨ s.kind = 4 ∨ s.kind = 5 ∨ s.kind = 6 := by have := h.2.2.2.2; omega
  have HK : Hid (s.kind = 1 ∨ s.kind = 2 ∨ s.kind = 4 ∨ s.kind = 5 ∨ s.kind = 6 ∨ s.kind = 9) := by exact (by omega : s.kind = 1 ∨ s.kind = 2 ∨ s.kind = 4 ∨ s.kind = 5 ∨ s.kind = 6 ∨ s.kind = 9)
  clear h
  have hsh := shV_cases s hk
  unfold slC
  go_enter Tryz.func92, Tryz.ntmps92
  go_upto_region 1 with (fail)
  go_cut [3] (fun s3 wx => s3 = .pointer (some ⟨w.heap.size + 1 + 1, 0, none⟩) ∧ RdyW w s wx)
  case first =>
    go_region_held3 (fun w' => w'.cell? ⟨w.heap.size, 0, none⟩ = some (.int .i64 s.no) ∧ w'.cell? ⟨w.heap.size, 1, none⟩ = some (.int .i64 s.kind)) (first | go_keep | exact ⟨by simp, by simp⟩) (first | (go_at_call 106; refine (wireOf_any s.kind _ HK.out).mono ?_; rintro e w1 ⟨rfl, rfl⟩))
    all_goals
      go_wp2
      go_meet
      exact ⟨rfl, rdy_start w s⟩
  case rest =>
    obtain ⟨rfl, z0, z1, z2, z3⟩ := hcut
    obtain ⟨p0, p1, p2, p3, p4, _⟩ := blk5 z1
    go_wp2_with fail
    refine (shapeOf_any s (.slice none 0 0) _ HG.out).mono ?_
    rintro e w1 ⟨rfl, hx1⟩
    have y1 := hx1.heap z1
    have y2 := hx1.heap z2
    have y3 := hx1.heap z3
    have hxx := z0.trans hx1
    have hz3 := lt_of_heap y3
    clear z1 z2 z3 p0 p1 p2 p3 p4 hx1 z0
    rcases hsh with ⟨hd, a, b, t, hsv⟩ | ⟨hd, a, b, hsv⟩
    · have HSV := Lib.hid hsv
      rw [hsv]
      have Y1 := Lib.hid y1
      have Y2 := Lib.hid y2
      have Y3 := Lib.hid y3
      have hd' := hd
      clear y1 y2 y3 hsv hk HG HK
      go_upto_region 6 with (fail)
      obtain ⟨W2, hW2⟩ : ∃ W2, (w1.alloc (.cells #[.iface 204 (.agg #[.int .u64 a, .int .u64 b, .bool t])] 187 (0, 0))).alloc (.cells #[.pointer none] 190 (0, 0)) = W2 := ⟨_, rfl⟩
      rw [hW2]
      have X2 : Ext w1 W2 := by rw [← hW2]; exact ((Ext.refl _).alloc _).alloc _
      have v1 : W2.heap[w1.heap.size]? = some (.cells #[.iface 204 (.agg #[.int .u64 a, .int .u64 b, .bool t])] 187 (0, 0)) := by rw [← hW2]; exact old_blk (new_blk w1 _) _
      have q1 := cell_of_one v1
      obtain ⟨a0, a1, a2, a3, a4, b0, b1, b2, b3, b4⟩ := blk5 (X2.heap Y3.out)
      obtain ⟨c0, c1, c2, c3, c4, d0, d1, d2, d3, d4⟩ := blk5 (X2.heap Y2.out)
      have V1 := Lib.hid v1
      have hz4 : w.heap.size + 1 + 1 < W2.heap.size := by have := X2.size; omega
      have hz5 : w1.heap.size < W2.heap.size := lt_of_heap v1
      clear hW2 v1
      go_upto_region 24 with (fail)
      obtain ⟨W3, hW3⟩ : ∃ W3, (((W2.setCell ⟨w.heap.size + 1 + 1, 2, none⟩ (.func (.func 110) #[] #[.pointer (some ⟨w1.heap.size, 0, none⟩), .pointer (some ⟨w.heap.size, 0, none⟩)])).setCell ⟨w.heap.size + 1 + 1, 3, none⟩ (.func (.func 115) #[] #[])).setCell ⟨w.heap.size + 1 + 1, 4, none⟩ (.func (.func 116) #[] #[.pointer (some ⟨w1.heap.size, 0, none⟩)])).alloc (.cells #[.int .u64 a, .int .u64 b, .bool t] 204 (0, 0)) = W3 := ⟨_, rfl⟩
      rw [hW3]
      have XX : Ext w W3 := by
        rw [← hW3]
        have h0 : Ext w W2 := hxx.trans X2
        refine Ext.alloc ((((h0.setCell (p := ⟨w.heap.size + 1 + 1, 2, none⟩) (by simp; omega) _).setCell (p := ⟨w.heap.size + 1 + 1, 3, none⟩) (by simp; omega) _).setCell (p := ⟨w.heap.size + 1 + 1, 4, none⟩) (by simp; omega) _)) _
      have v3 : W3.heap[w.heap.size + 1 + 1]? = some (.cells #[.int .i64 s.no, .int .i64 (wireK s.kind), .func (.func 110) #[] #[.pointer (some ⟨w1.heap.size, 0, none⟩), .pointer (some ⟨w.heap.size, 0, none⟩)], .func (.func 115) #[] #[], .func (.func 116) #[] #[.pointer (some ⟨w1.heap.size, 0, none⟩)]] 163 (0, 0)) := by
        rw [← hW3]
        refine old_blk (?_) _
        simp [World.setCell, Array.getElem?_modify, X2.heap Y3.out]
      have v2 : W3.heap[w.heap.size + 1]? = some (.cells #[.int .i64 0, .int .i64 0, .nilFunc, .nilFunc, .nilFunc] 163 (0, 0)) := by
        rw [← hW3]
        refine old_blk (?_) _
        exact set_heap (set_heap (set_heap (X2.heap Y2.out) (by omega)) (by omega)) (by omega)
      have v1 : W3.heap[w1.heap.size]? = some (.cells #[shV s] 187 (0, 0)) := by
        rw [← hW3, HSV.out]
        refine old_blk (?_) _
        exact set_heap (set_heap (set_heap V1.out (by omega)) (by omega)) (by omega)
      have v0 : W3.heap[w.heap.size]? = some (.cells (slC s (.slice none 0 0)) 101 (0, 0)) := by
        rw [← hW3]
        refine old_blk (?_) _
        exact set_heap (set_heap (set_heap (X2.heap Y1.out) (by omega)) (by omega)) (by omega)
      clear hW3
      obtain ⟨a0, a1, a2, a3, a4, _⟩ := blk5 v3
      obtain ⟨c0, c1, c2, c3, c4, d0, d1, d2, d3, d4⟩ := blk5 v2
      have V3 := Lib.hid v3
      have V2 := Lib.hid v2
      have V1' := Lib.hid v1
      have V0 := Lib.hid v0
      clear v3 v2 v1 v0
      go_wp2
      refine bodyPost_ret (v := .agg (slotC s w1.heap.size w.heap.size)) ?_ rfl ⟨w1.heap.size, w.heap.size, rfl, ⟨?_, ?_⟩, ?_⟩
      · unfold slotC
        simp [results, Tryz.results92, go_sem, c0, c1, c2, c3, c4, hd]
      · exact set_heap (set_heap (set_heap (set_heap (set_heap V1'.out (by omega)) (by omega)) (by omega)) (by omega)) (by omega)
      · exact set_heap (set_heap (set_heap (set_heap (set_heap V0.out (by omega)) (by omega)) (by omega)) (by omega)) (by omega)
      · exact ((((XX.setCell (p := ⟨w.heap.size + 1, 0, none⟩) (by simp) _).setCell (p := ⟨w.heap.size + 1, 1, none⟩) (by simp) _).setCell (p := ⟨w.heap.size + 1, 2, none⟩) (by simp) _).setCell (p := ⟨w.heap.size + 1, 3, none⟩) (by simp) _).setCell (p := ⟨w.heap.size + 1, 4, none⟩) (by simp) _
    · have HSV := Lib.hid hsv
      rw [hsv]
      have Y1 := Lib.hid y1
      have Y2 := Lib.hid y2
      have Y3 := Lib.hid y3
      have hd' := hd
      clear y1 y2 y3 hsv hk HG HK
      go_upto_region 6 with (fail)
      obtain ⟨W2, hW2⟩ : ∃ W2, (w1.alloc (.cells #[.iface 198 (.agg #[.int .u64 a, .int .u64 b])] 187 (0, 0))).alloc (.cells #[.pointer none] 190 (0, 0)) = W2 := ⟨_, rfl⟩
      rw [hW2]
      have X2 : Ext w1 W2 := by rw [← hW2]; exact ((Ext.refl _).alloc _).alloc _
      have v1 : W2.heap[w1.heap.size]? = some (.cells #[.iface 198 (.agg #[.int .u64 a, .int .u64 b])] 187 (0, 0)) := by rw [← hW2]; exact old_blk (new_blk w1 _) _
      have q1 := cell_of_one v1
      obtain ⟨a0, a1, a2, a3, a4, b0, b1, b2, b3, b4⟩ := blk5 (X2.heap Y3.out)
      obtain ⟨c0, c1, c2, c3, c4, d0, d1, d2, d3, d4⟩ := blk5 (X2.heap Y2.out)
      have V1 := Lib.hid v1
      have hz4 : w.heap.size + 1 + 1 < W2.heap.size := by have := X2.size; omega
      have hz5 : w1.heap.size < W2.heap.size := lt_of_heap v1
      clear hW2 v1
      go_upto_region 24 with (fail)
      obtain ⟨W3, hW3⟩ : ∃ W3, (((W2.setCell ⟨w.heap.size + 1 + 1, 2, none⟩ (.func (.func 110) #[] #[.pointer (some ⟨w1.heap.size, 0, none⟩), .pointer (some ⟨w.heap.size, 0, none⟩)])).setCell ⟨w.heap.size + 1 + 1, 3, none⟩ (.func (.func 112) #[] #[])).setCell ⟨w.heap.size + 1 + 1, 4, none⟩ (.func (.func 113) #[] #[.pointer (some ⟨w1.heap.size, 0, none⟩)])) = W3 := ⟨_, rfl⟩
      rw [hW3]
      have XX : Ext w W3 := by
        rw [← hW3]
        have h0 : Ext w W2 := hxx.trans X2
        refine (((h0.setCell (p := ⟨w.heap.size + 1 + 1, 2, none⟩) (by simp; omega) _).setCell (p := ⟨w.heap.size + 1 + 1, 3, none⟩) (by simp; omega) _).setCell (p := ⟨w.heap.size + 1 + 1, 4, none⟩) (by simp; omega) _)
      have v3 : W3.heap[w.heap.size + 1 + 1]? = some (.cells #[.int .i64 s.no, .int .i64 (wireK s.kind), .func (.func 110) #[] #[.pointer (some ⟨w1.heap.size, 0, none⟩), .pointer (some ⟨w.heap.size, 0, none⟩)], .func (.func 112) #[] #[], .func (.func 113) #[] #[.pointer (some ⟨w1.heap.size, 0, none⟩)]] 163 (0, 0)) := by
        rw [← hW3]
        simp [World.setCell, Array.getElem?_modify, X2.heap Y3.out]
      have v2 : W3.heap[w.heap.size + 1]? = some (.cells #[.int .i64 0, .int .i64 0, .nilFunc, .nilFunc, .nilFunc] 163 (0, 0)) := by
        rw [← hW3]
        exact set_heap (set_heap (set_heap (X2.heap Y2.out) (by omega)) (by omega)) (by omega)
      have v1 : W3.heap[w1.heap.size]? = some (.cells #[shV s] 187 (0, 0)) := by
        rw [← hW3, HSV.out]
        exact set_heap (set_heap (set_heap V1.out (by omega)) (by omega)) (by omega)
      have v0 : W3.heap[w.heap.size]? = some (.cells (slC s (.slice none 0 0)) 101 (0, 0)) := by
        rw [← hW3]
        exact set_heap (set_heap (set_heap (X2.heap Y1.out) (by omega)) (by omega)) (by omega)
      clear hW3
      obtain ⟨a0, a1, a2, a3, a4, _⟩ := blk5 v3
      obtain ⟨c0, c1, c2, c3, c4, d0, d1, d2, d3, d4⟩ := blk5 v2
      have V3 := Lib.hid v3
      have V2 := Lib.hid v2
      have V1' := Lib.hid v1
      have V0 := Lib.hid v0
      clear v3 v2 v1 v0
      go_wp2
      refine bodyPost_ret (v := .agg (slotC s w1.heap.size w.heap.size)) ?_ rfl ⟨w1.heap.size, w.heap.size, rfl, ⟨?_, ?_⟩, ?_⟩
      · unfold slotC
        simp [results, Tryz.results92, go_sem, c0, c1, c2, c3, c4, hd]
      · exact set_heap (set_heap (set_heap (set_heap (set_heap V1'.out (by omega)) (by omega)) (by omega)) (by omega)) (by omega)
      · exact set_heap (set_heap (set_heap (set_heap (set_heap V0.out (by omega)) (by omega)) (by omega)) (by omega)) (by omega)
      · exact ((((XX.setCell (p := ⟨w.heap.size + 1, 0, none⟩) (by simp) _).setCell (p := ⟨w.heap.size + 1, 1, none⟩) (by simp) _).setCell (p := ⟨w.heap.size + 1, 2, none⟩) (by simp) _).setCell (p := ⟨w.heap.size + 1, 3, none⟩) (by simp) _).setCell (p := ⟨w.heap.size + 1, 4, none⟩) (by simp) _
end Go.Proofs.YtehfoddnlecmjaaGreatDoor
