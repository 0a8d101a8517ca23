/- The contracts of package envelope: the codecs. -/
import Derived.Test.YtehfoddnlecmjaaGreatDoorSch6
set_option linter.unusedVariables false
set_option linter.unusedSimpArgs false
namespace Go.Proofs.YtehfoddnlecmjaaGreatDoor
open Go.RowKit

theorem srd_of {w : World} {b : Nat} {cs : Array Value} {t : TypeId} {fr : Nat × Nat} (h : w.heap[b]? = some (.cells cs t fr)) {ss : List Sl} (hcs : cs.toList = ss.flatMap fun s => (slC s (.slice none 0 0)).toList) : SRd w (some ⟨b, 0, none⟩) ss := by
  refine .inr ⟨b, 0, rfl, fun i hi => ?_⟩
  have key : ∀ (ss : List Sl) (i k : Nat) (h : i < ss.length), k < 5 → (ss.flatMap fun s => (slC s (.slice none 0 0)).toList)[i * 5 + k]? = (slC ss[i] (.slice none 0 0)).toList[k]? := by
    intro ss
    induction ss with
    | nil => intro i k h; simp at h
    | cons s ss ih =>
      intro i k h hk
      cases i with
      | zero =>
        simp only [List.flatMap_cons, Nat.zero_mul, Nat.zero_add, List.getElem_cons_zero]
        rw [List.getElem?_append_left (by show k < 5; exact hk)]
      | succ i =>
        simp only [List.flatMap_cons, List.getElem_cons_succ]
        rw [List.getElem?_append_right (by show 5 ≤ _; omega), show (slC s (.slice none 0 0)).toList.length = 5 from rfl, show (i + 1) * 5 + k - 5 = i * 5 + k by omega]
        exact ih i k (by simpa using h) hk
  have c : ∀ k (_ : k < 5), w.cell? ⟨b, 0 + i * 5 + k, none⟩ = (slC ss[i] (.slice none 0 0)).toList[k]? := by
    intro k hk
    rw [blk_cell h, show 0 + i * 5 + k = i * 5 + k by omega, ← key ss i k hi hk, ← hcs, Array.getElem?_toList]
  exact ⟨c 0 (by decide), c 1 (by decide), c 2 (by decide), c 3 (by decide), c 4 (by decide)⟩
theorem bytesOf_any (no a b : Int) (w : World) : Calls Tryz.prog 55 #[.int .i64 no, .int .u64 a, .int .u64 b] w fun e w' => e = .returned (.agg #[.int .i64 no, .int .i64 5, .int .u64 a, .int .u64 b, .slice none 0 0]) ∧ Ext w w' := by
  go_enter Tryz.func55, Tryz.ntmps55
  go_wp2
  refine bodyPost_ret (v := .agg #[.int .i64 no, .int .i64 5, .int .u64 a, .int .u64 b, .slice none 0 0]) (by simp [results, Tryz.results55, go_sem]) rfl ⟨rfl, ?_⟩
  exact (Ext.refl _).alloc _
def hdrS : List Sl := [⟨1, 5, 32, 32⟩, ⟨2, 2, 0, 4294967295⟩, ⟨3, 2, 0, 4294967295⟩]
theorem hdr_ok : okS hdrS := by
  refine ⟨fun s hs => ?_, fun j h => ?_, by decide⟩
  · simp [hdrS] at hs
    rcases hs with rfl | rfl | rfl <;> (unfold Sl.good; simp)
  · match j, h with
    | 0, _ => simp [lastS, hdrS]
    | 1, _ => simp [lastS, hdrS]
    | 2, _ => simp [lastS, hdrS]
theorem hdr_span : (spanS hdrS hdrS.length).2 ≤ 4194304 := by simp [spanS, hdrS, spanStep, headN, wireK, spanV, vsize_lt]
set_option maxRecDepth 100000 in
theorem headers_any (w : World) : Calls Tryz.prog 53 #[] w fun e w' => ∃ C xs, e = .returned (.pointer (some ⟨C, 0, none⟩)) ∧ CodecAt w' C C xs ∧ xs.map (·.1) = hdrS ∧ Ext w w' ∧ w.heap.size ≤ C := by
  go_enter Tryz.func53, Tryz.ntmps53
  go_wp2_with fail
  refine (bytesOf_any 1 32 32 _).mono ?_
  rintro e w1 ⟨rfl, hx1⟩
  go_wp2_with fail
  refine (Compile_flat (some ⟨w1.heap.size, 0, none⟩) 3 hdrS _ (srd_of (new_blk w1 _) (by rfl)) (fun a e => by injection e with e; subst e; simp) hdr_ok hdr_span).mono ?_
  rintro e w2 ⟨C, xs, rfl, hc, hxs, hx2, hC⟩
  go_wp2
  go_ret
  have hx := hx1.trans (((Ext.refl w1).alloc _).trans hx2)
  exact ⟨C, xs, rfl, hc, hxs, hx, by have := hx1.size; simp at hC; omega⟩
end Go.Proofs.YtehfoddnlecmjaaGreatDoor
