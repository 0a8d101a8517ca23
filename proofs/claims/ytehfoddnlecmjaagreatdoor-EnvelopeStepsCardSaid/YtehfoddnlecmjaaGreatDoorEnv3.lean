/- The contracts of package envelope: the envelopes' codec. -/
import Derived.Test.YtehfoddnlecmjaaGreatDoorEnv2
import Derived.Test.YtehfoddnlecmjaaGreatDoorEnv1
set_option linter.unusedVariables false
set_option linter.unusedSimpArgs false
namespace Go.Proofs.YtehfoddnlecmjaaGreatDoor
open Go.RowKit

/-- The greatest bucket of a version. -/
def mostB (v : Nat) : Nat := bucket v 1048576
theorem mostB_le (v : Nat) : 1048580 ≤ mostB v ∧ mostB v < 2097160 := by
  have h := bkGo_lt 1048580 v 64 1048580 (by omega) (by decide)
  have h1 := h.1 (by decide)
  unfold mostB bucket
  exact ⟨h.2.2, h1⟩
def envS (v : Nat) : List Sl := [⟨1, 1, v, v⟩, ⟨2, 5, 16, 16⟩, ⟨3, 5, 60, 60⟩, ⟨4, 5, 80, mostB v + 16⟩]
theorem env_ok (v : Nat) (hv : v = 1 ∨ v = 2) : okS (envS v) := by
  have hm := mostB_le v
  refine ⟨fun s hs => ?_, fun j h => ?_, by simp [envS]⟩
  · simp only [envS, List.mem_cons, List.not_mem_nil, or_false] at hs
    rcases hs with rfl | rfl | rfl | rfl
    · unfold Sl.good; simp; omega
    · unfold Sl.good; simp
    · unfold Sl.good; simp
    · unfold Sl.good; simp; omega
  · match j, h with
    | 0, _ => simp [lastS, envS]
    | 1, _ => simp [lastS, envS]
    | 2, _ => simp [lastS, envS]
    | 3, _ => simp [lastS, envS]
theorem env_span (v : Nat) (hv : v = 1 ∨ v = 2) : (spanS (envS v) (envS v).length).2 ≤ 4194304 := by
  have hm := mostB_le v
  have h1 : vsize (mostB v + 16) ≤ 10 := vsize_le10 (by omega)
  have h2 : vsize v = 1 := vsize_lt (by omega)
  simp [spanS, envS, spanStep, headN, wireK, spanV, vsize_lt, h2]
  omega
set_option maxRecDepth 100000 in
theorem envelopes_any (v : Nat) (hv : v = 1 ∨ v = 2) (w : World) : Calls Tryz.prog 37 #[.int .i64 v] w fun e w' => ∃ C xs, e = .returned (.pointer (some ⟨C, 0, none⟩)) ∧ CodecAt w' C C xs ∧ xs.map (·.1) = envS v ∧ Ext w w' ∧ w.heap.size ≤ C := by
  have hm := mostB_le v
  have HOK := Lib.hid (env_ok v hv)
  have HSP := Lib.hid (env_span v hv)
  have hb : bkt v 1048576 = (((mostB v : Nat) : Int), (0 : Int)) := by
    unfold bkt
    rw [if_pos (by omega), if_neg (by decide), if_neg (by decide)]
    rfl
  have HB := Lib.hid hb
  clear hb
  go_enter Tryz.func37, Tryz.ntmps37
  go_wp2_with fail
  refine (bucket_any v 1048576 _).mono ?_
  rintro e w1 ⟨rfl, hx1⟩
  rw [HB.out]
  go_wp2_with fail
  refine (bytesOf_any 2 16 16 _).mono ?_
  rintro e w2 ⟨rfl, hx2⟩
  go_wp2_with fail
  refine (bytesOf_any 3 60 60 _).mono ?_
  rintro e w3 ⟨rfl, hx3⟩
  go_wp2_with fail
  refine (bytesOf_any 4 80 _ _).mono ?_
  rintro e w4 ⟨rfl, hx4⟩
  go_wp2_with fail
  have X := ((hx1.trans hx2).trans hx3).trans hx4
  refine (Compile_flat (some ⟨w4.heap.size, 0, none⟩) 4 (envS v) _ (srd_of (new_blk w4 _) (by rfl)) (fun a e => by injection e with e; subst e; simp) HOK.out HSP.out).mono ?_
  rintro e w5 ⟨C, xs, rfl, hc, hxs, hx5, hC⟩
  go_wp2
  go_ret
  exact ⟨C, xs, rfl, hc, hxs, X.trans (((Ext.refl w4).alloc _).trans hx5), by have := X.size; simp at hC; omega⟩
end Go.Proofs.YtehfoddnlecmjaaGreatDoor
