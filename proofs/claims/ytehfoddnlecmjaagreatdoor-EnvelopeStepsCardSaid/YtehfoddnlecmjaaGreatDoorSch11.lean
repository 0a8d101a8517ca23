/- The contracts of package schema: Check. -/
import Derived.Test.YtehfoddnlecmjaaGreatDoorSch8
import Derived.Test.YtehfoddnlecmjaaGreatDoorSch10
set_option linter.unusedVariables false
set_option linter.unusedSimpArgs false
namespace Go.Proofs.YtehfoddnlecmjaaGreatDoor
open Go.RowKit

set_option maxRecDepth 100000 in
set_option maxHeartbeats 1600000 in
theorem codec_Check (C base : Nat) (xs : List SlP) (D P : Option Addr) (cd cp : Nat) (ps : List PV) (w : World) (hc : CodecAt w base C xs) (hp : PRd w P ps) (hok : OkParts xs ps) (h1 : 1 ≤ xs.length) (h64 : xs.length ≤ 64) :
    Calls Tryz.prog 67 #[.pointer (some ⟨C, 0, none⟩), .agg #[.int .u64 0, .slice D 0 cd, .slice P ps.length cp]] w fun e w' => e = .returned .nilIface ∧ Ext w w' := by
  have hmf : ∀ (fn : Fn) (first cap : Array Value) (w : World), (Instr.makeFunc fn first cap).run Tryz.prog w = .ok (.func fn first cap) w := fun _ _ _ _ => rfl
  have X0 : Ext w ((w.alloc (.cells #[.int .u64 0, .slice D 0 cd, .slice P ps.length cp] 78 (0, 0))).alloc (.cells #[.nilIface] 29 (0, 0))) := ((Ext.refl _).alloc _).alloc _
  have hB := new_blk (w.alloc (.cells #[.int .u64 0, .slice D 0 cd, .slice P ps.length cp] 78 (0, 0))) (.cells #[.nilIface] 29 (0, 0))
  rw [World.size_alloc] at hB
  have HC := Lib.hid (codec_check C base xs D P cd cp ps 1 _ (by
    obtain ⟨v, p, q, h2, h3, h4⟩ := hc
    exact ⟨v, p, q, X0.heap h2, own_gr (S := fun _ => False) h3 (Gr.of_ext X0) (fun _ _ => id), fun x hx => (h4 x hx).ext X0⟩) (hp.ext X0) hok h1 h64)
  clear hc hp hok
  go_enter_defers Tryz.func67, Tryz.ntmps67
  go_wp2_with fail
  refine HC.out.mono ?_
  rintro e w1 ⟨rfl, hx1⟩
  have hB1 := hx1.heap hB
  have c1 := cell_of_one hB1
  have d1 := free_of_one hB1
  go_wp2
  refine leaves_cons (f := 73) (args := #[.pointer (some ⟨w.heap.size + 1, 0, none⟩)]) (by simp) (by simp [go_sem]) ?_
  refine (caught_idle (w.heap.size + 1) _).mono ?_
  rintro e u' w'' ⟨rfl, rfl, rfl⟩
  have hfin : Ext w (w1.setCell ⟨w.heap.size + 1, 0, none⟩ .nilIface) := (X0.trans hx1).setCell (p := ⟨w.heap.size + 1, 0, none⟩) (by simp) _
  simp [Leaves, settle, results, Tryz.results67, go_sem, c1]
  exact hfin
end Go.Proofs.YtehfoddnlecmjaaGreatDoor
