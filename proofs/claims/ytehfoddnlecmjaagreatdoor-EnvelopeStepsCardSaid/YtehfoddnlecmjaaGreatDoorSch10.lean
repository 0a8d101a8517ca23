/- The contracts of package schema: a fault caught. -/
import Derived.Test.YtehfoddnlecmjaaGreatDoorSch7
import Derived.Defers
import Derived.Recover
import Derived.Laws.Pointers
set_option linter.unusedVariables false
set_option linter.unusedSimpArgs false
namespace Go.Proofs.YtehfoddnlecmjaaGreatDoor
open Go.RowKit

@[go_sem] theorem as_fault (v : Value) (w : World) : (Instr.typeAssert (.iface 34 v) 20 34 true).run Tryz.prog w = .ok (.tuple #[v, .bool true]) w := by kernel_rfl
@[go_sem] theorem neq_fault (v : Value) (w : World) : (binOp .neq 20 (.iface 34 v) .nilIface).run Tryz.prog w = .ok (.bool true) w := by kernel_rfl
@[go_sem] theorem neq_nil (w : World) : (binOp .neq 20 .nilIface .nilIface).run Tryz.prog w = .ok (.bool false) w := by kernel_rfl
set_option maxRecDepth 100000 in
theorem caught_idle (B : Nat) (w : World) :
    CallsD Tryz.prog 73 #[.pointer (some ⟨B, 0, none⟩)] .returning w fun e u' w' => e = .returned (.tuple #[]) ∧ u' = .returning ∧ w' = w := by
  refine callsD_of_wpS Tryz.func73 rfl fun c₀ cs hu => ?_
  apply wpS_seq
  apply wpS_region
  simp [wpOpsS, go_sem, recoverD, hu, Tryz.ntmps73, Exit.thenS]
  refine wpS_of_wp ?_
  simp only [Array.replicate_succ, Array.replicate_zero, List.push_toArray, List.append_toArray, List.nil_append, List.cons_append, List.setIfInBounds_toArray, List.set_cons_succ, List.set_cons_zero]
  go_wp2
  cases c₀
  simp_all [bodyPostS, results, Tryz.results73]
/-- What stands where the error was. -/
def CgPost (B : Nat) (l a y : Int) (w w' : World) : Prop := ∃ F, w.heap.size ≤ F ∧ w'.heap[F]? = some (.cells #[.int .i64 l, .int .i64 a, .int .i64 y] 34 (0, 0)) ∧
  w'.heap[B]? = some (.cells #[.iface 73 (.pointer (some ⟨F, 0, none⟩))] 29 (0, 0)) ∧ w.grownBy w' (some B)
set_option maxRecDepth 100000 in
theorem caught_fault (B : Nat) (l a y : Int) (w : World) (hB : w.heap[B]? = some (.cells #[.nilIface] 29 (0, 0))) :
    CallsD Tryz.prog 73 #[.pointer (some ⟨B, 0, none⟩)] (.panicking [{ v := .iface 34 (faultC l a y), recovered := false }]) w fun e u' w' =>
      e = .returned (.tuple #[]) ∧ u' = .panicking [{ v := .iface 34 (faultC l a y), recovered := true }] ∧ CgPost B l a y w w' := by
  refine callsD_of_wpS Tryz.func73 rfl fun c₀ cs hu => ?_
  apply wpS_seq
  apply wpS_region
  simp [wpOpsS, go_sem, recoverD, hu, Tryz.ntmps73, Exit.thenS]
  refine wpS_of_wp ?_
  simp only [Array.replicate_succ, Array.replicate_zero, List.push_toArray, List.append_toArray, List.nil_append, List.cons_append, List.setIfInBounds_toArray, List.set_cons_succ, List.set_cons_zero]
  have hl := lt_of_heap hB
  have hB1 := old_blk hB (.cells #[.int .i64 l, .int .i64 a, .int .i64 y] 34 (0, 0))
  have c1 := cell_of_one hB1
  have d1 := free_of_one hB1
  have n1 := new_blk w (.cells #[.int .i64 l, .int .i64 a, .int .i64 y] 34 (0, 0))
  unfold faultC
  go_wp2
  have r : CgPost B l a y w ((w.setCell ⟨B, 0, none⟩ (.iface 73 (.pointer (some ⟨w.heap.size, 0, none⟩)))).alloc (.cells #[.int .i64 l, .int .i64 a, .int .i64 y] 34 (0, 0))) := by
    have hs : (w.setCell ⟨B, 0, none⟩ (.iface 73 (.pointer (some ⟨w.heap.size, 0, none⟩)))).heap.size = w.heap.size := by simp [World.setCell]
    refine ⟨w.heap.size, Nat.le_refl _, ?_, old_blk (one_setCell hB) _, grown_ext (grown_store w B 0 _) ((Ext.refl _).alloc _)⟩
    have := new_blk (w.setCell ⟨B, 0, none⟩ (.iface 73 (.pointer (some ⟨w.heap.size, 0, none⟩)))) (.cells #[.int .i64 l, .int .i64 a, .int .i64 y] 34 (0, 0))
    rwa [hs] at this
  clear hB hB1 c1 d1 n1 hl
  cases c₀
  simp_all [bodyPostS, results, Tryz.results73]
end Go.Proofs.YtehfoddnlecmjaaGreatDoor
